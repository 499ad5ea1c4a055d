/- The reference's answers to a line that can be read (P77): append, tick, and what is no matter of the world. Conditions: what each theorem says. -/
import Derived.Test.YtgbccpfehcjhbaaGreatDoorM33
import Derived.Test.YtgbccpfehcjhbaaGreatDoorM34
import Derived.Test.YtgbccpfehcjhbaaGreatDoorM35
namespace Go.Proofs.YtgbccpfehcjhbaaGreatDoor
open Go Go.RowKit
set_option linter.unusedVariables false
set_option linter.unusedSimpArgs false

/-- the reference's desk at rb, its world at g and h -/
structure RefAt (w : World) (rb g h : Nat) (s : DS) : Prop where
  good : s.Good
  box : w.heap[rb]? = some (.cells #[.pointer (some ⟨g, 0, none⟩)] 29 (0, 0))
  wat : WorldAt w 69 8 g h s.rate s.unit s.L.length s.L s.turn
  lo : 8 ≤ rb
  ng : rb ≠ g
  nh : rb ≠ h
theorem RefAt.below {w w' : World} {bd g h : Nat} {s : DS} (D : RefAt w bd g h s) (hb : Below w.heap.size w w') : RefAt w' bd g h s :=
  ⟨D.good, blk_below D.box hb, D.wat.below hb, D.lo, D.ng, D.nh⟩
def RefPost (w : World) (rb g h : Nat) (t : Bytes) (s' : DS) (e : Ending) (w' : World) : Prop :=
  e = .returned (.string (str t)) ∧ ∃ g' h', RefAt w' rb g' h' s' ∧ Chg (dkS rb g h) w w' ∧ ((g' = g ∧ h' = h) ∨ (w.heap.size ≤ g' ∧ w.heap.size ≤ h'))
theorem RefPost.pure {w : World} {rb g h : Nat} {t : Bytes} {s : DS} {e : Ending} {w' : World} (D : RefAt w rb g h s) (hp : TextPost w t e w') : RefPost w rb g h t s e w' :=
  ⟨hp.1, g, h, D.below hp.2, Chg.of hp.2, .inl ⟨rfl, rfl⟩⟩
theorem RefAt.only {w w' : World} {bd g h : Nat} {s s' : DS} (D : RefAt w bd g h s) (hs : s'.Good) (hw : WorldAt w' 69 8 g h s'.rate s'.unit s'.L.length s'.L s'.turn) (o : Only w w' g h) : RefAt w' bd g h s' :=
  ⟨hs, (o.same bd (Array.getElem?_eq_some_iff.1 D.box).1 D.ng D.nh).trans D.box, hw, D.lo, D.ng, D.nh⟩
theorem ref_step {w w1 : World} {bd g h : Nat} {s s' : DS} (D : RefAt w bd g h s) (hs : s'.Good) (hw : WorldAt w1 69 8 g h s'.rate s'.unit s'.L.length s'.L s'.turn) (b : Below 8 w w1) (o : Only w w1 g h) :
    RefAt w1 bd g h s' ∧ Chg (dkS bd g h) w w1 := ⟨D.only hs hw o, Chg.only b o⟩
theorem RefAt.same {w w' : World} {bd g h : Nat} {s : DS} (D : RefAt w bd g h s) (e : w'.heap = w.heap) (e1 : w'.os = w.os) (e2 : w'.tape = w.tape) (e3 : w'.output = w.output) : RefAt w' bd g h s :=
  D.below ⟨e1, e2, e3, by rw [e]; exact Nat.le_refl _, fun x _ => by rw [e]⟩
theorem Chg.sameHeap {S : Nat → Prop} {w a b : World} (h : Chg S w a) (e : b.heap = a.heap) (e1 : b.os = a.os) (e2 : b.tape = a.tape) (e3 : b.output = a.output) : Chg S w b :=
  ⟨e1.trans h.os, e2.trans h.tape, e3.trans h.output, by rw [e]; exact h.size, fun x hx hn => by rw [e]; exact h.same x hx hn⟩
theorem setCell_of {w v : World} (e1 : v.heap = w.heap) (e2 : v.os = w.os) (e3 : v.tape = w.tape) (e4 : v.output = w.output) (p : Addr) (x : Value) :
    (v.drew.setCell p x).heap = (w.setCell p x).heap ∧ (v.drew.setCell p x).os = (w.setCell p x).os ∧ (v.drew.setCell p x).tape = (w.setCell p x).tape ∧ (v.drew.setCell p x).output = (w.setCell p x).output := by
  cases v; cases w
  simp only at e1 e2 e3 e4
  subst e1 e2 e3 e4
  refine ⟨?_, ?_, ?_, ?_⟩ <;> (unfold World.setCell World.drew; rfl)
set_option maxRecDepth 100000 in
set_option maxHeartbeats 1600000 in
theorem done_reckon {w : World} {rb g h : Nat} {s : DS} (D : RefAt w rb g h s) {cmd : ByteArray} (hc : ∀ x ∈ changeL, cmd ≠ str x) {l n : Value} {t : Bytes} (hC : Calls Tryz.prog 46 #[.string cmd, l, n] w (TextPost w t)) :
    Calls Tryz.prog 29 #[.pointer (some ⟨rb, 0, none⟩), .string cmd, l, n] w (RefPost w rb g h t s) := by
  have c3 : w.cell? ⟨rb, 0, none⟩ = some (.pointer (some ⟨g, 0, none⟩)) := blk_cell D.box 0
  have HD := Lib.hid D; have HC := Lib.hid hC
  have e_world : (cmd.toList == [119, 111, 114, 108, 100]) = false := word_not hc (by unfold changeL; simp)
  have f_world : ¬ cmd.toList = [119, 111, 114, 108, 100] := word_not' hc (by unfold changeL; simp)
  have e_append : (cmd.toList == [97, 112, 112, 101, 110, 100]) = false := word_not hc (by unfold changeL; simp)
  have f_append : ¬ cmd.toList = [97, 112, 112, 101, 110, 100] := word_not' hc (by unfold changeL; simp)
  have e_crash : (cmd.toList == [99, 114, 97, 115, 104]) = false := word_not hc (by unfold changeL; simp)
  have f_crash : ¬ cmd.toList = [99, 114, 97, 115, 104] := word_not' hc (by unfold changeL; simp)
  have e_tick : (cmd.toList == [116, 105, 99, 107]) = false := word_not hc (by unfold changeL; simp)
  have f_tick : ¬ cmd.toList = [116, 105, 99, 107] := word_not' hc (by unfold changeL; simp)
  have e_peers : (cmd.toList == [112, 101, 101, 114, 115]) = false := word_not hc (by unfold changeL; simp)
  have f_peers : ¬ cmd.toList = [112, 101, 101, 114, 115] := word_not' hc (by unfold changeL; simp)
  clear hc D hC
  go_enter Tryz.func29, Tryz.ntmps29
  go_wp2_with fail
  refine HC.out.mono ?_; rintro e w1 ⟨rfl, b1⟩
  go_wp2
  go_ret
  exact RefPost.pure HD.out ⟨rfl, b1⟩
set_option maxRecDepth 100000 in
set_option maxHeartbeats 1600000 in
theorem done_append {w : World} {rb g h m d : Nat} {q : Option Addr} {l : Value} {v : Int} {s : DS} (D : RefAt w rb g h s) (h8 : 8 ≤ w.heap.size) (gn : SI w q 1 d [v]) (hv : 0 ≤ v ∧ v < 1000000000) :
    Calls Tryz.prog 29 #[.pointer (some ⟨rb, 0, none⟩), .string ⟨#[97, 112, 112, 101, 110, 100]⟩, l, .slice q 1 d] w (RefPost w rb g h (textOf (errOut (appErr s.L v) [111, 107])) { s with L := appL s.L v }) := by
  have c3 : w.cell? ⟨rb, 0, none⟩ = some (.pointer (some ⟨g, 0, none⟩)) := blk_cell D.box 0
  obtain ⟨b, o, rfl, hlt, hc⟩ := gn.cells (by omega)
  have c0 : w.cell? ⟨b, o, none⟩ = some (.int .i64 v) := hc 0 (by omega)
  have HD := Lib.hid D
  have HC := Lib.hid (ref_Append (w := w) (a := v) D.wat D.good.n.2 D.good.good (by omega) h8 rfl rfl)
  obtain ⟨er, he⟩ : ∃ er, appErr s.L v = er := ⟨_, rfl⟩
  have HAL := Lib.hid (appL_len s.L v)
  have hab := appErr_bd s.L v
  rw [he] at HC hab ⊢
  clear D he gn hc
  go_enter Tryz.func29, Tryz.ntmps29
  go_wp2_with fail
  refine HC.out.mono ?_; rintro e w1 ⟨rfl, hw1, b1, o1⟩
  have HF := Lib.hid (ref_step HD.out (s' := { s with L := appL s.L v }) (appL_good' HD.out.good v) (by show WorldAt _ _ _ _ _ _ _ (appL s.L v).length _ _; rw [HAL.out]; exact hw1) b1 o1)
  clear hw1 b1 o1 HC
  by_cases h0 : er = 0
  · subst h0
    go_wp2_with fail
    go_ret
    exact ⟨by unfold errOut; rw [if_pos rfl]; rfl, g, h, HF.out.1, HF.out.2, .inl ⟨rfl, rfl⟩⟩
  · go_wp2_with fail
    refine (ref_fault (by omega)).mono ?_; rintro e w2 ⟨rfl, rfl⟩
    go_wp2
    go_ret
    exact ⟨by unfold errOut; rw [if_neg h0]; rfl, g, h, HF.out.1, HF.out.2, .inl ⟨rfl, rfl⟩⟩
set_option maxRecDepth 100000 in
set_option maxHeartbeats 1600000 in
theorem done_tick {w : World} {rb g h : Nat} {l n : Value} {s : DS} (D : RefAt w rb g h s) (h8 : 8 ≤ w.heap.size) :
    Calls Tryz.prog 29 #[.pointer (some ⟨rb, 0, none⟩), .string ⟨#[116, 105, 99, 107]⟩, l, n] w (RefPost w rb g h (okS [((tickR s.unit (s.L, s.turn) s.rate : Nat) : Int)]) { s with L := (runW s.unit (s.L, s.turn) s.rate).1, turn := (runW s.unit (s.L, s.turn) s.rate).2 }) := by
  have c3 : w.cell? ⟨rb, 0, none⟩ = some (.pointer (some ⟨g, 0, none⟩)) := blk_cell D.box 0
  have HD := Lib.hid D
  have HC := Lib.hid (ref_Tick D.wat D.good.n D.good.turn D.good.good D.good.rate D.good.unit h8)
  have hle : tickR s.unit (s.L, s.turn) s.rate ≤ 1000 := by
    have := (fstP_is (fun m => stuckW (runW s.unit (s.L, s.turn) m)) s.rate).1
    have := D.good.rate
    unfold tickR; omega
  have HLN := Lib.hid (runW_len (u := s.unit) (s := (s.L, s.turn)) s.rate)
  obtain ⟨k, hk⟩ : ∃ k, tickR s.unit (s.L, s.turn) s.rate = k := ⟨_, rfl⟩
  rw [hk] at HC hle ⊢
  clear D hk
  go_enter Tryz.func29, Tryz.ntmps29
  go_wp2_with fail
  refine HC.out.mono ?_; rintro e w1 ⟨rfl, hw1, b1, o1⟩
  have HF := Lib.hid (ref_step HD.out (s' := { s with L := (runW s.unit (s.L, s.turn) s.rate).1, turn := (runW s.unit (s.L, s.turn) s.rate).2 }) (tick_good HD.out.good) (by show WorldAt _ _ _ _ _ _ _ (runW s.unit (s.L, s.turn) s.rate).1.length _ _; rw [HLN.out]; exact hw1) b1 o1)
  clear hw1 b1 o1 HC
  go_wp2_with fail
  refine (ref_dec (n := (k : Int)) (by omega) (by omega)).mono ?_; rintro e w2 ⟨T, rfl, rfl, ht, HE⟩
  have g1 : ¬ 9223372036854775807 < 3 + T.size := by omega
  go_wp2
  go_ret
  exact ⟨by rw [HE.out]; rfl, g, h, HF.out.1, HF.out.2, .inl ⟨rfl, rfl⟩⟩
set_option maxRecDepth 100000 in
set_option maxHeartbeats 1600000 in
theorem done_crash {w : World} {rb g h d : Nat} {q : Option Addr} {l : Value} {v : Int} {s : DS} (D : RefAt w rb g h s) (gn : SI w q 1 d [v]) (hv : 0 ≤ v ∧ v < 1000000000) :
    Calls Tryz.prog 29 #[.pointer (some ⟨rb, 0, none⟩), .string ⟨#[99, 114, 97, 115, 104]⟩, l, .slice q 1 d] w (RefPost w rb g h (textOf (errOut (crErr s.L v) [111, 107])) { s with L := crL s.L v }) := by
  have c3 : w.cell? ⟨rb, 0, none⟩ = some (.pointer (some ⟨g, 0, none⟩)) := blk_cell D.box 0
  obtain ⟨b, o, rfl, hlt, hc⟩ := gn.cells (by omega)
  have c0 : w.cell? ⟨b, o, none⟩ = some (.int .i64 v) := hc 0 (by omega)
  have HD := Lib.hid D
  obtain ⟨_, _, k2, _, _, hg, hh, hB, hl⟩ := D.wat.cells
  have HAL := Lib.hid (crL_len s.L v)
  obtain ⟨n, hn⟩ : ∃ n, s.L.length = n := ⟨_, rfl⟩
  have hn8 := D.good.n
  obtain ⟨j, rfl⟩ := Int.eq_ofNat_of_zero_le hv.1
  by_cases hj : j < s.L.length
  · have hce : crErr s.L (j : Int) = 0 := by unfold crErr; rw [if_neg (by omega)]
    have hcl : crL s.L (j : Int) = s.L.set j (pl s.L j, 0, pd s.L j) := by unfold crL; rw [if_neg (by omega)]; rfl
    have HCE := Lib.hid hce
    obtain ⟨e0, e1, e2⟩ := cellsP D.wat.own hj
    obtain ⟨f0, f1, f2⟩ := freeP D.wat.own j
    have HK := Lib.hid (D.wat.upd (f := 1) (x := (pl s.L j, 0, pd s.L j)) (v := .int .i64 0) hj (by omega) rfl)
    have HB := Lib.hid ((Below.refl 8 w).setCell (p := ⟨h, j * 3 + 1, none⟩) hB (.int .i64 0))
    have HO := Lib.hid ((Only.refl w g h).set (j := j * 3 + 1) (v := .int .i64 0) (.inr rfl))
    have HF := Lib.hid (ref_step HD.out (s' := { s with L := crL s.L (j : Int) }) (crL_good' HD.out.good _) (by show WorldAt _ _ _ _ _ _ _ (crL s.L (j : Int)).length (crL s.L (j : Int)) _; rw [HAL.out, hcl]; exact HK.out) HB.out HO.out)
    rw [hn] at hj k2 hn8
    have q1 : ¬ ((n : Nat) : Int) ≤ ((j : Nat) : Int) := by omega
    have q2 : ((j : Nat) : Int) < ((n : Nat) : Int) := by omega
    have q3 : (0 : Int) ≤ ((j : Nat) : Int) := by omega
    clear D gn hc hce hcl hn hl e0 e2 f0 f2
    go_enter Tryz.func29, Tryz.ntmps29
    go_wp2
    go_quiet (fail)
    go_wp2
    have k2' : (w.drewN nq).cell? ⟨g, 2, none⟩ = _ := k2
    have c0' : (w.drewN nq).cell? ⟨b, o, none⟩ = _ := c0
    have e1' : (w.drewN nq).cell? ⟨h, j * 3 + 1, none⟩ = _ := e1
    have f1' : (w.drewN nq).frozen? ⟨h, j * 3 + 1, none⟩ = false := f1
    have HW1 : Hid ((w.drewN nq).heap = w.heap ∧ (w.drewN nq).os = w.os ∧ (w.drewN nq).tape = w.tape ∧ (w.drewN nq).output = w.output) := Lib.hid ⟨rfl, rfl, rfl, rfl⟩
    clear k2 c0 e1 f1 c3
    generalize w.drewN nq = W1 at *
    go_still_tail 9, (by kernel_rfl)
    change wpList _ _ _ _ _ W1.drew
    go_wp2
    go_ret
    obtain ⟨x1, x2, x3, x4⟩ := setCell_of HW1.out.1 HW1.out.2.1 HW1.out.2.2.1 HW1.out.2.2.2 ⟨h, j * 3 + 1, none⟩ (.int .i64 0)
    exact ⟨by rw [HCE.out]; rfl, g, h, RefAt.same HF.out.1 x1 x2 x3 x4, Chg.sameHeap HF.out.2 x1 x2 x3 x4, .inl ⟨rfl, rfl⟩⟩
  · have hce : crErr s.L (j : Int) = 1 := by unfold crErr; rw [if_pos (by omega)]
    have hcl : crL s.L (j : Int) = s.L := by unfold crL; rw [if_pos (by omega)]
    have HO : Hid (textOf (errOut (crErr s.L (j : Int)) [111, 107]) = errS 1) := Lib.hid (by rw [hce]; rfl)
    have HS : Hid (({ s with L := crL s.L (j : Int) } : DS) = s) := Lib.hid (by rw [hcl])
    rw [hn] at hj k2 hn8
    have q1 : ((n : Nat) : Int) ≤ ((j : Nat) : Int) := by omega
    clear D gn hc hce hcl hn hl
    go_enter Tryz.func29, Tryz.ntmps29
    go_wp2
    go_quiet (fail)
    go_wp2_with fail
    refine (ref_fault (by omega)).mono ?_; rintro e w2 ⟨rfl, rfl⟩
    go_wp2
    go_ret
    rw [HS.out]
    exact RefPost.pure HD.out ⟨by rw [HO.out]; rfl, below_drewN (Below.refl _ _) _⟩
end Go.Proofs.YtgbccpfehcjhbaaGreatDoor

/- The reference's answer to a line of words (P77): (*Desk).Line. Conditions: what each theorem says. -/
namespace Go.Proofs.YtgbccpfehcjhbaaGreatDoor
open Go Go.RowKit
set_option linter.unusedVariables false
set_option linter.unusedSimpArgs false

theorem RefPost.after {w w1 : World} {rb g h : Nat} {t : Bytes} {s' : DS} {e : Ending} {w' : World} (hb : Below w.heap.size w w1) (H : RefPost w1 rb g h t s' e w') : RefPost w rb g h t s' e w' := by
  obtain ⟨he, g', h', D, C, G⟩ := H
  have hz := hb.size
  exact ⟨he, g', h', D, (Chg.of hb).trans C, by omega⟩
/-- what done answers, wherever the line's numbers and lists lie -/
def Done (L : List ByteArray) (rb g h : Nat) (s : DS) (cm : Nat) (t : Bytes) (s' : DS) : Prop :=
  ∀ (w : World) (B a c m d : Nat) (p q : Option Addr) (T : List Sl), RefAt w rb g h s → 8 ≤ w.heap.size → SlSt 35 isSI w B q p a c T (listsOf L (cmdF cm) (cmdF cm).length) → OwnI w B q m d (numsOf L (cmdF cm) (cmdF cm).length) →
    Calls Tryz.prog 29 #[.pointer (some ⟨rb, 0, none⟩), .string (str (cmdW cm)), .slice p a c, .slice q m d] w (RefPost w rb g h t s')
theorem upTo_succ {L : List ByteArray} {f : List Bool} {i : Nat} (h : ∀ j, j < i → if f.getD j false then nAt L (j + 1) else lAt L (j + 1)) (h2 : if f.getD i false then nAt L (i + 1) else lAt L (i + 1)) : ∀ j, j < i + 1 → if f.getD j false then nAt L (j + 1) else lAt L (j + 1) := fun j hj => by
  rcases Nat.lt_or_ge j i with h3 | h3
  · exact h j h3
  · obtain rfl : j = i := by omega
    exact h2
theorem ssTail {w : World} {b off n c : Nat} {L : List ByteArray} (h : SS w (some ⟨b, off, none⟩) n c L) {i : Nat} (hi : i + 1 < n) : b < w.heap.size ∧ w.cell? ⟨b, off + 1 + i, none⟩ = some (.string (gsW L (i + 1))) := by
  obtain ⟨b', o', he, hlt, hc⟩ := h.cells (by omega)
  cases he
  exact ⟨hlt, by have := hc (i + 1) hi; rwa [show off + (i + 1) = off + 1 + i by omega] at this⟩
set_option maxRecDepth 100000 in
set_option maxHeartbeats 6400000 in
theorem ref_Line {w : World} (LD : Laid w) {rb g h n c : Nat} {p : Option Addr} {s s' : DS} {t : Bytes} {L : List ByteArray} (D : RefAt w rb g h s) (hs : SS w p n c L) (hn : 0 < n) (hn2 : n ≤ 1000000) (hz : ∀ j, (gsW L j).size ≤ 65536) {cm : Nat} (hcm : cm < 15) (hw0 : gsW L 0 = str (cmdW cm)) (hd : inForm L (cmdF cm) → Done L rb g h s cm t s') :
    Calls Tryz.prog 8 #[.pointer (some ⟨rb, 0, none⟩), .slice p n c] w (fun e w' => (inForm L (cmdF cm) → RefPost w rb g h t s' e w') ∧ (¬ inForm L (cmdF cm) → RefPost w rb g h (errS 9) s e w')) := by
  have HD := Lib.hid D; have HLD := Lib.hid LD; have HS := Lib.hid hs; have HZ := Lib.hid hz; have HDN := Lib.hid hd
  have h8 := LD.sz
  obtain ⟨b, off, rfl, hlt, hc⟩ := hs.cells hn
  have c0 := hc 0 hn
  rw [Nat.add_zero, hw0] at c0
  have HFO := Lib.hid (ref_form LD (s := str (cmdW cm)) (K := cm) (by omega) (cmdW_ne cm hcm) (fun _ => rfl))
  have hcap := hs.2.1
  have HLL := Lib.hid hs.len
  obtain ⟨k, hk⟩ : ∃ k, (cmdF cm).length = k := ⟨_, rfl⟩
  have hk3 := cmdF_len cm
  rw [hk] at hk3
  have HK := Lib.hid hk
  have HFS := Lib.hid (fmt_len cm)
  have HFA := Lib.hid (fmt_at cm)
  have HIF : Hid (inForm L (cmdF cm) ↔ n = 1 + k ∧ okF L (cmdF cm)) := Lib.hid (by unfold inForm okF; rw [hs.len, hk])
  obtain ⟨Fb, hFb⟩ : ∃ Fb, str (fmt cm) = Fb := ⟨_, rfl⟩
  have hif : (if cm < 15 then str (fmt cm) else ⟨#[]⟩) = Fb := by rw [if_pos hcm, hFb]
  rw [hif, decide_eq_true hcm] at HFO
  have HFS2 : Hid (Fb.size = k) := Lib.hid (by rw [← hFb, HFS.out, hk])
  have HFA2 : Hid (∀ i (h : i < Fb.size), Fb[i].toNat = if (cmdF cm).getD i false then 78 else 76) := Lib.hid (by subst hFb; exact HFA.out)
  obtain ⟨W0, hW0⟩ : ∃ W0, str (cmdW cm) = W0 := ⟨_, rfl⟩
  have HW0 := Lib.hid hW0
  rw [hW0] at c0 HFO
  clear hs hc hd hk hFb hif HFS HFA hW0 hw0 D LD hz
  have hFs := HFS2.out
  by_cases hlen : n = 1 + k
  case neg =>
    have q1 : ¬ (n : Int) = 1 + (k : Int) := by omega
    have q2 : ((n : Int) == 1 + (k : Int)) = false := by simp; omega
    have q3 : ((n : Int) != 1 + (k : Int)) = true := by simp; omega
    have q4 : IntKind.i64.wrap (1 + (k : Int)) = 1 + (k : Int) := IntWalk.i64_in _ (by omega)
    go_enter Tryz.func8, Tryz.ntmps8
    go_wp2_with fail
    refine HFO.out.mono ?_; rintro e w1 ⟨rfl, b1⟩
    go_wp2_with fail
    refine (ref_fault (by omega)).mono ?_; rintro e w2 ⟨rfl, rfl⟩
    go_wp2
    go_ret
    exact ⟨fun hi => absurd (HIF.out.1 hi).1 hlen, fun _ => RefPost.pure HD.out ⟨rfl, b1⟩⟩
  subst hlen
  have q4 : IntKind.i64.wrap (1 + (k : Int)) = 1 + (k : Int) := IntWalk.i64_in _ (by omega)
  go_enter Tryz.func8, Tryz.ntmps8
  go_wp2_with fail
  refine HFO.out.mono ?_; rintro e w1 ⟨rfl, b1⟩
  have HB1 := Lib.hid b1
  have LD1 := Lib.hid (HLD.out.below b1)
  have hz1 := b1.size
  have c0w := (bdeep b1 hlt off).trans c0
  clear b1 c0
  go_wp2_with fail
  case inl =>
    obtain rfl : k = 0 := by omega
    have HDO := Lib.hid (fun (hi : inForm L (cmdF cm)) => HDN.out hi w1 w1.heap.size 0 0 0 0 none none [] (HD.out.below HB1.out) LD1.out.sz (by rw [HK.out]; exact SlSt.nil) (by rw [HK.out]; exact OwnI.nil _ _))
    have hin : inForm L (cmdF cm) := HIF.out.2 ⟨by first | trivial | rfl, fun j hj => by rw [HK.out] at hj; exact absurd hj (Nat.not_lt_zero _)⟩
    have HDC := Lib.hid (HDO.out hin)
    rw [HW0.out] at HDC
    have HIN := Lib.hid hin
    clear hin
    go_loopw [7, 8, 35] (fun lv nv iv wv => lv = .slice none 0 0 ∧ nv = .slice none 0 0 ∧ iv = .int .i64 0 ∧ w1 = wv) (fun _ _ _ _ => 0)
    case atStart => first | exact ⟨rfl, rfl, rfl, rfl⟩ | simp
    case round =>
      obtain ⟨rfl, rfl, rfl, rfl⟩ := hrel
      go_wp2_with fail
      refine HDC.out.mono ?_; rintro e w2 ⟨rfl, hP⟩
      have HP := Lib.hid hP
      clear hP
      go_wp2
      go_ret
      exact ⟨fun _ => RefPost.after HB1.out ⟨rfl, HP.out⟩, fun hn => absurd HIN.out hn⟩
  go_loopw [7, 8, 35] (fun lv nv iv wv => ∃ (i a d m e : Nat) (p' q' : Option Addr) (T : List Sl), i ≤ k ∧ lv = .slice p' a d ∧ nv = .slice q' m e ∧ iv = .int .i64 (i : Int) ∧ Hid (SlSt 35 isSI wv w1.heap.size q' p' a d T (listsOf L (cmdF cm) i)) ∧ Hid (OwnI wv w1.heap.size q' m e (numsOf L (cmdF cm) i)) ∧ Hid (Below w1.heap.size w1 wv) ∧ Hid (∀ j, j < i → if (cmdF cm).getD j false then nAt L (j + 1) else lAt L (j + 1)) ∧ a ≤ i ∧ m ≤ i) (fun _ _ iv _ => k - (intOf iv).toNat)
  case atStart => exact ⟨0, 0, 0, 0, 0, none, none, [], Nat.zero_le _, rfl, rfl, rfl, Lib.hid SlSt.nil, Lib.hid (OwnI.nil _ _), Lib.hid (Below.refl _ _), Lib.hid (fun j hj => absurd hj (Nat.not_lt_zero _)), Nat.le_refl _, Nat.le_refl _⟩
  case round =>
    obtain ⟨i, a, d, m, e, p', q', T, hi, rfl, rfl, rfl, HSL, HNI, HBW, HUP, hai, hmi⟩ := hrel
    have hzw := HBW.out.size
    by_cases hik : i < k
    · have HBA := Lib.hid (HB1.out.trans (HBW.out.mono hz1))
      obtain ⟨hbl, hcw⟩ := ssTail HS.out (show i + 1 < 1 + k by omega)
      have c1 := (bdeep HBA.out hbl (off + 1 + i)).trans hcw
      have LDW := Lib.hid (HLD.out.below HBA.out)
      have hzz := HZ.out (i + 1)
      obtain ⟨wd, hwd⟩ : ∃ wd, gsW L (i + 1) = wd := ⟨_, rfl⟩
      have HWD := Lib.hid hwd
      rw [hwd] at c1 hzz
      have hpl := pcs_len_le wd 44
      have HPS : Hid (∀ j, j < (pcs wd 44).length → (gsW (pcs wd 44) j).size ≤ 65536) := Lib.hid (fun j hj => by
        have := pcs_size (s := wd) (c := 44) (x := gsW (pcs wd 44) j) (by rw [gs_get hj]; exact List.getElem_mem _)
        omega)
      have hrl : (rawL wd).length = (pcs wd 44).length := List.length_map _
      have HRG : Hid (∀ j, j < (pcs wd 44).length → gi (rawL wd) j = numR (gsW (pcs wd 44) j)) := Lib.hid (fun j hj => by simp [gi, rawL, gsW, List.getD, hj])
      obtain ⟨N, hN⟩ : ∃ N, (pcs wd 44).length = N := ⟨_, rfl⟩
      have HN := Lib.hid hN
      rw [hN] at hpl HPS hrl HRG
      have HRL := Lib.hid hrl
      have hib : i < Fb.size := by rw [hFs]; exact hik
      have HFI := Lib.hid (HFA2.out i hib)
      clear hcw hwd hN hrl
      go_wp2_with fail
      refine (dk_Split LDW.out (by omega) 44).mono ?_; rintro e w4 ⟨rfl, s4, b4, z4⟩
      rw [HN.out] at s4 ⊢
      have S4 := Lib.hid s4
      have HSL4 := Lib.hid (SlSt.below isSI_keeps HSL.out b4)
      have HNI4 := Lib.hid (HNI.out.below b4)
      have HBW4 := Lib.hid (HBW.out.trans (b4.mono hzw))
      have hz4 := b4.size
      clear s4 b4 c1 HSL HNI HBW
      go_wp2
      go_loopw [11, 43] (fun ov jv wv => ∃ (j x : Nat) (r : Option Addr), j ≤ N ∧ ov = .slice r j x ∧ jv = .int .i64 (j : Int) ∧ OwnI wv w4.heap.size r j x ((rawL wd).take j) ∧ Below w4.heap.size w4 wv) (fun _ jv _ => N - (intOf jv).toNat)
      case atStart => exact ⟨0, 0, none, Nat.zero_le _, rfl, rfl, OwnI.nil _ _, Below.refl _ _⟩
      case round =>
        obtain ⟨j, x, r, hj, rfl, rfl, ho, hb5⟩ := hrel
        have hz5 := hb5.size
        by_cases hjN : j < N
        · obtain ⟨pb, po, hpe, hplt, hpc⟩ := S4.out.cells (by omega)
          have c2 := (bdeep hb5 hplt (po + j)).trans (hpc j hjN)
          cases hpe
          rw [Nat.zero_add] at c2
          have HNX : Hid ((rawL wd).take (j + 1) = (rawL wd).take j ++ [numR (gsW (pcs wd 44) j)]) := Lib.hid (by
            rw [List.take_succ_eq_append_getElem (by rw [HRL.out]; exact hjN), ← gi_get (by rw [HRL.out]; exact hjN), HRG.out j hjN])
          have hsz := HPS.out j hjN
          obtain ⟨pc, hpc2⟩ : ∃ pc, gsW (pcs wd 44) j = pc := ⟨_, rfl⟩
          rw [hpc2] at c2 HNX hsz
          have HNC := Lib.hid (fun w => ref_number (w := w) (s := pc) (by omega))
          obtain ⟨nr, hnr⟩ : ∃ nr, numR pc = nr := ⟨_, rfl⟩
          rw [hnr] at HNC HNX
          clear hpc hpc2 hnr hplt
          go_wp2_with fail
          refine (HNC.out _).mono ?_; rintro e w' ⟨rfl, rfl⟩
          go_wp2_with (at_builtin; refine wpL_push_int Tryz.tyInts rfl rfl (B := w4.heap.size) (W0 := w4) (by first | rfl | simp [Act.eval]) (by first | rfl | simp [Act.eval]) ho hb5 (by omega) hz5 ?_; intro p4 c4 w5 ho4 hb4 hg4 ha4)
          go_roundw
          case rel => exact ⟨j + 1, c4, p4, hjN, rfl, by go_num, by rw [HNX.out]; exact ho4, hb4⟩
          case measure => simp [intOf]; omega
        · obtain rfl : N = j := by omega
          have HRT : Hid ((rawL wd).take N = rawL wd) := Lib.hid (by rw [← HRL.out, List.take_length])
          rw [HRT.out] at ho
          have HBD := Lib.hid (raw_bad wd)
          rw [HRL.out] at HBD
          have HBX := Lib.hid (one_num (s := wd))
          rw [HN.out] at HBX
          have HC := Lib.hid (slices_ContainsI ho.si (v := -1) (fstP_is (fun k => gi (rawL wd) k == -1) N))
          have HOW := Lib.hid ho
          have HB5 := Lib.hid hb5
          have HFF := Lib.hid HFI.out
          clear ho hb5 HFI
          by_cases hok : numsOk wd
          case neg =>
            have hdt : decide (fstP (fun k => gi (rawL wd) k == -1) N < N) = true := decide_eq_true (HBD.out.2 hok)
            rw [hdt] at HC
            clear hdt
            go_wp2_with fail
            refine HC.out.mono ?_; rintro e w6 ⟨rfl, b6⟩
            go_wp2_with fail
            refine (ref_fault (by omega)).mono ?_; rintro e w' ⟨rfl, rfl⟩
            have hfin := HB1.out.trans ((HBW4.out.trans ((HB5.out.trans (b6.mono hz5)).mono (by omega))).mono hz1)
            go_wp2
            go_ret
            refine ⟨fun hin => absurd ?_ hok, fun _ => RefPost.pure HD.out ⟨rfl, hfin⟩⟩
            have h2 := (HIF.out.1 hin).2 i (by rw [HK.out]; exact hik)
            split at h2
            · exact (HBX.out.2 (by have := h2.2; rwa [HWD.out] at this)).1
            · have := h2.2; rwa [HWD.out] at this
          have hdt : decide (fstP (fun k => gi (rawL wd) k == -1) N < N) = false := decide_eq_false (fun h => HBD.out.1 h hok)
          rw [hdt] at HC
          have HOK := Lib.hid hok
          clear hdt hok
          by_cases hf : (cmdF cm).getD i false = true
          · have q1 : (Fb[i].toNat : Int) = 78 := by rw [HFF.out, if_pos hf]; rfl
            have HF := Lib.hid hf
            clear hf
            by_cases hN1 : N = 1
            case neg =>
              have q2 : ((N : Int) == 1) = false := by simp; omega
              have q3 : ((N : Int) != 1) = true := by simp; omega
              have q5 : ¬ (N : Int) = 1 := by omega
              go_wp2_with fail
              refine HC.out.mono ?_; rintro e w6 ⟨rfl, b6⟩
              go_wp2_with fail
              refine (ref_fault (by omega)).mono ?_; rintro e w' ⟨rfl, rfl⟩
              have hfin := HB1.out.trans ((HBW4.out.trans ((HB5.out.trans (b6.mono hz5)).mono (by omega))).mono hz1)
              go_wp2
              go_ret
              refine ⟨fun hin => absurd ?_ hN1, fun _ => RefPost.pure HD.out ⟨rfl, hfin⟩⟩
              have h2 := (HIF.out.1 hin).2 i (by rw [HK.out]; exact hik)
              rw [if_pos HF.out] at h2
              exact (HBX.out.2 (by have := h2.2; rwa [HWD.out] at this)).2
            subst hN1
            have HNM : Hid (numW wd ≠ none) := Lib.hid (HBX.out.1 ⟨HOK.out, rfl⟩)
            have HVV : Hid (gi (rawL wd) 0 = nV L (i + 1)) := Lib.hid (by
              rw [HRG.out 0 (by omega), pcs_one HN.out]
              show numR (gsW [wd] 0) = _
              unfold nV
              rw [HWD.out]
              exact numR_nv HNM.out)
            obtain ⟨lb, lo, hlb, hll, hlc⟩ := HOW.out.si.cells (by omega)
            subst hlb
            have cl0 := hlc 0 (by omega)
            rw [HVV.out, Nat.add_zero] at cl0
            obtain ⟨vv, hvv⟩ : ∃ vv, nV L (i + 1) = vv := ⟨_, rfl⟩
            have HVE := Lib.hid hvv
            rw [hvv] at cl0
            clear hlc hvv
            go_wp2_with fail
            refine HC.out.mono ?_; rintro e w6 ⟨rfl, b6⟩
            have cl6 := (bdeep b6 hll lo).trans cl0
            have b46 := HB5.out.trans (b6.mono hz5)
            have HSL6 := Lib.hid (SlSt.below isSI_keeps HSL4.out b46)
            have HNI6 := HNI4.out.below b46
            have HB6 := HBW4.out.trans (b46.mono (by omega))
            have hz6 := HB6.size
            clear cl0 b46
            go_wp2_with (at_builtin; refine wpL_push_int Tryz.tyInts rfl rfl (B := w1.heap.size) (W0 := w1) (by first | rfl | simp [Act.eval]) (by first | rfl | simp [Act.eval]) HNI6 HB6 (by omega) hz6 ?_; intro p7 c7 w7 ho7 hb7 hg7 ha7)
            have HSL7 := Lib.hid (SlSt.other isSI_keeps HSL6.out HSL6.out.addr_lt hg7 ha7)
            go_roundw
            case rel => exact ⟨i + 1, a, d, m + 1, c7, p', p7, T, hik, rfl, rfl, by go_num, Lib.hid (by unfold listsOf; rw [if_pos HF.out, List.append_nil]; exact HSL7.out), Lib.hid (by unfold numsOf; rw [if_pos HF.out, HVE.out]; exact ho7), Lib.hid hb7, Lib.hid (upTo_succ HUP.out (by rw [if_pos HF.out]; exact ⟨by have := HLL.out; omega, by rw [HWD.out]; exact HNM.out⟩)), by omega, by omega⟩
            case measure => simp [intOf]; omega
          · have q1 : (Fb[i].toNat : Int) = 76 := by rw [HFF.out, if_neg hf]; rfl
            have HF := Lib.hid hf
            clear hf
            have HNL := Lib.hid (raw_ok HOK.out)
            go_wp2_with fail
            refine HC.out.mono ?_; rintro e w6 ⟨rfl, b6⟩
            have b46 := HB5.out.trans (b6.mono hz5)
            have HSL6 := Lib.hid (SlSt.below isSI_keeps HSL4.out b46)
            have HNI6 := Lib.hid (HNI4.out.below b46)
            have HOW6 := Lib.hid (HOW.out.below b6)
            have HB6 := HBW4.out.trans (b46.mono (by omega))
            have hz6 := HB6.size
            have hz46 := b46.size
            have HT6 := HSL6.out.1
            clear b46
            go_wp2_with (at_builtin; refine wpL_push_R Tryz.tyLI rfl (by omega) (by omega) encSl_len encSl_one rfl rfl (B := w1.heap.size) (W0 := w1) ((r, N, x) : Sl) (by first | rfl | simp [Act.eval]) (by first | rfl | simp [Act.eval]) HT6 HB6 (by omega) hz6 ?_; intro p7 c7 w7 ho7 hb7 hg7 ha7)
            have HSL7 := Lib.hid (SlSt.push isSI_keeps HSL6.out (t := (r, N, x)) (x := numsL wd) (by rw [← HNL.out]; exact HOW6.out.si) (fun y hy => by
              have k1 := HOW6.out.1.lt y.block (by have hy2 : r = some y := hy; rw [hy2]; rfl)
              refine ⟨k1.2, fun z hz => ?_, fun z hz => ?_⟩
              · have := HSL4.out.addr_lt z hz; omega
              · have := (HNI4.out.1.lt z.block (by rw [hz]; rfl)).2; omega) (fun z hz => (HNI6.out.1.lt z.block (by rw [hz]; rfl)).2) ho7 hg7 ha7)
            have HNI7 := Lib.hid (OwnI.keepW HNI6.out hg7 HSL6.out.2.2.1)
            go_roundw
            case rel => exact ⟨i + 1, a + 1, c7, m, e, p7, q', T ++ [(r, N, x)], hik, rfl, rfl, by go_num, Lib.hid (by unfold listsOf; rw [if_neg HF.out, HWD.out]; exact HSL7.out), Lib.hid (by unfold numsOf; rw [if_neg HF.out, List.append_nil]; exact HNI7.out), Lib.hid hb7, Lib.hid (upTo_succ HUP.out (by rw [if_neg HF.out]; exact ⟨by have := HLL.out; omega, by rw [HWD.out]; exact HOK.out⟩)), by omega, by omega⟩
            case measure => simp [intOf]; omega
    · obtain rfl : k = i := by omega
      have HBA := Lib.hid (HB1.out.trans (HBW.out.mono hz1))
      have hin : inForm L (cmdF cm) := HIF.out.2 ⟨by first | trivial | rfl, fun j hj => HUP.out j (by rw [← HK.out]; exact hj)⟩
      have HDC := Lib.hid (HDN.out hin wr w1.heap.size a d m e p' q' T (HD.out.below HBA.out) (HLD.out.below HBA.out).sz (by rw [HK.out]; exact HSL.out) (by rw [HK.out]; exact HNI.out))
      rw [HW0.out] at HDC
      have HIN := Lib.hid hin
      have c0v := (bdeep HBW.out (show b < w1.heap.size by omega) off).trans c0w
      clear hin c0w
      go_wp2_with fail
      refine HDC.out.mono ?_; rintro e w2 ⟨rfl, hP⟩
      have HP := Lib.hid hP
      clear hP
      go_wp2
      go_ret
      exact ⟨fun _ => RefPost.after HBA.out ⟨rfl, HP.out⟩, fun hn => absurd HIN.out hn⟩
end Go.Proofs.YtgbccpfehcjhbaaGreatDoor
