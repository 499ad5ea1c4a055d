/- A region that draws its order, whose operations only read and whose callees leave what was there: walked once. No program is in sight. No conditions. -/
import Derived.Test.YtgbccpfehcjhbaaGreatDoorM01
import Derived.Deep.QuietTactic
import Derived.BigQuiet
import Derived.Test.YtgbccpfehcjhbaaGreatDoorM07
import Derived.Test.YtgbccpfehcjhbaaGreatDoorM15
import Derived.StillTailTactics
namespace Go.Proofs.YtgbccpfehcjhbaaGreatDoor
open Go Go.RowKit

/-- a world in which all that lies in W lies unturned -/
structure BelowOf (W : World) where
  val : World
  prop : Below W.heap.size W val
instance belowOfInhabited (W : World) : Inhabited (BelowOf W) := ⟨⟨W, Below.refl _ _⟩⟩
theorem BelowOf.cell {W : World} {g o : Nat} {v : Value} (h : W.cell? ⟨g, o, none⟩ = some v) (hg : g < W.heap.size) (p : BelowOf W) : p.val.cell? ⟨g, o, none⟩ = some v := (bdeep p.prop hg o).trans h
theorem wp_region_quiet_below {P : Program} {id : Nat} {Q : Exit → Act → World → Prop} {a : Act} {w : World} {l : List Oper} (hm : P.follows .mixedOrders = true) (hB : Region.lexB .any l.toArray = true)
    (h : wpQuiet P l.toArray (fun w' => ∃ p : BelowOf w, w' = p.val) (fun a' => ∀ w', (∃ p : BelowOf w, w' = p.val) → Q .normal a' w') l a) : (Code.region id l.toArray true).wp P Q a w :=
  wp_region_quiet (C := fun w' => ∃ p : BelowOf w, w' = p.val) hm hB ⟨⟨{ w with drawn := w.drawn + 1 }, ⟨rfl, rfl, rfl, Nat.le_refl _, fun _ _ => rfl⟩⟩, rfl⟩ (by simpa using h)
/-- a callee's contract, met in a world of the class -/
theorem calls_below {P : Program} {f : FuncId} {args : Array Value} {W : World} {p : BelowOf W} {v : Value}
    (h : Calls P f args p.val fun e w' => e = .returned v ∧ Below p.val.heap.size p.val w') : Calls P f args p.val fun e w'' => e = .returned v ∧ ∃ q : BelowOf W, w'' = q.val :=
  h.mono fun _ _ ⟨he, hb⟩ => ⟨he, ⟨_, p.prop.trans (hb.mono p.prop.size)⟩, rfl⟩
end Go.Proofs.YtgbccpfehcjhbaaGreatDoor

/- The desk's closures over its world: append, tick, peers (P77). Conditions: the library's variables are laid; the world is well formed. -/
namespace Go.Proofs.YtgbccpfehcjhbaaGreatDoor
open Go Go.RowKit
set_option linter.unusedVariables false
set_option linter.unusedSimpArgs false

structure DS where
  rate : Nat
  unit : Int
  L : List Peer
  turn : Nat
structure DS.Good (s : DS) : Prop where
  n : 1 ≤ s.L.length ∧ s.L.length ≤ 8
  turn : s.turn < s.L.length
  good : GoodL s.L
  rate : s.rate ≤ 1000
  unit : 1 ≤ s.unit ∧ s.unit ≤ 1000
/-- the desk at bd, its world at g and h -/
structure DeskAt (w : World) (bd g h : Nat) (s : DS) : Prop where
  good : s.Good
  box : w.heap[bd]? = some (.cells #[.pointer (some ⟨g, 0, none⟩)] 53 (0, 0))
  wat : WorldAt w 85 8 g h s.rate s.unit s.L.length s.L s.turn
  lo : 8 ≤ bd
  ng : bd ≠ g
  nh : bd ≠ h
def dkS (bd g h x : Nat) : Prop := x = bd ∨ x = g ∨ x = h
theorem DeskAt.below {w w' : World} {bd g h : Nat} {s : DS} (D : DeskAt w bd g h s) (hb : Below w.heap.size w w') : DeskAt w' bd g h s :=
  ⟨D.good, blk_below D.box hb, D.wat.below hb, D.lo, D.ng, D.nh⟩
theorem DeskAt.chg {S : Nat → Prop} {w w' : World} {bd g h : Nat} {s : DS} (D : DeskAt w bd g h s) (hb : Chg S w w') (h1 : ¬ S bd) (h2 : ¬ S g) (h3 : ¬ S h) : DeskAt w' bd g h s := by
  obtain ⟨c0, c1, c2, c3, f3, hg, hh, hB, hl⟩ := D.wat.cells
  have hbd := (Array.getElem?_eq_some_iff.1 D.box).1
  refine ⟨D.good, (hb.same bd hbd h1).trans D.box, ⟨(hb.same g hg h2).trans D.wat.box, ?_, D.wat.bg, D.wat.ne⟩, D.lo, D.ng, D.nh⟩
  have ho := D.wat.own
  refine ⟨⟨ho.1.1, ?_⟩, ho.2⟩
  rcases ho.1.2 with h5 | ⟨g2, cap, cur, hv, hg2, hh2, r⟩
  · exact .inl h5
  · refine .inr ⟨g2, cap, cur, hv, hg2, ?_, r⟩
    simp only [Value.slice.injEq, Option.some.injEq, Addr.mk.injEq, and_true, true_and] at hv
    obtain ⟨rfl, _⟩ := hv
    exact (hb.same h hh h3).trans hh2
def DeskPost (w : World) (bd g h : Nat) (O : Out) (s' : DS) (e : Ending) (w' : World) : Prop :=
  outE O e ∧ ∃ g' h', DeskAt w' bd g' h' s' ∧ Chg (dkS bd g h) w w' ∧ ((g' = g ∧ h' = h) ∨ (w.heap.size ≤ g' ∧ w.heap.size ≤ h'))
theorem DeskPost.pure {w : World} {bd g h : Nat} {O : Out} {s : DS} {e : Ending} {w' : World} (D : DeskAt w bd g h s) (hp : OutPost w O e w') : DeskPost w bd g h O s e w' :=
  ⟨hp.1, g, h, D.below hp.2, Chg.of hp.2, .inl ⟨rfl, rfl⟩⟩
theorem DeskAt.only {w w' : World} {bd g h : Nat} {s s' : DS} (D : DeskAt w bd g h s) (hs : s'.Good) (hw : WorldAt w' 85 8 g h s'.rate s'.unit s'.L.length s'.L s'.turn) (o : Only w w' g h) : DeskAt w' bd g h s' :=
  ⟨hs, (o.same bd (Array.getElem?_eq_some_iff.1 D.box).1 D.ng D.nh).trans D.box, hw, D.lo, D.ng, D.nh⟩
theorem Chg.only {w w' : World} {bd g h B : Nat} (b : Below B w w') (o : Only w w' g h) : Chg (dkS bd g h) w w' :=
  ⟨b.os, b.tape, b.output, o.size, fun x hx hn => o.same x hx (fun e => hn (.inr (.inl e))) (fun e => hn (.inr (.inr e)))⟩
noncomputable def errOut (er : Int) (t : Bytes) : Out := if er = 0 then .ok t else .err er
theorem appL_good' {s : DS} (hg : s.Good) (a : Int) : ({ s with L := appL s.L a } : DS).Good :=
  ⟨by rw [show ({ s with L := appL s.L a } : DS).L.length = s.L.length from appL_len _ _]; exact hg.n, by rw [show ({ s with L := appL s.L a } : DS).L.length = s.L.length from appL_len _ _]; exact hg.turn, appL_good hg.good, hg.rate, hg.unit⟩

theorem desk_step {w w1 : World} {bd g h : Nat} {s s' : DS} (D : DeskAt w bd g h s) (hs : s'.Good) (hw : WorldAt w1 85 8 g h s'.rate s'.unit s'.L.length s'.L s'.turn) (b : Below 8 w.drew w1) (o : Only w.drew w1 g h) :
    DeskAt w1 bd g h s' ∧ Chg (dkS bd g h) w w1 :=
  ⟨D.only hs hw ⟨o.size, o.same⟩, Chg.only (B := 8) ⟨b.os, b.tape, b.output, b.size, b.block⟩ ⟨o.size, o.same⟩⟩
set_option maxRecDepth 100000 in
set_option maxHeartbeats 1600000 in
theorem dk_app {w : World} (LD : Laid w) {bx bn bd g h : Nat} {v : Int} {s : DS} (D : DeskAt w bd g h s) (h1 : w.heap[bx]? = some (.cells #[.pointer (some ⟨bd, 0, none⟩)] 51 (0, 0))) (h2 : w.heap[bn]? = some (.cells #[.int .i64 v] 3 (0, 0))) (hv : 0 ≤ v ∧ v < 1000000000) :
    Calls Tryz.prog 109 #[.pointer (some ⟨bx, 0, none⟩), .pointer (some ⟨bn, 0, none⟩)] w (DeskPost w bd g h (errOut (appErr s.L v) [111, 107]) { s with L := appL s.L v }) := by
  have c1 : w.cell? ⟨bx, 0, none⟩ = some (.pointer (some ⟨bd, 0, none⟩)) := blk_cell h1 0
  have c2 : w.cell? ⟨bn, 0, none⟩ = some (.int .i64 v) := blk_cell h2 0
  have c3 : w.cell? ⟨bd, 0, none⟩ = some (.pointer (some ⟨g, 0, none⟩)) := blk_cell D.box 0
  have HD := Lib.hid D; have HLD := Lib.hid LD
  have HC := Lib.hid (world_Append (w := w.drew) (a := v) D.wat.drew D.good.n.2 D.good.good (by omega) (by have := LD.sz; exact this) rfl rfl)
  obtain ⟨er, he⟩ : ∃ er, appErr s.L v = er := ⟨_, rfl⟩
  have HAL := Lib.hid (appL_len s.L v)
  rw [he] at HC ⊢
  clear h1 h2 D LD he
  go_enter Tryz.func109, Tryz.ntmps109
  go_wp2
  go_still_tail 5, (by kernel_rfl)
  change wpList _ _ _ _ _ w.drew
  go_wp2_with fail
  refine HC.out.mono ?_; rintro e w1 ⟨rfl, hw1, b1, o1⟩
  have HW1 := Lib.hid hw1; have HB1 := Lib.hid b1; have HO1 := Lib.hid o1
  clear hw1 b1 o1 HC
  by_cases h0 : er = 0
  · subst h0
    have HF := Lib.hid (desk_step HD.out (s' := { s with L := appL s.L v }) (appL_good' HD.out.good v) (by show WorldAt _ _ _ _ _ _ _ (appL s.L v).length _ _; rw [HAL.out]; exact HW1.out) HB1.out HO1.out)
    go_wp2_with fail
    refine dk_done.mono ?_; rintro e w2 ⟨rfl, rfl⟩
    go_wp2
    go_ret
    exact ⟨by unfold errOut; rw [if_pos rfl]; rfl, g, h, HF.out.1, HF.out.2, .inl ⟨rfl, rfl⟩⟩
  · have HF := Lib.hid (desk_step HD.out (s' := { s with L := appL s.L v }) (appL_good' HD.out.good v) (by show WorldAt _ _ _ _ _ _ _ (appL s.L v).length _ _; rw [HAL.out]; exact HW1.out) HB1.out HO1.out)
    go_wp2_with fail
    refine (dk_done_bad h0).mono ?_; rintro e w2 ⟨rfl, b2⟩
    go_wp2
    exact ⟨rfl, by unfold errOut; rw [if_neg h0]; rfl, g, h, HF.out.1.below b2, HF.out.2.then b2, .inl ⟨rfl, rfl⟩⟩
theorem str_append (a b : Bytes) : str a ++ str b = str (a ++ b) := rfl
theorem tick_good {s : DS} (hg : s.Good) : ({ s with L := (runW s.unit (s.L, s.turn) s.rate).1, turn := (runW s.unit (s.L, s.turn) s.rate).2 } : DS).Good := by
  have h1 := runW_len (u := s.unit) (s := (s.L, s.turn)) s.rate
  have h2 := runW_turn (u := s.unit) (s := (s.L, s.turn)) hg.turn s.rate
  have h3 := runW_good (u := s.unit) (s := (s.L, s.turn)) hg.good s.rate
  refine ⟨?_, h2, h3, hg.rate, hg.unit⟩
  show 1 ≤ (runW s.unit (s.L, s.turn) s.rate).1.length ∧ (runW s.unit (s.L, s.turn) s.rate).1.length ≤ 8
  rw [h1]; exact hg.n
set_option maxRecDepth 100000 in
set_option maxHeartbeats 1600000 in
theorem dk_tick {w : World} (LD : Laid w) {bx bd g h : Nat} {s : DS} (D : DeskAt w bd g h s) (h1 : w.heap[bx]? = some (.cells #[.pointer (some ⟨bd, 0, none⟩)] 51 (0, 0))) :
    Calls Tryz.prog 113 #[.pointer (some ⟨bx, 0, none⟩)] w (DeskPost w bd g h (.ok (okS [((tickR s.unit (s.L, s.turn) s.rate : Nat) : Int)])) { s with L := (runW s.unit (s.L, s.turn) s.rate).1, turn := (runW s.unit (s.L, s.turn) s.rate).2 }) := by
  have c1 : w.cell? ⟨bx, 0, none⟩ = some (.pointer (some ⟨bd, 0, none⟩)) := blk_cell h1 0
  have c3 : w.cell? ⟨bd, 0, none⟩ = some (.pointer (some ⟨g, 0, none⟩)) := blk_cell D.box 0
  have HD := Lib.hid D; have HLD := Lib.hid LD
  have HC := Lib.hid (world_Tick D.wat D.good.n D.good.turn D.good.good D.good.rate D.good.unit LD.sz)
  have hle : tickR s.unit (s.L, s.turn) s.rate ≤ 1000 := by
    have := (fstP_is (fun m => stuckW (runW s.unit (s.L, s.turn) m)) s.rate).1
    have := D.good.rate
    unfold tickR; omega
  have HLN := Lib.hid (runW_len (u := s.unit) (s := (s.L, s.turn)) s.rate)
  obtain ⟨k, hk⟩ : ∃ k, tickR s.unit (s.L, s.turn) s.rate = k := ⟨_, rfl⟩
  rw [hk] at HC hle ⊢
  clear h1 D LD hk
  go_enter Tryz.func113, Tryz.ntmps113
  go_wp2_with fail
  refine HC.out.mono ?_; rintro e w1 ⟨rfl, hw1, b1, o1⟩
  have HF := Lib.hid (desk_step HD.out (s' := { s with L := (runW s.unit (s.L, s.turn) s.rate).1, turn := (runW s.unit (s.L, s.turn) s.rate).2 }) (tick_good HD.out.good) (by show WorldAt _ _ _ _ _ _ _ (runW s.unit (s.L, s.turn) s.rate).1.length _ _; rw [HLN.out]; exact hw1) ⟨b1.os, b1.tape, b1.output, b1.size, b1.block⟩ ⟨o1.size, o1.same⟩)
  have LD1 := Lib.hid (HLD.out.chg HF.out.2 (fun x hx => by
    have h8 := HD.out.lo
    have hg8 := HD.out.wat.bg
    have hh8 := HD.out.wat.cells.2.2.2.2.2.2.2.1
    rcases hx with hx | hx | hx <;> omega))
  clear hw1 b1 o1 HC
  go_wp2_with fail
  refine (dk_Itoa LD1.out (n := (k : Int)) (by omega) (by omega)).mono ?_; rintro e w2 ⟨rfl, b2⟩
  have hil := itoa_len (n := (k : Int)) (by omega) (by omega)
  rw [← str_size] at hil
  have HOS : Hid (str (okS [(k : Int)]) = ⟨#[111, 107, 32]⟩ ++ str (Lib.itoa (k : Int))) := Lib.hid (by unfold okS; rw [List.map_cons, List.map_nil, Lib.join_one]; rfl)
  generalize str (Lib.itoa (k : Int)) = T at *
  go_wp2
  go_ret
  exact ⟨by show _ = Ending.returned (.string (str (okS [(k : Int)]))); rw [HOS.out]; rfl, g, h, HF.out.1.below b2, HF.out.2.then b2, .inl ⟨rfl, rfl⟩⟩
def peersS (L : List Peer) : Bytes := [111, 107] ++ L.flatMap fun x => [32] ++ Lib.itoa x.1 ++ [47] ++ Lib.itoa x.2.1
theorem peersS_next {L : List Peer} {k : Nat} (h : k < L.length) : peersS (L.take (k + 1)) = peersS (L.take k) ++ ([32] ++ Lib.itoa (pl L k) ++ [47] ++ Lib.itoa (pp L k)) := by
  unfold peersS
  rw [List.take_succ_eq_append_getElem h, List.flatMap_append]
  unfold pl pp
  rw [ge_get h]
  simp
theorem peersS_len {L : List Peer} (hb : ∀ k, k < L.length → 0 ≤ pl L k ∧ pl L k ≤ 1000000 ∧ 0 ≤ pp L k ∧ pp L k ≤ 1000000) : ∀ k, k ≤ L.length → (peersS (L.take k)).length ≤ 2 + k * 30
  | 0, _ => by simp [peersS]
  | k + 1, hk => by
    rw [peersS_next (by omega)]
    have h1 := peersS_len hb k (by omega)
    have h2 := hb k (by omega)
    have h3 := itoa_len (n := pl L k) (by omega) (by omega)
    have h4 := itoa_len (n := pp L k) (by omega) (by omega)
    simp only [List.length_append, List.length_cons, List.length_nil]
    omega
theorem good_bd {L : List Peer} (h : GoodL L) (k : Nat) (hk : k < L.length) : 0 ≤ pl L k ∧ pl L k ≤ 1000000 ∧ 0 ≤ pp L k ∧ pp L k ≤ 1000000 := by
  obtain ⟨h1, h2, h3, h4⟩ := h k hk
  unfold pl pp
  omega
set_option maxRecDepth 100000 in
set_option maxHeartbeats 3200000 in
theorem dk_peers {w : World} (LD : Laid w) {bx bd g h : Nat} {s : DS} (D : DeskAt w bd g h s) (h1 : w.heap[bx]? = some (.cells #[.pointer (some ⟨bd, 0, none⟩)] 51 (0, 0))) :
    Calls Tryz.prog 115 #[.pointer (some ⟨bx, 0, none⟩)] w (OutPost w (.ok (peersS s.L))) := by
  have c1 : w.cell? ⟨bx, 0, none⟩ = some (.pointer (some ⟨bd, 0, none⟩)) := blk_cell h1 0
  have c3 : w.cell? ⟨bd, 0, none⟩ = some (.pointer (some ⟨g, 0, none⟩)) := blk_cell D.box 0
  have HLD := Lib.hid LD
  have HC := Lib.hid (world_Peers D.wat D.good.n.2)
  have hn8 := D.good.n.2
  have HB := Lib.hid (good_bd D.good.good)
  have HPL := Lib.hid (peersS_len (good_bd D.good.good))
  obtain ⟨L, hL⟩ : ∃ L, s.L = L := ⟨_, rfl⟩
  rw [hL] at HC hn8 HB HPL ⊢
  obtain ⟨n, hn⟩ : ∃ n, L.length = n := ⟨_, rfl⟩
  have HN := Lib.hid hn
  rw [hn] at HC hn8 HB HPL
  clear h1 D LD hL hn
  go_enter Tryz.func115, Tryz.ntmps115
  go_wp2_with fail
  refine HC.out.mono ?_; rintro e w1 ⟨q, d, rfl, ho, b1⟩
  have L1 := Lib.hid (HLD.out.below b1)
  have HO := Lib.hid ho
  clear ho HC
  go_wp2
  go_loopw [2, 11] (fun ov iv wv => ∃ k : Nat, k ≤ n ∧ ov = .string (str (peersS (L.take k))) ∧ iv = .int .i64 (k : Int) ∧ Below w1.heap.size w1 wv) (fun _ iv _ => n - (intOf iv).toNat)
  case atStart => exact ⟨0, Nat.zero_le _, rfl, rfl, Below.refl _ _⟩
  case round =>
    obtain ⟨k, hk, rfl, rfl, hb⟩ := hrel
    have hz := hb.size
    by_cases hkn : k < n
    · obtain ⟨gq, hgq⟩ := HO.out.addr (by omega)
      subst hgq
      have ho := HO.out.below hb
      have hgb := ho.blk
      have e0 := ho.at encP_len hkn (i := 0) (by omega)
      have e1 := ho.at encP_len hkn (i := 1) (by omega)
      have e2 := ho.at encP_len hkn (i := 2) (by omega)
      change wr.cell? ⟨gq, k * 3, none⟩ = some (.int .i64 (pl L k)) at e0
      change wr.cell? ⟨gq, k * 3 + 1, none⟩ = some (.int .i64 (pp L k)) at e1
      change wr.cell? ⟨gq, k * 3 + 2, none⟩ = some (.bool (pd L k)) at e2
      have hbd := HB.out k hkn
      have HNX := Lib.hid (peersS_next (L := L) (k := k) (by rw [HN.out]; exact hkn))
      have hol := HPL.out k (by omega)
      rw [← str_size] at hol
      obtain ⟨a, ha⟩ : ∃ a, pl L k = a := ⟨_, rfl⟩
      obtain ⟨b, hbb⟩ : ∃ b, pp L k = b := ⟨_, rfl⟩
      obtain ⟨f, hf⟩ : ∃ f, pd L k = f := ⟨_, rfl⟩
      rw [ha] at e0 hbd HNX; rw [hbb] at e1 hbd HNX; rw [hf] at e2
      clear ha hbb hf ho
      have hal := itoa_len (n := a) (by omega) (by omega)
      have hbl := itoa_len (n := b) (by omega) (by omega)
      rw [← str_size] at hal hbl
      have hnew := (Below.refl wr.heap.size wr).alloc (Nat.le_refl _) (.cells #[.int .i64 a, .int .i64 b, .bool f] 67)
      have LR := Lib.hid ((L1.out.below hb).below hnew)
      have T1 := Lib.hid (blk_new wr #[.int .i64 a, .int .i64 b, .bool f] 67)
      have HBN := Lib.hid (hb.trans (hnew.mono hz))
      clear hnew hb
      go_wp2
      obtain ⟨tb, htb⟩ : ∃ tb, wr.heap.size = tb := ⟨_, rfl⟩
      rw [htb] at T1 ⊢
      generalize wr.alloc (.cells #[.int .i64 a, .int .i64 b, .bool f] 67) = W at *
      have htl : tb < W.heap.size := (Array.getElem?_eq_some_iff.1 T1.out).1
      have t0' : W.cell? ⟨tb, 0, none⟩ = some (.int .i64 a) := blk_cell T1.out 0
      have t1' : W.cell? ⟨tb, 1, none⟩ = some (.int .i64 b) := blk_cell T1.out 1
      have bc0 := BelowOf.cell t0' htl; have bc1 := BelowOf.cell t1' htl
      clear e0 e1 e2
      have s1 : ¬ 9223372036854775807 < 1 + (str (Lib.itoa a)).size := by omega
      have s2 : ¬ 9223372036854775807 < 1 + (str (Lib.itoa a)).size + 1 := by omega
      have s3 : ¬ 9223372036854775807 < 1 + (str (Lib.itoa a)).size + 1 + (str (Lib.itoa b)).size := by omega
      have s4 : ¬ 9223372036854775807 < (str (peersS (L.take k))).size + (1 + (str (Lib.itoa a)).size + 1 + (str (Lib.itoa b)).size) := by omega
      refine wp_region_quiet_below (by kernel_rfl) (by kernel_rfl) ?_
      repeat (quiet_step (exact calls_below (dk_Itoa (LR.out.below (BelowOf.prop _)) (by omega) (by omega))))
      refine wpQuiet_nil ?_
      intro v hq
      have hcur : Below W.heap.size W v := by obtain ⟨q, hq2⟩ := hq; rw [hq2]; exact q.prop
      have hbv := HBN.out.trans (hcur.mono (by have := HBN.out.size; omega))
      clear hq bc0 bc1 t0' t1' hcur
      go_wp2
      go_roundw
      case rel => exact ⟨k + 1, hkn, by rw [HNX.out]; rfl, by go_num, hbv⟩
      case measure => simp [intOf]; omega
    · obtain rfl : n = k := by omega
      have HE : Hid (L.take n = L) := Lib.hid (by rw [← HN.out, List.take_length])
      rw [HE.out]
      have hbb := b1.trans (hb.mono b1.size)
      go_wp2
      go_ret
      exact ⟨rfl, hbb⟩
end Go.Proofs.YtgbccpfehcjhbaaGreatDoor
