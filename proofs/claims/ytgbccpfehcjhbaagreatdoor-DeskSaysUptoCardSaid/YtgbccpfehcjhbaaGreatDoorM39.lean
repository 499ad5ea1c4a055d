/- The reference answers each line of words as the desk does (P77). Conditions: what each theorem says. -/
import Derived.Test.YtgbccpfehcjhbaaGreatDoorM36
import Derived.Test.YtgbccpfehcjhbaaGreatDoorM37
import Derived.Test.YtgbccpfehcjhbaaGreatDoorM38
import Derived.Test.YtgbccpfehcjhbaaGreatDoorM32
import Derived.Test.YtgbccpfehcjhbaaGreatDoorM18
namespace Go.Proofs.YtgbccpfehcjhbaaGreatDoor
open Go Go.RowKit
set_option linter.unusedVariables false
set_option linter.unusedSimpArgs false

section
variable {w : World} {B a c m d : Nat} {p q : Option Addr} {T : List Sl}
theorem slst_one {x : List Int} (h : SlSt 35 isSI w B q p a c T [x]) : a = 1 ∧ ∃ b n0 d0 p0, p = some ⟨b, 0, none⟩ ∧ w.cell? ⟨b, 0, none⟩ = some (.slice p0 n0 d0) ∧ SI w p0 n0 d0 x := by
  obtain rfl : a = 1 := by have := h.2.1; simpa using this.symm
  obtain ⟨b, hb⟩ := h.1.addr (by omega)
  subst hb
  exact ⟨rfl, b, _, _, _, rfl, h.1.at encSl_len (j := 0) (by omega) (i := 0) (by omega), (h.2.2.2 0 (by omega)).1⟩
theorem slst_two {x y : List Int} (h : SlSt 35 isSI w B q p a c T [x, y]) : a = 2 ∧ ∃ b n0 d0 p0 n1 d1 p1, p = some ⟨b, 0, none⟩ ∧ w.cell? ⟨b, 0, none⟩ = some (.slice p0 n0 d0) ∧ w.cell? ⟨b, 1, none⟩ = some (.slice p1 n1 d1) ∧ SI w p0 n0 d0 x ∧ SI w p1 n1 d1 y := by
  obtain rfl : a = 2 := by have := h.2.1; simpa using this.symm
  obtain ⟨b, hb⟩ := h.1.addr (by omega)
  subst hb
  exact ⟨rfl, b, _, _, _, _, _, _, rfl, h.1.at encSl_len (j := 0) (by omega) (i := 0) (by omega), h.1.at encSl_len (j := 1) (by omega) (i := 0) (by omega), (h.2.2.2 0 (by omega)).1, (h.2.2.2 1 (by omega)).1⟩
theorem own_si {Y : List Int} {k : Nat} (h : OwnI w B q m d Y) (hk : Y.length = k) : m = k ∧ SI w q k d Y := by
  obtain rfl : m = k := by rw [← h.len]; exact hk
  exact ⟨rfl, h.si⟩
end
theorem no_change {c : Nat} (h : ∀ x ∈ changeL, cmdW c ≠ x) (_ : True) : ∀ x ∈ changeL, str (cmdW c) ≠ str x := fun x hx e => h x hx (str_inj e)
section
variable {s : DS} {L : List ByteArray} {rb g h : Nat}
theorem dn_conv (hin : okF L (cmdF 0)) : Done L rb g h s 0 (textOf (cmdOut 0 s L).1) (cmdOut 0 s L).2 := by
  intro w B a cc m d p q T D h8 hl hn
  rw [show listsOf L (cmdF 0) (cmdF 0).length = [numsL (gsW L 1), numsL (gsW L 2)] from rfl] at hl
  rw [show numsOf L (cmdF 0) (cmdF 0).length = [] from rfl] at hn
  obtain ⟨rfl, b, n0, d0, p0, n1, d1, p1, rfl, c0, c1, s0, s1⟩ := slst_two hl
  have hk := okF_2.1 hin
  exact done_reckon D (no_change (by decide) trivial) (reckon_conv c0 c1 s0 s1)
theorem dn_deconv (hin : okF L (cmdF 1)) : Done L rb g h s 1 (textOf (cmdOut 1 s L).1) (cmdOut 1 s L).2 := by
  intro w B a cc m d p q T D h8 hl hn
  rw [show listsOf L (cmdF 1) (cmdF 1).length = [numsL (gsW L 1), numsL (gsW L 2)] from rfl] at hl
  rw [show numsOf L (cmdF 1) (cmdF 1).length = [] from rfl] at hn
  obtain ⟨rfl, b, n0, d0, p0, n1, d1, p1, rfl, c0, c1, s0, s1⟩ := slst_two hl
  have hk := okF_2.1 hin
  exact done_reckon D (no_change (by decide) trivial) (reckon_deconv c0 c1 s0 s1)
theorem dn_shape (hin : okF L (cmdF 2)) : Done L rb g h s 2 (textOf (cmdOut 2 s L).1) (cmdOut 2 s L).2 := by
  intro w B a cc m d p q T D h8 hl hn
  rw [show listsOf L (cmdF 2) (cmdF 2).length = [numsL (gsW L 1), numsL (gsW L 2)] from rfl] at hl
  rw [show numsOf L (cmdF 2) (cmdF 2).length = [] from rfl] at hn
  obtain ⟨rfl, b, n0, d0, p0, n1, d1, p1, rfl, c0, c1, s0, s1⟩ := slst_two hl
  have hk := okF_2.1 hin
  exact done_reckon D (no_change (by decide) trivial) (reckon_shape c0 c1 s0 s1)
theorem dn_close (hin : okF L (cmdF 3)) : Done L rb g h s 3 (textOf (cmdOut 3 s L).1) (cmdOut 3 s L).2 := by
  intro w B a cc m d p q T D h8 hl hn
  rw [show listsOf L (cmdF 3) (cmdF 3).length = [numsL (gsW L 1)] from rfl] at hl
  rw [show numsOf L (cmdF 3) (cmdF 3).length = [] from rfl] at hn
  obtain ⟨rfl, b, n0, d0, p0, rfl, c0, s0⟩ := slst_one hl
  have hk := okF_1.1 hin
  exact done_reckon D (no_change (by decide) trivial) (reckon_close c0 s0)
theorem dn_back (hin : okF L (cmdF 4)) : Done L rb g h s 4 (textOf (cmdOut 4 s L).1) (cmdOut 4 s L).2 := by
  intro w B a cc m d p q T D h8 hl hn
  rw [show listsOf L (cmdF 4) (cmdF 4).length = [numsL (gsW L 1), numsL (gsW L 2)] from rfl] at hl
  rw [show numsOf L (cmdF 4) (cmdF 4).length = [] from rfl] at hn
  obtain ⟨rfl, b, n0, d0, p0, n1, d1, p1, rfl, c0, c1, s0, s1⟩ := slst_two hl
  have hk := okF_2.1 hin
  exact done_reckon D (no_change (by decide) trivial) (reckon_back c0 c1 s0 s1)
theorem dn_delay (hin : okF L (cmdF 5)) : Done L rb g h s 5 (textOf (cmdOut 5 s L).1) (cmdOut 5 s L).2 := by
  intro w B a cc m d p q T D h8 hl hn
  rw [show listsOf L (cmdF 5) (cmdF 5).length = [numsL (gsW L 1), numsL (gsW L 2)] from rfl] at hl
  rw [show numsOf L (cmdF 5) (cmdF 5).length = [] from rfl] at hn
  obtain ⟨rfl, b, n0, d0, p0, n1, d1, p1, rfl, c0, c1, s0, s1⟩ := slst_two hl
  have hk := okF_2.1 hin
  exact done_reckon D (no_change (by decide) trivial) (reckon_delay c0 c1 s0 s1)
theorem dn_bucket (hin : okF L (cmdF 6)) : Done L rb g h s 6 (textOf (cmdOut 6 s L).1) (cmdOut 6 s L).2 := by
  intro w B a cc m d p q T D h8 hl hn
  rw [show listsOf L (cmdF 6) (cmdF 6).length = [] from rfl] at hl
  rw [show numsOf L (cmdF 6) (cmdF 6).length = [nV L 1, nV L 2, nV L 3] from rfl] at hn
  obtain ⟨rfl, hs⟩ := own_si hn (k := 3) rfl
  have hk := okF_3.1 hin
  exact done_reckon D (no_change (by decide) trivial) (reckon_bucket hs)
theorem dn_window (hin : okF L (cmdF 7)) : Done L rb g h s 7 (textOf (cmdOut 7 s L).1) (cmdOut 7 s L).2 := by
  intro w B a cc m d p q T D h8 hl hn
  rw [show listsOf L (cmdF 7) (cmdF 7).length = [] from rfl] at hl
  rw [show numsOf L (cmdF 7) (cmdF 7).length = [nV L 1, nV L 2, nV L 3] from rfl] at hn
  obtain ⟨rfl, hs⟩ := own_si hn (k := 3) rfl
  have hk := okF_3.1 hin
  exact done_reckon D (no_change (by decide) trivial) (reckon_window hs)
theorem dn_bound (hin : okF L (cmdF 8)) : Done L rb g h s 8 (textOf (cmdOut 8 s L).1) (cmdOut 8 s L).2 := by
  intro w B a cc m d p q T D h8 hl hn
  rw [show listsOf L (cmdF 8) (cmdF 8).length = [numsL (gsW L 1)] from rfl] at hl
  rw [show numsOf L (cmdF 8) (cmdF 8).length = [nV L 2, nV L 3] from rfl] at hn
  obtain ⟨rfl, b, n0, d0, p0, rfl, c0, s0⟩ := slst_one hl
  obtain ⟨rfl, hs⟩ := own_si hn (k := 2) rfl
  have hk := okF_3.1 hin
  exact done_reckon D (no_change (by decide) trivial) (reckon_bound c0 s0 hs)
theorem dn_rate (hin : okF L (cmdF 9)) : Done L rb g h s 9 (textOf (cmdOut 9 s L).1) (cmdOut 9 s L).2 := by
  intro w B a cc m d p q T D h8 hl hn
  rw [show listsOf L (cmdF 9) (cmdF 9).length = [numsL (gsW L 1)] from rfl] at hl
  rw [show numsOf L (cmdF 9) (cmdF 9).length = [nV L 2, nV L 3] from rfl] at hn
  obtain ⟨rfl, b, n0, d0, p0, rfl, c0, s0⟩ := slst_one hl
  obtain ⟨rfl, hs⟩ := own_si hn (k := 2) rfl
  have hk := okF_3.1 hin
  exact done_reckon D (no_change (by decide) trivial) (reckon_rate c0 s0 hs (nV_bd hk.2.1) (nV_bd hk.2.2))
theorem dn_world (hin : okF L (cmdF 10)) : Done L rb g h s 10 (textOf (cmdOut 10 s L).1) (cmdOut 10 s L).2 := by
  intro w B a cc m d p q T D h8 hl hn
  rw [show listsOf L (cmdF 10) (cmdF 10).length = [] from rfl] at hl
  rw [show numsOf L (cmdF 10) (cmdF 10).length = [nV L 1, nV L 2, nV L 3] from rfl] at hn
  obtain ⟨rfl, hs⟩ := own_si hn (k := 3) rfl
  have hk := okF_3.1 hin
  exact done_world D h8 hs
theorem dn_append (hin : okF L (cmdF 11)) : Done L rb g h s 11 (textOf (cmdOut 11 s L).1) (cmdOut 11 s L).2 := by
  intro w B a cc m d p q T D h8 hl hn
  rw [show listsOf L (cmdF 11) (cmdF 11).length = [] from rfl] at hl
  rw [show numsOf L (cmdF 11) (cmdF 11).length = [nV L 1] from rfl] at hn
  obtain ⟨rfl, hs⟩ := own_si hn (k := 1) rfl
  have hk := okF_1.1 hin
  exact done_append (m := 0) D h8 hs (nV_bd hk)
theorem dn_crash (hin : okF L (cmdF 12)) : Done L rb g h s 12 (textOf (cmdOut 12 s L).1) (cmdOut 12 s L).2 := by
  intro w B a cc m d p q T D h8 hl hn
  rw [show listsOf L (cmdF 12) (cmdF 12).length = [] from rfl] at hl
  rw [show numsOf L (cmdF 12) (cmdF 12).length = [nV L 1] from rfl] at hn
  obtain ⟨rfl, hs⟩ := own_si hn (k := 1) rfl
  have hk := okF_1.1 hin
  exact done_crash D hs (nV_bd hk)
theorem dn_tick (hin : okF L (cmdF 13)) : Done L rb g h s 13 (textOf (cmdOut 13 s L).1) (cmdOut 13 s L).2 := by
  intro w B a cc m d p q T D h8 hl hn
  rw [show listsOf L (cmdF 13) (cmdF 13).length = [] from rfl] at hl
  rw [show numsOf L (cmdF 13) (cmdF 13).length = [] from rfl] at hn
  exact done_tick D h8
theorem dn_peers (hin : okF L (cmdF 14)) : Done L rb g h s 14 (textOf (cmdOut 14 s L).1) (cmdOut 14 s L).2 := by
  intro w B a cc m d p q T D h8 hl hn
  rw [show listsOf L (cmdF 14) (cmdF 14).length = [] from rfl] at hl
  rw [show numsOf L (cmdF 14) (cmdF 14).length = [] from rfl] at hn
  exact done_peers D
theorem dn_all : ∀ c, c < 15 → okF L (cmdF c) → Done L rb g h s c (textOf (cmdOut c s L).1) (cmdOut c s L).2
  | 0, _, h => dn_conv h
  | 1, _, h => dn_deconv h
  | 2, _, h => dn_shape h
  | 3, _, h => dn_close h
  | 4, _, h => dn_back h
  | 5, _, h => dn_delay h
  | 6, _, h => dn_bucket h
  | 7, _, h => dn_window h
  | 8, _, h => dn_bound h
  | 9, _, h => dn_rate h
  | 10, _, h => dn_world h
  | 11, _, h => dn_append h
  | 12, _, h => dn_crash h
  | 13, _, h => dn_tick h
  | 14, _, h => dn_peers h
  | c + 15, h, _ => absurd h (by omega)
end
set_option maxRecDepth 100000 in
set_option maxHeartbeats 1600000 in
theorem ref_Line_none {w : World} (LD : Laid w) {rb g h n c : Nat} {p : Option Addr} {s : DS} {L : List ByteArray} (D : RefAt w rb g h s) (hs : SS w p n c L) (hn : 0 < n) (hno : ∀ c, c < 15 → gsW L 0 ≠ str (cmdW c)) :
    Calls Tryz.prog 8 #[.pointer (some ⟨rb, 0, none⟩), .slice p n c] w (RefPost w rb g h (errS 9) s) := by
  have HD := Lib.hid D
  obtain ⟨b, off, rfl, hlt, hc⟩ := hs.cells hn
  have c0 := hc 0 hn
  rw [Nat.add_zero] at c0
  have HFO := Lib.hid (ref_form LD (s := gsW L 0) (K := 15) (by omega) (fun j hj => hno j hj) (fun h => absurd h (by omega)))
  rw [if_neg (by omega), decide_eq_false (by omega)] at HFO
  have hcap := hs.2.1
  generalize gsW L 0 = W0 at *
  clear hs hc D hno
  go_enter Tryz.func8, Tryz.ntmps8
  go_wp2_with fail
  refine HFO.out.mono ?_; rintro e w1 ⟨rfl, b1⟩
  go_wp2_with fail
  refine (ref_fault (by omega)).mono ?_; rintro e w2 ⟨rfl, rfl⟩
  go_wp2
  go_ret
  exact RefPost.pure HD.out ⟨rfl, b1⟩
theorem ref_Line_of {w : World} (LD : Laid w) {rb g h n c : Nat} {p : Option Addr} {s s' : DS} {O : Out} {L : List ByteArray} (D : RefAt w rb g h s) (hs : SS w p n c L) (hn : 0 < n) (hn2 : n ≤ 1000000) (hz : ∀ j, (gsW L j).size ≤ 65536) (hR : LineR s L O s') :
    Calls Tryz.prog 8 #[.pointer (some ⟨rb, 0, none⟩), .slice p n c] w (RefPost w rb g h (textOf O) s') := by
  cases hR with
  | ok c hc hw hin => exact (ref_Line LD D hs hn hn2 hz hc hw (fun hi => dn_all c hc hi.2)).mono fun e w' h => h.1 hin
  | bad c hc hw hno => exact (ref_Line (t := []) (s' := s) LD D hs hn hn2 hz hc hw (fun hi => absurd hi hno)).mono fun e w' h => h.2 hno
  | none hno => exact ref_Line_none LD D hs hn hno
end Go.Proofs.YtgbccpfehcjhbaaGreatDoor

/- The walk of headlaw.DeskSays (P77): it returns true and changes nothing that was there. Conditions: the library's variables are laid; the script is of at most 1048576 bytes. -/
namespace Go.Proofs.YtgbccpfehcjhbaaGreatDoor
open Go Go.RowKit
set_option linter.unusedVariables false
set_option linter.unusedSimpArgs false

theorem err2_list : (str [101, 114, 114, 111, 114, 32, 50, 10]).toList = [101, 114, 114, 111, 114, 32, 50, 10] := by rw [ByteArray.toList_eq]; rfl
theorem rows_row {s : ByteArray} (hs : s.size ≤ 65536) {r : Nat} (hr : r < (rowsG (linesOf s)).length) :
    ¬ skips (rowsG (linesOf s))[r] ∧ (∀ j, (gsW (rowsG (linesOf s))[r] j).size ≤ 65536) ∧ 0 < ((rowsG (linesOf s))[r]).length ∧ ((rowsG (linesOf s))[r]).length ≤ 1000000 := by
  obtain ⟨hk, x, hx, e⟩ := rowsG_keeps (List.getElem_mem hr)
  have h1 := lines_size hx
  refine ⟨hk, fun j => ?_, not_skips_pos hk, ?_⟩
  · rw [e]
    have := words_size (x := x) j
    omega
  · rw [e]
    have := words_count x
    omega
set_option maxRecDepth 100000 in
set_option maxHeartbeats 6400000 in
theorem deskSays_walk {w : World} (LD : Laid w) {s : ByteArray} (hs : s.size ≤ 1048576) :
    Calls Tryz.prog 3 #[.string s] w fun e w' => e = .returned (.bool true) ∧ Below w.heap.size w w' := by
  have HLD := Lib.hid LD
  by_cases hbig : 65536 < s.size ∨ 200 < (linesOf s).length
  · have HC := Lib.hid (dk_Run_big LD hs hbig)
    have HLI := Lib.hid (fun (w : World) (LD : Laid w) => ref_Lines LD hs)
    have E1 : (str [101, 114, 114, 111, 114, 32, 50, 10]).toList = [101, 114, 114, 111, 114, 32, 50, 10] := err2_list
    have E2 : ((str [101, 114, 114, 111, 114, 32, 50, 10]).toList == [101, 114, 114, 111, 114, 32, 50, 10]) = true := by rw [err2_list]; rfl
    have HC2 : Hid (Calls Tryz.prog 5 #[.string s] w fun e w' => e = .returned (.string (str [101, 114, 114, 111, 114, 32, 50, 10])) ∧ Below w.heap.size w w') := HC
    clear HC
    generalize str [101, 114, 114, 111, 114, 32, 50, 10] = G at *
    obtain ⟨ok, hok⟩ : ∃ ok, decide ((linesOf s).length ≤ 200) = ok := ⟨_, rfl⟩
    have HOK := Lib.hid hok
    by_cases h65 : 65536 < s.size
    · have q1 : (65536 : Int) < (s.size : Int) := by omega
      have q2 : decide ((65536 : Int) < (s.size : Int)) = true := decide_eq_true q1
      clear hbig LD hok
      go_enter Tryz.func3, Tryz.ntmps3
      go_wp2_with fail
      refine HC2.out.mono ?_; rintro e w1 ⟨rfl, b1⟩
      go_wp2_with fail
      refine (HLI.out _ (HLD.out.below b1)).mono ?_; rintro e w2 ⟨p, a, c, T, rfl, HSL, ha, b2⟩
      rw [HOK.out]
      have hb := b1.trans (b2.mono b1.size)
      clear HSL
      go_wp2
      go_ret
      exact ⟨rfl, hb⟩
    · have q1 : ¬ (65536 : Int) < (s.size : Int) := by omega
      have q2 : decide ((65536 : Int) < (s.size : Int)) = false := decide_eq_false q1
      obtain rfl : ok = false := by rw [← hok]; exact decide_eq_false (by omega)
      clear hbig LD hok
      go_enter Tryz.func3, Tryz.ntmps3
      go_wp2_with fail
      refine HC2.out.mono ?_; rintro e w1 ⟨rfl, b1⟩
      go_wp2_with fail
      refine (HLI.out _ (HLD.out.below b1)).mono ?_; rintro e w2 ⟨p, a, c, T, rfl, HSL, ha, b2⟩
      rw [HOK.out]
      have hb := b1.trans (b2.mono b1.size)
      clear HSL
      go_wp2
      go_ret
      exact ⟨rfl, hb⟩
  · have hs6 : s.size ≤ 65536 := by omega
    have hM : (linesOf s).length ≤ 200 := by omega
    have HLI := Lib.hid (fun (w : World) (LD : Laid w) => ref_Lines LD hs)
    have HC2 : Hid (Calls Tryz.prog 5 #[.string s] w fun e w' => e = .returned (.string (str (runF (rowsG (linesOf s))).2)) ∧ Below w.heap.size w w') := Lib.hid (dk_Run_all LD hs6 hM)
    have hlen := runF_len hs6 hM
    have HRW := Lib.hid (fun r (hr : r < (rowsG (linesOf s)).length) => rows_row hs6 hr)
    have HOK : Hid (decide ((linesOf s).length ≤ 200) = true) := Lib.hid (decide_eq_true hM)
    obtain ⟨R, hR⟩ : ∃ R, rowsG (linesOf s) = R := ⟨_, rfl⟩
    have HR := Lib.hid hR
    rw [hR] at HC2 hlen HRW
    obtain ⟨full, hfull⟩ : ∃ full, (runF R).2 = full := ⟨_, rfl⟩
    have HFU := Lib.hid hfull
    rw [hfull] at HC2 hlen
    have q1 : ¬ (65536 : Int) < (s.size : Int) := by omega
    have q2 : decide ((65536 : Int) < (s.size : Int)) = false := decide_eq_false q1
    have HSF : Hid (full = (runF (R.take 0)).2 ++ full) := Lib.hid (by rw [List.take_zero]; rfl)
    have HS0 : Hid ((runF (R.take 0)).1 = startDS) := Lib.hid (by rw [List.take_zero]; rfl)
    have h8 := LD.sz
    clear hbig LD hR hfull hM
    go_enter Tryz.func3, Tryz.ntmps3
    go_wp2_with fail
    refine HC2.out.mono ?_; rintro e w1 ⟨rfl, b1⟩
    have LD1 := Lib.hid (HLD.out.below b1)
    go_wp2_with fail
    refine (HLI.out _ LD1.out).mono ?_; rintro e w2 ⟨p, a, c, T, rfl, hsl, ha, b2⟩
    rw [HOK.out]
    have hra := hsl.2.1
    rw [HR.out] at hsl hra
    have HSL := Lib.hid hsl
    have hbw := b1.trans (b2.mono b1.size)
    have HBW := Lib.hid hbw
    have LD2 := Lib.hid (HLD.out.below hbw)
    have hz2 := hbw.size
    have hz12 := b1.size
    have hz22 := b2.size
    clear hsl b1 b2 hbw
    go_wp2_with fail
    refine (ref_NewWorld (n := 2) (rate := 1) (unit := 1) (by omega) (by omega)).mono ?_
    rintro e w3 ⟨g, h, rfl, hw3, b3⟩
    have HW3 := Lib.hid hw3; have HB3 := Lib.hid b3
    have hz3 := b3.size
    have hgB := hw3.bg
    obtain ⟨_, _, _, _, _, hgl, hhl, hhB, _⟩ := hw3.cells
    have hX := (Below.refl w3.heap.size w3).alloc (Nat.le_refl _) (.cells #[.pointer (some ⟨g, 0, none⟩)] 29)
    have HX := Lib.hid hX
    have TD := Lib.hid (blk_new w3 #[.pointer (some ⟨g, 0, none⟩)] 29)
    clear hw3 b3 hX
    go_wp2
    obtain ⟨rb, hrb⟩ : ∃ rb, w3.heap.size = rb := ⟨_, rfl⟩
    rw [hrb] at TD hgl hhl hz3 ⊢
    have HREF : Hid (RefAt (w3.alloc (.cells #[.pointer (some ⟨g, 0, none⟩)] 29)) rb g h (runF (R.take 0)).1) := Lib.hid (by
      rw [HS0.out]
      exact ⟨startDS_good, TD.out, worldAt_base (HW3.out.below HX.out) (by omega), by omega, by omega, by omega⟩)
    have HB4 := Lib.hid (HB3.out.trans (HX.out.mono HB3.out.size))
    clear HW3 HX TD HB3 hgl hhl hrb
    go_loopw [3, 33] (fun gv iv wv => ∃ (r g h : Nat) (rem : Bytes), r ≤ a ∧ iv = .int .i64 (r : Int) ∧ gv = .string (str rem) ∧ Hid (full = (runF (R.take r)).2 ++ rem) ∧ Hid (RefAt wv rb g h (runF (R.take r)).1) ∧ w2.heap.size ≤ g ∧ w2.heap.size ≤ h ∧ Hid (Below w2.heap.size w2 wv)) (fun _ iv _ => a - (intOf iv).toNat)
    case atStart => exact ⟨0, g, h, full, Nat.zero_le _, rfl, rfl, HSF, HREF, hgB, hhB, HB4⟩
    case round =>
      clear HREF HSF HS0 HB4 hgB hhB
      obtain ⟨r, g, h, rem, hr, rfl, rfl, HRM, HREF, hgB, hhB, HBB⟩ := hrel
      have hzb := HBB.out.size
      by_cases hra2 : r < a
      · have hrl : r < R.length := by omega
        obtain ⟨hk, hzs, hpos, hcnt⟩ := HRW.out r hrl
        have hsl := SlSt.below isSS_keeps HSL.out HBB.out
        obtain ⟨gb, hgb⟩ := hsl.1.addr (by omega)
        have hcell := (hgb ▸ hsl.1).at encSl_len hra2 (i := 0) (by omega)
        have hss := (hsl.2.2.2 r hra2).1
        rw [ge_get hrl] at hss
        obtain ⟨W, hW⟩ : ∃ W, R[r] = W := ⟨_, rfl⟩
        rw [hW] at hss hk hzs hpos hcnt
        obtain ⟨rem', hrem, hfu⟩ := rem_next hrl (by rw [hW]; exact hk) (rem := rem) (by rw [HFU.out]; exact HRM.out)
        rw [hW] at hrem
        rw [HFU.out] at hfu
        have HFN := Lib.hid hfu
        obtain ⟨st, hst⟩ : ∃ st, (runF (R.take r)).1 = st := ⟨_, rfl⟩
        have hsn : (runF (R.take (r + 1))).1 = (nextO st W).2 := by rw [runF_take hrl, hW, stepRun_keep hk, hst]
        have HSN := Lib.hid hsn
        rw [hst] at HREF hrem
        have hLR := nextO_is st W
        have hgood := (lineR_good HREF.out.good hLR).1
        have hcl := (clean_text hgood).2
        obtain ⟨tt, htt⟩ : ∃ tt, textOf (nextO st W).1 = tt := ⟨_, rfl⟩
        have LDR := Lib.hid (LD2.out.below HBB.out)
        have HLN := Lib.hid (ref_Line_of LDR.out HREF.out hss (by rw [← hss.len]; exact hpos) (by rw [← hss.len]; exact hcnt) hzs hLR)
        rw [htt] at hrem hcl HLN
        have hrlen : rem.length ≤ 200 * 20001 := by have := congrArg List.length HRM.out; rw [List.length_append] at this; omega
        have HCU := Lib.hid (cut_app hcl rem')
        rw [← hrem] at HCU
        generalize ge T r = tr at *
        obtain ⟨pp, nn, cc⟩ := tr
        have c1 : wr.cell? ⟨gb, r, none⟩ = some (.slice pp nn cc) := by rw [Nat.mul_one, Nat.add_zero] at hcell; exact hcell
        have z1 : (r : Int) < (a : Int) := by omega
        have hrems : (str rem).size = rem.length := rfl
        obtain ⟨RM, hRM⟩ : ∃ RM, str rem = RM := ⟨_, rfl⟩
        have HRMS : Hid (RM.data.toList = rem) := Lib.hid (by rw [← hRM]; rfl)
        rw [hRM] at hrems ⊢
        obtain ⟨TT, hTT⟩ : ∃ TT, str tt = TT := ⟨_, rfl⟩
        have HTT := Lib.hid hTT
        subst hgb
        clear hk hzs hpos hcnt hsl hcell hss hW hrem hfu hst hsn hLR hgood hcl htt hRM hTT
        go_wp2_with fail
        refine HLN.out.mono ?_; rintro e w5 ⟨rfl, g5, h5, D5, C5, G5⟩
        rw [HTT.out]
        have HD5 := Lib.hid D5
        have hb5 := HBB.out.trans (C5.below hzb (fun x hx hS => by rcases hS with h1 | h1 | h1 <;> omega))
        have HB5 := Lib.hid hb5
        have LD5 := Lib.hid (LD2.out.below hb5)
        have HCC := Lib.hid (dk_Cut LD5.out (s := RM) (by omega) 10)
        rw [HRMS.out, HCU.out] at HCC
        have HCD : Hid (Calls Tryz.prog 9 #[.string RM, .string ⟨#[10]⟩] w5 fun e w' => e = .returned (.tuple #[.string TT, .string (str rem'), .bool true]) ∧ ∃ k, w' = w5.drewN k) := Lib.hid (by rw [← HTT.out]; exact HCC.out)
        have hg5 : w2.heap.size ≤ g5 ∧ w2.heap.size ≤ h5 := by omega
        clear D5 C5 G5 hb5 HCC
        go_wp2_with fail
        refine HCD.out.mono ?_; rintro e w6 ⟨rfl, k6, rfl⟩
        have d1 : (TT.toList != TT.toList) = false := by simp
        go_wp2_with fail
        go_roundw
        case rel => exact ⟨r + 1, g5, h5, rem', hra2, by go_num, rfl, HFN, Lib.hid (by rw [HSN.out]; exact HD5.out.below (below_drewN (Below.refl _ _) _)), hg5.1, hg5.2, Lib.hid (below_drewN HB5.out _)⟩
        case measure => simp [intOf]; omega
      · obtain rfl : a = r := by omega
        have hre : rem = [] := rem_last (Ls := R) (by rw [hra, HFU.out]; exact HRM.out)
        subst hre
        have e1 : (str []).toList = [] := by rw [ByteArray.toList_eq]; rfl
        have e2 : (str []).toList.isEmpty = true := by rw [e1]; rfl
        have HF := Lib.hid (HBW.out.trans (HBB.out.mono hz2))
        generalize str [] = E0 at *
        have z1 : ¬ (a : Int) < (a : Int) := by omega
        go_wp2_with fail
        go_ret
        exact ⟨rfl, HF.out⟩
end Go.Proofs.YtgbccpfehcjhbaaGreatDoor
