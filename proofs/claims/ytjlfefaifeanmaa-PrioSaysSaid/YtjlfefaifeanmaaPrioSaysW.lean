/- The walk of headlaw.PrioSays: it returns true and changes nothing that was there. No conditions. -/
import Derived.Test.YtjlfefaifeanmaaPrio
import Derived.Test.YtjlfefaifeanmaaZip
import Derived.Test.YtjlfefaifeanmaaEqual
namespace Go.Proofs.Ytjlfefaifeanmaa
open Go Go.RowKit

def opAdd (a b : Int) : Int := a + b
def opMinus (a b : Int) : Int := a - b
set_option maxHeartbeats 400000 in
theorem prioSays1 (a b : Int) (w : World) (ha : 0 ≤ a ∧ a ≤ 1000000) (hb : 0 ≤ b ∧ b ≤ 1000000) :
    Calls Try.prog 56 #[.int .i64 a, .int .i64 b] w fun e w' => e = .returned (.int .i64 (opAdd a b)) ∧ w = w' := by
  obtain ⟨ha1, ha2⟩ := ha
  obtain ⟨hb1, hb2⟩ := hb
  go_enter Try.func56, Try.ntmps56
  go_wp2
  go_ret
  exact ⟨rfl, rfl⟩
set_option maxHeartbeats 400000 in
theorem prioSays2 (a b : Int) (w : World) (ha : 0 ≤ a ∧ a ≤ 1000000) (hb : 0 ≤ b ∧ b ≤ 1000000) :
    Calls Try.prog 57 #[.int .i64 a, .int .i64 b] w fun e w' => e = .returned (.int .i64 (opMinus a b)) ∧ w = w' := by
  obtain ⟨ha1, ha2⟩ := ha
  obtain ⟨hb1, hb2⟩ := hb
  go_enter Try.func57, Try.ntmps57
  go_wp2
  go_ret
  exact ⟨rfl, rfl⟩

set_option maxHeartbeats 1000000 in
theorem prioSays_bad {w : World} {p q : Option Addr} {n c m d : Nat} {xs ys : List Int} {r : Int} (h : SI w p n c xs) (g : SI w q m d ys) {er : Int} (he : prioErr xs ys r = er) (h0 : er ≠ 0) :
    Calls Try.prog 12 #[.slice p n c, .slice q m d, .int .i64 r] w fun e w' => e = .returned (.bool true) ∧ Below w.heap.size w w' := by
  have hb := bne_false_of h0
  have HE := Lib.hid he
  rcases prio_ways he h0 with h1 | ⟨h1, h2⟩ | ⟨h1, h2, h3, rfl⟩
  · have H1 := Lib.hid h1; clear h1 he
    go_enter Try.func12, Try.ntmps12
    go_wp2_with fail
    refine (prio_Run_bad h g HE.out h0).mono ?_; rintro e w1 ⟨rfl, hb1⟩
    go_wp2_with fail
    refine (law_rated (h.below hb1) H1.out).mono ?_; rintro e w2 ⟨rfl, hb2⟩
    go_wp2
    go_ret
    exact ⟨rfl, hb1.trans (hb2.mono hb1.size)⟩
  · have H1 := Lib.hid h1; have H2 := Lib.hid h2; clear h1 h2 he
    go_enter Try.func12, Try.ntmps12
    go_wp2_with fail
    refine (prio_Run_bad h g HE.out h0).mono ?_; rintro e w1 ⟨rfl, hb1⟩
    go_wp2_with fail
    refine (law_rated (h.below hb1) H1.out).mono ?_; rintro e w2 ⟨rfl, hb2⟩
    have hb12 := hb1.trans (hb2.mono hb1.size)
    go_wp2_with fail
    refine (ref_Trace (g.below hb12) H2.out).mono ?_; rintro e w3 ⟨rfl, hb3⟩
    go_wp2
    go_ret
    exact ⟨rfl, hb12.trans (hb3.mono hb12.size)⟩
  · have hne : ¬ n = m := by rw [← h.1, ← g.1]; exact h3
    have hz : ((n : Int) == (m : Int)) = false := by simp; omega
    have H1 := Lib.hid h1; have H2 := Lib.hid h2; clear h1 h2 h3 he
    go_enter Try.func12, Try.ntmps12
    go_wp2_with fail
    refine (prio_Run_bad h g HE.out h0).mono ?_; rintro e w1 ⟨rfl, hb1⟩
    go_wp2_with fail
    refine (law_rated (h.below hb1) H1.out).mono ?_; rintro e w2 ⟨rfl, hb2⟩
    have hb12 := hb1.trans (hb2.mono hb1.size)
    go_wp2_with fail
    refine (ref_Trace (g.below hb12) H2.out).mono ?_; rintro e w3 ⟨rfl, hb3⟩
    go_wp2
    go_ret
    exact ⟨rfl, hb12.trans (hb3.mono hb12.size)⟩

theorem goesL_gi {xs : List Int} {r : Int} {n k : Nat} (hl : xs.length = n) (hk : k < n) : gi (goesL xs r) k = gov (gi xs) r k := by
  unfold goesL
  rw [hl, gi_tab hk]; rfl
theorem goesL_len (xs : List Int) (r : Int) : (goesL xs r).length = xs.length := tab_length _ _
theorem gov_zip {xs ys : List Int} {r : Int} {n k : Nat} (hk : k < n) : gov (gi (tab n fun k => opAdd (gi xs k) (gi ys k))) r k = gov (fun j => gi xs j + gi ys j) r k := by
  have hq : ∀ j, j ≤ n → lq (gi (tab n fun k => opAdd (gi xs k) (gi ys k))) r 0 j = lq (fun j => gi xs j + gi ys j) r 0 j := by
    intro j
    induction j with
    | zero => intro _; rfl
    | succ j ih =>
      intro hj
      simp only [lq]
      rw [ih (by omega), gi_tab (show j < n by omega)]; rfl
  unfold gov
  rw [hq k (by omega), hq (k + 1) (by omega), gi_tab hk]; rfl

set_option maxHeartbeats 1600000 in
theorem prioSays_ok {w : World} {p q : Option Addr} {n c d : Nat} {xs ys : List Int} {r : Int} (h : SI w p n c xs) (g : SI w q n d ys) (he : prioErr xs ys r = 0) :
    Calls Try.prog 12 #[.slice p n c, .slice q n d, .int .i64 r] w fun e w' => e = .returned (.bool true) ∧ Below w.heap.size w w' := by
  obtain ⟨hle, hty, _⟩ := prio_ok he
  obtain ⟨htx, r0, r1⟩ := line_ok hle
  obtain ⟨h60, hokx⟩ := trace_ok htx
  obtain ⟨_, hoky⟩ := trace_ok hty
  have hl := h.1
  have hbx : ∀ j, j < n → 0 ≤ gi xs j ∧ gi xs j ≤ 10000 := by rw [← hl]; exact hokx
  have hby : ∀ j, j < n → 0 ≤ gi ys j ∧ gi ys j ≤ 10000 := by rw [← g.1]; exact hoky
  rw [hl] at h60
  have HB1 := Lib.hid (fun j (hj : j < n) => show 0 ≤ gi xs j ∧ gi xs j ≤ 1000000 by have := hbx j hj; omega)
  have HB2 := Lib.hid (fun j (hj : j < n) => show 0 ≤ gi ys j ∧ gi ys j ≤ 1000000 by have := hby j hj; omega)
  have HB3 := Lib.hid (fun j (hj : j < n) => show 0 ≤ gi (tab n fun k => opAdd (gi xs k) (gi ys k)) j ∧ gi (tab n fun k => opAdd (gi xs k) (gi ys k)) j ≤ 1000000 by
    rw [gi_tab hj]
    have := hbx j hj
    have := hby j hj
    unfold opAdd; omega)
  have HV := Lib.hid (fun j (hj : j < n) => gov_bd r0 (by omega) hbx hj)
  have HVT := Lib.hid (fun j (hj : j < n) => gov_bd r0 (by omega) HB3.out hj)
  have HSE := Lib.hid (fun j (hj : j < n) => sev_diff r0 (by omega) hbx hby hj)
  have HL := Lib.hid hl; have HE := Lib.hid he; have H1 := Lib.hid hle; have H2 := Lib.hid hty
  clear hl he hle hty htx hokx hoky hbx hby
  go_enter Try.func12, Try.ntmps12
  go_wp2_with fail
  refine (prio_Run_ok h g HE.out).mono ?_; rintro e w1 ⟨p1, n1, c1, L1, p2, n2, c2, L2, er1, rfl, ho1, ho2, hb1, rfl, rfl, rfl⟩
  have s1 := ho1.si; have s2 := ho2.si
  have h1 := h.below hb1; have g1 := g.below hb1
  clear ho1 ho2 h g
  go_wp2_with fail
  refine (law_rated h1 H1.out).mono ?_; rintro e w2 ⟨rfl, hb12⟩
  have h2 := h1.below hb12; have g2 := g1.below hb12; have s1 := s1.below hb12; have s2 := s2.below hb12
  have hb2 := hb1.trans (hb12.mono hb1.size)
  clear h1 g1 hb12 hb1
  go_wp2_with fail
  refine (ref_Trace g2 H2.out).mono ?_; rintro e w3 ⟨rfl, hb23⟩
  have h3 := h2.below hb23; have g3 := g2.below hb23; have s1 := s1.below hb23; have s2 := s2.below hb23
  have hb3 := hb2.trans (hb23.mono hb2.size)
  clear h2 g2 hb23 hb2
  go_wp2_with fail
  refine (ref_Goes h3 (by omega) HB1.out r0 r1).mono ?_; rintro e w4 ⟨p4, n4, c4, rfl, ho4, hb34⟩
  have h4 := h3.below hb34; have g4 := g3.below hb34; have s1 := s1.below hb34; have s2 := s2.below hb34
  have hb4 := hb3.trans (hb34.mono hb3.size)
  have s4 := ho4.si
  clear h3 g3 hb34 hb3 ho4
  go_wp2_with fail
  refine (ref_Zip h4 g4 (by omega) (op := opAdd) (fun args w => by simp [callFunc, Try.func56, Try.f56, go_sem]) (fun k w' hk => prioSays1 _ _ w' (HB1.out k hk) (HB2.out k hk))).mono ?_
  rintro e w5 ⟨p5, n5, c5, rfl, ho5, hb45⟩
  have hn5 := ho5.len
  rw [tab_length] at hn5
  subst hn5
  have s5 := ho5.si
  have s1 := s1.below hb45; have s2 := s2.below hb45; have s4 := s4.below hb45
  have hb5 := hb4.trans (hb45.mono hb4.size)
  clear h4 g4 hb45 hb4 ho5
  go_wp2_with fail
  refine (ref_Goes s5 (by omega) HB3.out r0 r1).mono ?_; rintro e w6 ⟨p6, n6, c6, rfl, ho6, hb56⟩
  have s1 := s1.below hb56; have s2 := s2.below hb56; have s4 := s4.below hb56
  have hb6 := hb5.trans (hb56.mono hb5.size)
  have hn6 := ho6.len
  rw [goesL_len, tab_length] at hn6
  subst hn6
  have s6 := ho6.si
  clear hb56 hb5 ho6 s5
  go_wp2_with fail
  refine (slices_Equal s1 s4 (r := true) (by simp)).mono ?_; rintro e w7 ⟨rfl, hb67⟩
  have s2 := s2.below hb67; have s4 := s4.below hb67; have s6 := s6.below hb67
  have hb7 := hb6.trans (hb67.mono hb6.size)
  have hn4 := s4.1
  rw [goesL_len, HL.out] at hn4
  subst hn4
  clear hb67 hb6 s1
  go_wp2_with fail
  refine (ref_Zip s6 s4 (by omega) (op := opMinus) (fun args w => by simp [callFunc, Try.func57, Try.f57, go_sem]) (fun k w' hk => prioSays2 _ _ w' (by rw [goesL_gi (tab_length _ _) hk]; have := HVT.out k hk; omega) (by rw [goesL_gi HL.out hk]; have := HV.out k hk; omega))).mono ?_
  rintro e w8 ⟨p8, n8, c8, rfl, ho8, hb78⟩
  have s2 := s2.below hb78
  have hb8 := hb7.trans (hb78.mono hb7.size)
  have s8 := ho8.si
  have heq : tab n (sev (gi xs) (gi ys) r) = tab n (fun k => opMinus (gi (goesL (tab n fun k => opAdd (gi xs k) (gi ys k)) r) k) (gi (goesL xs r) k)) := tab_congr fun j hj => by
    rw [goesL_gi (tab_length _ _) hj, goesL_gi HL.out hj, gov_zip hj, ← HSE.out j hj]; rfl
  have HEQ := Lib.hid heq
  clear hb78 hb7 ho8 heq
  go_wp2_with fail
  refine (slices_Equal s2 s8 (r := true) (by simp [HEQ.out])).mono ?_; rintro e w9 ⟨rfl, hb89⟩
  have hb9 := hb8.trans (hb89.mono hb8.size)
  go_wp2
  go_ret
  exact ⟨rfl, hb9⟩

theorem prioSays_walk {w : World} {p q : Option Addr} {n c m d : Nat} {xs ys : List Int} (h : SI w p n c xs) (g : SI w q m d ys) {r : Int} (_ : -9223372036854775808 ≤ r ∧ r ≤ 9223372036854775807) :
    Calls Try.prog 12 #[.slice p n c, .slice q m d, .int .i64 r] w fun e w' => e = .returned (.bool true) ∧ Below w.heap.size w w' := by
  by_cases he : prioErr xs ys r = 0
  · obtain rfl : n = m := by rw [← h.1, ← g.1]; exact (prio_ok he).2.2
    exact prioSays_ok h g he
  · exact prioSays_bad h g rfl he
end Go.Proofs.Ytjlfefaifeanmaa
