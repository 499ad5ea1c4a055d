/- The walk of headlaw.BoundSays: it returns true and changes nothing that was there. No conditions. -/
import Derived.Test.YtclbcbeakefhmaaBound
import Derived.Test.YtclbcbeakefhmaaZip
import Derived.Test.YtclbcbeakefhmaaTold
namespace Go.Proofs.Ytclbcbeakefhmaa
open Go Go.RowKit

set_option maxHeartbeats 400000 in
theorem bound_Back_bad {w : World} {p q : Option Addr} {n c m d : Nat} {xs ys : List Int} (h : SI w p n c xs) (g : SI w q m d ys) {er : Int} (he : bothErr xs ys = er) (h0 : er ≠ 0) :
    Calls Try.prog 33 #[.slice p n c, .slice q m d] w fun e w' => e = .returned (.tuple #[.int .i64 0, .int .i64 er]) ∧ w = w' := by
  have hb := bne_false_of h0
  have HE := Lib.hid he; clear he
  go_enter Try.func33, Try.ntmps33
  go_wp2_with fail
  refine (curve_Both h g HE.out).mono ?_; rintro e w' ⟨rfl, rfl⟩
  go_wp2
  go_ret2
  exact ⟨rfl, rfl⟩
set_option maxHeartbeats 400000 in
theorem bound_Delay_bad {w : World} {p q : Option Addr} {n c m d : Nat} {xs ys : List Int} (h : SI w p n c xs) (g : SI w q m d ys) {er : Int} (he : bothErr xs ys = er) (h0 : er ≠ 0) :
    Calls Try.prog 34 #[.slice p n c, .slice q m d] w fun e w' => e = .returned (.tuple #[.int .i64 0, .int .i64 er]) ∧ w = w' := by
  have hb := bne_false_of h0
  have HE := Lib.hid he; clear he
  go_enter Try.func34, Try.ntmps34
  go_wp2_with fail
  refine (curve_Both h g HE.out).mono ?_; rintro e w' ⟨rfl, rfl⟩
  go_wp2
  go_ret2
  exact ⟨rfl, rfl⟩

def opSub (a b : Int) : Int := a - b
set_option maxHeartbeats 400000 in
theorem boundSays1 (a b : Int) (w : World) (ha : 0 ≤ a ∧ a ≤ 1000000) (hb : 0 ≤ b ∧ b ≤ 1000000) :
    Calls Try.prog 37 #[.int .i64 a, .int .i64 b] w fun e w' => e = .returned (.int .i64 (opSub a b)) ∧ w = w' := by
  obtain ⟨ha1, ha2⟩ := ha
  obtain ⟨hb1, hb2⟩ := hb
  go_enter Try.func37, Try.ntmps37
  go_wp2
  go_ret
  exact ⟨rfl, rfl⟩

theorem back_max {xs ys : List Int} {n : Nat} (hl : xs.length = n) :
    (∀ j, j < n + 1 → gi (tab n (fun k => opSub (gi xs k) (gi ys k)) ++ [0]) j ≤ backV xs ys) ∧ ∃ j, j < n + 1 ∧ gi (tab n (fun k => opSub (gi xs k) (gi ys k)) ++ [0]) j = backV xs ys := by
  have hg : ∀ j, j < n → gi (tab n (fun k => opSub (gi xs k) (gi ys k)) ++ [0]) j = gi xs j - gi ys j := by
    intro j hj
    rw [gi_append_left (by rw [tab_length]; exact hj), gi_tab hj]; rfl
  have h0 : gi (tab n (fun k => opSub (gi xs k) (gi ys k)) ++ [0]) n = 0 := by
    have := gi_append_one (xs := tab n (fun k => opSub (gi xs k) (gi ys k))) (x := 0)
    rwa [tab_length] at this
  have hm := mxf_ge (s := 0) (e := fun t => gi xs t - gi ys t) (m := n)
  unfold backV
  rw [hl]
  refine ⟨fun j hj => ?_, ?_⟩
  · by_cases e : j = n
    · subst e; rw [h0]; exact hm.1
    · rw [hg j (by omega)]; exact hm.2 j (by omega)
  · rcases mxf_at (s := 0) (e := fun t => gi xs t - gi ys t) (m := n) with h | ⟨u, hu, h⟩
    · exact ⟨n, by omega, by rw [h0, h]⟩
    · exact ⟨u, by omega, by rw [hg u hu, h]⟩

set_option maxHeartbeats 1000000 in
theorem boundSays_walk {w : World} {p q : Option Addr} {n m c d : Nat} {xs ys : List Int} (h : SI w p n c xs) (g : SI w q m d ys) :
    Calls Try.prog 9 #[.slice p n c, .slice q m d] w fun e w' => e = .returned (.bool true) ∧ Below w.heap.size w w' := by
  obtain ⟨er, he⟩ : ∃ er, bothErr xs ys = er := ⟨_, rfl⟩
  by_cases h0 : er = 0
  · subst h0
    obtain ⟨h1, h2, h3⟩ := bothErr_ok he
    obtain rfl : n = m := by rw [← h.1, ← g.1, h3]
    have hx := curve_of h1 h.1
    have hy := curve_of h2 g.1
    have hn61 := hx.le
    have hpos := hx.pos
    obtain ⟨k, hk⟩ := delay_exists n xs ys
    have hkn := hk.1
    have HE := Lib.hid he; have HX := Lib.hid hx; have HY := Lib.hid hy; have HK := Lib.hid hk
    have HM := Lib.hid (back_max (xs := xs) (ys := ys) h.1)
    obtain ⟨bv, hbv⟩ : ∃ bv, backV xs ys = bv := ⟨_, rfl⟩
    have HBV := Lib.hid hbv
    clear he h1 h2 h3 hx hy hk hbv
    by_cases hkk : k < n
    all_goals
      go_enter Try.func9, Try.ntmps9
      go_wp2_with fail
      refine (bound_Back_ok h g HX.out HY.out HE.out).mono ?_; rintro e w1 ⟨rfl, hb1⟩
      rw [HBV.out]
      go_wp2_with fail
      refine (bound_Delay_ok (h.below hb1) (g.below hb1) HE.out HK.out).mono ?_; rintro e w2 ⟨rfl, hb12⟩
      have hb2 := hb1.trans (hb12.mono hb1.size)
      clear hb1 hb12
      first | rw [if_pos hkk, if_pos hkk] | rw [if_neg hkk, if_neg hkk]
      go_wp2_with fail
      refine (ref_Curves (h.below hb2) (g.below hb2) HE.out).mono ?_; rintro e w' ⟨rfl, rfl⟩
      go_wp2_with fail
      refine (ref_Zip (h.below hb2) (g.below hb2) (by omega) (op := opSub) (fun args w => by simp [callFunc, Try.func37, Try.f37, go_sem]) (fun k w' hk => boundSays1 _ _ w' (HX.out.bd k hk) (HY.out.bd k hk))).mono ?_
      rintro e w3 ⟨p3, n3, c3, rfl, ho3, hb23⟩
      have hn3 := ho3.len
      rw [tab_length] at hn3
      subst hn3
      have hsz3 := hb23.size
      go_wp2_with (at_builtin; refine wpL_push_int Try.tyInts rfl rfl (B := w2.heap.size) (W0 := w2) rfl rfl ho3 hb23 (by omega) hsz3 ?_; intro p4 c4 w4 ho4 hb24 _ _)
      have hb4 := hb2.trans (hb24.mono hb2.size)
      have hmx := HM.out
      rw [HBV.out] at hmx
      have HMX := Lib.hid hmx
      clear hmx ho3 hb23
      refine (slices_Max ho4.si (by omega) HMX.out.1 HMX.out.2).mono ?_; rintro e w' ⟨rfl, rfl⟩
      go_wp2_with fail
      refine (ref_Delay (h.below hb4) (g.below hb4) HK.out).mono ?_; rintro e w5 ⟨rfl, hb45⟩
      have hb5 := hb4.trans (hb45.mono hb4.size)
      first | rw [if_pos hkk] | rw [if_neg hkk]
      go_wp2
      go_ret
      exact ⟨rfl, hb5⟩
  · have HE := Lib.hid he; clear he
    have hbf := bne_false_of h0
    go_enter Try.func9, Try.ntmps9
    go_wp2_with fail
    refine (bound_Back_bad h g HE.out h0).mono ?_; rintro e w' ⟨rfl, rfl⟩
    go_wp2_with fail
    refine (bound_Delay_bad h g HE.out h0).mono ?_; rintro e w' ⟨rfl, rfl⟩
    go_wp2_with fail
    refine (ref_Curves h g HE.out).mono ?_; rintro e w' ⟨rfl, rfl⟩
    go_wp2
    go_ret
    exact ⟨rfl, Below.refl _ _⟩
end Go.Proofs.Ytclbcbeakefhmaa
