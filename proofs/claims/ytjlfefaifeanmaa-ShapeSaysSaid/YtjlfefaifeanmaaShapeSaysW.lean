/- The walk of headlaw.ShapeSays: it returns true and changes nothing that was there. No conditions. -/
import Derived.Test.YtjlfefaifeanmaaShape
import Derived.Test.YtjlfefaifeanmaaTold
namespace Go.Proofs.Ytjlfefaifeanmaa
open Go Go.RowKit

theorem fit_swap {er : Int} {Y Y' L : List Int} {e1 : Int} (h : FitOf er Y L e1) (e : er = 0 → Y' = Y) : FitOf er Y' L e1 := by
  by_cases h0 : er = 0
  · rw [e h0]; exact h
  · rcases h with h | h | h
    · exact .inl h
    · exact absurd h.1 h0
    · exact absurd h.1 h0

/-- what the law makes: a list, and whether it may be -/
def OkIff (ok : Bool) (r : Int) (P : Prop) : Prop := ok = true ↔ (0 ≤ r ∧ r ≤ 10000 ∧ ¬ P)
def MadeOf (want : Int) (Y : List Int) (L : List Int) (er : Int) : Prop := er = want ∧ (want = 0 → L = Y)
theorem made_fit {er e1 ew : Int} {Ya Yp La Lp : List Int} (hF : FitOf er Ya La e1) (hM : MadeOf er Yp Lp ew) (hY : er = 0 → Yp = Ya) : FitOf ew Lp La e1 := by
  obtain ⟨rfl, h2⟩ := hM
  exact fit_swap hF fun h => (h2 h).trans (hY h)

set_option maxHeartbeats 1000000 in
theorem law_made {w : World} {h r : Int} {P : Prop} [Decidable P] {ok : Bool} (hok : OkIff ok r P) {F : Nat} {cap : Array Value} {op : Nat → Int}
    (hF : ∀ (args : Array Value) (w : World), (callFunc F args).run Try.prog w = .ok (.enter F args) w)
    (hcall : shErr h r P = 0 → ∀ (w' : World) (k : Nat), k ≤ 60 → Below w.heap.size w w' → Calls Try.prog F (#[.int .i64 k] ++ cap) w' fun e w'' => e = .returned (.int .i64 (op k)) ∧ w' = w'') :
    Calls Try.prog 36 #[.int .i64 h, .bool ok, .func (.func F) #[] cap] w (RetL w (MadeOf (shErr h r P) (tab (h.toNat + 1) op))) := by
  have hok := show ok = true ↔ (0 ≤ r ∧ r ≤ 10000 ∧ ¬ P) from hok
  by_cases he : shErr h r P = 0
  · have HC := Lib.hid (hcall he)
    obtain ⟨h1, h2, h3, h4, h5⟩ := shErr_ok he
    obtain rfl : ok = true := hok.2 ⟨h3, h4, h5⟩
    have HE := Lib.hid he
    clear he hcall hok h5
    obtain ⟨h, rfl⟩ := Int.eq_ofNat_of_zero_le h1
    go_enter Try.func36, Try.ntmps36
    go_wp2
    go_loopw [8, 22] (fun v i wr => ∃ (k : Nat) (q : Option Addr) (d : Nat), k ≤ h + 1 ∧ i = .int .i64 k ∧ v = .slice q k d ∧ OwnI wr w.heap.size q k d (tab k op) ∧ Below w.heap.size w wr) (fun _ i _ => h + 1 - (intOf i).toNat)
    case atStart => exact ⟨0, none, 0, by omega, rfl, rfl, OwnI.nil _ _, Below.refl _ _⟩
    case round =>
      obtain ⟨k, q, d, hk, rfl, rfl, ho, hb⟩ := hrel
      have hsz := hb.size
      by_cases hkn : k ≤ h
      · have g1 : (k : Int) < (h : Int) + 1 := by omega
        have HT := Lib.hid (tab_succ k op)
        go_wp2_with fail
        refine (HC.out _ k (by omega) hb).mono ?_; rintro e w' ⟨rfl, rfl⟩
        go_wp2_with (at_builtin; refine wpL_push_int Try.tyInts rfl rfl (B := w.heap.size) (W0 := w) (by first | rfl | simp [Act.eval]) (by first | rfl | simp [Act.eval]) ho hb (by omega) hsz ?_; intro p' c' w3 ho1 hb3 hg1 _)
        go_roundw
        case rel => exact ⟨k + 1, _, _, by omega, by go_num, rfl, by rw [HT.out]; exact ho1, hb3⟩
        case measure => simp [intOf]; omega
      · obtain rfl : k = h + 1 := by omega
        have g1 : ¬ ((h + 1 : Nat) : Int) < (h : Int) + 1 := by omega
        go_wp2
        go_ret2
        exact ⟨_, _, _, _, _, rfl, ho, hb, HE.out.symm, fun _ => by simp⟩
  · have HE := Lib.hid (show shErr h r P = 1 by
      unfold shErr at he ⊢
      split
      · rfl
      · rename_i hh; rw [if_neg hh] at he; exact absurd rfl he)
    by_cases hh : h < 0 ∨ 60 < h
    · rcases (show h < 0 ∨ (0 ≤ h ∧ 60 < h) by omega) with h1 | ⟨h1, h2⟩
      all_goals
        clear hh hok he
        go_enter Try.func36, Try.ntmps36
        go_wp2
        go_ret2
        exact ⟨_, _, _, [], _, rfl, OwnI.nil _ _, Below.refl _ _, HE.out.symm, fun h => by rw [HE.out] at h; omega⟩
    · have h1 : 0 ≤ h := by omega
      have h2 : ¬ 60 < h := by omega
      have hk : ok = false := by
        cases hq : ok with
        | false => rfl
        | true =>
          have hk := hok.1 hq
          refine absurd ?_ he
          unfold shErr
          rw [if_neg]
          rintro (g | g | g | g | g)
          · omega
          · omega
          · omega
          · omega
          · exact hk.2.2 g
      subst hk
      clear hok he hh
      go_enter Try.func36, Try.ntmps36
      go_wp2
      go_ret2
      exact ⟨_, _, _, [], _, rfl, OwnI.nil _ _, Below.refl _ _, HE.out.symm, fun h => by rw [HE.out] at h; omega⟩

def lawB (r n : Int) (t : Nat) : Int := min (t : Int) 1 * n + (t : Int) * r
def lawL (r n : Int) (t : Nat) : Int := max ((t : Int) * r - n * r) 0
def lawS (r n : Int) (t : Nat) : Int := stairV r n t
theorem lawB_same (r n : Int) (t : Nat) : lawB r n t = bucketV r n t := by
  unfold lawB bucketV
  by_cases h : t = 0
  · subst h
    rw [if_pos rfl]
    show min (0 : Int) 1 * n + 0 * r = 0
    rw [show min (0 : Int) 1 = 0 by decide, Int.zero_mul, Int.zero_mul]; rfl
  · rw [if_neg h, show min (t : Int) 1 = 1 by omega, Int.mul_comm r]; omega
theorem lawL_same {r n : Int} (hr : 0 ≤ r) (t : Nat) : lawL r n t = lineV r n t := by
  unfold lawL lineV
  have e : (t : Int) * r - n * r = r * ((t : Int) - n) := by rw [Int.mul_sub, Int.mul_comm r, Int.mul_comm r]
  rw [e]
  by_cases h : 0 ≤ (t : Int) - n
  · have := Int.mul_nonneg hr h
    rw [show max 0 ((t : Int) - n) = (t : Int) - n by omega]; omega
  · have : r * ((t : Int) - n) ≤ 0 := Int.mul_nonpos_of_nonneg_of_nonpos hr (by omega)
    rw [show max 0 ((t : Int) - n) = 0 by omega, Int.mul_zero]; omega

set_option maxHeartbeats 400000 in
theorem shapeSays1 {w : World} {a a' t : Nat} {r n : Int} (ht : t ≤ 60) (hr0 : 0 ≤ r) (hr1 : r ≤ 10000) (hn0 : 0 ≤ n) (hn1 : n ≤ 1000000) (h1 : w.cell? ⟨a, 0, none⟩ = some (.int .i64 n)) (h2 : w.cell? ⟨a', 0, none⟩ = some (.int .i64 r)) :
    Calls Try.prog 37 #[.int .i64 t, .pointer (some ⟨a, 0, none⟩), .pointer (some ⟨a', 0, none⟩)] w fun e w' => e = .returned (.int .i64 (lawB r n t)) ∧ w = w' := by
  have hp := tr_bd hr0 hr1 (t := (t : Int)) (by omega) (by omega)
  by_cases h0 : t = 0
  · subst h0
    go_enter Try.func37, Try.ntmps37
    go_wp2
    all_goals
      go_ret
      exact ⟨ret_int (by show _ = min (0 : Int) 1 * n + 0 * r; rw [show min (0 : Int) 1 = 0 by decide, Int.zero_mul, Int.zero_mul]; try rfl), rfl⟩
  · have h3 : (1 : Int) ≤ (t : Int) := by omega
    have HV := Lib.hid (show lawB r n t = n + (t : Int) * r by unfold lawB; rw [show min (t : Int) 1 = 1 by omega, Int.one_mul])
    go_enter Try.func37, Try.ntmps37
    go_wp2
    all_goals
      go_ret
      exact ⟨ret_int (by rw [HV.out]; first | (rw [IntWalk.wrap64_in n (by omega), IntWalk.wrap64_in _ (by omega)]) | (obtain rfl : t = 1 := (by omega); show wrap64 (wrap64 ((1 : Int) * n) + 1 * r) = n + 1 * r; rw [Int.one_mul, Int.one_mul, IntWalk.wrap64_in n (by omega), IntWalk.wrap64_in _ (by omega)])), rfl⟩

set_option maxHeartbeats 400000 in
theorem shapeSays2 {w : World} {a a' t : Nat} {r n : Int} (ht : t ≤ 60) (hr0 : 0 ≤ r) (hr1 : r ≤ 10000) (hn0 : 0 ≤ n) (hn1 : n ≤ 60) (h1 : w.cell? ⟨a, 0, none⟩ = some (.int .i64 r)) (h2 : w.cell? ⟨a', 0, none⟩ = some (.int .i64 n)) :
    Calls Try.prog 38 #[.int .i64 t, .pointer (some ⟨a, 0, none⟩), .pointer (some ⟨a', 0, none⟩)] w fun e w' => e = .returned (.int .i64 (lawL r n t)) ∧ w = w' := by
  have hp := tr_bd hr0 hr1 (t := (t : Int)) (by omega) (by omega)
  have hp2 := tr_bd hr0 hr1 hn0 hn1
  have HV := Lib.hid (show lawL r n t = max ((t : Int) * r - n * r) 0 from rfl)
  go_enter Try.func38, Try.ntmps38
  go_wp2
  all_goals
    go_ret
    exact ⟨ret_int (by rw [HV.out]; try omega), rfl⟩

set_option maxHeartbeats 1000000 in
theorem shapeSays3 {w : World} {a a' t : Nat} {r n : Int} (ht : t ≤ 60) (hr0 : 0 ≤ r) (hr1 : r ≤ 10000) (hn0 : 1 ≤ n) (hn1 : n ≤ 60) (h1 : w.cell? ⟨a, 0, none⟩ = some (.int .i64 n)) (h2 : w.cell? ⟨a', 0, none⟩ = some (.int .i64 r)) :
    Calls Try.prog 39 #[.int .i64 t, .pointer (some ⟨a, 0, none⟩), .pointer (some ⟨a', 0, none⟩)] w fun e w' => e = .returned (.int .i64 (lawS r n t)) ∧ w = w' := by
  go_enter Try.func39, Try.ntmps39
  go_wp2
  go_loop [5, 6] (fun s v => ∃ (k : Nat) (x y : Int), s = .int .i64 y ∧ v = .int .i64 x ∧ Hid (x = (k : Int) * n ∧ y = r * (k : Int)) ∧ (k = 0 ∨ x - n < t) ∧ k ≤ 60 ∧ 0 ≤ x ∧ 0 ≤ y ∧ y ≤ 600000) (fun _ v => (60 + 60 - intOf v).toNat)
  case atStart => exact ⟨0, 0, 0, rfl, rfl, Lib.hid ⟨by simp, by simp⟩, .inl rfl, by omega, by omega, by omega, by omega⟩
  case round =>
    obtain ⟨k, x, y, rfl, rfl, H, hk, hk60, x0, y0, y1⟩ := hrel
    by_cases hlt : x < t
    · have hk2 : k + 1 ≤ 60 := by
        have := H.out.1
        have h3 : (k : Int) * 1 ≤ (k : Int) * n := Int.mul_le_mul_of_nonneg_left hn0 (by omega)
        omega
      have hy := rt_bd hr0 hr1 (t := ((k + 1 : Nat) : Int)) (by omega) (by omega)
      have HN : Hid (x + n = ((k + 1 : Nat) : Int) * n ∧ y + r = r * ((k + 1 : Nat) : Int)) := Lib.hid ⟨by rw [H.out.1, Int.natCast_succ, Int.add_mul, Int.one_mul], by rw [H.out.2, Int.natCast_succ, Int.mul_add, Int.mul_one]⟩
      have hy2 : y + r ≤ 600000 := by rw [HN.out.2]; exact hy.2
      have hxn : x + n - n < (t : Int) := by omega
      clear hy hk
      go_wp2
      go_round
      case rel => exact ⟨k + 1, _, _, rfl, rfl, HN, .inr hxn, by omega, by omega, by omega, by omega⟩
      case measure => simp [intOf]; omega
    · have HF : Hid (y = lawS r n t) := Lib.hid (by
        unfold lawS stairV
        have hu := fun c : Int => up_lt (a := (t : Int)) (b := n) (k := c) hn0
        have h4 := hu (k : Int)
        rw [← H.out.1] at h4
        have h5 := hu ((k : Int) - 1)
        rw [Int.sub_mul, Int.one_mul, ← H.out.1] at h5
        have h6 := (stair_bd ht hn0).1
        have h7 : ((t : Int) + n - 1) / n = (k : Int) := by
          rcases hk with hk | hk
          · subst hk; omega
          · omega
        rw [h7, H.out.2])
      go_wp2
      go_ret
      exact ⟨ret_int HF.out, rfl⟩


set_option maxRecDepth 100000 in
set_option maxHeartbeats 3200000 in
theorem shapeSays_walk {w : World} {h r n : Int} (_ : -9223372036854775808 ≤ h ∧ h ≤ 9223372036854775807) (_ : -9223372036854775808 ≤ r ∧ r ≤ 9223372036854775807) (_ : -9223372036854775808 ≤ n ∧ n ≤ 9223372036854775807) :
    Calls Try.prog 7 #[.int .i64 h, .int .i64 r, .int .i64 n] w fun e w' => e = .returned (.bool true) ∧ Below w.heap.size w w' := by
  obtain ⟨k1, k2, kb, ks⟩ := two_boxes w (.int .i64 r) (.int .i64 n) 3 3
  obtain ⟨o1, ho1⟩ : ∃ o : Bool, o = true ↔ (0 ≤ r ∧ r ≤ 10000 ∧ ¬ (n < 0 ∨ 1000000 < n)) := ⟨decide (0 ≤ r ∧ r ≤ 10000 ∧ ¬ (n < 0 ∨ 1000000 < n)), by simp⟩
  obtain ⟨o2, ho2⟩ : ∃ o : Bool, o = true ↔ (0 ≤ r ∧ r ≤ 10000 ∧ ¬ (n < 0 ∨ 60 < n)) := ⟨decide (0 ≤ r ∧ r ≤ 10000 ∧ ¬ (n < 0 ∨ 60 < n)), by simp⟩
  obtain ⟨o3, ho3⟩ : ∃ o : Bool, o = true ↔ (0 ≤ r ∧ r ≤ 10000 ∧ ¬ (n < 1 ∨ 60 < n)) := ⟨decide (0 ≤ r ∧ r ≤ 10000 ∧ ¬ (n < 1 ∨ 60 < n)), by simp⟩
  rcases (show r < 0 ∨ (0 ≤ r ∧ 10000 < r) ∨ (0 ≤ r ∧ r ≤ 10000) by omega) with r1 | ⟨r1, r2⟩ | ⟨r1, r2⟩
  · skip
    obtain rfl : o1 = false := Bool.eq_false_iff.2 fun hh => by have := ho1.1 hh; omega
    obtain rfl : o2 = false := Bool.eq_false_iff.2 fun hh => by have := ho2.1 hh; omega
    obtain rfl : o3 = false := Bool.eq_false_iff.2 fun hh => by have := ho3.1 hh; omega
    have HO1 := Lib.hid (show OkIff _ r (n < 0 ∨ 1000000 < n) from ho1); have HO2 := Lib.hid (show OkIff _ r (n < 0 ∨ 60 < n) from ho2); have HO3 := Lib.hid (show OkIff _ r (n < 1 ∨ 60 < n) from ho3)
    clear ho1 ho2 ho3
    go_enter Try.func7, Try.ntmps7
    go_wp2_with fail
    generalize ((w.alloc (.cells #[.int .i64 r] 3)).alloc (.cells #[.int .i64 n] 3)) = W at *
    have K1 := Lib.hid k1; have K2 := Lib.hid k2
    refine (shape_Bucket (w := W)).mono ?_; rintro e w1 ⟨p1, n1, c1, L1, e1, rfl, oo1, hb1, hF1⟩
    have F1 := Lib.hid hF1
    have s1 := oo1.si
    clear oo1 hF1
    have c1' := (bdeep hb1 (show w.heap.size < W.heap.size by omega) 0).trans K1.out
    have c2' := (bdeep hb1 (show w.heap.size + 1 < W.heap.size by omega) 0).trans K2.out
    clear k1 k2
    go_wp2_with fail
    refine (shape_Line (w := w1)).mono ?_; rintro e w2 ⟨p2, n2, c2, L2, e2, rfl, oo2, hb12, hF2⟩
    have F2 := Lib.hid hF2
    have s2 := oo2.si
    have s1 := s1.below hb12
    have hb2 := hb1.trans (hb12.mono hb1.size)
    clear oo2 hF2 hb12 hb1 c1' c2'
    have c1' := (bdeep hb2 (show w.heap.size < W.heap.size by omega) 0).trans K1.out
    have c2' := (bdeep hb2 (show w.heap.size + 1 < W.heap.size by omega) 0).trans K2.out
    go_wp2_with fail
    refine (shape_Stair (w := w2)).mono ?_; rintro e w3 ⟨p3, n3, c3, L3, e3, rfl, oo3, hb23, hF3⟩
    have F3 := Lib.hid hF3
    have s3 := oo3.si
    have s1 := s1.below hb23
    have s2 := s2.below hb23
    have hb3 := hb2.trans (hb23.mono hb2.size)
    clear oo3 hF3 hb23 hb2 c1' c2'
    have c1' := (bdeep hb3 (show w.heap.size < W.heap.size by omega) 0).trans K1.out
    have c2' := (bdeep hb3 (show w.heap.size + 1 < W.heap.size by omega) 0).trans K2.out
    go_wp2_with fail
    refine (law_made (w := w3) (op := lawB r n) HO1.out (fun args w => by simp [callFunc, Try.func37, Try.f37, go_sem]) fun hz w' t ht hb => ?_).mono ?_
    · have hh := shErr_ok hz
      exact shapeSays1 ht hh.2.2.1 hh.2.2.2.1 (by omega) (by omega) ((bdeep (hb3.trans (hb.mono hb3.size)) (show w.heap.size + 1 < W.heap.size by omega) 0).trans K2.out) ((bdeep (hb3.trans (hb.mono hb3.size)) (show w.heap.size < W.heap.size by omega) 0).trans K1.out)
    rintro e w4 ⟨p4, n4, c4, L4, e4, rfl, oo4, hb34, hF4⟩
    have F4 := Lib.hid (made_fit F1.out hF4 fun _ => tab_congr fun j _ => lawB_same r n j)
    have s4 := oo4.si
    have s1 := s1.below hb34
    have s2 := s2.below hb34
    have s3 := s3.below hb34
    have hb4 := hb3.trans (hb34.mono hb3.size)
    clear oo4 hF4 hb34 hb3 c1' c2'
    have c1' := (bdeep hb4 (show w.heap.size < W.heap.size by omega) 0).trans K1.out
    have c2' := (bdeep hb4 (show w.heap.size + 1 < W.heap.size by omega) 0).trans K2.out
    go_wp2_with fail
    refine (law_made (w := w4) (op := lawL r n) HO2.out (fun args w => by simp [callFunc, Try.func38, Try.f38, go_sem]) fun hz w' t ht hb => ?_).mono ?_
    · have hh := shErr_ok hz
      exact shapeSays2 ht hh.2.2.1 hh.2.2.2.1 (by omega) (by omega) ((bdeep (hb4.trans (hb.mono hb4.size)) (show w.heap.size < W.heap.size by omega) 0).trans K1.out) ((bdeep (hb4.trans (hb.mono hb4.size)) (show w.heap.size + 1 < W.heap.size by omega) 0).trans K2.out)
    rintro e w5 ⟨p5, n5, c5, L5, e5, rfl, oo5, hb45, hF5⟩
    have F5 := Lib.hid (made_fit F2.out hF5 fun hz => tab_congr fun j _ => lawL_same (shErr_ok hz).2.2.1 j)
    have s5 := oo5.si
    have s1 := s1.below hb45
    have s2 := s2.below hb45
    have s3 := s3.below hb45
    have s4 := s4.below hb45
    have hb5 := hb4.trans (hb45.mono hb4.size)
    clear oo5 hF5 hb45 hb4 c1' c2'
    have c1' := (bdeep hb5 (show w.heap.size < W.heap.size by omega) 0).trans K1.out
    have c2' := (bdeep hb5 (show w.heap.size + 1 < W.heap.size by omega) 0).trans K2.out
    go_wp2_with fail
    refine (law_made (w := w5) (op := lawS r n) HO3.out (fun args w => by simp [callFunc, Try.func39, Try.f39, go_sem]) fun hz w' t ht hb => ?_).mono ?_
    · have hh := shErr_ok hz
      exact shapeSays3 ht hh.2.2.1 hh.2.2.2.1 (by omega) (by omega) ((bdeep (hb5.trans (hb.mono hb5.size)) (show w.heap.size + 1 < W.heap.size by omega) 0).trans K2.out) ((bdeep (hb5.trans (hb.mono hb5.size)) (show w.heap.size < W.heap.size by omega) 0).trans K1.out)
    rintro e w6 ⟨p6, n6, c6, L6, e6, rfl, oo6, hb56, hF6⟩
    have F6 := Lib.hid (made_fit F3.out hF6 fun _ => rfl)
    have s6 := oo6.si
    have s1 := s1.below hb56
    have s2 := s2.below hb56
    have s3 := s3.below hb56
    have s4 := s4.below hb56
    have s5 := s5.below hb56
    have hb6 := hb5.trans (hb56.mono hb5.size)
    clear oo6 hF6 hb56 hb5 c1' c2'
    go_wp2_with fail
    refine (told_yes s1 s4 F4.out).mono ?_; rintro e w7 ⟨rfl, hb67⟩
    have s2 := s2.below hb67
    have s3 := s3.below hb67
    have s5 := s5.below hb67
    have s6 := s6.below hb67
    have hb7 := hb6.trans (hb67.mono hb6.size)
    clear hb67 hb6 s1 s4
    go_wp2_with fail
    refine (told_yes s2 s5 F5.out).mono ?_; rintro e w8 ⟨rfl, hb78⟩
    have s3 := s3.below hb78
    have s6 := s6.below hb78
    have hb8 := hb7.trans (hb78.mono hb7.size)
    clear hb78 hb7 s2 s5
    go_wp2_with fail
    refine (told_yes s3 s6 F6.out).mono ?_; rintro e w9 ⟨rfl, hb89⟩
    have hb9 := kb.trans ((hb8.trans (hb89.mono hb8.size)).mono kb.size)
    go_wp2
    go_ret
    exact ⟨rfl, hb9⟩
  · skip
    obtain rfl : o1 = false := Bool.eq_false_iff.2 fun hh => by have := ho1.1 hh; omega
    obtain rfl : o2 = false := Bool.eq_false_iff.2 fun hh => by have := ho2.1 hh; omega
    obtain rfl : o3 = false := Bool.eq_false_iff.2 fun hh => by have := ho3.1 hh; omega
    have HO1 := Lib.hid (show OkIff _ r (n < 0 ∨ 1000000 < n) from ho1); have HO2 := Lib.hid (show OkIff _ r (n < 0 ∨ 60 < n) from ho2); have HO3 := Lib.hid (show OkIff _ r (n < 1 ∨ 60 < n) from ho3)
    clear ho1 ho2 ho3
    go_enter Try.func7, Try.ntmps7
    go_wp2_with fail
    generalize ((w.alloc (.cells #[.int .i64 r] 3)).alloc (.cells #[.int .i64 n] 3)) = W at *
    have K1 := Lib.hid k1; have K2 := Lib.hid k2
    refine (shape_Bucket (w := W)).mono ?_; rintro e w1 ⟨p1, n1, c1, L1, e1, rfl, oo1, hb1, hF1⟩
    have F1 := Lib.hid hF1
    have s1 := oo1.si
    clear oo1 hF1
    have c1' := (bdeep hb1 (show w.heap.size < W.heap.size by omega) 0).trans K1.out
    have c2' := (bdeep hb1 (show w.heap.size + 1 < W.heap.size by omega) 0).trans K2.out
    clear k1 k2
    go_wp2_with fail
    refine (shape_Line (w := w1)).mono ?_; rintro e w2 ⟨p2, n2, c2, L2, e2, rfl, oo2, hb12, hF2⟩
    have F2 := Lib.hid hF2
    have s2 := oo2.si
    have s1 := s1.below hb12
    have hb2 := hb1.trans (hb12.mono hb1.size)
    clear oo2 hF2 hb12 hb1 c1' c2'
    have c1' := (bdeep hb2 (show w.heap.size < W.heap.size by omega) 0).trans K1.out
    have c2' := (bdeep hb2 (show w.heap.size + 1 < W.heap.size by omega) 0).trans K2.out
    go_wp2_with fail
    refine (shape_Stair (w := w2)).mono ?_; rintro e w3 ⟨p3, n3, c3, L3, e3, rfl, oo3, hb23, hF3⟩
    have F3 := Lib.hid hF3
    have s3 := oo3.si
    have s1 := s1.below hb23
    have s2 := s2.below hb23
    have hb3 := hb2.trans (hb23.mono hb2.size)
    clear oo3 hF3 hb23 hb2 c1' c2'
    have c1' := (bdeep hb3 (show w.heap.size < W.heap.size by omega) 0).trans K1.out
    have c2' := (bdeep hb3 (show w.heap.size + 1 < W.heap.size by omega) 0).trans K2.out
    go_wp2_with fail
    refine (law_made (w := w3) (op := lawB r n) HO1.out (fun args w => by simp [callFunc, Try.func37, Try.f37, go_sem]) fun hz w' t ht hb => ?_).mono ?_
    · have hh := shErr_ok hz
      exact shapeSays1 ht hh.2.2.1 hh.2.2.2.1 (by omega) (by omega) ((bdeep (hb3.trans (hb.mono hb3.size)) (show w.heap.size + 1 < W.heap.size by omega) 0).trans K2.out) ((bdeep (hb3.trans (hb.mono hb3.size)) (show w.heap.size < W.heap.size by omega) 0).trans K1.out)
    rintro e w4 ⟨p4, n4, c4, L4, e4, rfl, oo4, hb34, hF4⟩
    have F4 := Lib.hid (made_fit F1.out hF4 fun _ => tab_congr fun j _ => lawB_same r n j)
    have s4 := oo4.si
    have s1 := s1.below hb34
    have s2 := s2.below hb34
    have s3 := s3.below hb34
    have hb4 := hb3.trans (hb34.mono hb3.size)
    clear oo4 hF4 hb34 hb3 c1' c2'
    have c1' := (bdeep hb4 (show w.heap.size < W.heap.size by omega) 0).trans K1.out
    have c2' := (bdeep hb4 (show w.heap.size + 1 < W.heap.size by omega) 0).trans K2.out
    go_wp2_with fail
    refine (law_made (w := w4) (op := lawL r n) HO2.out (fun args w => by simp [callFunc, Try.func38, Try.f38, go_sem]) fun hz w' t ht hb => ?_).mono ?_
    · have hh := shErr_ok hz
      exact shapeSays2 ht hh.2.2.1 hh.2.2.2.1 (by omega) (by omega) ((bdeep (hb4.trans (hb.mono hb4.size)) (show w.heap.size < W.heap.size by omega) 0).trans K1.out) ((bdeep (hb4.trans (hb.mono hb4.size)) (show w.heap.size + 1 < W.heap.size by omega) 0).trans K2.out)
    rintro e w5 ⟨p5, n5, c5, L5, e5, rfl, oo5, hb45, hF5⟩
    have F5 := Lib.hid (made_fit F2.out hF5 fun hz => tab_congr fun j _ => lawL_same (shErr_ok hz).2.2.1 j)
    have s5 := oo5.si
    have s1 := s1.below hb45
    have s2 := s2.below hb45
    have s3 := s3.below hb45
    have s4 := s4.below hb45
    have hb5 := hb4.trans (hb45.mono hb4.size)
    clear oo5 hF5 hb45 hb4 c1' c2'
    have c1' := (bdeep hb5 (show w.heap.size < W.heap.size by omega) 0).trans K1.out
    have c2' := (bdeep hb5 (show w.heap.size + 1 < W.heap.size by omega) 0).trans K2.out
    go_wp2_with fail
    refine (law_made (w := w5) (op := lawS r n) HO3.out (fun args w => by simp [callFunc, Try.func39, Try.f39, go_sem]) fun hz w' t ht hb => ?_).mono ?_
    · have hh := shErr_ok hz
      exact shapeSays3 ht hh.2.2.1 hh.2.2.2.1 (by omega) (by omega) ((bdeep (hb5.trans (hb.mono hb5.size)) (show w.heap.size + 1 < W.heap.size by omega) 0).trans K2.out) ((bdeep (hb5.trans (hb.mono hb5.size)) (show w.heap.size < W.heap.size by omega) 0).trans K1.out)
    rintro e w6 ⟨p6, n6, c6, L6, e6, rfl, oo6, hb56, hF6⟩
    have F6 := Lib.hid (made_fit F3.out hF6 fun _ => rfl)
    have s6 := oo6.si
    have s1 := s1.below hb56
    have s2 := s2.below hb56
    have s3 := s3.below hb56
    have s4 := s4.below hb56
    have s5 := s5.below hb56
    have hb6 := hb5.trans (hb56.mono hb5.size)
    clear oo6 hF6 hb56 hb5 c1' c2'
    go_wp2_with fail
    refine (told_yes s1 s4 F4.out).mono ?_; rintro e w7 ⟨rfl, hb67⟩
    have s2 := s2.below hb67
    have s3 := s3.below hb67
    have s5 := s5.below hb67
    have s6 := s6.below hb67
    have hb7 := hb6.trans (hb67.mono hb6.size)
    clear hb67 hb6 s1 s4
    go_wp2_with fail
    refine (told_yes s2 s5 F5.out).mono ?_; rintro e w8 ⟨rfl, hb78⟩
    have s3 := s3.below hb78
    have s6 := s6.below hb78
    have hb8 := hb7.trans (hb78.mono hb7.size)
    clear hb78 hb7 s2 s5
    go_wp2_with fail
    refine (told_yes s3 s6 F6.out).mono ?_; rintro e w9 ⟨rfl, hb89⟩
    have hb9 := kb.trans ((hb8.trans (hb89.mono hb8.size)).mono kb.size)
    go_wp2
    go_ret
    exact ⟨rfl, hb9⟩
  · rcases (show n < 0 ∨ (0 ≤ n ∧ n < 1) ∨ (1 ≤ n ∧ n ≤ 60) ∨ (1 ≤ n ∧ 60 < n ∧ n ≤ 1000000) ∨ (1 ≤ n ∧ 60 < n ∧ 1000000 < n) by omega) with n1 | ⟨n1, n2⟩ | ⟨n1, n2⟩ | ⟨n1, n2, n3⟩ | ⟨n1, n2, n3⟩
    · have g1 : decide (n ≤ 60) = true := by simp; omega
      obtain rfl : o1 = false := Bool.eq_false_iff.2 fun hh => by have := ho1.1 hh; omega
      obtain rfl : o2 = false := Bool.eq_false_iff.2 fun hh => by have := ho2.1 hh; omega
      obtain rfl : o3 = false := Bool.eq_false_iff.2 fun hh => by have := ho3.1 hh; omega
      have HO1 := Lib.hid (show OkIff _ r (n < 0 ∨ 1000000 < n) from ho1); have HO2 := Lib.hid (show OkIff _ r (n < 0 ∨ 60 < n) from ho2); have HO3 := Lib.hid (show OkIff _ r (n < 1 ∨ 60 < n) from ho3)
      clear ho1 ho2 ho3
      go_enter Try.func7, Try.ntmps7
      go_wp2_with fail
      generalize ((w.alloc (.cells #[.int .i64 r] 3)).alloc (.cells #[.int .i64 n] 3)) = W at *
      have K1 := Lib.hid k1; have K2 := Lib.hid k2
      refine (shape_Bucket (w := W)).mono ?_; rintro e w1 ⟨p1, n1, c1, L1, e1, rfl, oo1, hb1, hF1⟩
      have F1 := Lib.hid hF1
      have s1 := oo1.si
      clear oo1 hF1
      have c1' := (bdeep hb1 (show w.heap.size < W.heap.size by omega) 0).trans K1.out
      have c2' := (bdeep hb1 (show w.heap.size + 1 < W.heap.size by omega) 0).trans K2.out
      clear k1 k2
      go_wp2_with fail
      refine (shape_Line (w := w1)).mono ?_; rintro e w2 ⟨p2, n2, c2, L2, e2, rfl, oo2, hb12, hF2⟩
      have F2 := Lib.hid hF2
      have s2 := oo2.si
      have s1 := s1.below hb12
      have hb2 := hb1.trans (hb12.mono hb1.size)
      clear oo2 hF2 hb12 hb1 c1' c2'
      have c1' := (bdeep hb2 (show w.heap.size < W.heap.size by omega) 0).trans K1.out
      have c2' := (bdeep hb2 (show w.heap.size + 1 < W.heap.size by omega) 0).trans K2.out
      go_wp2_with fail
      refine (shape_Stair (w := w2)).mono ?_; rintro e w3 ⟨p3, n3, c3, L3, e3, rfl, oo3, hb23, hF3⟩
      have F3 := Lib.hid hF3
      have s3 := oo3.si
      have s1 := s1.below hb23
      have s2 := s2.below hb23
      have hb3 := hb2.trans (hb23.mono hb2.size)
      clear oo3 hF3 hb23 hb2 c1' c2'
      have c1' := (bdeep hb3 (show w.heap.size < W.heap.size by omega) 0).trans K1.out
      have c2' := (bdeep hb3 (show w.heap.size + 1 < W.heap.size by omega) 0).trans K2.out
      go_wp2_with fail
      refine (law_made (w := w3) (op := lawB r n) HO1.out (fun args w => by simp [callFunc, Try.func37, Try.f37, go_sem]) fun hz w' t ht hb => ?_).mono ?_
      · have hh := shErr_ok hz
        exact shapeSays1 ht hh.2.2.1 hh.2.2.2.1 (by omega) (by omega) ((bdeep (hb3.trans (hb.mono hb3.size)) (show w.heap.size + 1 < W.heap.size by omega) 0).trans K2.out) ((bdeep (hb3.trans (hb.mono hb3.size)) (show w.heap.size < W.heap.size by omega) 0).trans K1.out)
      rintro e w4 ⟨p4, n4, c4, L4, e4, rfl, oo4, hb34, hF4⟩
      have F4 := Lib.hid (made_fit F1.out hF4 fun _ => tab_congr fun j _ => lawB_same r n j)
      have s4 := oo4.si
      have s1 := s1.below hb34
      have s2 := s2.below hb34
      have s3 := s3.below hb34
      have hb4 := hb3.trans (hb34.mono hb3.size)
      clear oo4 hF4 hb34 hb3 c1' c2'
      have c1' := (bdeep hb4 (show w.heap.size < W.heap.size by omega) 0).trans K1.out
      have c2' := (bdeep hb4 (show w.heap.size + 1 < W.heap.size by omega) 0).trans K2.out
      go_wp2_with fail
      refine (law_made (w := w4) (op := lawL r n) HO2.out (fun args w => by simp [callFunc, Try.func38, Try.f38, go_sem]) fun hz w' t ht hb => ?_).mono ?_
      · have hh := shErr_ok hz
        exact shapeSays2 ht hh.2.2.1 hh.2.2.2.1 (by omega) (by omega) ((bdeep (hb4.trans (hb.mono hb4.size)) (show w.heap.size < W.heap.size by omega) 0).trans K1.out) ((bdeep (hb4.trans (hb.mono hb4.size)) (show w.heap.size + 1 < W.heap.size by omega) 0).trans K2.out)
      rintro e w5 ⟨p5, n5, c5, L5, e5, rfl, oo5, hb45, hF5⟩
      have F5 := Lib.hid (made_fit F2.out hF5 fun hz => tab_congr fun j _ => lawL_same (shErr_ok hz).2.2.1 j)
      have s5 := oo5.si
      have s1 := s1.below hb45
      have s2 := s2.below hb45
      have s3 := s3.below hb45
      have s4 := s4.below hb45
      have hb5 := hb4.trans (hb45.mono hb4.size)
      clear oo5 hF5 hb45 hb4 c1' c2'
      have c1' := (bdeep hb5 (show w.heap.size < W.heap.size by omega) 0).trans K1.out
      have c2' := (bdeep hb5 (show w.heap.size + 1 < W.heap.size by omega) 0).trans K2.out
      go_wp2_with fail
      refine (law_made (w := w5) (op := lawS r n) HO3.out (fun args w => by simp [callFunc, Try.func39, Try.f39, go_sem]) fun hz w' t ht hb => ?_).mono ?_
      · have hh := shErr_ok hz
        exact shapeSays3 ht hh.2.2.1 hh.2.2.2.1 (by omega) (by omega) ((bdeep (hb5.trans (hb.mono hb5.size)) (show w.heap.size + 1 < W.heap.size by omega) 0).trans K2.out) ((bdeep (hb5.trans (hb.mono hb5.size)) (show w.heap.size < W.heap.size by omega) 0).trans K1.out)
      rintro e w6 ⟨p6, n6, c6, L6, e6, rfl, oo6, hb56, hF6⟩
      have F6 := Lib.hid (made_fit F3.out hF6 fun _ => rfl)
      have s6 := oo6.si
      have s1 := s1.below hb56
      have s2 := s2.below hb56
      have s3 := s3.below hb56
      have s4 := s4.below hb56
      have s5 := s5.below hb56
      have hb6 := hb5.trans (hb56.mono hb5.size)
      clear oo6 hF6 hb56 hb5 c1' c2'
      go_wp2_with fail
      refine (told_yes s1 s4 F4.out).mono ?_; rintro e w7 ⟨rfl, hb67⟩
      have s2 := s2.below hb67
      have s3 := s3.below hb67
      have s5 := s5.below hb67
      have s6 := s6.below hb67
      have hb7 := hb6.trans (hb67.mono hb6.size)
      clear hb67 hb6 s1 s4
      go_wp2_with fail
      refine (told_yes s2 s5 F5.out).mono ?_; rintro e w8 ⟨rfl, hb78⟩
      have s3 := s3.below hb78
      have s6 := s6.below hb78
      have hb8 := hb7.trans (hb78.mono hb7.size)
      clear hb78 hb7 s2 s5
      go_wp2_with fail
      refine (told_yes s3 s6 F6.out).mono ?_; rintro e w9 ⟨rfl, hb89⟩
      have hb9 := kb.trans ((hb8.trans (hb89.mono hb8.size)).mono kb.size)
      go_wp2
      go_ret
      exact ⟨rfl, hb9⟩
    · have g1 : decide (n ≤ 60) = true := by simp; omega
      have g2 : decide (n ≤ 1000000) = true := by simp; omega
      obtain rfl : o1 = true := ho1.2 ⟨by omega, by omega, by omega⟩
      obtain rfl : o2 = true := ho2.2 ⟨by omega, by omega, by omega⟩
      obtain rfl : o3 = false := Bool.eq_false_iff.2 fun hh => by have := ho3.1 hh; omega
      have HO1 := Lib.hid (show OkIff _ r (n < 0 ∨ 1000000 < n) from ho1); have HO2 := Lib.hid (show OkIff _ r (n < 0 ∨ 60 < n) from ho2); have HO3 := Lib.hid (show OkIff _ r (n < 1 ∨ 60 < n) from ho3)
      clear ho1 ho2 ho3
      go_enter Try.func7, Try.ntmps7
      go_wp2_with fail
      generalize ((w.alloc (.cells #[.int .i64 r] 3)).alloc (.cells #[.int .i64 n] 3)) = W at *
      have K1 := Lib.hid k1; have K2 := Lib.hid k2
      refine (shape_Bucket (w := W)).mono ?_; rintro e w1 ⟨p1, n1, c1, L1, e1, rfl, oo1, hb1, hF1⟩
      have F1 := Lib.hid hF1
      have s1 := oo1.si
      clear oo1 hF1
      have c1' := (bdeep hb1 (show w.heap.size < W.heap.size by omega) 0).trans K1.out
      have c2' := (bdeep hb1 (show w.heap.size + 1 < W.heap.size by omega) 0).trans K2.out
      clear k1 k2
      go_wp2_with fail
      refine (shape_Line (w := w1)).mono ?_; rintro e w2 ⟨p2, n2, c2, L2, e2, rfl, oo2, hb12, hF2⟩
      have F2 := Lib.hid hF2
      have s2 := oo2.si
      have s1 := s1.below hb12
      have hb2 := hb1.trans (hb12.mono hb1.size)
      clear oo2 hF2 hb12 hb1 c1' c2'
      have c1' := (bdeep hb2 (show w.heap.size < W.heap.size by omega) 0).trans K1.out
      have c2' := (bdeep hb2 (show w.heap.size + 1 < W.heap.size by omega) 0).trans K2.out
      go_wp2_with fail
      refine (shape_Stair (w := w2)).mono ?_; rintro e w3 ⟨p3, n3, c3, L3, e3, rfl, oo3, hb23, hF3⟩
      have F3 := Lib.hid hF3
      have s3 := oo3.si
      have s1 := s1.below hb23
      have s2 := s2.below hb23
      have hb3 := hb2.trans (hb23.mono hb2.size)
      clear oo3 hF3 hb23 hb2 c1' c2'
      have c1' := (bdeep hb3 (show w.heap.size < W.heap.size by omega) 0).trans K1.out
      have c2' := (bdeep hb3 (show w.heap.size + 1 < W.heap.size by omega) 0).trans K2.out
      go_wp2_with fail
      refine (law_made (w := w3) (op := lawB r n) HO1.out (fun args w => by simp [callFunc, Try.func37, Try.f37, go_sem]) fun hz w' t ht hb => ?_).mono ?_
      · have hh := shErr_ok hz
        exact shapeSays1 ht hh.2.2.1 hh.2.2.2.1 (by omega) (by omega) ((bdeep (hb3.trans (hb.mono hb3.size)) (show w.heap.size + 1 < W.heap.size by omega) 0).trans K2.out) ((bdeep (hb3.trans (hb.mono hb3.size)) (show w.heap.size < W.heap.size by omega) 0).trans K1.out)
      rintro e w4 ⟨p4, n4, c4, L4, e4, rfl, oo4, hb34, hF4⟩
      have F4 := Lib.hid (made_fit F1.out hF4 fun _ => tab_congr fun j _ => lawB_same r n j)
      have s4 := oo4.si
      have s1 := s1.below hb34
      have s2 := s2.below hb34
      have s3 := s3.below hb34
      have hb4 := hb3.trans (hb34.mono hb3.size)
      clear oo4 hF4 hb34 hb3 c1' c2'
      have c1' := (bdeep hb4 (show w.heap.size < W.heap.size by omega) 0).trans K1.out
      have c2' := (bdeep hb4 (show w.heap.size + 1 < W.heap.size by omega) 0).trans K2.out
      go_wp2_with fail
      refine (law_made (w := w4) (op := lawL r n) HO2.out (fun args w => by simp [callFunc, Try.func38, Try.f38, go_sem]) fun hz w' t ht hb => ?_).mono ?_
      · have hh := shErr_ok hz
        exact shapeSays2 ht hh.2.2.1 hh.2.2.2.1 (by omega) (by omega) ((bdeep (hb4.trans (hb.mono hb4.size)) (show w.heap.size < W.heap.size by omega) 0).trans K1.out) ((bdeep (hb4.trans (hb.mono hb4.size)) (show w.heap.size + 1 < W.heap.size by omega) 0).trans K2.out)
      rintro e w5 ⟨p5, n5, c5, L5, e5, rfl, oo5, hb45, hF5⟩
      have F5 := Lib.hid (made_fit F2.out hF5 fun hz => tab_congr fun j _ => lawL_same (shErr_ok hz).2.2.1 j)
      have s5 := oo5.si
      have s1 := s1.below hb45
      have s2 := s2.below hb45
      have s3 := s3.below hb45
      have s4 := s4.below hb45
      have hb5 := hb4.trans (hb45.mono hb4.size)
      clear oo5 hF5 hb45 hb4 c1' c2'
      have c1' := (bdeep hb5 (show w.heap.size < W.heap.size by omega) 0).trans K1.out
      have c2' := (bdeep hb5 (show w.heap.size + 1 < W.heap.size by omega) 0).trans K2.out
      go_wp2_with fail
      refine (law_made (w := w5) (op := lawS r n) HO3.out (fun args w => by simp [callFunc, Try.func39, Try.f39, go_sem]) fun hz w' t ht hb => ?_).mono ?_
      · have hh := shErr_ok hz
        exact shapeSays3 ht hh.2.2.1 hh.2.2.2.1 (by omega) (by omega) ((bdeep (hb5.trans (hb.mono hb5.size)) (show w.heap.size + 1 < W.heap.size by omega) 0).trans K2.out) ((bdeep (hb5.trans (hb.mono hb5.size)) (show w.heap.size < W.heap.size by omega) 0).trans K1.out)
      rintro e w6 ⟨p6, n6, c6, L6, e6, rfl, oo6, hb56, hF6⟩
      have F6 := Lib.hid (made_fit F3.out hF6 fun _ => rfl)
      have s6 := oo6.si
      have s1 := s1.below hb56
      have s2 := s2.below hb56
      have s3 := s3.below hb56
      have s4 := s4.below hb56
      have s5 := s5.below hb56
      have hb6 := hb5.trans (hb56.mono hb5.size)
      clear oo6 hF6 hb56 hb5 c1' c2'
      go_wp2_with fail
      refine (told_yes s1 s4 F4.out).mono ?_; rintro e w7 ⟨rfl, hb67⟩
      have s2 := s2.below hb67
      have s3 := s3.below hb67
      have s5 := s5.below hb67
      have s6 := s6.below hb67
      have hb7 := hb6.trans (hb67.mono hb6.size)
      clear hb67 hb6 s1 s4
      go_wp2_with fail
      refine (told_yes s2 s5 F5.out).mono ?_; rintro e w8 ⟨rfl, hb78⟩
      have s3 := s3.below hb78
      have s6 := s6.below hb78
      have hb8 := hb7.trans (hb78.mono hb7.size)
      clear hb78 hb7 s2 s5
      go_wp2_with fail
      refine (told_yes s3 s6 F6.out).mono ?_; rintro e w9 ⟨rfl, hb89⟩
      have hb9 := kb.trans ((hb8.trans (hb89.mono hb8.size)).mono kb.size)
      go_wp2
      go_ret
      exact ⟨rfl, hb9⟩
    · have g0 : 0 ≤ n := by omega
      have g1 : decide (n ≤ 60) = true := by simp; omega
      have g2 : decide (n ≤ 1000000) = true := by simp; omega
      obtain rfl : o1 = true := ho1.2 ⟨by omega, by omega, by omega⟩
      obtain rfl : o2 = true := ho2.2 ⟨by omega, by omega, by omega⟩
      obtain rfl : o3 = true := ho3.2 ⟨by omega, by omega, by omega⟩
      have HO1 := Lib.hid (show OkIff _ r (n < 0 ∨ 1000000 < n) from ho1); have HO2 := Lib.hid (show OkIff _ r (n < 0 ∨ 60 < n) from ho2); have HO3 := Lib.hid (show OkIff _ r (n < 1 ∨ 60 < n) from ho3)
      clear ho1 ho2 ho3
      go_enter Try.func7, Try.ntmps7
      go_wp2_with fail
      generalize ((w.alloc (.cells #[.int .i64 r] 3)).alloc (.cells #[.int .i64 n] 3)) = W at *
      have K1 := Lib.hid k1; have K2 := Lib.hid k2
      refine (shape_Bucket (w := W)).mono ?_; rintro e w1 ⟨p1, n1, c1, L1, e1, rfl, oo1, hb1, hF1⟩
      have F1 := Lib.hid hF1
      have s1 := oo1.si
      clear oo1 hF1
      have c1' := (bdeep hb1 (show w.heap.size < W.heap.size by omega) 0).trans K1.out
      have c2' := (bdeep hb1 (show w.heap.size + 1 < W.heap.size by omega) 0).trans K2.out
      clear k1 k2
      go_wp2_with fail
      refine (shape_Line (w := w1)).mono ?_; rintro e w2 ⟨p2, n2, c2, L2, e2, rfl, oo2, hb12, hF2⟩
      have F2 := Lib.hid hF2
      have s2 := oo2.si
      have s1 := s1.below hb12
      have hb2 := hb1.trans (hb12.mono hb1.size)
      clear oo2 hF2 hb12 hb1 c1' c2'
      have c1' := (bdeep hb2 (show w.heap.size < W.heap.size by omega) 0).trans K1.out
      have c2' := (bdeep hb2 (show w.heap.size + 1 < W.heap.size by omega) 0).trans K2.out
      go_wp2_with fail
      refine (shape_Stair (w := w2)).mono ?_; rintro e w3 ⟨p3, n3, c3, L3, e3, rfl, oo3, hb23, hF3⟩
      have F3 := Lib.hid hF3
      have s3 := oo3.si
      have s1 := s1.below hb23
      have s2 := s2.below hb23
      have hb3 := hb2.trans (hb23.mono hb2.size)
      clear oo3 hF3 hb23 hb2 c1' c2'
      have c1' := (bdeep hb3 (show w.heap.size < W.heap.size by omega) 0).trans K1.out
      have c2' := (bdeep hb3 (show w.heap.size + 1 < W.heap.size by omega) 0).trans K2.out
      go_wp2_with fail
      refine (law_made (w := w3) (op := lawB r n) HO1.out (fun args w => by simp [callFunc, Try.func37, Try.f37, go_sem]) fun hz w' t ht hb => ?_).mono ?_
      · have hh := shErr_ok hz
        exact shapeSays1 ht hh.2.2.1 hh.2.2.2.1 (by omega) (by omega) ((bdeep (hb3.trans (hb.mono hb3.size)) (show w.heap.size + 1 < W.heap.size by omega) 0).trans K2.out) ((bdeep (hb3.trans (hb.mono hb3.size)) (show w.heap.size < W.heap.size by omega) 0).trans K1.out)
      rintro e w4 ⟨p4, n4, c4, L4, e4, rfl, oo4, hb34, hF4⟩
      have F4 := Lib.hid (made_fit F1.out hF4 fun _ => tab_congr fun j _ => lawB_same r n j)
      have s4 := oo4.si
      have s1 := s1.below hb34
      have s2 := s2.below hb34
      have s3 := s3.below hb34
      have hb4 := hb3.trans (hb34.mono hb3.size)
      clear oo4 hF4 hb34 hb3 c1' c2'
      have c1' := (bdeep hb4 (show w.heap.size < W.heap.size by omega) 0).trans K1.out
      have c2' := (bdeep hb4 (show w.heap.size + 1 < W.heap.size by omega) 0).trans K2.out
      go_wp2_with fail
      refine (law_made (w := w4) (op := lawL r n) HO2.out (fun args w => by simp [callFunc, Try.func38, Try.f38, go_sem]) fun hz w' t ht hb => ?_).mono ?_
      · have hh := shErr_ok hz
        exact shapeSays2 ht hh.2.2.1 hh.2.2.2.1 (by omega) (by omega) ((bdeep (hb4.trans (hb.mono hb4.size)) (show w.heap.size < W.heap.size by omega) 0).trans K1.out) ((bdeep (hb4.trans (hb.mono hb4.size)) (show w.heap.size + 1 < W.heap.size by omega) 0).trans K2.out)
      rintro e w5 ⟨p5, n5, c5, L5, e5, rfl, oo5, hb45, hF5⟩
      have F5 := Lib.hid (made_fit F2.out hF5 fun hz => tab_congr fun j _ => lawL_same (shErr_ok hz).2.2.1 j)
      have s5 := oo5.si
      have s1 := s1.below hb45
      have s2 := s2.below hb45
      have s3 := s3.below hb45
      have s4 := s4.below hb45
      have hb5 := hb4.trans (hb45.mono hb4.size)
      clear oo5 hF5 hb45 hb4 c1' c2'
      have c1' := (bdeep hb5 (show w.heap.size < W.heap.size by omega) 0).trans K1.out
      have c2' := (bdeep hb5 (show w.heap.size + 1 < W.heap.size by omega) 0).trans K2.out
      go_wp2_with fail
      refine (law_made (w := w5) (op := lawS r n) HO3.out (fun args w => by simp [callFunc, Try.func39, Try.f39, go_sem]) fun hz w' t ht hb => ?_).mono ?_
      · have hh := shErr_ok hz
        exact shapeSays3 ht hh.2.2.1 hh.2.2.2.1 (by omega) (by omega) ((bdeep (hb5.trans (hb.mono hb5.size)) (show w.heap.size + 1 < W.heap.size by omega) 0).trans K2.out) ((bdeep (hb5.trans (hb.mono hb5.size)) (show w.heap.size < W.heap.size by omega) 0).trans K1.out)
      rintro e w6 ⟨p6, n6, c6, L6, e6, rfl, oo6, hb56, hF6⟩
      have F6 := Lib.hid (made_fit F3.out hF6 fun _ => rfl)
      have s6 := oo6.si
      have s1 := s1.below hb56
      have s2 := s2.below hb56
      have s3 := s3.below hb56
      have s4 := s4.below hb56
      have s5 := s5.below hb56
      have hb6 := hb5.trans (hb56.mono hb5.size)
      clear oo6 hF6 hb56 hb5 c1' c2'
      go_wp2_with fail
      refine (told_yes s1 s4 F4.out).mono ?_; rintro e w7 ⟨rfl, hb67⟩
      have s2 := s2.below hb67
      have s3 := s3.below hb67
      have s5 := s5.below hb67
      have s6 := s6.below hb67
      have hb7 := hb6.trans (hb67.mono hb6.size)
      clear hb67 hb6 s1 s4
      go_wp2_with fail
      refine (told_yes s2 s5 F5.out).mono ?_; rintro e w8 ⟨rfl, hb78⟩
      have s3 := s3.below hb78
      have s6 := s6.below hb78
      have hb8 := hb7.trans (hb78.mono hb7.size)
      clear hb78 hb7 s2 s5
      go_wp2_with fail
      refine (told_yes s3 s6 F6.out).mono ?_; rintro e w9 ⟨rfl, hb89⟩
      have hb9 := kb.trans ((hb8.trans (hb89.mono hb8.size)).mono kb.size)
      go_wp2
      go_ret
      exact ⟨rfl, hb9⟩
    · have g0 : 0 ≤ n := by omega
      have g1 : decide (n ≤ 60) = false := by simp; omega
      have g2 : decide (n ≤ 1000000) = true := by simp; omega
      obtain rfl : o1 = true := ho1.2 ⟨by omega, by omega, by omega⟩
      obtain rfl : o2 = false := Bool.eq_false_iff.2 fun hh => by have := ho2.1 hh; omega
      obtain rfl : o3 = false := Bool.eq_false_iff.2 fun hh => by have := ho3.1 hh; omega
      have HO1 := Lib.hid (show OkIff _ r (n < 0 ∨ 1000000 < n) from ho1); have HO2 := Lib.hid (show OkIff _ r (n < 0 ∨ 60 < n) from ho2); have HO3 := Lib.hid (show OkIff _ r (n < 1 ∨ 60 < n) from ho3)
      clear ho1 ho2 ho3
      go_enter Try.func7, Try.ntmps7
      go_wp2_with fail
      generalize ((w.alloc (.cells #[.int .i64 r] 3)).alloc (.cells #[.int .i64 n] 3)) = W at *
      have K1 := Lib.hid k1; have K2 := Lib.hid k2
      refine (shape_Bucket (w := W)).mono ?_; rintro e w1 ⟨p1, n1, c1, L1, e1, rfl, oo1, hb1, hF1⟩
      have F1 := Lib.hid hF1
      have s1 := oo1.si
      clear oo1 hF1
      have c1' := (bdeep hb1 (show w.heap.size < W.heap.size by omega) 0).trans K1.out
      have c2' := (bdeep hb1 (show w.heap.size + 1 < W.heap.size by omega) 0).trans K2.out
      clear k1 k2
      go_wp2_with fail
      refine (shape_Line (w := w1)).mono ?_; rintro e w2 ⟨p2, n2, c2, L2, e2, rfl, oo2, hb12, hF2⟩
      have F2 := Lib.hid hF2
      have s2 := oo2.si
      have s1 := s1.below hb12
      have hb2 := hb1.trans (hb12.mono hb1.size)
      clear oo2 hF2 hb12 hb1 c1' c2'
      have c1' := (bdeep hb2 (show w.heap.size < W.heap.size by omega) 0).trans K1.out
      have c2' := (bdeep hb2 (show w.heap.size + 1 < W.heap.size by omega) 0).trans K2.out
      go_wp2_with fail
      refine (shape_Stair (w := w2)).mono ?_; rintro e w3 ⟨p3, n3, c3, L3, e3, rfl, oo3, hb23, hF3⟩
      have F3 := Lib.hid hF3
      have s3 := oo3.si
      have s1 := s1.below hb23
      have s2 := s2.below hb23
      have hb3 := hb2.trans (hb23.mono hb2.size)
      clear oo3 hF3 hb23 hb2 c1' c2'
      have c1' := (bdeep hb3 (show w.heap.size < W.heap.size by omega) 0).trans K1.out
      have c2' := (bdeep hb3 (show w.heap.size + 1 < W.heap.size by omega) 0).trans K2.out
      go_wp2_with fail
      refine (law_made (w := w3) (op := lawB r n) HO1.out (fun args w => by simp [callFunc, Try.func37, Try.f37, go_sem]) fun hz w' t ht hb => ?_).mono ?_
      · have hh := shErr_ok hz
        exact shapeSays1 ht hh.2.2.1 hh.2.2.2.1 (by omega) (by omega) ((bdeep (hb3.trans (hb.mono hb3.size)) (show w.heap.size + 1 < W.heap.size by omega) 0).trans K2.out) ((bdeep (hb3.trans (hb.mono hb3.size)) (show w.heap.size < W.heap.size by omega) 0).trans K1.out)
      rintro e w4 ⟨p4, n4, c4, L4, e4, rfl, oo4, hb34, hF4⟩
      have F4 := Lib.hid (made_fit F1.out hF4 fun _ => tab_congr fun j _ => lawB_same r n j)
      have s4 := oo4.si
      have s1 := s1.below hb34
      have s2 := s2.below hb34
      have s3 := s3.below hb34
      have hb4 := hb3.trans (hb34.mono hb3.size)
      clear oo4 hF4 hb34 hb3 c1' c2'
      have c1' := (bdeep hb4 (show w.heap.size < W.heap.size by omega) 0).trans K1.out
      have c2' := (bdeep hb4 (show w.heap.size + 1 < W.heap.size by omega) 0).trans K2.out
      go_wp2_with fail
      refine (law_made (w := w4) (op := lawL r n) HO2.out (fun args w => by simp [callFunc, Try.func38, Try.f38, go_sem]) fun hz w' t ht hb => ?_).mono ?_
      · have hh := shErr_ok hz
        exact shapeSays2 ht hh.2.2.1 hh.2.2.2.1 (by omega) (by omega) ((bdeep (hb4.trans (hb.mono hb4.size)) (show w.heap.size < W.heap.size by omega) 0).trans K1.out) ((bdeep (hb4.trans (hb.mono hb4.size)) (show w.heap.size + 1 < W.heap.size by omega) 0).trans K2.out)
      rintro e w5 ⟨p5, n5, c5, L5, e5, rfl, oo5, hb45, hF5⟩
      have F5 := Lib.hid (made_fit F2.out hF5 fun hz => tab_congr fun j _ => lawL_same (shErr_ok hz).2.2.1 j)
      have s5 := oo5.si
      have s1 := s1.below hb45
      have s2 := s2.below hb45
      have s3 := s3.below hb45
      have s4 := s4.below hb45
      have hb5 := hb4.trans (hb45.mono hb4.size)
      clear oo5 hF5 hb45 hb4 c1' c2'
      have c1' := (bdeep hb5 (show w.heap.size < W.heap.size by omega) 0).trans K1.out
      have c2' := (bdeep hb5 (show w.heap.size + 1 < W.heap.size by omega) 0).trans K2.out
      go_wp2_with fail
      refine (law_made (w := w5) (op := lawS r n) HO3.out (fun args w => by simp [callFunc, Try.func39, Try.f39, go_sem]) fun hz w' t ht hb => ?_).mono ?_
      · have hh := shErr_ok hz
        exact shapeSays3 ht hh.2.2.1 hh.2.2.2.1 (by omega) (by omega) ((bdeep (hb5.trans (hb.mono hb5.size)) (show w.heap.size + 1 < W.heap.size by omega) 0).trans K2.out) ((bdeep (hb5.trans (hb.mono hb5.size)) (show w.heap.size < W.heap.size by omega) 0).trans K1.out)
      rintro e w6 ⟨p6, n6, c6, L6, e6, rfl, oo6, hb56, hF6⟩
      have F6 := Lib.hid (made_fit F3.out hF6 fun _ => rfl)
      have s6 := oo6.si
      have s1 := s1.below hb56
      have s2 := s2.below hb56
      have s3 := s3.below hb56
      have s4 := s4.below hb56
      have s5 := s5.below hb56
      have hb6 := hb5.trans (hb56.mono hb5.size)
      clear oo6 hF6 hb56 hb5 c1' c2'
      go_wp2_with fail
      refine (told_yes s1 s4 F4.out).mono ?_; rintro e w7 ⟨rfl, hb67⟩
      have s2 := s2.below hb67
      have s3 := s3.below hb67
      have s5 := s5.below hb67
      have s6 := s6.below hb67
      have hb7 := hb6.trans (hb67.mono hb6.size)
      clear hb67 hb6 s1 s4
      go_wp2_with fail
      refine (told_yes s2 s5 F5.out).mono ?_; rintro e w8 ⟨rfl, hb78⟩
      have s3 := s3.below hb78
      have s6 := s6.below hb78
      have hb8 := hb7.trans (hb78.mono hb7.size)
      clear hb78 hb7 s2 s5
      go_wp2_with fail
      refine (told_yes s3 s6 F6.out).mono ?_; rintro e w9 ⟨rfl, hb89⟩
      have hb9 := kb.trans ((hb8.trans (hb89.mono hb8.size)).mono kb.size)
      go_wp2
      go_ret
      exact ⟨rfl, hb9⟩
    · have g0 : 0 ≤ n := by omega
      have g1 : decide (n ≤ 60) = false := by simp; omega
      have g2 : decide (n ≤ 1000000) = false := by simp; omega
      obtain rfl : o1 = false := Bool.eq_false_iff.2 fun hh => by have := ho1.1 hh; omega
      obtain rfl : o2 = false := Bool.eq_false_iff.2 fun hh => by have := ho2.1 hh; omega
      obtain rfl : o3 = false := Bool.eq_false_iff.2 fun hh => by have := ho3.1 hh; omega
      have HO1 := Lib.hid (show OkIff _ r (n < 0 ∨ 1000000 < n) from ho1); have HO2 := Lib.hid (show OkIff _ r (n < 0 ∨ 60 < n) from ho2); have HO3 := Lib.hid (show OkIff _ r (n < 1 ∨ 60 < n) from ho3)
      clear ho1 ho2 ho3
      go_enter Try.func7, Try.ntmps7
      go_wp2_with fail
      generalize ((w.alloc (.cells #[.int .i64 r] 3)).alloc (.cells #[.int .i64 n] 3)) = W at *
      have K1 := Lib.hid k1; have K2 := Lib.hid k2
      refine (shape_Bucket (w := W)).mono ?_; rintro e w1 ⟨p1, n1, c1, L1, e1, rfl, oo1, hb1, hF1⟩
      have F1 := Lib.hid hF1
      have s1 := oo1.si
      clear oo1 hF1
      have c1' := (bdeep hb1 (show w.heap.size < W.heap.size by omega) 0).trans K1.out
      have c2' := (bdeep hb1 (show w.heap.size + 1 < W.heap.size by omega) 0).trans K2.out
      clear k1 k2
      go_wp2_with fail
      refine (shape_Line (w := w1)).mono ?_; rintro e w2 ⟨p2, n2, c2, L2, e2, rfl, oo2, hb12, hF2⟩
      have F2 := Lib.hid hF2
      have s2 := oo2.si
      have s1 := s1.below hb12
      have hb2 := hb1.trans (hb12.mono hb1.size)
      clear oo2 hF2 hb12 hb1 c1' c2'
      have c1' := (bdeep hb2 (show w.heap.size < W.heap.size by omega) 0).trans K1.out
      have c2' := (bdeep hb2 (show w.heap.size + 1 < W.heap.size by omega) 0).trans K2.out
      go_wp2_with fail
      refine (shape_Stair (w := w2)).mono ?_; rintro e w3 ⟨p3, n3, c3, L3, e3, rfl, oo3, hb23, hF3⟩
      have F3 := Lib.hid hF3
      have s3 := oo3.si
      have s1 := s1.below hb23
      have s2 := s2.below hb23
      have hb3 := hb2.trans (hb23.mono hb2.size)
      clear oo3 hF3 hb23 hb2 c1' c2'
      have c1' := (bdeep hb3 (show w.heap.size < W.heap.size by omega) 0).trans K1.out
      have c2' := (bdeep hb3 (show w.heap.size + 1 < W.heap.size by omega) 0).trans K2.out
      go_wp2_with fail
      refine (law_made (w := w3) (op := lawB r n) HO1.out (fun args w => by simp [callFunc, Try.func37, Try.f37, go_sem]) fun hz w' t ht hb => ?_).mono ?_
      · have hh := shErr_ok hz
        exact shapeSays1 ht hh.2.2.1 hh.2.2.2.1 (by omega) (by omega) ((bdeep (hb3.trans (hb.mono hb3.size)) (show w.heap.size + 1 < W.heap.size by omega) 0).trans K2.out) ((bdeep (hb3.trans (hb.mono hb3.size)) (show w.heap.size < W.heap.size by omega) 0).trans K1.out)
      rintro e w4 ⟨p4, n4, c4, L4, e4, rfl, oo4, hb34, hF4⟩
      have F4 := Lib.hid (made_fit F1.out hF4 fun _ => tab_congr fun j _ => lawB_same r n j)
      have s4 := oo4.si
      have s1 := s1.below hb34
      have s2 := s2.below hb34
      have s3 := s3.below hb34
      have hb4 := hb3.trans (hb34.mono hb3.size)
      clear oo4 hF4 hb34 hb3 c1' c2'
      have c1' := (bdeep hb4 (show w.heap.size < W.heap.size by omega) 0).trans K1.out
      have c2' := (bdeep hb4 (show w.heap.size + 1 < W.heap.size by omega) 0).trans K2.out
      go_wp2_with fail
      refine (law_made (w := w4) (op := lawL r n) HO2.out (fun args w => by simp [callFunc, Try.func38, Try.f38, go_sem]) fun hz w' t ht hb => ?_).mono ?_
      · have hh := shErr_ok hz
        exact shapeSays2 ht hh.2.2.1 hh.2.2.2.1 (by omega) (by omega) ((bdeep (hb4.trans (hb.mono hb4.size)) (show w.heap.size < W.heap.size by omega) 0).trans K1.out) ((bdeep (hb4.trans (hb.mono hb4.size)) (show w.heap.size + 1 < W.heap.size by omega) 0).trans K2.out)
      rintro e w5 ⟨p5, n5, c5, L5, e5, rfl, oo5, hb45, hF5⟩
      have F5 := Lib.hid (made_fit F2.out hF5 fun hz => tab_congr fun j _ => lawL_same (shErr_ok hz).2.2.1 j)
      have s5 := oo5.si
      have s1 := s1.below hb45
      have s2 := s2.below hb45
      have s3 := s3.below hb45
      have s4 := s4.below hb45
      have hb5 := hb4.trans (hb45.mono hb4.size)
      clear oo5 hF5 hb45 hb4 c1' c2'
      have c1' := (bdeep hb5 (show w.heap.size < W.heap.size by omega) 0).trans K1.out
      have c2' := (bdeep hb5 (show w.heap.size + 1 < W.heap.size by omega) 0).trans K2.out
      go_wp2_with fail
      refine (law_made (w := w5) (op := lawS r n) HO3.out (fun args w => by simp [callFunc, Try.func39, Try.f39, go_sem]) fun hz w' t ht hb => ?_).mono ?_
      · have hh := shErr_ok hz
        exact shapeSays3 ht hh.2.2.1 hh.2.2.2.1 (by omega) (by omega) ((bdeep (hb5.trans (hb.mono hb5.size)) (show w.heap.size + 1 < W.heap.size by omega) 0).trans K2.out) ((bdeep (hb5.trans (hb.mono hb5.size)) (show w.heap.size < W.heap.size by omega) 0).trans K1.out)
      rintro e w6 ⟨p6, n6, c6, L6, e6, rfl, oo6, hb56, hF6⟩
      have F6 := Lib.hid (made_fit F3.out hF6 fun _ => rfl)
      have s6 := oo6.si
      have s1 := s1.below hb56
      have s2 := s2.below hb56
      have s3 := s3.below hb56
      have s4 := s4.below hb56
      have s5 := s5.below hb56
      have hb6 := hb5.trans (hb56.mono hb5.size)
      clear oo6 hF6 hb56 hb5 c1' c2'
      go_wp2_with fail
      refine (told_yes s1 s4 F4.out).mono ?_; rintro e w7 ⟨rfl, hb67⟩
      have s2 := s2.below hb67
      have s3 := s3.below hb67
      have s5 := s5.below hb67
      have s6 := s6.below hb67
      have hb7 := hb6.trans (hb67.mono hb6.size)
      clear hb67 hb6 s1 s4
      go_wp2_with fail
      refine (told_yes s2 s5 F5.out).mono ?_; rintro e w8 ⟨rfl, hb78⟩
      have s3 := s3.below hb78
      have s6 := s6.below hb78
      have hb8 := hb7.trans (hb78.mono hb7.size)
      clear hb78 hb7 s2 s5
      go_wp2_with fail
      refine (told_yes s3 s6 F6.out).mono ?_; rintro e w9 ⟨rfl, hb89⟩
      have hb9 := kb.trans ((hb8.trans (hb89.mono hb8.size)).mono kb.size)
      go_wp2
      go_ret
      exact ⟨rfl, hb9⟩
end Go.Proofs.Ytjlfefaifeanmaa
