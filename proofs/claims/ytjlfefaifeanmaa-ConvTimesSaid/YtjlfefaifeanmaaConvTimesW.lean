/- The contracts of conv.Times and headref.Times, and the walk of headlaw.ConvTimes (P10): it returns true and changes nothing that was there. No conditions beyond what each theorem says. -/
import Derived.Test.YtjlfefaifeanmaaConvLaw
import Derived.Test.YtjlfefaifeanmaaClone
import Derived.Test.YtjlfefaifeanmaaTold
namespace Go.Proofs.Ytjlfefaifeanmaa
open Go Go.RowKit

def timesErr (xs : List Int) (k : Int) : Int := if curveErr xs ≠ 0 then curveErr xs else if k < 1 ∨ 60 < k then 1 else 0
theorem powL_bd2 {xs : List Int} {n : Nat} (hx : Curve xs n) {k : Nat} (hk : k ≤ 60) : ∀ j, j < n → 0 ≤ gi (powL xs k) j ∧ gi (powL xs k) j ≤ 100000000 := by
  intro j hj
  have := powL_bd hx.len hx.bd (k := k) (by omega) j hj
  omega

set_option maxHeartbeats 1000000 in
theorem conv_Times_bad {w : World} {p : Option Addr} {n c : Nat} {xs : List Int} {k : Int} (h : SI w p n c xs) {er : Int} (he : timesErr xs k = er) (h0 : er ≠ 0) :
    Calls Try.prog 15 #[.slice p n c, .int .i64 k] w fun e w' => e = .returned (.tuple #[.slice none 0 0, .int .i64 er]) ∧ w = w' := by
  obtain ⟨ec, hc⟩ : ∃ ec, curveErr xs = ec := ⟨_, rfl⟩
  by_cases h1 : ec = 0
  · subst h1
    have hk : k < 1 ∨ 60 < k := by
      apply Classical.byContradiction
      intro hk
      unfold timesErr at he
      rw [if_neg (by simp [hc]), if_neg hk] at he
      exact h0 he.symm
    obtain rfl : 1 = er := by rw [← he]; unfold timesErr; rw [if_neg (by simp [hc]), if_pos hk]
    have HC := Lib.hid hc; clear hc he h0
    rcases (show k < 1 ∨ (1 ≤ k ∧ 60 < k) by omega) with k1 | ⟨k1, k2⟩
    all_goals
      clear hk
      go_enter Try.func15, Try.ntmps15
      go_wp2_with fail
      refine (curve_Check h HC.out).mono ?_; rintro e w' ⟨rfl, rfl⟩
      go_wp2
      go_ret2
      exact ⟨rfl, rfl⟩
  · obtain rfl : ec = er := by rw [← he]; unfold timesErr; rw [if_pos (by rw [hc]; exact h1), hc]
    have hb := bne_false_of h0
    have HC := Lib.hid hc; clear hc he h1
    go_enter Try.func15, Try.ntmps15
    go_wp2_with fail
    refine (curve_Check h HC.out).mono ?_; rintro e w' ⟨rfl, rfl⟩
    go_wp2
    go_ret2
    exact ⟨rfl, rfl⟩

set_option maxHeartbeats 1600000 in
theorem conv_Times_ok {w : World} {p : Option Addr} {n c m : Nat} {xs : List Int} (h : SI w p n c xs) (hc0 : curveErr xs = 0) (hm1 : 1 ≤ m) (hm : m ≤ 60) :
    Calls Try.prog 15 #[.slice p n c, .int .i64 m] w (RetL w (FitOf 0 (powL xs (m - 1)))) := by
  have hx := curve_of hc0 h.1
  have hn61 := hx.le
  have hpos := hx.pos
  have hmm := h.2.1
  have HC := Lib.hid hc0; have HX := Lib.hid hx; clear hc0 hx
  have g1 : decide ((60 : Int) < (m : Int)) = false := by simp; omega
  go_enter Try.func15, Try.ntmps15
  go_wp2_with fail
  refine (curve_Check h HC.out).mono ?_; rintro e w' ⟨rfl, rfl⟩
  go_wp2_with (at_builtin; refine wpL_append_int Try.tyInts rfl rfl (B := w.heap.size) (W0 := w) (by first | rfl | simp [Act.eval]) (by first | rfl | simp [Act.eval]) (OwnI.nil w w.heap.size) h (Below.refl _ _) (by omega) (Nat.le_refl _) ?_; intro p1 c1 w1 ho1 hb1 hg1)
  simp only [Nat.zero_add, List.nil_append] at ho1 ⊢
  clear hg1
  go_wp2
  go_loopw [7, 23] (fun v i wr => ∃ (k : Nat) (q : Option Addr) (d : Nat), k ≤ m - 1 ∧ i = .int .i64 k ∧ v = .slice q n d ∧ OwnI wr w.heap.size q n d (powL xs k) ∧ Below w.heap.size w wr) (fun _ i _ => m - (intOf i).toNat)
  case atStart => exact ⟨0, _, _, Nat.zero_le _, rfl, rfl, by rw [powL_zero]; exact ho1, hb1⟩
  case round =>
    obtain ⟨k, q, d, hk, rfl, rfl, ho, hb⟩ := hrel
    clear ho1 hb1
    have hsz := hb.size
    by_cases hkn : k < m - 1
    · have g2 : (k : Int) < (m : Int) - 1 := by omega
      have hb2 := powL_bd2 HX.out (k := k) (by omega)
      have HBP := Lib.hid hb2; clear hb2
      have HST := Lib.hid (powL_step HX.out.len HX.out.bd (a := k) (by omega))
      have hy := h.below hb
      go_wp2_with fail
      refine (conv_plain ho.si hy hpos (by omega) (M := 100000000) (by omega) HBP.out (fun j hj => by have := HX.out.bd j hj; omega)).mono ?_; rintro e w2 ⟨p2, n2, c2, rfl, ho2, hb2⟩
      have hn2 := ho2.len
      rw [convL_len, powL_len, HX.out.len] at hn2
      subst hn2
      have hb3 := hb.trans (hb2.mono hsz)
      have ho3 := ho2.base hsz
      clear ho2 ho hy
      go_wp2
      go_roundw
      case rel => exact ⟨k + 1, _, _, by omega, by go_num, rfl, by rw [← HST.out]; exact ho3, hb3⟩
      case measure => simp [intOf]; omega
    · obtain rfl : k = m - 1 := by omega
      have g2 : ¬ ((m - 1 : Nat) : Int) < (m : Int) - 1 := by omega
      by_cases hf : fits (powL xs (m - 1))
      · have HF := Lib.hid hf; clear hf
        go_wp2_with fail
        refine (curve_Fit_ok ho.si HF.out).mono ?_; rintro e w' ⟨rfl, rfl⟩
        go_wp2
        go_ret2
        exact ⟨_, _, _, _, _, rfl, ho, hb, .inr (.inr ⟨rfl, HF.out, rfl, rfl⟩)⟩
      · have HF := Lib.hid hf; clear hf
        go_wp2_with fail
        refine (curve_Fit_big ho.si HF.out).mono ?_; rintro e w' ⟨rfl, rfl⟩
        go_wp2
        go_ret2
        exact ⟨_, _, _, [], _, rfl, OwnI.nil _ _, hb, .inr (.inl ⟨rfl, HF.out, rfl, rfl⟩)⟩

set_option maxHeartbeats 1600000 in
theorem ref_Times {xs : List Int} {n : Nat} (hx : Curve xs n) (m : Nat) : 1 ≤ m → m ≤ 60 → ∀ (w : World) (p : Option Addr) (c : Nat), SI w p n c xs →
    Calls Try.prog 18 #[.slice p n c, .int .i64 m] w (RetS w (powL xs (m - 1))) := by
  induction m using Nat.strongRecOn with
  | ind m ih =>
    intro hm1 hm w p c h
    have hn61 := hx.le
    have hpos := hx.pos
    have HX := Lib.hid hx; clear hx
    by_cases h1 : m = 1
    · subst h1
      go_enter Try.func18, Try.ntmps18
      go_wp2_with fail
      refine (slices_Clone h (by omega)).mono ?_; rintro e w1 ⟨p1, n1, c1, rfl, ho1, hb1⟩
      go_wp2
      go_ret
      exact ⟨_, _, _, rfl, by rw [powL_zero]; exact ho1, hb1⟩
    · have hz : ((m : Int) == 1) = false := by simp; omega
      obtain ⟨q2, hq2⟩ : ∃ q2, m / 2 = q2 := ⟨_, rfl⟩
      have hd : (m : Int) / 2 = (q2 : Int) := by omega
      have hd1 : 1 ≤ q2 := by omega
      have hd2 : q2 < m := by omega
      have hd3 : q2 * 2 ≤ m := by omega
      have hd4 : m % 2 = 1 → q2 - 1 + (q2 - 1) + 1 + 1 = m - 1 := by omega
      have hd5 : ¬ m % 2 = 1 → q2 - 1 + (q2 - 1) + 1 = m - 1 := by omega
      clear hq2
      have IH := Lib.hid (@ih (q2) hd2 hd1 (by omega)); clear ih
      have HADD := Lib.hid (powL_add HX.out.len HX.out.bd (a := q2 - 1) (b := q2 - 1) (by omega))
      have HB2 := Lib.hid (powL_bd2 HX.out (k := q2 - 1) (by omega))
      have HD4 := Lib.hid hd4; have HD5 := Lib.hid hd5; clear hd4 hd5
      go_enter Try.func18, Try.ntmps18
      go_wp2_with fail
      refine (IH.out _ _ _ h).mono ?_; rintro e w1 ⟨p1, n1, c1, rfl, ho1, hb1⟩
      have hn1 := ho1.len
      rw [powL_len, HX.out.len] at hn1
      subst hn1
      have s1 := ho1.si
      clear ho1
      go_wp2_with fail
      refine (ref_Conv s1 s1 hpos (by omega) (M := 100000000) (by omega) HB2.out HB2.out).mono ?_; rintro e w2 ⟨p2, n2, c2, rfl, ho2, hb12⟩
      have hb2 := hb1.trans (hb12.mono hb1.size)
      rw [HADD.out] at ho2
      have hn2 := ho2.len
      rw [powL_len, HX.out.len] at hn2
      subst hn2
      clear hb12
      by_cases hodd : m % 2 = 1
      · have hz2 : ((m : Int) % 2 == 1) = true := by simp; omega
        have HE := Lib.hid (HD4.out hodd)
        have HBO := Lib.hid (powL_bd2 HX.out (k := q2 - 1 + (q2 - 1) + 1) (by omega))
        have HST := Lib.hid (powL_step HX.out.len HX.out.bd (a := q2 - 1 + (q2 - 1) + 1) (by omega))
        have s2 := ho2.si
        have h2 := h.below hb2
        clear hodd ho2 hd hd3
        go_wp2_with fail
        refine (ref_Conv s2 h2 hpos (by omega) (M := 100000000) (by omega) HBO.out (fun j hj => by have := HX.out.bd j hj; omega)).mono ?_; rintro e w3 ⟨p3, n3, c3, rfl, ho3, hb23⟩
        have hb3 := hb2.trans (hb23.mono hb2.size)
        rw [HST.out, HE.out] at ho3
        have ho4 := ho3.base hb2.size
        go_wp2
        go_ret
        exact ⟨_, _, _, rfl, ho4, hb3⟩
      · have hz2 : ((m : Int) % 2 == 1) = false := by simp; omega
        have HE := Lib.hid (HD5.out hodd)
        rw [HE.out] at ho2
        have ho4 := ho2.base hb1.size
        clear hodd hd hd3
        go_wp2
        go_ret
        exact ⟨_, _, _, rfl, ho4, hb2⟩

set_option maxHeartbeats 1000000 in
theorem convTimes_walk {w : World} {p : Option Addr} {n c : Nat} {xs : List Int} (h : SI w p n c xs) {k : Int} (_ : -9223372036854775808 ≤ k ∧ k ≤ 9223372036854775807) :
    Calls Try.prog 3 #[.slice p n c, .int .i64 k] w fun e w' => e = .returned (.bool true) ∧ Below w.heap.size w w' := by
  obtain ⟨ec, hc⟩ : ∃ ec, curveErr xs = ec := ⟨_, rfl⟩
  by_cases h1 : ec = 0
  · subst h1
    by_cases hk : k < 1 ∨ 60 < k
    · have HE := Lib.hid (show timesErr xs k = 1 by unfold timesErr; rw [if_neg (by simp [hc]), if_pos hk])
      have HC := Lib.hid hc; clear hc
      rcases (show k < 1 ∨ (1 ≤ k ∧ 60 < k) by omega) with k1 | ⟨k1, k2⟩
      all_goals
        clear hk
        go_enter Try.func3, Try.ntmps3
        go_wp2_with fail
        refine (conv_Times_bad h HE.out (by omega)).mono ?_; rintro e w' ⟨rfl, rfl⟩
        go_wp2_with fail
        refine (ref_Curve h HC.out).mono ?_; rintro e w' ⟨rfl, rfl⟩
        go_wp2_with fail
        refine (told_yes (SI.nil0 _) (SI.nil0 _) (.inl ⟨by omega, rfl, rfl⟩)).mono ?_; rintro e w2 ⟨rfl, hb2⟩
        go_wp2
        go_ret
        exact ⟨rfl, hb2⟩
    · obtain ⟨k, rfl⟩ := Int.eq_ofNat_of_zero_le (show 0 ≤ k by omega)
      have k1 : 1 ≤ k := by omega
      have k2 : k ≤ 60 := by omega
      have k3 : decide ((60 : Int) < (k : Int)) = false := by simp; omega
      have k4 : decide ((k : Int) < 1) = false := by simp; omega
      have HX := Lib.hid (curve_of hc h.1)
      have HC := Lib.hid hc; clear hc hk
      go_enter Try.func3, Try.ntmps3
      go_wp2_with fail
      refine (conv_Times_ok h HC.out k1 k2).mono ?_; rintro e w1 ⟨p1, n1, c1, L1, e1, rfl, ho1, hb1, hF⟩
      have HF := Lib.hid hF
      have s1 := ho1.si
      have h1 := h.below hb1
      clear ho1 hF h
      go_wp2_with fail
      refine (ref_Curve h1 HC.out).mono ?_; rintro e w' ⟨rfl, rfl⟩
      go_wp2_with fail
      refine (ref_Times HX.out k k1 k2 _ _ _ h1).mono ?_; rintro e w2 ⟨p2, n2, c2, rfl, ho2, hb12⟩
      have hb2 := hb1.trans (hb12.mono hb1.size)
      have s2 := ho2.si
      go_wp2_with fail
      refine (told_yes (s1.below hb12) s2 HF.out).mono ?_; rintro e w3 ⟨rfl, hb23⟩
      have hb3 := hb2.trans (hb23.mono hb2.size)
      go_wp2
      go_ret
      exact ⟨rfl, hb3⟩
  · have HE := Lib.hid (show timesErr xs k = ec by unfold timesErr; rw [if_pos (by rw [hc]; exact h1), hc])
    have HC := Lib.hid hc; clear hc
    have hbf := bne_false_of h1
    go_enter Try.func3, Try.ntmps3
    go_wp2_with fail
    refine (conv_Times_bad h HE.out h1).mono ?_; rintro e w' ⟨rfl, rfl⟩
    go_wp2_with fail
    refine (ref_Curve h HC.out).mono ?_; rintro e w' ⟨rfl, rfl⟩
    go_wp2_with fail
    refine (told_yes (SI.nil0 _) (SI.nil0 _) (.inl ⟨h1, rfl, rfl⟩)).mono ?_; rintro e w2 ⟨rfl, hb2⟩
    go_wp2
    go_ret
    exact ⟨rfl, hb2⟩
end Go.Proofs.Ytjlfefaifeanmaa
