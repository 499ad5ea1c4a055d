/- The contracts of slices.Max at []int, headref.Fits and headlaw.told. No conditions (told: that the answer is the one that must be). -/
import Derived.Test.YtgbccpfehcjhbaaGreatDoorM06
import Derived.Test.YtgbccpfehcjhbaaGreatDoorM13
import Derived.Test.YtgbccpfehcjhbaaGreatDoorM24
import Derived.Test.YtgbccpfehcjhbaaGreatDoorM11
import Derived.Test.YtgbccpfehcjhbaaGreatDoorM14
namespace Go.Proofs.YtgbccpfehcjhbaaGreatDoor
open Go Go.RowKit

set_option maxHeartbeats 400000 in
theorem slices_Max {w : World} {p : Option Addr} {n c : Nat} {xs : List Int} (h : SI w p n c xs) (hn : 0 < n) {m : Int} (hub : ∀ j, j < n → gi xs j ≤ m) (hat : ∃ j, j < n ∧ gi xs j = m) :
    Calls Tryz.prog 84 #[.slice p n c] w fun e w' => e = .returned (.int .i64 m) ∧ w = w' := by
  obtain ⟨hl, hm, hr⟩ := h
  have HU := Lib.hid hub; clear hub
  have HA := Lib.hid hat; clear hat
  have HL := Lib.hid hl; clear hl
  obtain ⟨b, off, rfl, hlt, hc⟩ := hr hn
  have hc0 : w.cell? ⟨b, off, none⟩ = some (.int .i64 (gi xs 0)) := hc 0 hn
  have hb : decide ((n : Int) < 1) = false := by simp; omega
  go_enter Tryz.func84, Tryz.ntmps84
  go_wp2
  go_loop [3, 4] (fun t i => ∃ (k : Nat) (v : Int), 1 ≤ k ∧ k ≤ n ∧ i = .int .i64 k ∧ t = .int .i64 v ∧ (∃ j, j < k ∧ gi xs j = v) ∧ ∀ j, j < k → gi xs j ≤ v) (fun _ i => n - (intOf i).toNat)
  case atStart => exact ⟨1, gi xs 0, by omega, by omega, rfl, rfl, ⟨0, by omega, rfl⟩, fun j hj => by obtain rfl : j = 0 := (by omega); exact Int.le_refl _⟩
  case round =>
    obtain ⟨k, v, h1, hk, rfl, rfl, HV, HH⟩ := hrel
    have H1 := Lib.hid HV; have H2 := Lib.hid HH; clear HV HH
    by_cases hkn : k < n
    · have hcell := hc k hkn
      clear hc hr
      go_wp2
      go_round
      case rel =>
        refine ⟨k + 1, _, by omega, by omega, by go_num, rfl, ?_, fun j hj => ?_⟩
        · by_cases hv : gi xs k ≤ v
          · obtain ⟨j, hj, e⟩ := H1.out
            exact ⟨j, by omega, by rw [e]; omega⟩
          · exact ⟨k, by omega, by omega⟩
        · rcases Nat.lt_succ_iff_lt_or_eq.1 hj with h | rfl
          · have := H2.out j h; omega
          · omega
      case measure => simp [intOf]; omega
    · have hkk : n = k := by omega
      subst hkk
      go_wp2
      go_ret
      refine ⟨ret_int ?_, rfl⟩
      obtain ⟨j, hj, e⟩ := H1.out
      obtain ⟨j', hj', e'⟩ := HA.out
      have a1 := HU.out j hj
      have a2 := H2.out j' hj'
      omega

theorem max_exists (xs : List Int) (n : Nat) (hn : 0 < n) : ∃ m, (∀ j, j < n → gi xs j ≤ m) ∧ ∃ j, j < n ∧ gi xs j = m := by
  induction n with
  | zero => omega
  | succ n ih =>
    by_cases h : n = 0
    · subst h
      exact ⟨gi xs 0, fun j hj => by obtain rfl : j = 0 := (by omega); exact Int.le_refl _, 0, by omega, rfl⟩
    · obtain ⟨m, h1, j, hj, e⟩ := ih (by omega)
      by_cases hm : gi xs n ≤ m
      · refine ⟨m, fun i hi => ?_, j, by omega, e⟩
        rcases Nat.lt_succ_iff_lt_or_eq.1 hi with h | rfl
        · exact h1 i h
        · exact hm
      · refine ⟨gi xs n, fun i hi => ?_, n, by omega, rfl⟩
        rcases Nat.lt_succ_iff_lt_or_eq.1 hi with h | rfl
        · have := h1 i h; omega
        · omega

set_option maxHeartbeats 400000 in
theorem ref_Fits_ok {w : World} {p : Option Addr} {n c : Nat} {xs : List Int} (h : SI w p n c xs) (hf : fits xs) :
    Calls Tryz.prog 117 #[.slice p n c] w fun e w' => e = .returned (.tuple #[.slice p n c, .int .i64 0]) ∧ w = w' := by
  by_cases h0 : 0 < n
  · obtain ⟨m, h1, h2⟩ := max_exists xs n h0
    have hm : m ≤ 1000000 := by obtain ⟨j, hj, e⟩ := h2; have := hf j (by rw [h.1]; exact hj); omega
    have hb : decide ((0 : Int) < (n : Int)) = true := by simp; omega
    have H1 := Lib.hid h1; have H2 := Lib.hid h2; have HF := Lib.hid hf; clear h1 h2 hf
    go_enter Tryz.func117, Tryz.ntmps117
    go_wp2_with fail
    refine (slices_Max h h0 H1.out H2.out).mono ?_; rintro e w' ⟨rfl, rfl⟩
    go_wp2
    go_ret2
    exact ⟨rfl, rfl⟩
  · have hn0 : n = 0 := by omega
    subst hn0
    go_enter Tryz.func117, Tryz.ntmps117
    go_wp2_with fail
    go_ret2
    exact ⟨rfl, rfl⟩

set_option maxHeartbeats 400000 in
theorem ref_Fits_big {w : World} {p : Option Addr} {n c : Nat} {xs : List Int} (h : SI w p n c xs) (hf : ¬ fits xs) :
    Calls Tryz.prog 117 #[.slice p n c] w fun e w' => e = .returned (.tuple #[.slice none 0 0, .int .i64 2]) ∧ w = w' := by
  have h0 : 0 < n := by
    apply Nat.pos_of_ne_zero
    rintro rfl
    exact hf fun j hj => by rw [h.1] at hj; omega
  obtain ⟨m, h1, h2⟩ := max_exists xs n h0
  have hm : 1000000 < m := by
    apply Int.not_le.1
    intro hm
    exact hf fun j hj => by rw [h.1] at hj; have := h1 j hj; omega
  have hb : decide ((0 : Int) < (n : Int)) = true := by simp; omega
  have H1 := Lib.hid h1; have H2 := Lib.hid h2; have HF := Lib.hid hf; clear h1 h2 hf
  go_enter Tryz.func117, Tryz.ntmps117
  go_wp2_with fail
  refine (slices_Max h h0 H1.out H2.out).mono ?_; rintro e w' ⟨rfl, rfl⟩
  go_wp2
  go_ret2
  exact ⟨rfl, rfl⟩

end Go.Proofs.YtgbccpfehcjhbaaGreatDoor

/- The contract of shaper.Of, and the walk of headlaw.ShaperSays (P27): it returns true and changes nothing that was there. No conditions. -/
namespace Go.Proofs.YtgbccpfehcjhbaaGreatDoor
open Go Go.RowKit

theorem cl_mono1 {f : Nat → Int} {n : Nat} (hb : ∀ j, j < n → 0 ≤ f j ∧ f j ≤ 1000000) (hm : ∀ i j, i ≤ j → j < n → f i ≤ f j) : ∀ t, t + 1 < n → cl f t ≤ cl f (t + 1) := by
  intro t
  induction t using Nat.strongRecOn with
  | _ t ih =>
    intro ht
    obtain ⟨s, hs, e⟩ := cl_last hb t ht
    have hf := hb (s + 1) (by omega)
    by_cases h0 : t = 0
    · subst h0
      rw [cl_zero]
      exact (cl_bd hb (0 + 1) ht).1
    · by_cases hst : s = t
      · subst hst
        rw [Nat.sub_self, cl_zero] at e
        have h1 := (cl_bd hb s (by omega)).2.2 (by omega)
        have h2 := hm s (s + 1) (by omega) (by omega)
        omega
      · obtain ⟨u, rfl⟩ : ∃ u, t = u + 1 := ⟨t - 1, by omega⟩
        have h1 := ih (u - s) (by omega) (by omega)
        have h2 := cl_le f u s (by omega)
        rw [show u + 1 - s = u - s + 1 by omega] at e
        omega
theorem cl_mono {f : Nat → Int} {n : Nat} (hb : ∀ j, j < n → 0 ≤ f j ∧ f j ≤ 1000000) (hm : ∀ i j, i ≤ j → j < n → f i ≤ f j) (i : Nat) : ∀ j, i ≤ j → j < n → cl f i ≤ cl f j
  | 0, h, _ => by obtain rfl : i = 0 := by omega
                  exact Int.le_refl _
  | j + 1, h, hj => by
    by_cases e : i = j + 1
    · subst e; exact Int.le_refl _
    · have a := cl_mono hb hm i j (by omega) (by omega)
      have b := cl_mono1 hb hm j hj
      omega
theorem cls_curve {xs : List Int} {n : Nat} (hx : Curve xs n) : curveErr (clsL xs) = 0 := by
  unfold clsL
  rw [hx.len]
  exact curve_tab hx.pos hx.le (fun j hj => by have := cl_bd hx.bd j hj; omega) (fun i j hij hj => cl_mono hx.bd hx.mono i j hij hj)

set_option maxHeartbeats 1000000 in
theorem shaper_Of_bad {w : World} {p q : Option Addr} {n m c d : Nat} {xs ys : List Int} (h : SI w p n c xs) (g : SI w q m d ys) {er : Int} (he : bothErr xs ys = er) (h0 : er ≠ 0) :
    Calls Tryz.prog 54 #[.slice p n c, .slice q m d] w fun e w' => e = .returned (.tuple #[.slice none 0 0, .int .i64 er]) ∧ w = w' := by
  have hb := bne_false_of h0
  go_enter Tryz.func54, Tryz.ntmps54
  go_wp2_with fail
  refine (curve_Both h g he).mono ?_; rintro e w' ⟨rfl, rfl⟩
  go_wp2
  go_ret2
  exact ⟨rfl, rfl⟩

set_option maxHeartbeats 1000000 in
theorem shaper_Of_ok {w : World} {p q : Option Addr} {n c d : Nat} {xs ys : List Int} (h : SI w p n c xs) (g : SI w q n d ys) (he : bothErr xs ys = 0) :
    Calls Tryz.prog 54 #[.slice p n c, .slice q n d] w (RetL w (FitOf 0 (convL xs (clsL ys)))) := by
  obtain ⟨h1, h2, h3⟩ := bothErr_ok he
  have hy := curve_of h2 g.1
  have HE := Lib.hid he; have H2 := Lib.hid h2
  have HB := Lib.hid (both_mk h1 (cls_curve hy) (show xs.length = (clsL ys).length by unfold clsL; rw [tab_length]; exact h3))
  have HFI := Lib.hid (closure_fits hy)
  clear he h1 h2 h3 hy
  go_enter Tryz.func54, Tryz.ntmps54
  go_wp2_with fail
  refine (curve_Both h g HE.out).mono ?_; rintro e w' ⟨rfl, rfl⟩
  go_wp2_with fail
  refine (closure_Of g H2.out).mono ?_; rintro e w1 ⟨p1, n1, c1, L1, e1, rfl, ho1, hb1, hF⟩
  obtain ⟨rfl, rfl⟩ : e1 = 0 ∧ L1 = clsL ys := by
    rcases hF with ⟨a, _⟩ | ⟨_, a, _⟩ | ⟨_, _, a, b⟩
    · exact absurd rfl a
    · exact absurd HFI.out a
    · exact ⟨a, b⟩
  have h1 := h.below hb1
  have s1 := ho1.si
  clear ho1 hF h g
  go_wp2_with fail
  refine (conv_Of h1 s1 HB.out).mono ?_; rintro e w2 ⟨p2, n2, c2, L2, e2, rfl, ho2, hb2, hF2⟩
  have HF := Lib.hid hF2
  have hb3 := hb1.trans (hb2.mono hb1.size)
  have ho3 := ho2.base hb1.size
  clear hF2
  go_wp2
  go_ret2
  exact ⟨_, _, _, _, _, rfl, ho3, hb3, HF.out⟩

end Go.Proofs.YtgbccpfehcjhbaaGreatDoor

/- More functions of two lists that the desk's lines name: shaper.Of, bound.Delay (P77). Conditions: what each theorem says. -/
namespace Go.Proofs.YtgbccpfehcjhbaaGreatDoor
open Go Go.RowKit
set_option linter.unusedVariables false
set_option linter.unusedSimpArgs false

theorem fun2_shape (xs ys : List Int) : Fun2 54 xs ys (bothErr xs ys) (convL xs (clsL ys)) := by
  refine ⟨fun args w => by simp [callFunc, Tryz.func54, Tryz.f54, go_sem], fun w p q n c m d h g => ?_⟩
  by_cases h0 : bothErr xs ys = 0
  · obtain ⟨h1, h2, h3⟩ := bothErr_ok h0
    obtain rfl : n = m := by rw [← h.len, ← g.len]; exact h3
    rw [h0]
    exact (shaper_Of_ok h g h0).mono fun e w' ⟨p', n', c', L, er, he, ho, hb, hF⟩ => ⟨p', n', c', L, er, he, ho, hb, TFit.of hF⟩
  · exact (shaper_Of_bad h g rfl h0).mono fun e w' ⟨he, hw⟩ => ⟨none, 0, 0, [], _, he, OwnI.nil _ _, by rw [hw]; exact Below.refl _ _, .inl ⟨h0, rfl⟩⟩
theorem tellable_shape {xs ys : List Int} (h : bothErr xs ys = 0) (hf : fits (convL xs (clsL ys))) : tellable (convL xs (clsL ys)) := by
  obtain ⟨h1, h2, h3⟩ := bothErr_ok h
  have hy := curve_of h2 h3.symm
  exact tellable_curve (chain_curve (curve_of h1 rfl) (curve_of (cls_curve hy) (by unfold clsL; rw [tab_length]; exact h3.symm)) hf)
theorem bound_Delay_bad' {w : World} {p q : Option Addr} {n c m d : Nat} {xs ys : List Int} (h : SI w p n c xs) (g : SI w q m d ys) {er : Int} (he : bothErr xs ys = er) (h0 : er ≠ 0) :
    Calls Tryz.prog 57 #[.slice p n c, .slice q m d] w fun e w' => e = .returned (.tuple #[.int .i64 0, .int .i64 er]) ∧ Below w.heap.size w w' := by
  have hb := bne_false_of h0
  have HE := Lib.hid he; clear he
  go_enter Tryz.func57, Tryz.ntmps57
  go_wp2_with fail
  refine (curve_Both h g HE.out).mono ?_; rintro e w' ⟨rfl, rfl⟩
  go_wp2
  go_ret2
  exact ⟨rfl, Below.refl _ _⟩
noncomputable def delayK (xs ys : List Int) : Nat := Classical.choose (delay_exists xs.length xs ys)
theorem delayK_is (xs ys : List Int) : DelayOf xs.length xs ys (delayK xs ys) := Classical.choose_spec (delay_exists xs.length xs ys)
noncomputable def delayE (xs ys : List Int) : Int := if bothErr xs ys ≠ 0 then bothErr xs ys else if delayK xs ys < xs.length then 0 else 5
theorem dk_Delay {w : World} {p q : Option Addr} {n c m d : Nat} {xs ys : List Int} (h : SI w p n c xs) (g : SI w q m d ys) :
    Calls Tryz.prog 57 #[.slice p n c, .slice q m d] w fun e w' => (∃ x, e = .returned (.tuple #[.int .i64 x, .int .i64 (delayE xs ys)]) ∧ (delayE xs ys = 0 → x = (delayK xs ys : Int))) ∧ Below w.heap.size w w' := by
  unfold delayE
  by_cases h0 : bothErr xs ys = 0
  · obtain ⟨h1, h2, h3⟩ := bothErr_ok h0
    obtain rfl : n = m := by rw [← h.len, ← g.len]; exact h3
    rw [if_neg (by simp [h0])]
    have hk := delayK_is xs ys
    rw [h.len] at hk ⊢
    refine (bound_Delay_ok h g h0 hk).mono fun e w' ⟨he, hb⟩ => ⟨⟨_, he, fun hz => ?_⟩, hb⟩
    by_cases hlt : delayK xs ys < n
    · rw [if_pos hlt]
    · rw [if_neg hlt] at hz; omega
  · rw [if_pos h0]
    exact (bound_Delay_bad' h g rfl h0).mono fun e w' ⟨he, hb⟩ => ⟨⟨_, he, fun h => absurd h h0⟩, hb⟩
theorem delay_bd {xs ys : List Int} (h : delayE xs ys = 0) : delayK xs ys ≤ 61 := by
  unfold delayE at h
  by_cases h0 : bothErr xs ys = 0
  · obtain ⟨h1, h2, h3⟩ := bothErr_ok h0
    have := (curve_of h1 rfl).le
    have := (delayK_is xs ys).1
    omega
  · rw [if_pos h0] at h; exact absurd h h0
set_option maxHeartbeats 800000 in
theorem fun2_delay (xs ys : List Int) : Fun2 56 xs ys (delayE xs ys) [(delayK xs ys : Int)] := by
  refine ⟨fun args w => by simp [callFunc, Tryz.func56, Tryz.f56, go_sem], fun w p q n c m d h g => ?_⟩
  have HC := Lib.hid (dk_Delay h g)
  obtain ⟨er, he⟩ : ∃ er, delayE xs ys = er := ⟨_, rfl⟩
  have HT : Hid (∀ x : Int, (er = 0 → x = (delayK xs ys : Int)) → TFit er [(delayK xs ys : Int)] [x] er) := Lib.hid (fun x hx => by
    by_cases h0 : er = 0
    · subst h0
      rw [hx rfl]
      exact .inr (.inr ⟨rfl, fits_one (by have := delay_bd he; omega), rfl, rfl⟩)
    · exact .inl ⟨h0, rfl⟩)
  rw [he] at HC ⊢
  clear h g he
  go_enter Tryz.func56, Tryz.ntmps56
  go_wp2_with fail
  refine HC.out.mono ?_; rintro e w1 ⟨⟨x, rfl, hx⟩, b1⟩
  have HX := Lib.hid hx
  clear hx
  go_wp2
  go_ret2
  exact ⟨_, _, _, [x], er, rfl, (OwnI.lit1 w1 (B := w.heap.size) b1.size x), b1.alloc b1.size _, HT.out x HX.out⟩
end Go.Proofs.YtgbccpfehcjhbaaGreatDoor

/- The desk's line close: what it does (P77). Conditions: what each theorem says. -/
namespace Go.Proofs.YtgbccpfehcjhbaaGreatDoor
open Go Go.RowKit
set_option linter.unusedVariables false
set_option linter.unusedSimpArgs false

theorem tellable_close {xs : List Int} (h : curveErr xs = 0) : tellable (clsL xs) := tellable_curve (cls_curve (curve_of h rfl))
set_option maxHeartbeats 800000 in
theorem dk_close1 {w : World} (LD : Laid w) {ba n c : Nat} {p : Option Addr} {xs : List Int} (h1 : w.heap[ba]? = some (.cells #[.slice p n c] 35 (0, 0))) (h : SI w p n c xs) :
    Calls Tryz.prog 59 #[.pointer (some ⟨ba, 0, none⟩)] w (OutPost w (fitOut (curveErr xs) (clsL xs))) := by
  have c1 : w.cell? ⟨ba, 0, none⟩ = some (.slice p n c) := blk_cell h1 0
  have HC := Lib.hid (closure_Of h rfl)
  have HY : Hid (curveErr xs = 0 → fits (clsL xs) → tellable (clsL xs)) := Lib.hid (fun h _ => tellable_close h)
  have HLD := Lib.hid LD
  obtain ⟨want, hw⟩ : ∃ x, curveErr xs = x := ⟨_, rfl⟩
  obtain ⟨Y, hY⟩ : ∃ x, clsL xs = x := ⟨_, rfl⟩
  rw [hw, hY] at HC HY ⊢
  clear h1 h LD hw hY
  go_enter Tryz.func59, Tryz.ntmps59
  go_wp2_with fail
  refine HC.out.mono ?_; rintro e w1 ⟨p', n', c', L, er, rfl, ho, b1, hF⟩
  have HT := Lib.hid (dk_told_fit (HLD.out.below b1) ho.si (TFit.of hF) HY.out)
  clear ho hF HC HY
  generalize fitOut want Y = O at *
  cases O with
  | ok s =>
    go_wp2_with fail
    refine HT.out.mono ?_
    rintro e w2 ⟨he, b2⟩
    obtain rfl : e = .returned (.string (str s)) := he
    have b12 := b1.trans (b2.mono b1.size)
    go_wp2
    go_ret
    exact ⟨rfl, b12⟩
  | err x =>
    go_wp2_with fail
    refine HT.out.mono ?_
    rintro e w2 ⟨he, b2⟩
    obtain rfl : e = faultE x := he
    have b12 := b1.trans (b2.mono b1.size)
    go_wp2
    exact ⟨rfl, rfl, b12⟩
end Go.Proofs.YtgbccpfehcjhbaaGreatDoor
