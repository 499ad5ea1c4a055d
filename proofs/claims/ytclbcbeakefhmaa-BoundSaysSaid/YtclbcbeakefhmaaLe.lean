/- The contracts of curve.Le, headref.Le, curve.Cut (P4, P5). No conditions. -/
import Derived.Test.YtclbcbeakefhmaaCurveFacts
import Derived.Deep.QuietTactic
import Derived.BigQuiet
namespace Go.Proofs.Ytclbcbeakefhmaa
open Go Go.RowKit

/-- nowhere, of the first n, is the one above the other -/
def LeN (n : Nat) (xs ys : List Int) : Prop := ∀ j, j < n → gi xs j ≤ gi ys j

theorem SI.drewN {w : World} {p : Option Addr} {n c : Nat} {xs : List Int} (h : SI w p n c xs) (k : Nat) : SI (w.drewN k) p n c xs := h

set_option maxHeartbeats 400000 in
theorem ref_Le {w : World} {p q : Option Addr} {n c m d : Nat} {xs ys : List Int} (h : SI w p n c xs) (g : SI w q m d ys) (hnm : n ≤ m) {r : Bool} (hr : r = true ↔ LeN n xs ys) :
    Calls Try.prog 19 #[.slice p n c, .slice q m d] w fun e w' => e = .returned (.bool r) ∧ ∃ k, w' = w.drewN k := by
  have hm := h.2.1
  have gm := g.2.1
  have HR := Lib.hid hr; clear hr
  go_enter Try.func19, Try.ntmps19
  go_wp2
  go_loopw [8] (fun i wr => ∃ k : Nat, k ≤ n ∧ i = .int .i64 k ∧ (∃ s, wr = w.drewN s) ∧ Hid (LeN k xs ys)) (fun i _ => n - (intOf i).toNat)
  case atStart => exact ⟨0, Nat.zero_le _, rfl, ⟨0, rfl⟩, Lib.hid fun j hj => by omega⟩
  case round =>
    obtain ⟨k, hk, rfl, ⟨s, rfl⟩, H⟩ := hrel
    by_cases hkn : k < n
    · obtain ⟨b, off, rfl, hlt, hc⟩ := h.cells (by omega)
      obtain ⟨b', off', rfl, hlt', hc'⟩ := g.cells (by omega)
      have c1 := hc k hkn
      have c2 := hc' k (by omega)
      clear hc hc' h g
      by_cases hle : gi xs k ≤ gi ys k
      · have hd : decide (gi ys k < gi xs k) = false := by simp; omega
        go_wp2
        go_quiet (fail)
        go_wp2
        go_roundw
        case rel => exact ⟨k + 1, by omega, by go_num, ⟨_, rfl⟩, Lib.hid fun j hj => by rcases Nat.lt_succ_iff_lt_or_eq.1 hj with h | rfl; exact H.out j h; exact hle⟩
        case measure => simp [intOf]; omega
      · have hd : decide (gi ys k < gi xs k) = true := by simp; omega
        go_wp2
        go_quiet (fail)
        go_wp2
        go_ret
        refine ⟨ret_bool ?_, s + nq, by simp⟩
        cases r with
        | false => rfl
        | true => exact absurd (HR.out.1 rfl k hkn) (by omega)
    · obtain rfl : n = k := by omega
      go_wp2
      go_ret
      exact ⟨ret_bool (HR.out.2 H.out).symm, _, rfl⟩

set_option maxHeartbeats 400000 in
theorem curve_Le {w : World} {p q : Option Addr} {n c d : Nat} {xs ys : List Int} (h : SI w p n c xs) (g : SI w q n d ys) (he : bothErr xs ys = 0) {r : Bool} (hr : r = true ↔ LeN n xs ys) :
    Calls Try.prog 17 #[.slice p n c, .slice q n d] w fun e w' => e = .returned (.tuple #[.bool r, .int .i64 0]) ∧ Below w.heap.size w w' := by
  have HE := Lib.hid he; clear he
  have hm := h.2.1
  have gm := g.2.1
  have HR := Lib.hid hr; clear hr
  go_enter Try.func17, Try.ntmps17
  go_wp2_with fail
  refine (curve_Both h g HE.out).mono ?_; rintro e w' ⟨rfl, rfl⟩
  go_wp2
  go_loopw [16] (fun i wr => ∃ k : Nat, k ≤ n ∧ i = .int .i64 k ∧ (∃ s, wr = w.drewN s) ∧ Hid (LeN k xs ys)) (fun i _ => n - (intOf i).toNat)
  case atStart => exact ⟨0, Nat.zero_le _, rfl, ⟨0, rfl⟩, Lib.hid fun j hj => by omega⟩
  case round =>
    obtain ⟨k, hk, rfl, ⟨s, rfl⟩, H⟩ := hrel
    by_cases hkn : k < n
    · obtain ⟨b, off, rfl, hlt, hc⟩ := h.cells (by omega)
      obtain ⟨b', off', rfl, hlt', hc'⟩ := g.cells (by omega)
      have c1 := hc k hkn
      have c2 := hc' k (by omega)
      clear hc hc' h g
      by_cases hle : gi xs k ≤ gi ys k
      · have hd : decide (gi ys k < gi xs k) = false := by simp; omega
        go_wp2
        go_quiet (fail)
        go_wp2
        go_roundw
        case rel => exact ⟨k + 1, by omega, by go_num, ⟨_, rfl⟩, Lib.hid fun j hj => by rcases Nat.lt_succ_iff_lt_or_eq.1 hj with h | rfl; exact H.out j h; exact hle⟩
        case measure => simp [intOf]; omega
      · have hd : decide (gi ys k < gi xs k) = true := by simp; omega
        go_wp2
        go_quiet (fail)
        go_wp2
        go_ret2
        refine ⟨ret2_bool ?_, below_drewN (below_drewN (Below.refl _ _) _) _⟩
        cases r with
        | false => rfl
        | true => exact absurd (HR.out.1 rfl k hkn) (by omega)
    · obtain rfl : n = k := by omega
      go_wp2
      go_ret2
      exact ⟨ret2_bool (HR.out.2 H.out).symm, below_drewN (Below.refl _ _) _⟩

set_option maxHeartbeats 400000 in
theorem curve_Le_bad {w : World} {p q : Option Addr} {n c m d : Nat} {xs ys : List Int} (h : SI w p n c xs) (g : SI w q m d ys) {er : Int} (he : bothErr xs ys = er) (h0 : er ≠ 0) :
    Calls Try.prog 17 #[.slice p n c, .slice q m d] w fun e w' => e = .returned (.tuple #[.bool false, .int .i64 er]) ∧ Below w.heap.size w w' := by
  have HE := Lib.hid he; clear he
  have hb := bne_false_of h0
  go_enter Try.func17, Try.ntmps17
  go_wp2_with fail
  refine (curve_Both h g HE.out).mono ?_; rintro e w' ⟨rfl, rfl⟩
  go_wp2
  go_ret2
  exact ⟨rfl, Below.refl _ _⟩

theorem Try.tyIntsLe : SliceTy Try.prog 25 3 (.int .i64 0) 1 8 := ⟨Try.underlying25, by kernel_rfl⟩

def cutErr (xs : List Int) (k : Int) : Int := if curveErr xs ≠ 0 then curveErr xs else if k < 0 ∨ (xs.length : Int) ≤ k then 1 else 0

set_option maxHeartbeats 400000 in
theorem curve_Cut_ok {w : World} {p : Option Addr} {n c k : Nat} {xs : List Int} (h : SI w p n c xs) (he : curveErr xs = 0) (hk : k < n) (hn : n ≤ 61) :
    Calls Try.prog 20 #[.slice p n c, .int .i64 k] w (RetL w fun L er => L = xs.take (k + 1) ∧ er = 0) := by
  have HE := Lib.hid he; clear he
  have hm := h.2.1
  obtain ⟨b, off, rfl, hlt, _⟩ := h.cells (by omega)
  have b1 : decide ((k : Int) < 0) = false := by simp
  have b2 : decide ((n : Int) ≤ (k : Int)) = false := by simp; omega
  have hs := h.take (k := k + 1) (by omega)
  go_enter Try.func20, Try.ntmps20
  go_wp2_with fail
  refine (curve_Check h HE.out).mono ?_; rintro e w' ⟨rfl, rfl⟩
  go_wp2_with (at_builtin; refine wpL_append_int Try.tyIntsLe rfl rfl (B := w.heap.size) (W0 := w) rfl rfl (OwnI.nil _ _) hs (Below.refl _ _) (by omega) (Nat.le_refl _) ?_; intro p' c' w1 ho hb hg)
  go_ret2
  exact ⟨_, _, _, _, _, rfl, by simpa using ho, hb, by simp, rfl⟩

theorem cutErr_bad {xs : List Int} {k : Int} (h : curveErr xs ≠ 0) : cutErr xs k = curveErr xs := by unfold cutErr; rw [if_pos h]
theorem cutErr_arg {xs : List Int} {k : Int} (h : curveErr xs = 0) (hk : k < 0 ∨ (xs.length : Int) ≤ k) : cutErr xs k = 1 := by unfold cutErr; rw [if_neg (by simp [h]), if_pos hk]
set_option maxHeartbeats 400000 in
theorem curve_Cut_bad {w : World} {p : Option Addr} {n c : Nat} {xs : List Int} {k : Int} (h : SI w p n c xs) {er : Int} (he : cutErr xs k = er) (h0 : er ≠ 0) :
    Calls Try.prog 20 #[.slice p n c, .int .i64 k] w fun e w' => e = .returned (.tuple #[.slice none 0 0, .int .i64 er]) ∧ w = w' := by
  have hm := h.2.1
  by_cases hc : curveErr xs = 0
  · have HC := Lib.hid hc
    by_cases hk : k < 0 ∨ (xs.length : Int) ≤ k
    · obtain rfl : 1 = er := by rw [← he, cutErr_arg hc hk]
      clear he hc
      by_cases hk0 : k < 0
      · have b1 : decide (k < 0) = true := by simp; omega
        clear hk
        go_enter Try.func20, Try.ntmps20
        go_wp2_with fail
        refine (curve_Check h HC.out).mono ?_; rintro e w' ⟨rfl, rfl⟩
        go_wp2
        go_ret2
        exact ⟨rfl, rfl⟩
      · have b1 : decide (k < 0) = false := by simp; omega
        have b2 : decide ((n : Int) ≤ k) = true := by have := h.1; simp; omega
        clear hk
        go_enter Try.func20, Try.ntmps20
        go_wp2_with fail
        refine (curve_Check h HC.out).mono ?_; rintro e w' ⟨rfl, rfl⟩
        go_wp2
        go_ret2
        exact ⟨rfl, rfl⟩
    · exact absurd (by rw [← he]; unfold cutErr; rw [if_neg (by simp [hc]), if_neg hk]) h0
  · obtain rfl : curveErr xs = er := by rw [← he, cutErr_bad hc]
    clear he
    generalize hx : curveErr xs = ex at *
    have H1 := Lib.hid hx; clear hx
    have hb := bne_false_of hc
    go_enter Try.func20, Try.ntmps20
    go_wp2_with fail
    refine (curve_Check h H1.out).mono ?_; rintro e w' ⟨rfl, rfl⟩
    go_wp2
    go_ret2
    exact ⟨rfl, rfl⟩
end Go.Proofs.Ytclbcbeakefhmaa
