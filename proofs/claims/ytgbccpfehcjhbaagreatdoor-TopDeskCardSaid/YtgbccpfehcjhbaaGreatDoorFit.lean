/- The contract of curve.Fit: the list itself, if no value is above 1000000; else nothing, and error 2. No conditions. -/
import Derived.Test.YtgbccpfehcjhbaaGreatDoorBoth
namespace Go.Proofs.YtgbccpfehcjhbaaGreatDoor
open Go Go.RowKit

def fits (xs : List Int) : Prop := ∀ j, j < xs.length → gi xs j ≤ 1000000

/-- what a curve that is answered comes to: its error, or that it does not fit, or the curve -/
def FitOf (want : Int) (Y : List Int) (L : List Int) (er : Int) : Prop :=
  (want ≠ 0 ∧ er = want ∧ L = []) ∨ (want = 0 ∧ ¬ fits Y ∧ er = 2 ∧ L = []) ∨ (want = 0 ∧ fits Y ∧ er = 0 ∧ L = Y)

/-- two results: a new list, and an error -/
def RetL (w : World) (F : List Int → Int → Prop) (e : Ending) (w' : World) : Prop :=
  ∃ p n c L er, e = .returned (.tuple #[.slice p n c, .int .i64 er]) ∧ OwnI w' w.heap.size p n c L ∧ Below w.heap.size w w' ∧ F L er

set_option maxHeartbeats 400000 in
theorem curve_Fit_ok {w : World} {p : Option Addr} {n c : Nat} {xs : List Int} (h : SI w p n c xs) (hf : fits xs) :
    Calls Tryz.prog 33 #[.slice p n c] w fun e w' => e = .returned (.tuple #[.slice p n c, .int .i64 0]) ∧ w = w' := by
  obtain ⟨hl, hm, hr⟩ := h
  have HF := Lib.hid hf; clear hf
  have HL := Lib.hid hl; clear hl
  go_enter Tryz.func33, Tryz.ntmps33
  go_wp2
  go_loop [8] (fun i => ∃ k : Nat, k ≤ n ∧ i = .int .i64 k) (fun i => n - (intOf i).toNat)
  case atStart => exact ⟨0, Nat.zero_le _, rfl⟩
  case round =>
    obtain ⟨k, hk, rfl⟩ := hrel
    by_cases hkn : k < n
    · obtain ⟨b, off, rfl, hlt, hc⟩ := hr (by omega)
      have hcell := hc k hkn
      have hle : gi xs k ≤ 1000000 := HF.out k (by rw [HL.out]; exact hkn)
      clear hc hr
      go_wp2
      go_round
      case rel => exact ⟨k + 1, by omega, by go_num⟩
      case measure => simp [intOf]; omega
    · go_wp2
      go_ret2
      exact ⟨rfl, rfl⟩

set_option maxHeartbeats 400000 in
theorem curve_Fit_big {w : World} {p : Option Addr} {n c : Nat} {xs : List Int} (h : SI w p n c xs) (hf : ¬ fits xs) :
    Calls Tryz.prog 33 #[.slice p n c] w fun e w' => e = .returned (.tuple #[.slice none 0 0, .int .i64 2]) ∧ w = w' := by
  obtain ⟨hl, hm, hr⟩ := h
  have HF := Lib.hid hf; clear hf
  have HL := Lib.hid hl; clear hl
  go_enter Tryz.func33, Tryz.ntmps33
  go_wp2
  go_loop [8] (fun i => ∃ k : Nat, k ≤ n ∧ i = .int .i64 k ∧ ∀ j, j < k → gi xs j ≤ 1000000) (fun i => n - (intOf i).toNat)
  case atStart => exact ⟨0, Nat.zero_le _, rfl, fun j hj => by omega⟩
  case round =>
    obtain ⟨k, hk, rfl, H⟩ := hrel
    have HH := Lib.hid H; clear H
    by_cases hkn : k < n
    · obtain ⟨b, off, rfl, hlt, hc⟩ := hr (by omega)
      have hcell := hc k hkn
      clear hc hr
      go_wp2
      · go_ret2
        exact ⟨rfl, rfl⟩
      · go_round
        case rel => exact ⟨k + 1, by omega, by go_num, fun j hj => by rcases Nat.lt_succ_iff_lt_or_eq.1 hj with h | rfl; exact HH.out j h; omega⟩
        case measure => simp [intOf]; omega
    · exact absurd (fun j hj => HH.out j (by rw [HL.out] at hj; omega)) HF.out
end Go.Proofs.YtgbccpfehcjhbaaGreatDoor
