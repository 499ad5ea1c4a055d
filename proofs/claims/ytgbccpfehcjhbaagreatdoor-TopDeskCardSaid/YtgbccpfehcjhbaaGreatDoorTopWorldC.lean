/- The contracts that headtop.TopWorld needs beside the world: headkeep.Within, and slices.ContainsFunc over the peers that lag. Conditions: what each theorem says. -/
import Derived.Test.YtgbccpfehcjhbaaGreatDoorWorld
import Derived.IntWalk
namespace Go.Proofs.YtgbccpfehcjhbaaGreatDoor
open Go Go.RowKit
set_option linter.unusedVariables false
set_option linter.unusedSimpArgs false

theorem keep_Within {w : World} {k v : Int} {m : Nat} (hm : 1 ≤ m ∧ m ≤ 1000) (hv : v = (m : Int)) :
    Calls Tryz.prog 13 #[.int .i64 k, .int .i64 v] w fun e w' => (∃ r : Int, 0 ≤ r ∧ r < m ∧ e = .returned (.int .i64 r)) ∧ w = w' := by
  subst hv
  have hw : IntKind.u64.wrap (m : Int) = m := by unfold IntKind.wrap; simp [IntKind.bits, IntKind.signed]; omega
  have h0 : 0 ≤ IntKind.u64.wrap k := by unfold IntKind.wrap; simp [IntKind.bits, IntKind.signed]; omega
  obtain ⟨x, hx⟩ := Int.eq_ofNat_of_zero_le h0
  have hr : Int.tmod (x : Int) (m : Int) = ((x % m : Nat) : Int) := by rw [Int.tmod_eq_emod_of_nonneg (by omega)]; simp
  have hlt : x % m < m := Nat.mod_lt _ (by omega)
  generalize x % m = r at *
  have hv : IntKind.i64.wrap (r : Int) = r := IntWalk.i64_in _ (by omega)
  have hv2 : IntKind.u64.wrap (r : Int) = r := by unfold IntKind.wrap; simp [IntKind.bits, IntKind.signed]; omega
  go_enter Tryz.func13, Tryz.ntmps13
  go_wp2
  go_ret
  exact ⟨⟨(r : Int), by omega, by omega, rfl⟩, rfl⟩
end Go.Proofs.YtgbccpfehcjhbaaGreatDoor
