/- The contracts that headlaw.TurnsSay needs beside: slices.Equal at []api.Sent; turns.Run and turns.After where they refuse. Conditions: what each theorem says. -/
import Derived.Test.YtggpcceljipelaaTurnsRun2
import Derived.Test.YtggpcceljipelaaTurnsAfter
namespace Go.Proofs.Ytggpcceljipelaa
open Go Go.RowKit
set_option linter.unusedVariables false
set_option linter.unusedSimpArgs false

theorem neq_Sent (a b : Int) (w : World) : (binOp .neq 100 (.agg #[.int .i64 a, .int .i64 b]) (.agg #[.int .i64 a, .int .i64 b])).run Try.prog w = .ok (.bool false) w := by
  have u3 := Try.underlying3
  have a3 := Try.isAgg3
  have z3 := Try.sizeOf3
  have hS : Try.prog.underlying 100 = some (.struct (Try.prog.fieldsOf 100)) := by kernel_rfl
  have hp : Try.prog.stoodInHeld 100 = false := by kernel_rfl
  rw [run_neq_struct, show (10000 : Nat) = 9999 + 1 from rfl, run_equalIn_agg w 9999 100 _ _ hS hp]
  simp only [Program.fieldsOf, Try.underlying100]
  go_simp
set_option maxHeartbeats 800000 in
theorem equal_Sent {w : World} {p q : Option Addr} {n c d : Nat} {L : List T2} (h : SR enc2 2 w p n c L) (g : SR enc2 2 w q n d L) :
    Calls Try.prog 66 #[.slice p n c, .slice q n d] w fun e w' => e = .returned (.bool true) ∧ Below w.heap.size w w' := by
  have hm := h.2.1
  have gm := g.2.1
  have hq := neq_Sent
  go_enter Try.func66, Try.ntmps66
  go_wp2
  go_loopw [13] (fun i wr => ∃ k : Nat, k ≤ n ∧ i = .int .i64 k ∧ Below w.heap.size w wr) (fun i _ => n - (intOf i).toNat)
  case atStart => exact ⟨0, Nat.zero_le _, rfl, Below.refl _ _⟩
  case round =>
    obtain ⟨k, hk, rfl, hb⟩ := hrel
    by_cases hkn : k < n
    · obtain ⟨b, off, rfl, hlt, hc⟩ := h.cells (by omega)
      obtain ⟨b', off', rfl, hlt', hc'⟩ := g.cells (by omega)
      have c0 : wr.cell? ⟨b, off + k * 2, none⟩ = some (.int .i64 (ge L k).1) := (bdeep hb hlt _).trans (hc k hkn 0 (by omega))
      have c1 : wr.cell? ⟨b, off + k * 2 + 1, none⟩ = some (.int .i64 (ge L k).2) := (bdeep hb hlt _).trans (hc k hkn 1 (by omega))
      have d0 : wr.cell? ⟨b', off' + k * 2, none⟩ = some (.int .i64 (ge L k).1) := (bdeep hb hlt' _).trans (hc' k hkn 0 (by omega))
      have d1 : wr.cell? ⟨b', off' + k * 2 + 1, none⟩ = some (.int .i64 (ge L k).2) := (bdeep hb hlt' _).trans (hc' k hkn 1 (by omega))
      have HB := Lib.hid hb
      clear hc hc' h g hb
      go_wp2
      go_quiet (fail)
      go_wp2
      go_roundw
      case rel => exact ⟨k + 1, by omega, by go_num, below_drewN HB.out _⟩
      case measure => simp [intOf]; omega
    · have hkk : n = k := by omega
      subst hkk
      go_wp2
      go_ret
      exact ⟨rfl, hb⟩

theorem turns_Run_bad {w : World} {p : Option Addr} {n c : Nat} {Q : Nat → Int} {F : Nat → Sl} (h : SF w p n c Q F) {er : Int} (he : flowsErr n Q F = er) (h0 : er ≠ 0) :
    Calls Try.prog 62 #[.slice p n c] w fun e w' => e = .returned (.tuple #[.slice none 0 0, .int .i64 er]) ∧ Below w.heap.size w w' := by
  have hz : (er == 0) = false := by simp [h0]
  go_enter Try.func62, Try.ntmps62
  go_wp2_with fail
  refine (turns_Check h he).mono ?_; rintro e w1 ⟨rfl, b1⟩
  go_wp2
  go_ret2
  exact ⟨rfl, b1⟩
theorem turns_After_bad {w : World} {p : Option Addr} {n c : Nat} {r : Int} {Q : Nat → Int} {F : Nat → Sl} (h : SF w p n c Q F) {er : Int} (he : flowsErr n Q F = er) (h0 : er ≠ 0) :
    Calls Try.prog 63 #[.slice p n c, .int .i64 r] w fun e w' => e = .returned (.tuple #[.slice none 0 0, .int .i64 er]) ∧ Below w.heap.size w w' := by
  have hz : (er == 0) = false := by simp [h0]
  go_enter Try.func63, Try.ntmps63
  go_wp2_with fail
  refine (turns_Check h he).mono ?_; rintro e w1 ⟨rfl, b1⟩
  go_wp2
  go_ret2
  exact ⟨rfl, b1⟩
theorem turns_After_arg {w : World} {p : Option Addr} {n c : Nat} {r : Int} {Q : Nat → Int} {F : Nat → Sl} (h : SF w p n c Q F) (he : flowsErr n Q F = 0) (h0 : r < 0 ∨ (0 ≤ r ∧ 1000 < r)) :
    Calls Try.prog 63 #[.slice p n c, .int .i64 r] w fun e w' => e = .returned (.tuple #[.slice none 0 0, .int .i64 1]) ∧ Below w.heap.size w w' := by
  have HC := Lib.hid (turns_Check h he)
  rcases h0 with h0 | ⟨h0, h1⟩
  all_goals
    go_enter Try.func63, Try.ntmps63
    go_wp2_with fail
    refine HC.out.mono ?_; rintro e w1 ⟨rfl, b1⟩
    go_wp2
    go_ret2
    exact ⟨rfl, b1⟩
end Go.Proofs.Ytggpcceljipelaa
