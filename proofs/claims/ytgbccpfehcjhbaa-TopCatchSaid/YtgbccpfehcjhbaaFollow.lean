/- Contracts at whatever is handed in, for TopCatch and TopFirst. No conditions beyond what each theorem says. -/
import Derived.Test.YtgbccpfehcjhbaaFollowLaw
import Derived.Test.YtgbccpfehcjhbaaPrioLeftOf
import Derived.Test.YtgbccpfehcjhbaaSlots
namespace Go.Proofs.Ytgbccpfehcjhbaa
open Go Go.RowKit

theorem trace_Sum_any {w : World} {p : Option Addr} {n c : Nat} {xs : List Int} (h : SI w p n c xs) :
    Calls Try.prog 5 #[.slice p n c] w (RetL w fun L er => traceErr xs = er ∧ (er = 0 → L = addL xs)) := by
  by_cases h0 : traceErr xs = 0
  · refine (trace_Sum_ok h h0).mono ?_
    rintro e w' ⟨p1, n1, c1, L, er, rfl, ho, hb, rfl, rfl⟩
    exact ⟨_, _, _, _, _, rfl, ho, hb, h0, fun _ => rfl⟩
  · refine (trace_Sum_bad h rfl h0).mono ?_
    rintro e w' ⟨rfl, rfl⟩
    exact ⟨_, _, _, _, _, rfl, OwnI.nil _ _, Below.refl _ _, rfl, fun h => absurd h h0⟩
theorem prio_Run_any {w : World} {p q : Option Addr} {n c m d : Nat} {xs ys : List Int} {r : Int} (h : SI w p n c xs) (g : SI w q m d ys) :
    Calls Try.prog 12 #[.slice p n c, .slice q m d, .int .i64 r] w (RetLL w fun _ L2 er => prioErr xs ys r = er ∧ (er = 0 → L2 = tab n (sev (gi xs) (gi ys) r))) := by
  by_cases h0 : prioErr xs ys r = 0
  · obtain rfl : n = m := by rw [← h.1, ← g.1]; exact (prio_ok h0).2.2
    refine (prio_Run_ok h g h0).mono ?_
    rintro e w' ⟨p1, n1, c1, L, p2, n2, c2, L2, er, rfl, ho, ho2, hb, rfl, rfl, rfl⟩
    exact ⟨_, _, _, _, _, _, _, _, _, rfl, ho, ho2, hb, h0, fun _ => rfl⟩
  · refine (prio_Run_bad h g rfl h0).mono ?_
    rintro e w' ⟨rfl, hb⟩
    exact ⟨_, _, _, _, _, _, _, _, _, rfl, OwnI.nil _ _, OwnI.nil _ _, hb, rfl, fun h => absurd h h0⟩
theorem prio_Left_any {w : World} {p : Option Addr} {n c : Nat} {xs : List Int} {r : Int} (h : SI w p n c xs) (r0 : 0 ≤ r) (r1 : r ≤ 10000) :
    Calls Try.prog 13 #[.slice p n c, .int .i64 r] w (RetL w fun L er => er = 0 → curveErr xs = 0 ∧ fits (lessL (tab n (lineV r 0)) xs) ∧ L = lessL (tab n (lineV r 0)) xs) := by
  by_cases h0 : curveErr xs = 0
  · refine (prio_Left_ok h h0 r0 r1).mono ?_
    rintro e w' ⟨p1, n1, c1, L, er, rfl, ho, hb, hF⟩
    exact ⟨_, _, _, _, _, rfl, ho, hb, fun h => by
      subst h
      obtain ⟨_, a, b⟩ := FitOf.zero hF
      exact ⟨h0, a, b⟩⟩
  · refine (prio_Left_bad h rfl h0).mono ?_
    rintro e w' ⟨rfl, rfl⟩
    exact ⟨_, _, _, _, _, rfl, OwnI.nil _ _, Below.refl _ _, fun h => absurd h h0⟩
theorem plan_Rate_any {w : World} {p : Option Addr} {n c : Nat} {xs : List Int} {l d : Int} (h : SI w p n c xs) :
    Calls Try.prog 9 #[.slice p n c, .int .i64 l, .int .i64 d] w fun e w' => ∃ v e0 : Int, e = .returned (.tuple #[.int .i64 v, .int .i64 e0]) ∧ w = w' ∧
      (e0 = 0 → planErr xs d = 0 ∧ 0 ≤ l ∧ l ≤ 1000000 ∧ 0 ≤ d ∧ d < n ∧ 0 ≤ v ∧ v ≤ 10000 ∧ OkR (gi xs) l d.toNat v) := by
  by_cases h0 : planErr xs d = 0
  · by_cases hl : l < 0 ∨ 1000000 < l
    · refine (plan_Rate_arg h h0 hl).mono ?_
      rintro e w' ⟨rfl, rfl⟩
      exact ⟨_, _, rfl, rfl, fun h => by omega⟩
    · obtain ⟨hc, d0, d1⟩ := plan_ok h0
      rw [h.1] at d1
      obtain ⟨k, rfl⟩ := Int.eq_ofNat_of_zero_le d0
      obtain ⟨v, e0, hv⟩ := rateOf_exists (gi xs) l k
      refine (plan_Rate_ok h h0 (by omega) (by omega) hv).mono ?_
      rintro e w' ⟨rfl, rfl⟩
      refine ⟨_, _, rfl, rfl, fun h1 => ?_⟩
      subst h1
      obtain ⟨a, b, c⟩ := rateOf_ok (n := n) (by omega) (curve_of hc h.1).bd (by omega) hv
      exact ⟨h0, by omega, by omega, by omega, d1, a, b, by simpa using c⟩
  · refine (plan_Rate_bad h rfl h0).mono ?_
    rintro e w' ⟨rfl, rfl⟩
    exact ⟨_, _, rfl, rfl, fun h => absurd h h0⟩
end Go.Proofs.Ytgbccpfehcjhbaa
