/- The contracts of catch.look, catch.Bound, headref.times and headref.By (P65). No conditions beyond what each theorem says. -/
import Derived.Test.YtgbccpfehcjhbaaTrace
import Derived.Deep.QuietTactic
import Derived.BigQuiet
import Derived.IntWalk
namespace Go.Proofs.Ytgbccpfehcjhbaa
open Go Go.RowKit

def badRL (r l : Int) : Prop := r < 0 ∨ 10000 < r ∨ l < 0 ∨ 1000000 < l
instance (r l : Int) : Decidable (badRL r l) := by unfold badRL; infer_instance
theorem badRL_ways {r l : Int} (h : badRL r l) : r < 0 ∨ (0 ≤ r ∧ 10000 < r) ∨ (0 ≤ r ∧ r ≤ 10000 ∧ l < 0) ∨ (0 ≤ r ∧ r ≤ 10000 ∧ 0 ≤ l ∧ 1000000 < l) := by unfold badRL at h; omega
theorem not_badRL {r l : Int} (h : ¬ badRL r l) : 0 ≤ r ∧ r ≤ 10000 ∧ 0 ≤ l ∧ l ≤ 1000000 := by unfold badRL at h; omega

set_option maxHeartbeats 400000 in
theorem catch_look_bad {w : World} {r l : Int} (h : badRL r l) :
    Calls Try.prog 27 #[.int .i64 r, .int .i64 l] w fun e w' => e = .returned (.int .i64 1) ∧ w = w' := by
  rcases badRL_ways h with h1 | ⟨h1, h2⟩ | ⟨h1, h2, h3⟩ | ⟨h1, h2, h3, h4⟩
  all_goals
    clear h
    go_enter Try.func27, Try.ntmps27
    go_wp2
    go_ret
    exact ⟨rfl, rfl⟩
set_option maxHeartbeats 400000 in
theorem catch_look_ok {w : World} {r l : Int} (h : ¬ badRL r l) :
    Calls Try.prog 27 #[.int .i64 r, .int .i64 l] w fun e w' => e = .returned (.int .i64 0) ∧ w = w' := by
  obtain ⟨h1, h2, h3, h4⟩ := not_badRL h
  clear h
  go_enter Try.func27, Try.ntmps27
  go_wp2
  go_ret
  exact ⟨rfl, rfl⟩

/-- by d one is there -/
def byP (xs : List Int) (r l : Int) (d : Nat) : Bool := decide (l + gi xs d ≤ r * (d : Int))
theorem byP_true {xs : List Int} {r l : Int} {d : Nat} : byP xs r l d = true ↔ l + gi xs d ≤ r * (d : Int) := by simp [byP]
theorem byP_false {xs : List Int} {r l : Int} {d : Nat} : byP xs r l d = false ↔ ¬ l + gi xs d ≤ r * (d : Int) := by simp [byP]
theorem prod_bd {r : Int} {k : Nat} (h0 : 0 ≤ r) (h1 : r ≤ 10000) (hk : k ≤ 1000) : 0 ≤ r * (k : Int) ∧ r * (k : Int) ≤ 10000000 := by
  refine ⟨Int.mul_nonneg h0 (by omega), ?_⟩
  have := Int.mul_le_mul h1 (show (k : Int) ≤ 1000 by omega) (by omega) (by omega)
  omega

def boundErr (xs : List Int) (r l : Int) : Int := if curveErr xs ≠ 0 then curveErr xs else if badRL r l then 1 else 0

theorem three_boxes (w : World) (v u z : Value) (t1 t2 t3 : TypeId) :
    (((w.alloc (.cells #[v] t1)).alloc (.cells #[u] t2)).alloc (.cells #[z] t3)).cell? ⟨w.heap.size, 0, none⟩ = some v ∧ (((w.alloc (.cells #[v] t1)).alloc (.cells #[u] t2)).alloc (.cells #[z] t3)).cell? ⟨w.heap.size + 1, 0, none⟩ = some u ∧
    (((w.alloc (.cells #[v] t1)).alloc (.cells #[u] t2)).alloc (.cells #[z] t3)).cell? ⟨w.heap.size + 2, 0, none⟩ = some z ∧
    Below w.heap.size w (((w.alloc (.cells #[v] t1)).alloc (.cells #[u] t2)).alloc (.cells #[z] t3)) ∧ (((w.alloc (.cells #[v] t1)).alloc (.cells #[u] t2)).alloc (.cells #[z] t3)).heap.size = w.heap.size + 3 := by
  refine ⟨?_, ?_, ?_, (((Below.refl _ _).alloc (Nat.le_refl _) _).alloc (by simp) _).alloc (by simp; omega) _, by simp⟩
  · rw [World.cell?_alloc_past _ _ _ (by simp; omega), World.cell?_alloc_past _ _ _ (by simp), World.cell?_alloc_at _ _ _ _ rfl]; rfl
  · rw [World.cell?_alloc_past _ _ _ (by simp), World.cell?_alloc_at _ _ _ _ (by simp)]; rfl
  · rw [World.cell?_alloc_at _ _ _ _ (by simp)]; rfl

end Go.Proofs.Ytgbccpfehcjhbaa
