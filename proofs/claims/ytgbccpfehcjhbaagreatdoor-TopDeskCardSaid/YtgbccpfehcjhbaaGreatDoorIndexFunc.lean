/- The contracts of slices.IndexFunc and slices.ContainsFunc at []int, over a function. Conditions: what that function answers. -/
import Derived.Test.YtgbccpfehcjhbaaGreatDoorRows
import Derived.Test.YtgbccpfehcjhbaaGreatDoorLib
namespace Go.Proofs.YtgbccpfehcjhbaaGreatDoor
open Go Go.RowKit

/-- the first place where a test holds, or the end -/
def FirstP (pr : Nat → Bool) (n i : Nat) : Prop := i ≤ n ∧ (∀ j, j < i → pr j = false) ∧ (i < n → pr i = true)
theorem firstP_exists (pr : Nat → Bool) : ∀ n, ∃ i, FirstP pr n i
  | 0 => ⟨0, by omega, fun j hj => by omega, fun h => by omega⟩
  | n + 1 => by
    obtain ⟨i, h1, h2, h3⟩ := firstP_exists pr n
    by_cases h : i < n
    · exact ⟨i, by omega, h2, fun _ => h3 h⟩
    · obtain rfl : i = n := by omega
      cases e : pr i with
      | false => exact ⟨i + 1, by omega, fun j hj => by rcases Nat.lt_succ_iff_lt_or_eq.1 hj with h' | rfl; exact h2 j h'; exact e, fun h => by omega⟩
      | true => exact ⟨i, by omega, h2, fun _ => e⟩
theorem firstP_one {pr : Nat → Bool} {n i k : Nat} (h : FirstP pr n i) (g : FirstP pr n k) : i = k := by
  rcases Nat.lt_trichotomy i k with e | e | e
  · have := g.2.1 i e; rw [h.2.2 (by have := g.1; omega)] at this; cases this
  · exact e
  · have := h.2.1 k e; rw [g.2.2 (by have := h.1; omega)] at this; cases this

set_option maxHeartbeats 400000 in
theorem slices_IndexFunc {w : World} {p : Option Addr} {n c : Nat} {xs : List Int} (h : SI w p n c xs) {F : Nat} {cap : Array Value} {pr : Nat → Bool} {i : Nat} (hi : FirstP pr n i)
    (hF : ∀ (args : Array Value) (w : World), (callFunc F args).run Tryz.prog w = .ok (.enter F args) w)
    (hcall : ∀ (w' : World) (k : Nat), k < n → Below w.heap.size w w' → Calls Tryz.prog F (#[.int .i64 (gi xs k)] ++ cap) w' fun e w'' => e = .returned (.bool (pr k)) ∧ Below w.heap.size w w'') :
    Calls Tryz.prog 132 #[.slice p n c, .func (.func F) #[] cap] w fun e w' => e = .returned (.int .i64 (if i < n then i else -1)) ∧ Below w.heap.size w w' := by
  have hm := h.2.1
  obtain ⟨h1, h2, h3⟩ := hi
  have HC := Lib.hid hcall; have H2 := Lib.hid h2; have H3 := Lib.hid h3; clear hcall h2 h3
  go_enter Tryz.func132, Tryz.ntmps132
  go_wp2
  go_loopw [8] (fun v wr => ∃ k : Nat, k ≤ i ∧ v = .int .i64 k ∧ Below w.heap.size w wr) (fun v _ => n - (intOf v).toNat)
  case atStart => exact ⟨0, by omega, rfl, Below.refl _ _⟩
  case round =>
    obtain ⟨k, hk, rfl, hb⟩ := hrel
    by_cases hkn : k < n
    · obtain ⟨b, off, rfl, hlt, hc⟩ := h.cells (by omega)
      have hcell : wr.cell? ⟨b, off + k, none⟩ = some (.int .i64 (gi xs k)) := (bdeep hb hlt _).trans (hc k hkn)
      clear hc h
      by_cases hki : k < i
      · go_wp2_with fail
        refine (HC.out _ k hkn hb).mono ?_; rintro e w1 ⟨rfl, hb1⟩
        rw [H2.out k hki]
        go_wp2
        go_roundw
        case rel => exact ⟨k + 1, by omega, by go_num, hb1⟩
        case measure => simp [intOf]; omega
      · obtain rfl : i = k := by omega
        go_wp2_with fail
        refine (HC.out _ i hkn hb).mono ?_; rintro e w1 ⟨rfl, hb1⟩
        rw [H3.out hkn]
        go_wp2
        go_ret
        exact ⟨ret_int (by first | rfl | rw [if_pos hkn]), hb1⟩
    · obtain rfl : i = k := by omega
      go_wp2
      go_ret
      exact ⟨ret_int (by first | rfl | rw [if_neg hkn]), hb⟩

end Go.Proofs.YtgbccpfehcjhbaaGreatDoor
