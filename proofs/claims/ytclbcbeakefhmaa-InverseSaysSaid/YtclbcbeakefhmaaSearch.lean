/- The contract of sort.Search over a closure whose calls answer a test: the border that it finds. Conditions: what the closure answers. -/
import Derived.Test.YtclbcbeakefhmaaBoth
namespace Go.Proofs.Ytclbcbeakefhmaa
open Go Go.RowKit

def Border (pr : Nat → Bool) (n i : Nat) : Prop := i ≤ n ∧ (0 < i → pr (i - 1) = false) ∧ (i < n → pr i = true)
def RetBorder (w : World) (pr : Nat → Bool) (n : Nat) (e : Ending) (w' : World) : Prop := ∃ i : Nat, e = .returned (.int .i64 i) ∧ Border pr n i ∧ Below w.heap.size w w'

set_option maxHeartbeats 400000 in
theorem sort_Search {w : World} {n : Nat} {F : Nat} {c1 c2 : Value} {pr : Nat → Bool} (hn : n ≤ 1000) (hF : ∀ (args : Array Value) (w : World), (callFunc F args).run Try.prog w = .ok (.enter F args) w)
    (hcall : ∀ w' (t : Nat), t < n → Below w.heap.size w w' → Calls Try.prog F #[.int .i64 t, c1, c2] w' fun e w'' => e = .returned (.bool (pr t)) ∧ Below w.heap.size w w'') :
    Calls Try.prog 57 #[.int .i64 n, .func (.func F) #[] #[c1, c2]] w (RetBorder w pr n) := by
  have HC := Lib.hid hcall; clear hcall
  go_enter Try.func57, Try.ntmps57
  go_wp2
  go_loopw [5, 6] (fun a b wr => ∃ i j : Nat, a = .int .i64 i ∧ b = .int .i64 j ∧ i ≤ j ∧ j ≤ n ∧ Hid (0 < i → pr (i - 1) = false) ∧ Hid (j < n → pr j = true) ∧ Below w.heap.size w wr) (fun a b _ => (intOf b).toNat - (intOf a).toNat)
  case atStart => exact ⟨0, n, rfl, rfl, Nat.zero_le _, Nat.le_refl _, Lib.hid fun h => by omega, Lib.hid fun h => by omega, Below.refl _ _⟩
  case round =>
    obtain ⟨i, j, rfl, rfl, h1, h2, H1, H2, hb⟩ := hrel
    by_cases hij : i < j
    · have hm : ((i : Int) + (j : Int)) / 2 = ((((i + j) / 2 : Nat)) : Int) := by omega
      have hm1 : i ≤ (i + j) / 2 := by omega
      have hm2 : (i + j) / 2 < j := by omega
      generalize (i + j) / 2 = m at hm hm1 hm2
      cases hpr : pr m with
      | false =>
        have HP := Lib.hid hpr; clear hpr
        go_wp2_with fail
        refine (HC.out _ m (by omega) hb).mono ?_; rintro e w1 ⟨rfl, hb1⟩
        rw [HP.out]
        clear hm
        go_wp2
        go_roundw
        case rel => exact ⟨m + 1, j, by go_num, rfl, by omega, by omega, Lib.hid fun _ => by rw [Nat.add_sub_cancel]; exact HP.out, H2, hb1⟩
        case measure => simp [intOf]; omega
      | true =>
        have HP := Lib.hid hpr; clear hpr
        go_wp2_with fail
        refine (HC.out _ m (by omega) hb).mono ?_; rintro e w1 ⟨rfl, hb1⟩
        rw [HP.out]
        clear hm
        go_wp2
        go_roundw
        case rel => exact ⟨i, m, rfl, rfl, by omega, by omega, H1, Lib.hid fun _ => HP.out, hb1⟩
        case measure => simp [intOf]; omega
    · obtain rfl : i = j := by omega
      go_wp2
      go_ret
      exact ⟨i, rfl, ⟨h2, H1.out, H2.out⟩, hb⟩
end Go.Proofs.Ytclbcbeakefhmaa
