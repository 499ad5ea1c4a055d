/- The contracts of slices.ContainsFunc over the peers that lag. Conditions: none lags. -/
import Derived.Test.YtgnegemiiahkaaaWorld
namespace Go.Proofs.Ytgnegemiiahkaaa
open Go Go.RowKit
set_option linter.unusedVariables false
set_option linter.unusedSimpArgs false

theorem topWorld_lags {w : World} {a b : Int} {d : Bool} :
    Calls Try.prog 53 #[.agg #[.int .i64 a, .int .i64 b, .bool d]] w fun e w' => e = .returned (.bool (!d)) ∧ Below w.heap.size w w' := by
  have hb := (Below.refl w.heap.size w).alloc (Nat.le_refl _) (.cells #[.int .i64 a, .int .i64 b, .bool d] 53)
  cases d
  all_goals
    go_enter Try.func53, Try.ntmps53
    go_wp2
    go_ret
    exact ⟨rfl, hb⟩
theorem index_Peer {w : World} {p : Option Addr} {n c : Nat} {L : List Peer} (h : SR encP 3 w p n c L) (hd : ∀ k, k < n → pd L k = true) :
    Calls Try.prog 86 #[.slice p n c, .func (.func 53) #[] #[]] w fun e w' => e = .returned (.int .i64 (-1)) ∧ Below w.heap.size w w' := by
  have hm := h.2.1
  have HD := Lib.hid hd
  clear hd
  go_enter Try.func86, Try.ntmps86
  go_wp2
  go_loopw [8] (fun v wr => ∃ k : Nat, k ≤ n ∧ v = .int .i64 k ∧ Below w.heap.size w wr) (fun v _ => n - (intOf v).toNat)
  case atStart => exact ⟨0, by omega, rfl, Below.refl _ _⟩
  case round =>
    obtain ⟨k, hk, rfl, hb⟩ := hrel
    have hsz := hb.size
    by_cases hkn : k < n
    · obtain ⟨b, off, rfl, hlt, hc⟩ := h.cells (by omega)
      have c0 : wr.cell? ⟨b, off + k * 3, none⟩ = some (.int .i64 (pl L k)) := (bdeep hb hlt _).trans (hc k hkn 0 (by omega))
      have c1 : wr.cell? ⟨b, off + k * 3 + 1, none⟩ = some (.int .i64 (pp L k)) := (bdeep hb hlt _).trans (hc k hkn 1 (by omega))
      have c2 : wr.cell? ⟨b, off + k * 3 + 2, none⟩ = some (.bool (pd L k)) := (bdeep hb hlt _).trans (hc k hkn 2 (by omega))
      rw [HD.out k hkn] at c2
      clear hc h
      go_wp2_with fail
      refine (topWorld_lags).mono ?_; rintro e w1 ⟨rfl, hb1⟩
      have hb2 := hb.trans (hb1.mono hsz)
      go_wp2
      go_roundw
      case rel => exact ⟨k + 1, by omega, by go_num, hb2⟩
      case measure => simp [intOf]; omega
    · obtain rfl : n = k := by omega
      go_wp2
      go_ret
      exact ⟨rfl, hb⟩
theorem contains_Peer {w : World} {p : Option Addr} {n c : Nat} {L : List Peer} (h : SR encP 3 w p n c L) (hd : ∀ k, k < n → pd L k = true) :
    Calls Try.prog 52 #[.slice p n c, .func (.func 53) #[] #[]] w fun e w' => e = .returned (.bool false) ∧ Below w.heap.size w w' := by
  have hm := h.2.1
  have HI := Lib.hid (index_Peer h hd)
  clear hd h
  go_enter Try.func52, Try.ntmps52
  go_wp2_with fail
  refine HI.out.mono ?_; rintro e w1 ⟨rfl, b1⟩
  go_wp2
  go_ret
  exact ⟨rfl, b1⟩
end Go.Proofs.Ytgnegemiiahkaaa
