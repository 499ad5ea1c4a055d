/- The contract of slices.Equal at []int: it answers whether the two lists are one. No conditions. -/
import Derived.Test.YtgbccpfehcjhbaaGreatDoorRows
import Derived.Test.YtgbccpfehcjhbaaGreatDoorLib
import Derived.Deep.QuietTactic
import Derived.BigQuiet
import Derived.WalkSmall
namespace Go.Proofs.YtgbccpfehcjhbaaGreatDoor
open Go Go.RowKit

theorem gi_ne_of {xs ys : List Int} {k : Nat} (h : gi xs k ≠ gi ys k) : xs ≠ ys := fun e => h (by rw [e])
theorem eq_of_all {xs ys : List Int} {n : Nat} (h1 : xs.length = n) (h2 : ys.length = n) (h : ∀ j, j < n → gi xs j = gi ys j) : xs = ys :=
  list_ext_gi (by omega) (fun j hj => h j (by omega))

set_option maxHeartbeats 400000 in
theorem slices_Equal {w : World} {p q : Option Addr} {n c m d : Nat} {xs ys : List Int} (h : SI w p n c xs) (g : SI w q m d ys) {r : Bool} (he : decide (xs = ys) = r) :
    Calls Tryz.prog 31 #[.slice p n c, .slice q m d] w fun e w' => e = .returned (.bool r) ∧ Below w.heap.size w w' := by
  obtain ⟨hl, hm, hr⟩ := h
  obtain ⟨gl, gm, gr⟩ := g
  have HE := Lib.hid he; clear he
  have HL := Lib.hid hl; clear hl
  have GL := Lib.hid gl; clear gl
  by_cases h0 : n = m
  · subst h0
    go_enter Tryz.func31, Tryz.ntmps31
    go_wp2
    go_loopw [13] (fun i wr => ∃ k : Nat, k ≤ n ∧ i = .int .i64 k ∧ Below w.heap.size w wr ∧ ∀ j, j < k → gi xs j = gi ys j) (fun i _ => n - (intOf i).toNat)
    case atStart => exact ⟨0, Nat.zero_le _, rfl, Below.refl _ _, fun j hj => by omega⟩
    case round =>
      obtain ⟨k, hk, rfl, hb, H⟩ := hrel
      have HH := Lib.hid H; clear H
      by_cases hkn : k < n
      · obtain ⟨b, off, rfl, hlt, hc⟩ := hr (by omega)
        obtain ⟨b', off', rfl, hlt', hc'⟩ := gr (by omega)
        have hcell : wr.cell? ⟨b, off + k, none⟩ = some (.int .i64 (gi xs k)) := (bdeep hb hlt _).trans (hc k hkn)
        have hcell' : wr.cell? ⟨b', off' + k, none⟩ = some (.int .i64 (gi ys k)) := (bdeep hb hlt' _).trans (hc' k hkn)
        have HB := Lib.hid hb
        clear hc hc' hr gr hb
        by_cases heq : gi xs k = gi ys k
        · have hd : (gi xs k == gi ys k) = true := by simp [heq]
          have HQ := Lib.hid heq; clear heq
          go_wp2
          go_quiet (fail)
          go_wp2
          go_roundw
          case rel => exact ⟨k + 1, by omega, by go_num, below_drewN HB.out _, fun j hj => by rcases Nat.lt_succ_iff_lt_or_eq.1 hj with h | rfl; exact HH.out j h; exact HQ.out⟩
          case measure => simp [intOf]; omega
        · have hd : (gi xs k == gi ys k) = false := by simp [heq]
          go_wp2
          go_quiet (fail)
          go_wp2
          go_ret
          exact ⟨ret_bool (by rw [← HE.out]; simpa using gi_ne_of heq), below_drewN HB.out _⟩
      · have hkk : n = k := by omega
        subst hkk
        go_wp2
        go_ret
        exact ⟨ret_bool (by rw [← HE.out]; simpa using eq_of_all HL.out GL.out HH.out), hb⟩
  · have hb : ((n : Int) == (m : Int)) = false := by simp; omega
    go_enter Tryz.func31, Tryz.ntmps31
    go_wp2
    go_ret
    exact ⟨ret_bool (by rw [← HE.out]; simp; intro e; apply h0; rw [← HL.out, ← GL.out, e]), Below.refl _ _⟩
end Go.Proofs.YtgbccpfehcjhbaaGreatDoor
