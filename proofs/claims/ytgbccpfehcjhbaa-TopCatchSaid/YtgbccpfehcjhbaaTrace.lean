/- The contracts of trace.Check, headref.Trace (P21), and of slices.IndexFunc, slices.ContainsFunc over a function that only reckons. Conditions: what that function answers. -/
import Derived.Test.YtgbccpfehcjhbaaDeconv
import Derived.Test.YtgbccpfehcjhbaaIndexFunc
import Derived.OwnWalk
namespace Go.Proofs.Ytgbccpfehcjhbaa
open Go Go.RowKit

def okT (xs : List Int) : Prop := ∀ j, j < xs.length → 0 ≤ gi xs j ∧ gi xs j ≤ 10000
instance (xs : List Int) : Decidable (okT xs) := by unfold okT; infer_instance
/-- P21 -/
def traceErr (xs : List Int) : Int := if xs.length > 60 then 2 else if okT xs then 0 else 1
theorem trace_ok {xs : List Int} (h : traceErr xs = 0) : xs.length ≤ 60 ∧ okT xs := by
  unfold traceErr at h
  by_cases h1 : xs.length > 60
  · rw [if_pos h1] at h; omega
  · rw [if_neg h1] at h
    by_cases h2 : okT xs
    · exact ⟨by omega, h2⟩
    · rw [if_neg h2] at h; omega
theorem trace_of {xs : List Int} (h : xs.length ≤ 60) (g : okT xs) : traceErr xs = 0 := by
  unfold traceErr; rw [if_neg (by omega), if_pos g]

set_option maxHeartbeats 400000 in
theorem trace_Check {w : World} {p : Option Addr} {n c : Nat} {xs : List Int} (h : SI w p n c xs) {er : Int} (he : traceErr xs = er) :
    Calls Try.prog 15 #[.slice p n c] w fun e w' => e = .returned (.int .i64 er) ∧ w = w' := by
  have hl := h.1
  have hm := h.2.1
  have HE := Lib.hid he; clear he
  have HL := Lib.hid hl; clear hl
  by_cases h60 : 60 < n
  · have hb1 : decide ((60 : Int) < (n : Int)) = true := by simp; omega
    go_enter Try.func15, Try.ntmps15
    go_wp2
    go_ret
    exact ⟨ret_int (by rw [← HE.out]; unfold traceErr; rw [HL.out, if_pos h60]), rfl⟩
  have hb1 : decide ((60 : Int) < (n : Int)) = false := by simp; omega
  go_enter Try.func15, Try.ntmps15
  go_wp2
  go_loop [10] (fun i => ∃ k : Nat, k ≤ n ∧ i = .int .i64 k ∧ Hid (∀ j, j < k → 0 ≤ gi xs j ∧ gi xs j ≤ 10000)) (fun i => n - (intOf i).toNat)
  case atStart => exact ⟨0, Nat.zero_le _, rfl, Lib.hid fun j hj => by omega⟩
  case round =>
    obtain ⟨k, hk, rfl, H⟩ := hrel
    by_cases hkn : k < n
    · obtain ⟨b, off, rfl, hlt, hc⟩ := h.cells (by omega)
      have hcell := hc k hkn
      clear hc h
      by_cases h1 : gi xs k < 0
      · go_wp2
        go_ret
        exact ⟨ret_int (by rw [← HE.out]; unfold traceErr; rw [HL.out, if_neg h60, if_neg]; intro hn; have := hn k (by rw [HL.out]; exact hkn); omega), rfl⟩
      · by_cases h2 : 10000 < gi xs k
        · go_wp2
          go_ret
          exact ⟨ret_int (by rw [← HE.out]; unfold traceErr; rw [HL.out, if_neg h60, if_neg]; intro hn; have := hn k (by rw [HL.out]; exact hkn); omega), rfl⟩
        · go_wp2
          go_round
          case rel => exact ⟨k + 1, by omega, by go_num, Lib.hid fun j hj => by rcases Nat.lt_succ_iff_lt_or_eq.1 hj with h | rfl; exact H.out j h; omega⟩
          case measure => simp [intOf]; omega
    · obtain rfl : n = k := by omega
      go_wp2
      go_ret
      exact ⟨ret_int (by rw [← HE.out, trace_of (by rw [HL.out]; omega)]; intro j hj; exact H.out j (by rw [HL.out] at hj; exact hj)), rfl⟩

def badT (v : Int) : Bool := !(decide (0 ≤ v) && decide (v ≤ 10000))
theorem badT_false {v : Int} : badT v = false ↔ 0 ≤ v ∧ v ≤ 10000 := by simp [badT]
theorem badT_true {v : Int} : badT v = true ↔ ¬ (0 ≤ v ∧ v ≤ 10000) := by
  rw [← badT_false]; cases badT v <;> simp

end Go.Proofs.Ytgbccpfehcjhbaa
