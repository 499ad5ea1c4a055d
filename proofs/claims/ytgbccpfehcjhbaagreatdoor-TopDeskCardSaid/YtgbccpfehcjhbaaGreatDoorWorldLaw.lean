/- What a world does (P72 to P76), in plain Lean. No program is in sight. No conditions beyond what each theorem says. -/
import Derived.Test.YtgbccpfehcjhbaaGreatDoorRowMore
import Derived.Test.YtgbccpfehcjhbaaGreatDoorIndexFunc
namespace Go.Proofs.YtgbccpfehcjhbaaGreatDoor
open Go Go.RowKit
set_option linter.unusedVariables false

abbrev Peer := Int × Int × Bool
def encP (x : Peer) : List Value := [.int .i64 x.1, .int .i64 x.2.1, .bool x.2.2]
theorem encP_len (x : Peer) : (encP x).length = 3 := rfl
theorem encP_oneC (x : Peer) : ∀ u ∈ encP x, u.oneCell' = true := by
  intro u hu
  simp only [encP, List.mem_cons, List.not_mem_nil, or_false] at hu
  rcases hu with rfl | rfl | rfl <;> rfl
def pl (L : List Peer) (k : Nat) : Int := (ge L k).1
def pp (L : List Peer) (k : Nat) : Int := (ge L k).2.1
def pd (L : List Peer) (k : Nat) : Bool := (ge L k).2.2

def fstP (pr : Nat → Bool) : Nat → Nat
  | 0 => 0
  | n + 1 => if fstP pr n < n then fstP pr n else if pr n then n else n + 1
theorem fstP_is (pr : Nat → Bool) : ∀ n, FirstP pr n (fstP pr n)
  | 0 => ⟨Nat.le_refl _, fun j hj => by simp [fstP] at hj, fun h => by simp at h⟩
  | n + 1 => by
    obtain ⟨h1, h2, h3⟩ := fstP_is pr n
    unfold fstP
    by_cases h : fstP pr n < n
    · rw [if_pos h]; exact ⟨by omega, h2, fun _ => h3 h⟩
    · rw [if_neg h]
      have e0 : fstP pr n = n := by omega
      rw [e0] at h2
      cases e : pr n with
      | true => simp only [if_true]; exact ⟨by omega, h2, fun _ => e⟩
      | false => rw [if_neg (by simp)]; exact ⟨by omega, fun j hj => by rcases Nat.lt_succ_iff_lt_or_eq.1 hj with h' | rfl; exact h2 j h'; exact e, fun h => by omega⟩
theorem fstP_one {pr : Nat → Bool} {n i : Nat} (h : FirstP pr n i) : fstP pr n = i := firstP_one (fstP_is pr n) h

/-- how far from the turn the next peer is that lags; the number of peers where none does -/
def nx (L : List Peer) (t : Nat) : Nat := fstP (fun k => !pd L ((t + k) % L.length)) L.length
/-- one byte to a peer -/
def putW (u : Int) (x : Peer) : Peer := if x.2.1 + 1 = u ∨ x.2.1 + 1 = x.1 then (x.1 - (x.2.1 + 1), 0, decide (x.1 - (x.2.1 + 1) = 0)) else (x.1, x.2.1 + 1, x.2.2)
def who (s : List Peer × Nat) : Nat := (s.2 + nx s.1 s.2) % s.1.length
/-- one byte -/
def stepW (u : Int) (s : List Peer × Nat) : List Peer × Nat :=
  if nx s.1 s.2 < s.1.length then (s.1.set (who s) (putW u (ge s.1 (who s))), (who s + 1) % s.1.length) else s
def runW (u : Int) (s : List Peer × Nat) : Nat → List Peer × Nat
  | 0 => s
  | k + 1 => stepW u (runW u s k)
def stuckW (s : List Peer × Nat) : Bool := decide (nx s.1 s.2 = s.1.length)
/-- what Tick returns -/
def tickR (u : Int) (s : List Peer × Nat) (rate : Nat) : Nat := fstP (fun m => stuckW (runW u s m)) rate

theorem nx_le (L : List Peer) (t : Nat) : nx L t ≤ L.length := (fstP_is _ _).1
theorem nx_at {L : List Peer} {t : Nat} (h : nx L t < L.length) : pd L ((t + nx L t) % L.length) = false := by
  have h1 : (!pd L ((t + nx L t) % L.length)) = true := (fstP_is (fun k => !pd L ((t + k) % L.length)) L.length).2.2 h
  simpa using h1
theorem nx_before {L : List Peer} {t k : Nat} (h : k < nx L t) : pd L ((t + k) % L.length) = true := by
  have := (fstP_is (fun k => !pd L ((t + k) % L.length)) L.length).2.1 k h
  simpa using this
theorem who_lt {s : List Peer × Nat} (h : 0 < s.1.length) : who s < s.1.length := Nat.mod_lt _ h
theorem stepW_stuck {u : Int} {s : List Peer × Nat} (h : stuckW s = true) : stepW u s = s := by
  unfold stuckW at h
  unfold stepW
  rw [if_neg (by have := of_decide_eq_true h; omega)]
theorem runW_stuck {u : Int} {s : List Peer × Nat} {m : Nat} (h : stuckW (runW u s m) = true) : ∀ j, runW u s (m + j) = runW u s m
  | 0 => rfl
  | j + 1 => by
    show stepW u (runW u s (m + j)) = _
    rw [runW_stuck h j, stepW_stuck h]
theorem stepW_len {u : Int} {s : List Peer × Nat} : (stepW u s).1.length = s.1.length := by
  unfold stepW; split <;> simp
theorem runW_len {u : Int} {s : List Peer × Nat} : ∀ k, (runW u s k).1.length = s.1.length
  | 0 => rfl
  | k + 1 => by show (stepW u (runW u s k)).1.length = _; rw [stepW_len, runW_len k]
theorem stepW_turn {u : Int} {s : List Peer × Nat} (h : s.2 < s.1.length) : (stepW u s).2 < (stepW u s).1.length := by
  rw [stepW_len]
  unfold stepW
  split
  · exact Nat.mod_lt _ (by omega)
  · exact h
theorem runW_turn {u : Int} {s : List Peer × Nat} (h : s.2 < s.1.length) : ∀ k, (runW u s k).2 < (runW u s k).1.length
  | 0 => h
  | k + 1 => stepW_turn (runW_turn h k)

/-- what holds of a peer -/
def GoodP (x : Peer) : Prop := 0 ≤ x.2.1 ∧ (x.2.1 < x.1 ∨ (x.1 = 0 ∧ x.2.1 = 0)) ∧ x.2.2 = decide (x.1 = 0) ∧ x.1 ≤ 1000000
def GoodL (L : List Peer) : Prop := ∀ k, k < L.length → GoodP (ge L k)
theorem GoodL.set {L : List Peer} {i : Nat} {x : Peer} (h : GoodL L) (hx : GoodP x) : GoodL (L.set i x) := by
  intro k hk
  rw [List.length_set] at hk
  by_cases hi : i < L.length
  · rw [ge_set k hi]
    by_cases e : k = i
    · rw [if_pos e]; exact hx
    · rw [if_neg e]; exact h k hk
  · rw [List.set_eq_of_length_le (by omega)]; exact h k hk
theorem putW_good {u : Int} {x : Peer} (h : GoodP x) (hd : x.2.2 = false) : GoodP (putW u x) := by
  obtain ⟨a, p, d⟩ := x
  obtain ⟨h1, h2, h3, h4⟩ := h
  simp only at h1 h2 h3 h4 hd
  rw [hd] at h3
  have h5 : ¬ a = 0 := of_decide_eq_false h3.symm
  unfold putW
  by_cases h : p + 1 = u ∨ p + 1 = a
  · rw [if_pos h]
    refine ⟨Int.le_refl _, ?_, rfl, ?_⟩
    · show 0 < a - (p + 1) ∨ (a - (p + 1) = 0 ∧ (0 : Int) = 0)
      omega
    · show a - (p + 1) ≤ 1000000
      omega
  · rw [if_neg h]
    refine ⟨?_, ?_, ?_, ?_⟩
    · show 0 ≤ p + 1
      omega
    · show p + 1 < a ∨ (a = 0 ∧ p + 1 = 0)
      omega
    · show d = decide (a = 0)
      rw [hd, h3]
    · exact h4
theorem stepW_good {u : Int} {s : List Peer × Nat} (h : GoodL s.1) : GoodL (stepW u s).1 := by
  unfold stepW
  by_cases h2 : nx s.1 s.2 < s.1.length
  · rw [if_pos h2]
    exact h.set (putW_good (h _ (who_lt (by omega))) (nx_at h2))
  · rw [if_neg h2]; exact h
theorem runW_good {u : Int} {s : List Peer × Nat} (h : GoodL s.1) : ∀ k, GoodL (runW u s k).1
  | 0 => h
  | k + 1 => stepW_good (runW_good h k)

/-- Append -/
def addP (a : Int) (x : Peer) : Peer := (x.1 + a, x.2.1, decide (x.1 + a = 0))
def appErr (L : List Peer) (a : Int) : Int := if a < 0 then 1 else if ∃ k, k < L.length ∧ 1000000 - pl L k < a then 2 else 0
def appL (L : List Peer) (a : Int) : List Peer := if appErr L a = 0 then tab L.length fun k => addP a (ge L k) else L
theorem appL_len (L : List Peer) (a : Int) : (appL L a).length = L.length := by
  unfold appL; split
  · exact tab_length _ _
  · rfl
theorem appL_good {L : List Peer} {a : Int} (h : GoodL L) : GoodL (appL L a) := by
  unfold appL
  by_cases h0 : appErr L a = 0
  · rw [if_pos h0]
    intro k hk
    rw [tab_length] at hk
    rw [ge_tab hk]
    unfold appErr at h0
    split at h0
    · omega
    · split at h0
      · omega
      · rename_i h1 h2
        obtain ⟨g1, g2, g3, g4⟩ := h k hk
        have h5 : ¬ 1000000 - pl L k < a := fun h => h2 ⟨k, hk, h⟩
        unfold pl at h5
        refine ⟨g1, ?_, rfl, ?_⟩ <;> simp only [addP] <;> omega
  · rw [if_neg h0]; exact h
/-- Crash -/
def crErr (L : List Peer) (i : Int) : Int := if i < 0 ∨ (L.length : Int) ≤ i then 1 else 0
def crL (L : List Peer) (i : Int) : List Peer := if i < 0 ∨ (L.length : Int) ≤ i then L else L.set i.toNat (pl L i.toNat, 0, pd L i.toNat)
theorem crL_len (L : List Peer) (i : Int) : (crL L i).length = L.length := by
  unfold crL; split
  · rfl
  · simp
theorem crL_good {L : List Peer} {i : Int} (h : GoodL L) : GoodL (crL L i) := by
  unfold crL
  by_cases h0 : i < 0 ∨ (L.length : Int) ≤ i
  · rw [if_pos h0]; exact h
  · rw [if_neg h0]
    obtain ⟨g1, g2, g3, g4⟩ := h i.toNat (by omega)
    refine h.set ⟨Int.le_refl _, ?_, g3, g4⟩
    show 0 < pl L i.toNat ∨ (pl L i.toNat = 0 ∧ (0 : Int) = 0)
    unfold pl
    omega
end Go.Proofs.YtgbccpfehcjhbaaGreatDoor
