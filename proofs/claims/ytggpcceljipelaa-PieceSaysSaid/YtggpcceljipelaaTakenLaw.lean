/- The plain law of a bucket and a queue (P31): packet by packet and time by time. No program is in sight. No conditions. -/
import Derived.Test.YtggpcceljipelaaLib
namespace Go.Proofs.Ytggpcceljipelaa
open Go Go.RowKit

def tickV (B r f d : Int) : Int := min B (f + d * r)
theorem tickV_zero {B r f : Int} (h : f ≤ B) : tickV B r f 0 = f := by unfold tickV; rw [Int.zero_mul]; omega
theorem tickV_bd {B r f d : Int} (hr : 0 ≤ r) (hd : 0 ≤ d) (_ : 0 ≤ f) (hB : f ≤ B) : f ≤ tickV B r f d ∧ tickV B r f d ≤ B := by
  have := Int.mul_nonneg hd hr
  unfold tickV; omega
theorem tickV_succ {B r f d : Int} (hr : 0 ≤ r) (hd : 0 ≤ d) : min B (tickV B r f d + r) = tickV B r f (d + 1) := by
  have := Int.mul_nonneg hd hr
  unfold tickV
  rw [Int.add_mul, Int.one_mul]; omega
/-- the time of the packet before -/
def nowA (A : Nat → Int) (k : Nat) : Int := if k = 0 then 0 else A (k - 1)
/-- what there is behind k packets -/
def fr (A S : Nat → Int) (B r f : Int) : Nat → Int
  | 0 => f
  | k + 1 => if S k ≤ tickV B r (fr A S B r f k) (A k - nowA A k) then tickV B r (fr A S B r f k) (A k - nowA A k) - S k else tickV B r (fr A S B r f k) (A k - nowA A k)
/-- what there is when packet k comes -/
def at_ (A S : Nat → Int) (B r f : Int) (k : Nat) : Int := tickV B r (fr A S B r f k) (A k - nowA A k)
/-- it passes -/
def passes (A S : Nat → Int) (B r f : Int) (k : Nat) : Bool := decide (S k ≤ at_ A S B r f k)
theorem fr_yes {A S : Nat → Int} {B r f : Int} {k : Nat} (h : S k ≤ at_ A S B r f k) : fr A S B r f (k + 1) = at_ A S B r f k - S k := by simp only [fr]; exact if_pos h
theorem fr_no {A S : Nat → Int} {B r f : Int} {k : Nat} (h : ¬ S k ≤ at_ A S B r f k) : fr A S B r f (k + 1) = at_ A S B r f k := by simp only [fr]; exact if_neg h
theorem nowA_succ (A : Nat → Int) (k : Nat) : nowA A (k + 1) = A k := by simp [nowA]

/-- a queue: the times go up, from 0 to 200 -/
structure QueueA (A S : Nat → Int) (n : Nat) : Prop where
  bd : ∀ j, j < n → 0 ≤ A j ∧ A j ≤ 200 ∧ 1 ≤ S j ∧ S j ≤ 1000
  mono : ∀ i j, i ≤ j → j < n → A i ≤ A j
theorem QueueA.now {A S : Nat → Int} {n : Nat} (h : QueueA A S n) {k : Nat} (hk : k < n) : 0 ≤ nowA A k ∧ nowA A k ≤ A k := by
  unfold nowA
  split
  · exact ⟨by omega, (h.bd k hk).1⟩
  · exact ⟨(h.bd (k - 1) (by omega)).1, h.mono _ _ (by omega) hk⟩
theorem fr_bd {A S : Nat → Int} {n : Nat} {B r f : Int} (h : QueueA A S n) (hr : 0 ≤ r) (hf : 0 ≤ f ∧ f ≤ B) : ∀ k, k ≤ n → 0 ≤ fr A S B r f k ∧ fr A S B r f k ≤ B
  | 0, _ => hf
  | k + 1, hk => by
    have a := fr_bd h hr hf k (by omega)
    have b := h.now (k := k) (by omega)
    have c := tickV_bd (d := A k - nowA A k) hr (by omega) a.1 a.2
    have d := h.bd k (by omega)
    simp only [fr]
    split <;> omega
theorem at_bd {A S : Nat → Int} {n : Nat} {B r f : Int} (h : QueueA A S n) (hr : 0 ≤ r) (hf : 0 ≤ f ∧ f ≤ B) {k : Nat} (hk : k < n) : 0 ≤ at_ A S B r f k ∧ at_ A S B r f k ≤ B := by
  have a := fr_bd h hr hf k (by omega)
  have b := h.now hk
  have c := tickV_bd (d := A k - nowA A k) hr (by omega) a.1 a.2
  unfold at_; omega
/-- at time t, in a round through the queue at place j: K packets have been taken -/
def Place (A : Nat → Int) (n : Nat) (t : Int) (j K : Nat) : Prop :=
  K ≤ n ∧ (∀ i, i < K → A i < t ∨ (A i = t ∧ i < j)) ∧ ∀ i, K ≤ i → i < n → t < A i ∨ (A i = t ∧ j ≤ i)
theorem place_start {A S : Nat → Int} {n : Nat} (h : QueueA A S n) : Place A n 0 0 0 :=
  ⟨by omega, fun i hi => by omega, fun i _ hi => by have := (h.bd i hi).1; omega⟩
theorem place_hit {A S : Nat → Int} {n : Nat} {t : Int} {j K : Nat} (h : QueueA A S n) (hp : Place A n t j K) (hj : j < n) (e : A j = t) : K = j ∧ Place A n t (j + 1) (K + 1) := by
  obtain ⟨h1, h2, h3⟩ := hp
  have hjK : ¬ j < K := fun hlt => by rcases h2 j hlt with h | h <;> omega
  have hKj : ¬ K < j := fun hlt => by
    have := h.mono K j (by omega) hj
    rcases h3 K (Nat.le_refl K) (by omega) with h | h <;> omega
  obtain rfl : K = j := by omega
  refine ⟨rfl, by omega, fun i hi => ?_, fun i hi hn => ?_⟩
  · by_cases e' : i = K
    · subst e'; exact .inr ⟨e, by omega⟩
    · rcases h2 i (by omega) with h | h
      · exact .inl h
      · exact .inr ⟨h.1, by omega⟩
  · rcases h3 i (by omega) hn with h | h
    · exact .inl h
    · exact .inr ⟨h.1, by omega⟩
theorem place_miss {A : Nat → Int} {n : Nat} {t : Int} {j K : Nat} (hp : Place A n t j K) (e : A j ≠ t) : Place A n t (j + 1) K := by
  obtain ⟨h1, h2, h3⟩ := hp
  refine ⟨h1, fun i hi => ?_, fun i hi hn => ?_⟩
  · rcases h2 i hi with h | h
    · exact .inl h
    · exact .inr ⟨h.1, by omega⟩
  · rcases h3 i hi hn with h | h
    · exact .inl h
    · refine .inr ⟨h.1, ?_⟩
      by_cases e' : i = j
      · subst e'; exact absurd h.1 e
      · omega
theorem place_next {A : Nat → Int} {n : Nat} {t : Int} {K : Nat} (hp : Place A n t n K) : Place A n (t + 1) 0 K := by
  obtain ⟨h1, h2, h3⟩ := hp
  refine ⟨h1, fun i hi => ?_, fun i hi hn => ?_⟩
  · rcases h2 i hi with h | h <;> exact .inl (by omega)
  · rcases h3 i hi hn with h | h
    · by_cases e : A i = t + 1
      · exact .inr ⟨e, by omega⟩
      · exact .inl (by omega)
    · omega
theorem place_end {A S : Nat → Int} {n K : Nat} (h : QueueA A S n) (hp : Place A n 201 0 K) : K = n := by
  obtain ⟨h1, h2, h3⟩ := hp
  apply Classical.byContradiction
  intro hne
  have := (h.bd K (by omega)).2.1
  rcases h3 K (Nat.le_refl K) (by omega) with h | h <;> omega
/-- the times of those that have been taken are not after t -/
theorem place_now {A : Nat → Int} {n : Nat} {t : Int} {j K : Nat} (hp : Place A n t j K) (ht : 0 ≤ t) : nowA A K ≤ t := by
  unfold nowA
  split
  · exact ht
  · rcases hp.2.1 (K - 1) (by omega) with h | h <;> omega
end Go.Proofs.Ytggpcceljipelaa
