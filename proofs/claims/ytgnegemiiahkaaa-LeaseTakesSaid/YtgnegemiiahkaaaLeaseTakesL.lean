/- The plain law of headlaw.LeaseTakes: what Take hands back is what is sorted. No program is in sight. Conditions: the leases are well formed. -/
import Derived.Test.YtgnegemiiahkaaaLeaseSort
import Derived.Test.YtgnegemiiahkaaaLeaseTake
namespace Go.Proofs.Ytgnegemiiahkaaa
open Go Go.RowKit
set_option linter.unusedVariables false

theorem lscan_sorted : ∀ (xs : List T3) (l : Int), lscan l xs = 0 → (∀ y ∈ xs, l < y.1) ∧ xs.Pairwise (fun y z => y.1 < z.1)
  | [], l, _ => ⟨fun y hy => by simp at hy, List.Pairwise.nil⟩
  | (a, u, p) :: r, l, h => by
    unfold lscan at h
    split at h
    · cases h
    · split at h
      · cases h
      · rename_i h1 h2
        obtain ⟨k1, k2⟩ := lscan_sorted r a h
        refine ⟨fun y hy => ?_, List.pairwise_cons.2 ⟨fun y hy => k1 y hy, k2⟩⟩
        rcases List.mem_cons.1 hy with rfl | hy
        · show l < a; omega
        · have := k1 y hy; omega
/-- what lies ahead of x, and what behind -/
structure Cuts (A : List T3) (x : T3) (R P S : List T3) : Prop where
  a : A = P ++ S
  r : R = P ++ x :: S
  p : ∀ y ∈ P, y.1 < x.1
  s : ∀ y ∈ S, x.1 < y.1
theorem takes_cuts {xs : List T3} {x : T3} {i : Nat} (he : leaseErr xs = 0) (hi : FirstP (fun k => !decide (t0 xs k < x.1)) xs.length i) :
    ∃ P S, Cuts (xs.filter fun y => !(y.1 == x.1)) x (takeL xs x i) P S := by
  obtain ⟨_, hsort⟩ := lscan_sorted xs _ he
  obtain ⟨h1, h2, h3⟩ := hi
  have hP : ∀ y ∈ xs.take i, y.1 < x.1 := by
    intro y hy
    obtain ⟨k, hk, rfl⟩ := List.getElem_of_mem hy
    rw [List.length_take] at hk
    have := h2 k (by omega)
    rw [List.getElem_take]
    have e : xs[k]'(by omega) = (t0 xs k, t1 xs k, t2 xs k) := (ge_get (L := xs) (j := k) (by omega)).symm
    rw [e]; simpa using this
  have hfP : (xs.take i).filter (fun y => !(y.1 == x.1)) = xs.take i := List.filter_eq_self.2 (fun y hy => by have := hP y hy; simp; omega)
  have hsplit : xs.filter (fun y => !(y.1 == x.1)) = xs.take i ++ (xs.drop i).filter (fun y => !(y.1 == x.1)) := by
    conv => lhs; rw [← List.take_append_drop i xs, List.filter_append, hfP]
  by_cases hin : i < xs.length
  · have hd : xs.drop i = xs[i] :: xs.drop (i + 1) := List.drop_eq_getElem_cons hin
    have hsd : (xs.drop i).Pairwise (fun y z => y.1 < z.1) := hsort.sublist (List.drop_sublist i xs)
    rw [hd] at hsd
    obtain ⟨k1, k2⟩ := List.pairwise_cons.1 hsd
    have hge : ¬ xs[i].1 < x.1 := by
      have := h3 hin
      have e : xs[i] = (t0 xs i, t1 xs i, t2 xs i) := (ge_get (L := xs) (j := i) hin).symm
      rw [e]; simpa using this
    have et : t0 xs i = xs[i].1 := by
      have e : xs[i] = (t0 xs i, t1 xs i, t2 xs i) := (ge_get (L := xs) (j := i) hin).symm
      rw [e]
    have hS : ∀ y ∈ xs.drop (i + 1), x.1 < y.1 := fun y hy => by have := k1 y hy; omega
    have hfS : (xs.drop (i + 1)).filter (fun y => !(y.1 == x.1)) = xs.drop (i + 1) := List.filter_eq_self.2 (fun y hy => by have := hS y hy; simp; omega)
    by_cases heq : xs[i].1 = x.1
    · refine ⟨xs.take i, xs.drop (i + 1), ⟨?_, ?_, hP, hS⟩⟩
      · rw [hsplit, hd, List.filter_cons, hfS]; simp [heq]
      · unfold takeL
        rw [if_pos ⟨hin, by rw [et]; exact heq⟩, List.set_eq_take_append_cons_drop, if_pos hin]
    · have hS2 : ∀ y ∈ xs.drop i, x.1 < y.1 := by
        rw [hd]; intro y hy
        rcases List.mem_cons.1 hy with rfl | hy
        · omega
        · exact hS y hy
      refine ⟨xs.take i, xs.drop i, ⟨?_, ?_, hP, hS2⟩⟩
      · rw [hsplit]; congr 1; exact List.filter_eq_self.2 (fun y hy => by have := hS2 y hy; simp; omega)
      · unfold takeL; rw [if_neg (fun h => heq (by rw [← et]; exact h.2))]
  · have hd : xs.drop i = [] := List.drop_of_length_le (by omega)
    refine ⟨xs.take i, [], ⟨?_, ?_, hP, fun y hy => by simp at hy⟩⟩
    · rw [hsplit, hd]; rfl
    · unfold takeL; rw [if_neg (fun h => hin h.1), hd]
theorem cuts_place {A : List T3} {x : T3} {R P S : List T3} {j : Nat} (h : Cuts A x R P S) (hj : j ≤ A.length) (hF : FinJ (ge A) x A.length j) : tab (A.length + 1) (mvZ (ge A) x j) = R := by
  obtain ⟨rfl, rfl, hP, hS⟩ := h
  obtain ⟨f1, f2⟩ := hF
  have hl : (P ++ S).length = P.length + S.length := List.length_append
  have hjP : j = P.length := by
    rcases Nat.lt_trichotomy j P.length with e | e | e
    · have h1 := f2 j (Nat.le_refl _) (by omega)
      have h2 : ge (P ++ S) j = P[j] := by rw [ge_get (by omega), List.getElem_append_left e]
      have h3 := hP _ (List.getElem_mem e)
      rw [h2] at h1; omega
    · exact e
    · have h1 := f1 P.length e
      have h2 : ge (P ++ S) P.length = S[0]'(by omega) := by
        rw [ge_get (by omega), List.getElem_append_right (Nat.le_refl _)]; simp
      have h3 := hS _ (List.getElem_mem (show 0 < S.length by omega))
      rw [h2] at h1; omega
  subst hjP
  apply List.ext_getElem
  · simp [tab]; omega
  · intro k k1 k2
    simp only [tab_length] at k1
    simp only [tab, List.getElem_map, List.getElem_range]
    unfold mvZ
    by_cases e1 : k < P.length
    · rw [if_pos e1, ge_get (by omega), List.getElem_append_left e1, List.getElem_append_left e1]
    · rw [if_neg e1]
      by_cases e2 : k = P.length
      · subst e2; rw [if_pos rfl, List.getElem_append_right (Nat.le_refl _)]; simp
      · rw [if_neg e2, ge_get (by omega), List.getElem_append_right (by omega), List.getElem_append_right (by omega)]
        simp only [List.getElem_cons]
        rw [dif_neg (by omega)]
        congr 1; omega
/-- what is left is in order -/
theorem filt_facts {xs : List T3} {x : T3} (he : leaseErr xs = 0) {A : List T3} (hA : (xs.filter fun y => !(y.1 == x.1)) = A) :
    (∀ k, k < A.length → 0 ≤ (ge A k).1 ∧ (ge A k).1 ≤ 7) ∧ (∀ k j, k ≤ j → j < A.length → (ge A k).1 ≤ (ge A j).1) ∧ (∀ k, k + 1 < A.length → (ge A k).1 < (ge A (k + 1)).1) ∧ (∀ k, k < A.length → (ge A k).1 ≠ x.1) ∧ A.length ≤ 8 := by
  obtain ⟨_, hsort⟩ := lscan_sorted xs _ he
  obtain ⟨hok, h8⟩ := lease_ok he
  have hs2 : A.Pairwise (fun y z => y.1 < z.1) := by rw [← hA]; exact hsort.sublist List.filter_sublist
  have hp := List.pairwise_iff_getElem.1 hs2
  have hmem : ∀ k (hk : k < A.length), A[k] ∈ xs ∧ A[k].1 ≠ x.1 := fun k hk => by
    have h1 : A[k] ∈ xs.filter (fun y => !(y.1 == x.1)) := by rw [hA]; exact List.getElem_mem hk
    rw [List.mem_filter] at h1
    exact ⟨h1.1, by have := h1.2; simpa using this⟩
  refine ⟨fun k hk => ?_, fun k j hkj hj => ?_, fun k hk => ?_, fun k hk => ?_, ?_⟩
  · rw [ge_get hk]; have := hok _ (hmem k hk).1; unfold okLs at this; omega
  · rw [ge_get (by omega), ge_get hj]
    rcases Nat.lt_or_eq_of_le hkj with h | rfl
    · exact Int.le_of_lt (hp k j (by omega) hj h)
    · exact Int.le_refl _
  · rw [ge_get (by omega), ge_get hk]; exact hp k (k + 1) (by omega) hk (by omega)
  · rw [ge_get hk]; exact (hmem k hk).2
  · rw [← hA]; exact Nat.le_trans (List.length_filter_le _ _) h8
theorem push_tab (A : List T3) (x : T3) : A ++ [x] = tab (A.length + 1) (mvZ (ge A) x A.length) := by
  apply List.ext_getElem
  · simp [tab]
  · intro k k1 k2
    simp only [tab_length] at k2
    simp only [tab, List.getElem_map, List.getElem_range]
    unfold mvZ
    by_cases e1 : k < A.length
    · rw [if_pos e1, ge_get e1, List.getElem_append_left e1]
    · obtain rfl : k = A.length := by omega
      rw [if_neg e1, if_pos rfl]; simp
theorem bad_lit : leaseErr [((8 : Int), (0 : Int), (0 : Int))] = 1 := by
  unfold leaseErr lscan; rw [if_pos]; unfold okLs; omega
end Go.Proofs.Ytgnegemiiahkaaa
