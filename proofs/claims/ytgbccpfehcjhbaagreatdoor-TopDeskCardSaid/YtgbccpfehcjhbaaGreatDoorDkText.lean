/- The texts of a script: its lines, its words, its numbers (plain). Conditions: what each theorem says. -/
import Derived.Test.YtgbccpfehcjhbaaGreatDoorRefDec
import Derived.Test.YtgbccpfehcjhbaaGreatDoorDkBld
namespace Go.Proofs.YtgbccpfehcjhbaaGreatDoor
open Go Go.RowKit
set_option linter.unusedVariables false
set_option linter.unusedSimpArgs false

theorem idx_none {c : UInt8} : ∀ {x : Bytes}, c ∉ x → Lib.index x [c] = -1
  | [], _ => rfl
  | b :: l, h => by
    have hb : ¬ c = b := fun e => h (by rw [e]; exact List.mem_cons_self ..)
    have hl := idx_none (x := l) (fun e => h (List.mem_cons_of_mem _ e))
    unfold Lib.index
    rw [hl]
    simp [List.isPrefixOf, hb]
theorem idx_app {c : UInt8} {r : Bytes} : ∀ {x : Bytes}, c ∉ x → Lib.index (x ++ c :: r) [c] = (x.length : Int)
  | [], _ => by unfold Lib.index; simp [List.isPrefixOf]
  | b :: l, h => by
    have hb : ¬ c = b := fun e => h (by rw [e]; exact List.mem_cons_self ..)
    have hl := idx_app (x := l) (r := r) (fun e => h (List.mem_cons_of_mem _ e))
    rw [List.cons_append]
    unfold Lib.index
    rw [hl]
    have h1 : ¬ ((l.length : Int) = -1) := by omega
    simp [List.isPrefixOf, hb, h1]
theorem splitK_join {c : UInt8} : ∀ (r : List Bytes) (x : Bytes), c ∉ x → (∀ y ∈ r, c ∉ y) → Lib.splitK [c] 0 (Lib.count (x ++ Lib.joinTail [c] r) [c]) (x ++ Lib.joinTail [c] r) = x :: r
  | [], x, hx, _ => by
    have e : x ++ Lib.joinTail [c] [] = x := by simp [Lib.joinTail]
    rw [e, Lib.count_one, List.count_eq_zero_of_not_mem hx]
    rfl
  | y :: t, x, hx, hr => by
    have hy := hr y (List.mem_cons_self ..)
    have ih := splitK_join t y hy (fun z hz => hr z (List.mem_cons_of_mem _ hz))
    have e : x ++ Lib.joinTail [c] (y :: t) = x ++ c :: (y ++ Lib.joinTail [c] t) := by simp [Lib.joinTail]
    have hc : Lib.count (x ++ c :: (y ++ Lib.joinTail [c] t)) [c] = Lib.count (y ++ Lib.joinTail [c] t) [c] + 1 := by
      rw [Lib.count_one, Lib.count_one, List.count_append, List.count_eq_zero_of_not_mem hx, List.count_cons_self]
      omega
    rw [e, hc]
    unfold Lib.splitK
    rw [idx_app hx]
    have h1 : ¬ (((x.length : Nat) : Int) == -1) = true := fun e => by have := beq_iff_eq.1 e; omega
    rw [if_neg h1]
    have h2 : ((x.length : Nat) : Int).toNat = x.length := Int.toNat_natCast _
    rw [h2, Nat.add_zero, List.take_left]
    have h3 : (x ++ c :: (y ++ Lib.joinTail [c] t)).drop (x.length + [c].length) = y ++ Lib.joinTail [c] t := by
      rw [← List.drop_drop, List.drop_left]; rfl
    rw [h3, ih]
theorem pcs_join {c : UInt8} {L : List Bytes} (h0 : L ≠ []) (h : ∀ y ∈ L, c ∉ y) : pcs (str (Lib.join L [c])) c = L.map str := by
  cases L with
  | nil => exact absurd rfl h0
  | cons x r =>
    have h1 := splitK_join r x (h x (List.mem_cons_self ..)) (fun y hy => h y (List.mem_cons_of_mem _ hy))
    have h2 : (pcs (str (Lib.join (x :: r) [c])) c).map (·.data.toList) = x :: r := by
      unfold pcs
      rw [Lib.splitB_data]
      show Lib.splitK [c] 0 (Lib.count (str (Lib.join (x :: r) [c])).data.toList [c]) (str (Lib.join (x :: r) [c])).data.toList = _
      rw [str_data, Lib.join_cons]
      exact h1
    have h3 := congrArg (List.map str) h2
    rw [List.map_map] at h3
    exact Eq.trans (List.map_id'' (f := str ∘ fun x => x.data.toList) (fun s => rfl) _).symm h3
theorem words_of {W : List Bytes} (h0 : W ≠ []) (h : ∀ y ∈ W, (32 : UInt8) ∉ y ∧ y ≠ []) : wordsOf (str (Lib.join W [32])) = W.map str := by
  unfold wordsOf
  rw [pcs_join h0 (fun y hy => (h y hy).1), List.filter_eq_self.2]
  intro s hs
  obtain ⟨y, hy, rfl⟩ := List.mem_map.1 hs
  exact isW_is (h y hy).2
/-- a script of lines -/
def scriptOf (L : List Bytes) : Bytes := Lib.join (L ++ [[]]) [10]
theorem lines_of {L : List Bytes} (h : ∀ y ∈ L, (10 : UInt8) ∉ y) : linesOf (str (scriptOf L)) = L.map str := by
  unfold linesOf scriptOf
  rw [pcs_join (by simp) (fun y hy => by
    rcases List.mem_append.1 hy with hy | hy
    · exact h y hy
    · simp only [List.mem_singleton] at hy
      subst hy; simp)]
  have hg : gsW ((L ++ [[]]).map str) (((L ++ [[]]).map str).length - 1) = ⟨#[]⟩ := by
    unfold gsW
    simp [List.getD]
    rfl
  rw [if_pos hg]
  simp
theorem digits_in : ∀ (u : Nat) (b : UInt8), b ∈ Lib.decDigits u → 48 ≤ b.toNat ∧ b.toNat ≤ 57 := by
  intro u
  induction u using Nat.strongRecOn with
  | _ u ih =>
    intro b hb
    by_cases h : u < 10
    · rw [Lib.decDigits_one h, List.mem_singleton] at hb
      subst hb
      rw [UInt8.toNat_ofNat']
      omega
    · rw [Lib.decDigits, dif_neg h] at hb
      rcases List.mem_append.1 hb with hb | hb
      · exact ih (u / 10) (by omega) b hb
      · rw [List.mem_singleton] at hb
        subst hb
        rw [UInt8.toNat_ofNat']
        omega
theorem itoa_dig {v : Int} (h : 0 ≤ v) : Lib.itoa v = Lib.decDigits v.toNat := by unfold Lib.itoa; rw [if_neg (by omega)]
theorem decFrom_app : ∀ (l r : Bytes) (a : Nat), Lib.decFrom a (l ++ r) = (Lib.decFrom a l).bind fun n => Lib.decFrom n r
  | [], r, a => rfl
  | b :: l, r, a => by
    rw [List.cons_append]
    have e1 : ∀ t, Lib.decFrom a (b :: t) = match Lib.digitVal b with | some d => Lib.decFrom (a * 10 + d) t | none => none := fun t => rfl
    rw [e1, e1]
    cases Lib.digitVal b with
    | none => rfl
    | some d => exact decFrom_app l r _
theorem digitVal_of {u : Nat} (h : u < 10) : Lib.digitVal (UInt8.ofNat (48 + u)) = some u := by
  rcases (show u = 0 ∨ u = 1 ∨ u = 2 ∨ u = 3 ∨ u = 4 ∨ u = 5 ∨ u = 6 ∨ u = 7 ∨ u = 8 ∨ u = 9 by omega) with rfl | rfl | rfl | rfl | rfl | rfl | rfl | rfl | rfl | rfl <;> rfl
theorem decFrom_digits : ∀ u : Nat, Lib.decFrom 0 (Lib.decDigits u) = some u := by
  intro u
  induction u using Nat.strongRecOn with
  | _ u ih =>
    by_cases h : u < 10
    · rw [Lib.decDigits_one h]
      unfold Lib.decFrom
      rw [digitVal_of h]
      simp [Lib.decFrom]
    · rw [Lib.decDigits, dif_neg h, decFrom_app, ih (u / 10) (by omega)]
      simp only [Option.bind_some]
      unfold Lib.decFrom
      rw [digitVal_of (by omega)]
      simp [Lib.decFrom]
      omega
theorem numW_itoa {v : Int} (h0 : 0 ≤ v) (h1 : v < 1000000000) : numW (str (Lib.itoa v)) = some v := by
  have hl := nDigits_le 8 v.toNat (by omega)
  rw [← Lib.decDigits_length] at hl
  have ha : Lib.atoiAll (str (Lib.itoa v)).data.toList = .ok v := by
    rw [str_data, itoa_dig h0, Lib.atoiAll_short _ (by omega)]
    have hd := decFrom_digits v.toNat
    have hin := digits_in v.toNat
    cases e : Lib.decDigits v.toNat with
    | nil => rw [e] at hd; have := congrArg List.length e; rw [Lib.decDigits_length, List.length_nil] at this; unfold Lib.nDigits at this; split at this <;> omega
    | cons b r =>
      rw [e] at hd hin
      have hb := hin b (List.mem_cons_self ..)
      have n45 : ¬ (b == 45) = true := fun x => by have := beq_iff_eq.1 x; subst this; revert hb; decide
      have n43 : ¬ (b == 43) = true := fun x => by have := beq_iff_eq.1 x; subst this; revert hb; decide
      unfold Lib.atoi Lib.decNat
      dsimp only
      rw [if_neg n45, if_neg n43]
      simp only [List.isEmpty_cons, Bool.false_eq_true, if_false, hd, Option.map_some]
      show Lib.NumEnd.ofOption (some ((v.toNat : Nat) : Int)) = _
      rw [Int.toNat_of_nonneg h0]
      rfl
  unfold numW
  rw [ha]
  simp only
  rw [if_pos ⟨by rw [str_size, itoa_dig h0]; omega, h0, by first | rfl | trivial⟩]
theorem itoa_in {v : Int} (h : 0 ≤ v) : ∀ b ∈ Lib.itoa v, 48 ≤ b.toNat ∧ b.toNat ≤ 57 := by rw [itoa_dig h]; exact digits_in _
theorem itoa_ne {v : Int} (h : 0 ≤ v) : Lib.itoa v ≠ [] := by
  intro e
  have := congrArg List.length e
  rw [itoa_dig h, Lib.decDigits_length, List.length_nil] at this
  unfold Lib.nDigits at this
  split at this <;> omega
theorem not_in {c : UInt8} {l : Bytes} (h : ∀ b ∈ l, 44 ≤ b.toNat) (hc : c.toNat < 44) : c ∉ l := fun e => by have := h c e; omega
theorem numsS_in {Y : List Int} (h : ∀ x ∈ Y, 0 ≤ x) : ∀ b ∈ numsS Y, 44 ≤ b.toNat := by
  unfold numsS
  cases Y with
  | nil => intro b hb; cases hb
  | cons y r =>
    rw [List.map_cons, Lib.join_cons]
    intro b hb
    rcases List.mem_append.1 hb with hb | hb
    · have := (itoa_in (h y (List.mem_cons_self ..)) b hb).1; omega
    · unfold Lib.joinTail at hb
      obtain ⟨z, hz, hb⟩ := List.mem_flatten.1 hb
      obtain ⟨u, hu, rfl⟩ := List.mem_map.1 hz
      obtain ⟨v, hv, rfl⟩ := List.mem_map.1 hu
      rcases List.mem_append.1 hb with hb | hb
      · simp only [List.mem_singleton] at hb
        subst hb; decide
      · have := (itoa_in (h v (List.mem_cons_of_mem _ hv)) b hb).1; omega
theorem numsS_ne {Y : List Int} (h0 : Y ≠ []) (h : ∀ x ∈ Y, 0 ≤ x) : numsS Y ≠ [] := by
  cases Y with
  | nil => exact absurd rfl h0
  | cons y r =>
    unfold numsS
    rw [List.map_cons, Lib.join_cons]
    intro e
    exact itoa_ne (h y (List.mem_cons_self ..)) (List.append_eq_nil_iff.1 e).1
theorem pcs_nums {Y : List Int} (h0 : Y ≠ []) (h : ∀ x ∈ Y, 0 ≤ x) : pcs (str (numsS Y)) 44 = Y.map fun x => str (Lib.itoa x) := by
  unfold numsS
  rw [pcs_join (by simpa using h0) (fun y hy => by
    obtain ⟨v, hv, rfl⟩ := List.mem_map.1 hy
    intro e
    have := (itoa_in (h v hv) 44 e).1
    revert this; decide), List.map_map]
  rfl
theorem numsOk_of {Y : List Int} (h0 : Y ≠ []) (h : ∀ x ∈ Y, 0 ≤ x ∧ x < 1000000000) : numsOk (str (numsS Y)) := by
  unfold numsOk
  rw [pcs_nums h0 (fun x hx => (h x hx).1)]
  intro s hs
  obtain ⟨v, hv, rfl⟩ := List.mem_map.1 hs
  rw [numW_itoa (h v hv).1 (h v hv).2]
  simp
theorem numsL_of {Y : List Int} (h0 : Y ≠ []) (h : ∀ x ∈ Y, 0 ≤ x ∧ x < 1000000000) : numsL (str (numsS Y)) = Y := by
  unfold numsL
  rw [pcs_nums h0 (fun x hx => (h x hx).1), List.map_map]
  conv => rhs; rw [← List.map_id Y]
  refine List.map_congr_left fun v hv => ?_
  show nv (str (Lib.itoa v)) = v
  unfold nv
  rw [numW_itoa (h v hv).1 (h v hv).2]
  rfl
end Go.Proofs.YtgbccpfehcjhbaaGreatDoor
