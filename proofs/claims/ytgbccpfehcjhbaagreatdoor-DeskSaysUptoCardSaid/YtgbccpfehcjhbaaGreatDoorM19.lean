/- The texts of a script: its lines, its words, its numbers (plain). Conditions: what each theorem says. -/
import Derived.Test.YtgbccpfehcjhbaaGreatDoorM05
import Derived.Test.YtgbccpfehcjhbaaGreatDoorM18
import Derived.Test.YtgbccpfehcjhbaaGreatDoorM07
namespace Go.Proofs.YtgbccpfehcjhbaaGreatDoor
open Go Go.RowKit
set_option linter.unusedVariables false
set_option linter.unusedSimpArgs false

theorem idx_none {c : UInt8} : ∀ {x : Bytes}, c ∉ x → Lib.index x [c] = -1
  | [], _ => rfl
  | b :: l, h => by
    have hb : ¬ c = b := fun e => h (by rw [e]; exact List.mem_cons_self ..)
    have hl := idx_none (x := l) (fun e => h (List.mem_cons_of_mem _ e))
    unfold Lib.index
    rw [hl]
    simp [List.isPrefixOf, hb]
theorem idx_app {c : UInt8} {r : Bytes} : ∀ {x : Bytes}, c ∉ x → Lib.index (x ++ c :: r) [c] = (x.length : Int)
  | [], _ => by unfold Lib.index; simp [List.isPrefixOf]
  | b :: l, h => by
    have hb : ¬ c = b := fun e => h (by rw [e]; exact List.mem_cons_self ..)
    have hl := idx_app (x := l) (r := r) (fun e => h (List.mem_cons_of_mem _ e))
    rw [List.cons_append]
    unfold Lib.index
    rw [hl]
    have h1 : ¬ ((l.length : Int) = -1) := by omega
    simp [List.isPrefixOf, hb, h1]
theorem splitK_join {c : UInt8} : ∀ (r : List Bytes) (x : Bytes), c ∉ x → (∀ y ∈ r, c ∉ y) → Lib.splitK [c] 0 (Lib.count (x ++ Lib.joinTail [c] r) [c]) (x ++ Lib.joinTail [c] r) = x :: r
  | [], x, hx, _ => by
    have e : x ++ Lib.joinTail [c] [] = x := by simp [Lib.joinTail]
    rw [e, Lib.count_one, List.count_eq_zero_of_not_mem hx]
    rfl
  | y :: t, x, hx, hr => by
    have hy := hr y (List.mem_cons_self ..)
    have ih := splitK_join t y hy (fun z hz => hr z (List.mem_cons_of_mem _ hz))
    have e : x ++ Lib.joinTail [c] (y :: t) = x ++ c :: (y ++ Lib.joinTail [c] t) := by simp [Lib.joinTail]
    have hc : Lib.count (x ++ c :: (y ++ Lib.joinTail [c] t)) [c] = Lib.count (y ++ Lib.joinTail [c] t) [c] + 1 := by
      rw [Lib.count_one, Lib.count_one, List.count_append, List.count_eq_zero_of_not_mem hx, List.count_cons_self]
      omega
    rw [e, hc]
    unfold Lib.splitK
    rw [idx_app hx]
    have h1 : ¬ (((x.length : Nat) : Int) == -1) = true := fun e => by have := beq_iff_eq.1 e; omega
    rw [if_neg h1]
    have h2 : ((x.length : Nat) : Int).toNat = x.length := Int.toNat_natCast _
    rw [h2, Nat.add_zero, List.take_left]
    have h3 : (x ++ c :: (y ++ Lib.joinTail [c] t)).drop (x.length + [c].length) = y ++ Lib.joinTail [c] t := by
      rw [← List.drop_drop, List.drop_left]; rfl
    rw [h3, ih]
theorem pcs_join {c : UInt8} {L : List Bytes} (h0 : L ≠ []) (h : ∀ y ∈ L, c ∉ y) : pcs (str (Lib.join L [c])) c = L.map str := by
  cases L with
  | nil => exact absurd rfl h0
  | cons x r =>
    have h1 := splitK_join r x (h x (List.mem_cons_self ..)) (fun y hy => h y (List.mem_cons_of_mem _ hy))
    have h2 : (pcs (str (Lib.join (x :: r) [c])) c).map (·.data.toList) = x :: r := by
      unfold pcs
      rw [Lib.splitB_data]
      show Lib.splitK [c] 0 (Lib.count (str (Lib.join (x :: r) [c])).data.toList [c]) (str (Lib.join (x :: r) [c])).data.toList = _
      rw [str_data, Lib.join_cons]
      exact h1
    have h3 := congrArg (List.map str) h2
    rw [List.map_map] at h3
    exact Eq.trans (List.map_id'' (f := str ∘ fun x => x.data.toList) (fun s => rfl) _).symm h3
theorem words_of {W : List Bytes} (h0 : W ≠ []) (h : ∀ y ∈ W, (32 : UInt8) ∉ y ∧ y ≠ []) : wordsOf (str (Lib.join W [32])) = W.map str := by
  unfold wordsOf
  rw [pcs_join h0 (fun y hy => (h y hy).1), List.filter_eq_self.2]
  intro s hs
  obtain ⟨y, hy, rfl⟩ := List.mem_map.1 hs
  exact isW_is (h y hy).2
/-- a script of lines -/
def scriptOf (L : List Bytes) : Bytes := Lib.join (L ++ [[]]) [10]
theorem lines_of {L : List Bytes} (h : ∀ y ∈ L, (10 : UInt8) ∉ y) : linesOf (str (scriptOf L)) = L.map str := by
  unfold linesOf scriptOf
  rw [pcs_join (by simp) (fun y hy => by
    rcases List.mem_append.1 hy with hy | hy
    · exact h y hy
    · simp only [List.mem_singleton] at hy
      subst hy; simp)]
  have hg : gsW ((L ++ [[]]).map str) (((L ++ [[]]).map str).length - 1) = ⟨#[]⟩ := by
    unfold gsW
    simp [List.getD]
    rfl
  rw [if_pos hg]
  simp
theorem digits_in : ∀ (u : Nat) (b : UInt8), b ∈ Lib.decDigits u → 48 ≤ b.toNat ∧ b.toNat ≤ 57 := by
  intro u
  induction u using Nat.strongRecOn with
  | _ u ih =>
    intro b hb
    by_cases h : u < 10
    · rw [Lib.decDigits_one h, List.mem_singleton] at hb
      subst hb
      rw [UInt8.toNat_ofNat']
      omega
    · rw [Lib.decDigits, dif_neg h] at hb
      rcases List.mem_append.1 hb with hb | hb
      · exact ih (u / 10) (by omega) b hb
      · rw [List.mem_singleton] at hb
        subst hb
        rw [UInt8.toNat_ofNat']
        omega
theorem itoa_dig {v : Int} (h : 0 ≤ v) : Lib.itoa v = Lib.decDigits v.toNat := by unfold Lib.itoa; rw [if_neg (by omega)]
theorem decFrom_app : ∀ (l r : Bytes) (a : Nat), Lib.decFrom a (l ++ r) = (Lib.decFrom a l).bind fun n => Lib.decFrom n r
  | [], r, a => rfl
  | b :: l, r, a => by
    rw [List.cons_append]
    have e1 : ∀ t, Lib.decFrom a (b :: t) = match Lib.digitVal b with | some d => Lib.decFrom (a * 10 + d) t | none => none := fun t => rfl
    rw [e1, e1]
    cases Lib.digitVal b with
    | none => rfl
    | some d => exact decFrom_app l r _
theorem digitVal_of {u : Nat} (h : u < 10) : Lib.digitVal (UInt8.ofNat (48 + u)) = some u := by
  rcases (show u = 0 ∨ u = 1 ∨ u = 2 ∨ u = 3 ∨ u = 4 ∨ u = 5 ∨ u = 6 ∨ u = 7 ∨ u = 8 ∨ u = 9 by omega) with rfl | rfl | rfl | rfl | rfl | rfl | rfl | rfl | rfl | rfl <;> rfl
theorem decFrom_digits : ∀ u : Nat, Lib.decFrom 0 (Lib.decDigits u) = some u := by
  intro u
  induction u using Nat.strongRecOn with
  | _ u ih =>
    by_cases h : u < 10
    · rw [Lib.decDigits_one h]
      unfold Lib.decFrom
      rw [digitVal_of h]
      simp [Lib.decFrom]
    · rw [Lib.decDigits, dif_neg h, decFrom_app, ih (u / 10) (by omega)]
      simp only [Option.bind_some]
      unfold Lib.decFrom
      rw [digitVal_of (by omega)]
      simp [Lib.decFrom]
      omega
theorem numW_itoa {v : Int} (h0 : 0 ≤ v) (h1 : v < 1000000000) : numW (str (Lib.itoa v)) = some v := by
  have hl := nDigits_le 8 v.toNat (by omega)
  rw [← Lib.decDigits_length] at hl
  have ha : Lib.atoiAll (str (Lib.itoa v)).data.toList = .ok v := by
    rw [str_data, itoa_dig h0, Lib.atoiAll_short _ (by omega)]
    have hd := decFrom_digits v.toNat
    have hin := digits_in v.toNat
    cases e : Lib.decDigits v.toNat with
    | nil => rw [e] at hd; have := congrArg List.length e; rw [Lib.decDigits_length, List.length_nil] at this; unfold Lib.nDigits at this; split at this <;> omega
    | cons b r =>
      rw [e] at hd hin
      have hb := hin b (List.mem_cons_self ..)
      have n45 : ¬ (b == 45) = true := fun x => by have := beq_iff_eq.1 x; subst this; revert hb; decide
      have n43 : ¬ (b == 43) = true := fun x => by have := beq_iff_eq.1 x; subst this; revert hb; decide
      unfold Lib.atoi Lib.decNat
      dsimp only
      rw [if_neg n45, if_neg n43]
      simp only [List.isEmpty_cons, Bool.false_eq_true, if_false, hd, Option.map_some]
      show Lib.NumEnd.ofOption (some ((v.toNat : Nat) : Int)) = _
      rw [Int.toNat_of_nonneg h0]
      rfl
  unfold numW
  rw [ha]
  simp only
  rw [if_pos ⟨by rw [str_size, itoa_dig h0]; omega, h0, by first | rfl | trivial⟩]
theorem itoa_in {v : Int} (h : 0 ≤ v) : ∀ b ∈ Lib.itoa v, 48 ≤ b.toNat ∧ b.toNat ≤ 57 := by rw [itoa_dig h]; exact digits_in _
theorem itoa_ne {v : Int} (h : 0 ≤ v) : Lib.itoa v ≠ [] := by
  intro e
  have := congrArg List.length e
  rw [itoa_dig h, Lib.decDigits_length, List.length_nil] at this
  unfold Lib.nDigits at this
  split at this <;> omega
theorem not_in {c : UInt8} {l : Bytes} (h : ∀ b ∈ l, 44 ≤ b.toNat) (hc : c.toNat < 44) : c ∉ l := fun e => by have := h c e; omega
theorem numsS_in {Y : List Int} (h : ∀ x ∈ Y, 0 ≤ x) : ∀ b ∈ numsS Y, 44 ≤ b.toNat := by
  unfold numsS
  cases Y with
  | nil => intro b hb; cases hb
  | cons y r =>
    rw [List.map_cons, Lib.join_cons]
    intro b hb
    rcases List.mem_append.1 hb with hb | hb
    · have := (itoa_in (h y (List.mem_cons_self ..)) b hb).1; omega
    · unfold Lib.joinTail at hb
      obtain ⟨z, hz, hb⟩ := List.mem_flatten.1 hb
      obtain ⟨u, hu, rfl⟩ := List.mem_map.1 hz
      obtain ⟨v, hv, rfl⟩ := List.mem_map.1 hu
      rcases List.mem_append.1 hb with hb | hb
      · simp only [List.mem_singleton] at hb
        subst hb; decide
      · have := (itoa_in (h v (List.mem_cons_of_mem _ hv)) b hb).1; omega
theorem numsS_ne {Y : List Int} (h0 : Y ≠ []) (h : ∀ x ∈ Y, 0 ≤ x) : numsS Y ≠ [] := by
  cases Y with
  | nil => exact absurd rfl h0
  | cons y r =>
    unfold numsS
    rw [List.map_cons, Lib.join_cons]
    intro e
    exact itoa_ne (h y (List.mem_cons_self ..)) (List.append_eq_nil_iff.1 e).1
theorem pcs_nums {Y : List Int} (h0 : Y ≠ []) (h : ∀ x ∈ Y, 0 ≤ x) : pcs (str (numsS Y)) 44 = Y.map fun x => str (Lib.itoa x) := by
  unfold numsS
  rw [pcs_join (by simpa using h0) (fun y hy => by
    obtain ⟨v, hv, rfl⟩ := List.mem_map.1 hy
    intro e
    have := (itoa_in (h v hv) 44 e).1
    revert this; decide), List.map_map]
  rfl
theorem numsOk_of {Y : List Int} (h0 : Y ≠ []) (h : ∀ x ∈ Y, 0 ≤ x ∧ x < 1000000000) : numsOk (str (numsS Y)) := by
  unfold numsOk
  rw [pcs_nums h0 (fun x hx => (h x hx).1)]
  intro s hs
  obtain ⟨v, hv, rfl⟩ := List.mem_map.1 hs
  rw [numW_itoa (h v hv).1 (h v hv).2]
  simp
theorem numsL_of {Y : List Int} (h0 : Y ≠ []) (h : ∀ x ∈ Y, 0 ≤ x ∧ x < 1000000000) : numsL (str (numsS Y)) = Y := by
  unfold numsL
  rw [pcs_nums h0 (fun x hx => (h x hx).1), List.map_map]
  conv => rhs; rw [← List.map_id Y]
  refine List.map_congr_left fun v hv => ?_
  show nv (str (Lib.itoa v)) = v
  unfold nv
  rw [numW_itoa (h v hv).1 (h v hv).2]
  rfl
end Go.Proofs.YtgbccpfehcjhbaaGreatDoor

/- The lines and the words of a text, read from the left (plain). Conditions: what each theorem says. -/
namespace Go.Proofs.YtgbccpfehcjhbaaGreatDoor
open Go Go.RowKit
set_option linter.unusedVariables false
set_option linter.unusedSimpArgs false

/-- one byte read: the pieces that are closed, and the open one -/
def stepC (c : UInt8) (st : List Bytes × Bytes) (b : UInt8) : List Bytes × Bytes := if b = c then (st.1 ++ [st.2], []) else (st.1, st.2 ++ [b])
def spl (c : UInt8) (l : Bytes) : List Bytes × Bytes := l.foldl (stepC c) ([], [])
theorem spl_snoc (c : UInt8) (l : Bytes) (b : UInt8) : spl c (l ++ [b]) = stepC c (spl c l) b := by unfold spl; rw [List.foldl_append]; rfl
theorem fold_pre (c : UInt8) (P : List Bytes) : ∀ (l : Bytes) (A : List Bytes) (w : Bytes), l.foldl (stepC c) (P ++ A, w) = (P ++ (l.foldl (stepC c) (A, w)).1, (l.foldl (stepC c) (A, w)).2)
  | [], _, _ => rfl
  | b :: r, A, w => by
    rw [List.foldl_cons, List.foldl_cons]
    unfold stepC
    by_cases h : b = c
    · simp only [if_pos h]
      rw [List.append_assoc]
      exact fold_pre c P r (A ++ [w]) []
    · simp only [if_neg h]
      exact fold_pre c P r A (w ++ [b])
theorem joinT_push (c : UInt8) (x y : Bytes) (L : List Bytes) : Lib.join (x :: L ++ [y]) [c] = Lib.join (x :: L) [c] ++ ([c] ++ y) := by
  rw [List.cons_append, Lib.join_cons, Lib.join_cons]
  simp [Lib.joinTail]
theorem join_last (c : UInt8) (A : List Bytes) (w u : Bytes) : Lib.join (A ++ [w ++ u]) [c] = Lib.join (A ++ [w]) [c] ++ u := by
  cases A with
  | nil => simp [Lib.join_one]
  | cons x L => rw [joinT_push, joinT_push]; simp
theorem join_new (c : UInt8) (A : List Bytes) (w : Bytes) : Lib.join (A ++ [w] ++ [[]]) [c] = Lib.join (A ++ [w]) [c] ++ [c] := by
  cases A with
  | nil =>
    rw [List.nil_append]
    exact (joinT_push c w [] []).trans (by simp)
  | cons x L =>
    have := joinT_push c x [] (L ++ [w])
    simpa using this
theorem fold_join (c : UInt8) : ∀ (l : Bytes) (A : List Bytes) (w : Bytes), Lib.join ((l.foldl (stepC c) (A, w)).1 ++ [(l.foldl (stepC c) (A, w)).2]) [c] = Lib.join (A ++ [w]) [c] ++ l
  | [], A, w => by simp
  | b :: r, A, w => by
    rw [List.foldl_cons]
    unfold stepC
    by_cases h : b = c
    · simp only [if_pos h]
      have ih := fold_join c r (A ++ [w]) []
      unfold stepC at ih
      rw [ih, join_new, h]
      simp
    · simp only [if_neg h]
      have ih := fold_join c r A (w ++ [b])
      unfold stepC at ih
      rw [ih, join_last]
      simp
theorem fold_free (c : UInt8) : ∀ (l : Bytes) (A : List Bytes) (w : Bytes), (∀ y ∈ A, c ∉ y) → c ∉ w → (∀ y ∈ (l.foldl (stepC c) (A, w)).1, c ∉ y) ∧ c ∉ (l.foldl (stepC c) (A, w)).2
  | [], A, w, h1, h2 => ⟨h1, h2⟩
  | b :: r, A, w, h1, h2 => by
    rw [List.foldl_cons]
    by_cases h : b = c
    · have e : stepC c (A, w) b = (A ++ [w], []) := by unfold stepC; rw [if_pos h]
      rw [e]
      exact fold_free c r _ _ (fun y hy => by
        rcases List.mem_append.1 hy with hy | hy
        · exact h1 y hy
        · simp only [List.mem_singleton] at hy; subst hy; exact h2) (by simp)
    · have e : stepC c (A, w) b = (A, w ++ [b]) := by unfold stepC; rw [if_neg h]
      rw [e]
      exact fold_free c r _ _ h1 (fun hm => by
        rcases List.mem_append.1 hm with hm | hm
        · exact h2 hm
        · simp only [List.mem_singleton] at hm; exact h hm.symm)
theorem pcs_spl (c : UInt8) (l : Bytes) : pcs (str l) c = ((spl c l).1 ++ [(spl c l).2]).map str := by
  have h1 := fold_join c l [] []
  have h2 := fold_free c l [] [] (by simp) (by simp)
  rw [List.nil_append, Lib.join_one, List.nil_append] at h1
  have h3 : Lib.join ((spl c l).1 ++ [(spl c l).2]) [c] = l := h1
  have h4 := pcs_join (c := c) (L := (spl c l).1 ++ [(spl c l).2]) (by simp) (fun y hy => by
    rcases List.mem_append.1 hy with hy | hy
    · exact h2.1 y hy
    · simp only [List.mem_singleton] at hy; subst hy; exact h2.2)
  rw [h3] at h4
  exact h4
theorem str_nil (l : Bytes) : str l = ⟨#[]⟩ ↔ l = [] := ⟨fun h => str_inj (a := l) (b := []) h, fun h => by rw [h]; rfl⟩
theorem linesOf_spl (l : Bytes) : linesOf (str l) = (if (spl 10 l).2 = [] then (spl 10 l).1 else (spl 10 l).1 ++ [(spl 10 l).2]).map str := by
  unfold linesOf
  rw [pcs_spl]
  have hl : (((spl 10 l).1 ++ [(spl 10 l).2]).map str).length - 1 = (spl 10 l).1.length := by simp
  have hg : gsW (((spl 10 l).1 ++ [(spl 10 l).2]).map str) (spl 10 l).1.length = str (spl 10 l).2 := by
    rw [gs_get (by simp)]
    simp
  rw [hl, hg]
  by_cases h : (spl 10 l).2 = []
  · rw [if_pos ((str_nil _).2 h), if_pos h, List.map_append, List.take_left' (by simp)]
  · rw [if_neg (fun e => h ((str_nil _).1 e)), if_neg h]
theorem spl_app {c : UInt8} {x : Bytes} (hx : c ∉ x) (r : Bytes) : spl c (x ++ c :: r) = (x :: (spl c r).1, (spl c r).2) := by
  have h1 : ∀ (x w : Bytes), c ∉ x → x.foldl (stepC c) ([], w) = ([], w ++ x) := by
    intro x
    induction x with
    | nil => intro w _; simp
    | cons b t ih =>
      intro w hb
      rw [List.foldl_cons]
      have hbc : ¬ b = c := fun e => hb (by rw [e]; exact List.mem_cons_self ..)
      rw [show stepC c ([], w) b = ([], w ++ [b]) by unfold stepC; rw [if_neg hbc], ih _ (fun e => hb (List.mem_cons_of_mem _ e))]
      simp
  unfold spl
  rw [List.foldl_append, h1 x [] hx, List.foldl_cons, List.nil_append]
  rw [show stepC c ([], x) c = ([x] ++ [], []) by unfold stepC; rw [if_pos rfl]; rfl, fold_pre]
  rfl
theorem spl_free {c : UInt8} {x : Bytes} (hx : c ∉ x) : spl c x = ([], x) := by
  have h1 : ∀ (x w : Bytes), c ∉ x → x.foldl (stepC c) ([], w) = ([], w ++ x) := by
    intro x
    induction x with
    | nil => intro w _; simp
    | cons b t ih =>
      intro w hb
      rw [List.foldl_cons]
      have hbc : ¬ b = c := fun e => hb (by rw [e]; exact List.mem_cons_self ..)
      rw [show stepC c ([], w) b = ([], w ++ [b]) by unfold stepC; rw [if_neg hbc], ih _ (fun e => hb (List.mem_cons_of_mem _ e))]
      simp
  unfold spl
  rw [h1 x [] hx, List.nil_append]
theorem cut_app {c : UInt8} {x : Bytes} (hx : c ∉ x) (r : Bytes) : Lib.cut (x ++ c :: r) [c] = (x, r, true) := by
  unfold Lib.cut
  rw [idx_app hx, if_pos (by omega), Int.toNat_natCast, List.take_left]
  congr 2
  rw [← List.drop_drop, List.drop_left]; rfl
theorem cut_free {c : UInt8} {x : Bytes} (hx : c ∉ x) : Lib.cut x [c] = (x, [], false) := by
  unfold Lib.cut
  rw [idx_none hx, if_neg (by omega)]
/-- the first line, and the rest -/
theorem lines_cut {l : Bytes} (hl : l ≠ []) : linesOf (str l) = str (Lib.cut l [10]).1 :: linesOf (str (Lib.cut l [10]).2.1) ∧ ((Lib.cut l [10]).1.length + 1 + (Lib.cut l [10]).2.1.length = l.length ∨ ((Lib.cut l [10]).2.1 = [] ∧ (Lib.cut l [10]).1 = l)) := by
  by_cases hm : (10 : UInt8) ∈ l
  · obtain ⟨x, r, rfl, hx⟩ := List.eq_append_cons_of_mem hm
    rw [cut_app hx]
    refine ⟨?_, .inl (by simp; omega)⟩
    rw [linesOf_spl, linesOf_spl, spl_app hx]
    split <;> simp
  · rw [cut_free hm]
    refine ⟨?_, .inr ⟨rfl, rfl⟩⟩
    rw [linesOf_spl, linesOf_spl, spl_free hm, if_neg hl]
    rfl
theorem lines_nil : linesOf (str []) = [] := by rw [linesOf_spl]; rfl
/-- the words of the first i bytes of a line, and the open one -/
def wstW (l : Bytes) (i : Nat) : List ByteArray := ((spl 32 (l.take i)).1.map str).filter isW
def wstO (l : Bytes) (i : Nat) : Bytes := (spl 32 (l.take i)).2
theorem isW_str (x : Bytes) : isW (str x) = decide (x ≠ []) := by
  by_cases h : x = []
  · rw [isW_not (by rw [str_data]; exact h)]; simp [h]
  · rw [isW_is (by rw [str_data]; exact h)]; simp [h]
theorem wst_let {l : Bytes} {i : Nat} (hi : i < l.length) (hb : l[i] ≠ 32) : wstW l (i + 1) = wstW l i ∧ wstO l (i + 1) = wstO l i ++ [l[i]] := by
  unfold wstW wstO
  rw [List.take_succ_eq_append_getElem hi, spl_snoc]
  unfold stepC
  rw [if_neg hb]
  exact ⟨rfl, rfl⟩
theorem wst_sp {l : Bytes} {i : Nat} (hi : i < l.length) (hb : l[i] = 32) : wstW l (i + 1) = wstW l i ++ (if wstO l i = [] then [] else [str (wstO l i)]) ∧ wstO l (i + 1) = [] := by
  unfold wstW wstO
  rw [List.take_succ_eq_append_getElem hi, spl_snoc]
  unfold stepC
  rw [if_pos hb]
  refine ⟨?_, rfl⟩
  simp only [List.map_append, List.filter_append, List.map_cons, List.map_nil]
  congr 1
  by_cases h : (spl 32 (List.take i l)).2 = []
  · rw [if_pos h, h]; rfl
  · rw [if_neg h]; simp [isW_str, h]
theorem wst_end (l : Bytes) : wordsOf (str l) = wstW l l.length ++ (if wstO l l.length = [] then [] else [str (wstO l l.length)]) := by
  unfold wordsOf wstW wstO
  rw [pcs_spl, List.take_length]
  simp only [List.map_append, List.filter_append, List.map_cons, List.map_nil]
  congr 1
  by_cases h : (spl 32 l).2 = []
  · rw [if_pos h, h]; rfl
  · rw [if_neg h]; simp [isW_str, h]
theorem wst_bd (l : Bytes) : ∀ i, i ≤ l.length → 2 * (wstW l i).length + (wstO l i).length ≤ i
  | 0, _ => by simp [wstW, wstO, spl]
  | i + 1, hi => by
    have ih := wst_bd l i (by omega)
    by_cases hb : l[i]'(by omega) = 32
    · obtain ⟨h1, h2⟩ := wst_sp (i := i) (by omega) hb
      rw [h1, h2, List.length_append]
      by_cases h : wstO l i = []
      · rw [if_pos h]; simp; omega
      · rw [if_neg h]
        have : 0 < (wstO l i).length := List.length_pos_iff.2 h
        simp; omega
    · obtain ⟨h1, h2⟩ := wst_let (i := i) (by omega) hb
      rw [h1, h2, List.length_append]
      simp; omega
end Go.Proofs.YtgbccpfehcjhbaaGreatDoor

/- The desk's line: a number, a list, read or not there (P77). Conditions: what each theorem says. -/
namespace Go.Proofs.YtgbccpfehcjhbaaGreatDoor
open Go Go.RowKit
set_option linter.unusedVariables false
set_option linter.unusedSimpArgs false

/-- the word at k is there, and a number -/
def nAt (L : List ByteArray) (k : Nat) : Prop := k < L.length ∧ numW (gsW L k) ≠ none
/-- the word at k is there, and a list of numbers -/
def lAt (L : List ByteArray) (k : Nat) : Prop := k < L.length ∧ numsOk (gsW L k)
def nV (L : List ByteArray) (k : Nat) : Int := nv (gsW L k)
theorem nAt_some {L : List ByteArray} {k : Nat} (h : nAt L k) : numW (gsW L k) = some (nV L k) := nv_some h.2
theorem nV_bd {L : List ByteArray} {k : Nat} (h : nAt L k) : 0 ≤ nV L k ∧ nV L k < 1000000000 := numW_lt (nAt_some h)
def NumAny (w : World) (bl : Nat) (L : List ByteArray) (k : Nat) (e : Ending) (w' : World) : Prop :=
  (nAt L k ∧ e = .returned (.int .i64 (nV L k)) ∧ LineS w' bl L (k + 1) ∧ Chg (fun x => x = bl) w w') ∨ (¬ nAt L k ∧ NumsBad w bl e w')
theorem dk_num_any {w : World} (LD : Laid w) {bl k : Nat} {L : List ByteArray} (h : LineS w bl L k) (hz : ∀ j, (gsW L j).size ≤ 900000) (hb : 8 ≤ bl) :
    Calls Tryz.prog 62 #[.pointer (some ⟨bl, 0, none⟩)] w (NumAny w bl L k) := by
  by_cases hn : nAt L k
  · exact (dk_num LD h hn.1 (nAt_some hn) hb).mono fun e w' h => .inl ⟨hn, h.1, h.2.1, h.2.2⟩
  · exact (dk_num_bad LD h (fun hk => ⟨Classical.not_not.1 (fun h2 => hn ⟨hk, h2⟩), by have := hz k; omega⟩) hb).mono fun e w' h => .inr ⟨hn, h⟩
def NumsAny (w : World) (bl : Nat) (L : List ByteArray) (k : Nat) (e : Ending) (w' : World) : Prop :=
  (lAt L k ∧ NumsPost w bl L (k + 1) (numsL (gsW L k)) e w') ∨ (¬ lAt L k ∧ NumsBad w bl e w')
theorem dk_nums_any {w : World} (LD : Laid w) {bl k : Nat} {L : List ByteArray} (h : LineS w bl L k) (hz : ∀ j, (gsW L j).size ≤ 900000) (hb : 8 ≤ bl) :
    Calls Tryz.prog 58 #[.pointer (some ⟨bl, 0, none⟩)] w (NumsAny w bl L k) := by
  by_cases hn : lAt L k
  · exact (dk_nums LD h hn.1 hn.2 (hz k) hb).mono fun e w' h => .inl ⟨hn, h⟩
  · exact (dk_nums_bad LD h (fun hk => ⟨fun h2 => hn ⟨hk, h2⟩, hz k⟩) hb).mono fun e w' h => .inr ⟨hn, h⟩
/-- a part of a line is read, or not -/
def ReadAny (w : World) (bl : Nat) (L : List ByteArray) (k : Nat) (ok : Prop) (Pre : World → Prop) (P : World → Ending → World → Prop) (e : Ending) (w' : World) : Prop :=
  (ok ∧ ReadPost w bl L k Pre P e w') ∨ (¬ ok ∧ NumsBad w bl e w')
end Go.Proofs.YtgbccpfehcjhbaaGreatDoor
