/- What is served, flow by flow, by the times at which each would begin (P42), in plain Lean. No program is in sight. Conditions: what holds of the packets. -/
import Derived.Test.YtgnegemiiahkaaaRow
namespace Go.Proofs.Ytgnegemiiahkaaa
open Go Go.RowKit
set_option linter.unusedVariables false

/-- what is known while packets are served -/
structure FS where
  now : Int
  last : Int
  next : Nat
  E : Nat → Int
  bg : Nat → Int
  wait : List Nat
  order : List Nat
def upN (f : Nat → Int) (i : Nat) (v : Int) : Nat → Int := fun j => if j = i then v else f j
theorem upN_at (f : Nat → Int) (i : Nat) (v : Int) : upN f i v i = v := by unfold upN; rw [if_pos rfl]
theorem upN_ne {f : Nat → Int} {i j : Nat} {v : Int} (h : j ≠ i) : upN f i v j = f j := by unfold upN; rw [if_neg h]
/-- the packets: when each comes, how long it is, of which flow; the weights -/
structure PK where
  n : Nat
  A : Nat → Int
  S : Nat → Int
  fl : Nat → Nat
  W : Nat → Int
structure PK.Ok (k : PK) : Prop where
  n60 : k.n ≤ 60
  a : ∀ i, i < k.n → 0 ≤ k.A i ∧ k.A i ≤ 200
  s : ∀ i, i < k.n → 1 ≤ k.S i ∧ k.S i ≤ 1000
  f : ∀ i, i < k.n → k.fl i < 8
  w : ∀ i, i < 8 → 1 ≤ k.W i ∧ k.W i ≤ 8
def PK.cost (k : PK) (i : Nat) : Int := 840 / k.W (k.fl i) * k.S i
def stF (k : PK) (s : FS) : Int := max s.last (s.E (k.fl s.next))
/-- a packet comes in -/
def putF (k : PK) (s : FS) : FS :=
  { s with bg := upN s.bg s.next (stF k s), E := upN s.E (k.fl s.next) (stF k s + k.cost s.next), wait := s.wait ++ [s.next], next := s.next + 1 }
def inF (k : PK) (s : FS) : Prop := s.next < k.n ∧ k.A s.next ≤ s.now
instance (k : PK) (s : FS) : Decidable (inF k s) := by unfold inF; infer_instance
def admF (k : PK) : Nat → FS → FS
  | 0, s => s
  | f + 1, s => if inF k s then admF k f (putF k s) else s
/-- all that are there by now come in -/
def allF' (k : PK) (s : FS) : FS := admF k (k.n - s.next) s
def jumpF (k : PK) (s : FS) : FS := if s.wait = [] ∧ s.next < k.n ∧ s.now < k.A s.next then { s with now := k.A s.next } else s
def lessF (bg : Nat → Int) (i j : Nat) : Bool := decide (bg i < bg j ∨ (bg i = bg j ∧ i < j))
/-- where the best of the first i + 1 stands -/
def bestI (bg : Nat → Int) (L : List Nat) : Nat → Nat
  | 0 => 0
  | i + 1 => if lessF bg (ge L (i + 1)) (ge L (bestI bg L i)) then i + 1 else bestI bg L i
theorem bestI_le (bg : Nat → Int) (L : List Nat) : ∀ i, bestI bg L i ≤ i
  | 0 => Nat.le_refl _
  | i + 1 => by have := bestI_le bg L i; unfold bestI; split <;> omega
def bstF (s : FS) : Nat := bestI s.bg s.wait (s.wait.length - 1)
def serveF (k : PK) (s : FS) : FS :=
  { s with last := s.bg (ge s.wait (bstF s)), order := s.order ++ [ge s.wait (bstF s)], wait := s.wait.eraseIdx (bstF s), now := s.now + k.S (ge s.wait (bstF s)) }
def roundF (k : PK) (s : FS) : FS := serveF k (allF' k (jumpF k s))
def startF : FS := { now := 0, last := 0, next := 0, E := fun _ => 0, bg := fun _ => 0, wait := [], order := [] }
def runF (k : PK) : Nat → FS
  | 0 => startF
  | r + 1 => roundF k (runF k r)

/-- what holds throughout -/
structure InvF (k : PK) (s : FS) : Prop where
  next : s.next ≤ k.n
  len : s.order.length + s.wait.length = s.next
  sorted : s.wait.Pairwise (· < ·)
  wlt : ∀ i ∈ s.wait, i < s.next
  now : 0 ≤ s.now ∧ s.now ≤ 200 + 1000 * s.order.length
  last : 0 ≤ s.last ∧ s.last ≤ 840000 * s.next
  E : ∀ i, 0 ≤ s.E i ∧ s.E i ≤ 840000 * s.next
  bg : ∀ i, 0 ≤ s.bg i ∧ s.bg i ≤ 840000 * s.next
theorem InvF.start (k : PK) : InvF k startF :=
  ⟨Nat.zero_le _, rfl, List.Pairwise.nil, fun i hi => by simp [startF] at hi, ⟨Int.le_refl _, by simp [startF]⟩, ⟨Int.le_refl _, by simp [startF]⟩, fun i => ⟨Int.le_refl _, by simp [startF]⟩, fun i => ⟨Int.le_refl _, by simp [startF]⟩⟩
theorem cost_bd {k : PK} (h : k.Ok) {i : Nat} (hi : i < k.n) : 0 ≤ k.cost i ∧ k.cost i ≤ 840000 := by
  have h1 := h.w (k.fl i) (h.f i hi)
  have h2 := h.s i hi
  unfold PK.cost
  have h3 : 0 ≤ 840 / k.W (k.fl i) := Int.ediv_nonneg (by omega) (by omega)
  have h4 : 840 / k.W (k.fl i) ≤ 840 := Int.ediv_le_self _ (by omega)
  constructor
  · exact Int.mul_nonneg h3 (by omega)
  · have := Int.mul_le_mul h4 h2.2 (by omega) (by omega)
    omega
theorem InvF.put {k : PK} {s : FS} (ok : k.Ok) (h : InvF k s) (hn : s.next < k.n) : InvF k (putF k s) := by
  have hc := cost_bd ok hn
  have hst : 0 ≤ stF k s ∧ stF k s ≤ 840000 * s.next := by
    have h1 := h.last
    have h2 := h.E (k.fl s.next)
    unfold stF; omega
  refine ⟨hn, ?_, ?_, ?_, h.now, ?_, ?_, ?_⟩
  · have := h.len; simp [putF]; omega
  · refine List.pairwise_append.2 ⟨h.sorted, by simp, fun a ha b hb => ?_⟩
    simp at hb; subst hb; exact h.wlt a ha
  · intro i hi
    simp only [putF, List.mem_append, List.mem_singleton] at hi
    rcases hi with hi | rfl
    · have := h.wlt i hi; show i < s.next + 1; omega
    · show s.next < s.next + 1; omega
  · have := h.last; show 0 ≤ s.last ∧ s.last ≤ 840000 * ((s.next + 1 : Nat) : Int); omega
  · intro i
    show 0 ≤ upN s.E (k.fl s.next) (stF k s + k.cost s.next) i ∧ upN s.E (k.fl s.next) (stF k s + k.cost s.next) i ≤ 840000 * ((s.next + 1 : Nat) : Int)
    by_cases e : i = k.fl s.next
    · subst e; rw [upN_at]; omega
    · rw [upN_ne e]; have := h.E i; omega
  · intro i
    show 0 ≤ upN s.bg s.next (stF k s) i ∧ upN s.bg s.next (stF k s) i ≤ 840000 * ((s.next + 1 : Nat) : Int)
    by_cases e : i = s.next
    · subst e; rw [upN_at]; omega
    · rw [upN_ne e]; have := h.bg i; omega
theorem InvF.adm {k : PK} (ok : k.Ok) : ∀ (f : Nat) {s : FS}, InvF k s → InvF k (admF k f s)
  | 0, s, h => h
  | f + 1, s, h => by
    unfold admF
    by_cases e : inF k s
    · rw [if_pos e]; exact InvF.adm ok f (h.put ok e.1)
    · rw [if_neg e]; exact h
theorem adm_step {k : PK} {s : FS} (h : inF k s) : allF' k s = allF' k (putF k s) := by
  have hn := h.1
  unfold allF'
  rw [show k.n - s.next = (k.n - (putF k s).next) + 1 by show k.n - s.next = (k.n - (s.next + 1)) + 1; omega, admF, if_pos h]
theorem adm_stop {k : PK} {s : FS} (h : ¬ inF k s) : allF' k s = s := by
  unfold allF'
  cases k.n - s.next with
  | zero => rfl
  | succ f => rw [admF, if_neg h]
theorem InvF.jump {k : PK} {s : FS} (ok : k.Ok) (h : InvF k s) : InvF k (jumpF k s) := by
  unfold jumpF
  by_cases e : s.wait = [] ∧ s.next < k.n ∧ s.now < k.A s.next
  · rw [if_pos e]
    have := ok.a s.next e.2.1
    have h2 := h.now
    exact ⟨h.next, h.len, h.sorted, h.wlt, ⟨by show 0 ≤ k.A s.next; omega, by show k.A s.next ≤ 200 + 1000 * (s.order.length : Int); omega⟩, h.last, h.E, h.bg⟩
  · rw [if_neg e]; exact h
theorem InvF.serve {k : PK} {s : FS} (ok : k.Ok) (h : InvF k s) (hw : 0 < s.wait.length) : InvF k (serveF k s) := by
  have hb : bstF s < s.wait.length := by have := bestI_le s.bg s.wait (s.wait.length - 1); unfold bstF; omega
  have hm : ge s.wait (bstF s) ∈ s.wait := by rw [ge_get hb]; exact List.getElem_mem hb
  have hlt := h.wlt _ hm
  have hs := ok.s (ge s.wait (bstF s)) (by have := h.next; omega)
  have hno := h.now
  refine ⟨h.next, ?_, h.sorted.sublist (List.eraseIdx_sublist _ _), fun i hi => h.wlt i (List.mem_of_mem_eraseIdx hi), ?_, h.bg _, h.E, h.bg⟩
  · show (s.order ++ [ge s.wait (bstF s)]).length + (s.wait.eraseIdx (bstF s)).length = s.next
    have := h.len
    rw [List.length_append, List.length_eraseIdx, if_pos hb]; simp; omega
  · show 0 ≤ s.now + k.S (ge s.wait (bstF s)) ∧ s.now + k.S (ge s.wait (bstF s)) ≤ 200 + 1000 * ((s.order ++ [ge s.wait (bstF s)]).length : Int)
    rw [List.length_append]; simp; omega
/-- once packets are let in, one waits -/
theorem adm_wait {k : PK} (ok : k.Ok) : ∀ (f : Nat) {s : FS}, 0 < s.wait.length → 0 < (admF k f s).wait.length
  | 0, s, h => h
  | f + 1, s, h => by
    unfold admF
    by_cases e : inF k s
    · rw [if_pos e]; exact adm_wait ok f (by simp [putF])
    · rw [if_neg e]; exact h
theorem jump_wait {k : PK} {s : FS} (ok : k.Ok) (h : InvF k s) (hl : s.order.length < k.n) : 0 < (allF' k (jumpF k s)).wait.length := by
  by_cases hw : s.wait = []
  · have hlen := h.len
    rw [hw] at hlen
    simp at hlen
    have hn : s.next < k.n := by omega
    have hin : inF k (jumpF k s) := by
      unfold jumpF
      by_cases e : s.now < k.A s.next
      · rw [if_pos ⟨hw, hn, e⟩]; exact ⟨hn, Int.le_refl _⟩
      · rw [if_neg (fun h => e h.2.2)]; exact ⟨hn, by omega⟩
    rw [adm_step hin]
    exact adm_wait ok _ (by simp [putF])
  · have : jumpF k s = s := by unfold jumpF; rw [if_neg (fun h => hw h.1)]
    rw [this]
    exact adm_wait ok _ (List.length_pos_iff.2 hw)
theorem adm_order {k : PK} : ∀ (f : Nat) {s : FS}, (admF k f s).order = s.order
  | 0, s => rfl
  | f + 1, s => by
    unfold admF
    by_cases e : inF k s
    · rw [if_pos e]; exact adm_order f
    · rw [if_neg e]
theorem jump_order {k : PK} {s : FS} : (jumpF k s).order = s.order := by unfold jumpF; split <;> rfl
theorem runF_inv {k : PK} (ok : k.Ok) : ∀ r, r ≤ k.n → InvF k (runF k r) ∧ (runF k r).order.length = r
  | 0, _ => ⟨InvF.start k, rfl⟩
  | r + 1, hr => by
    obtain ⟨h1, h2⟩ := runF_inv ok r (by omega)
    have h3 := jump_wait ok h1 (by omega)
    refine ⟨InvF.serve ok (InvF.adm ok _ (h1.jump ok)) h3, ?_⟩
    show ((allF' k (jumpF k (runF k r))).order ++ _).length = r + 1
    rw [List.length_append]
    unfold allF'
    rw [adm_order, jump_order, h2]; simp
/-- the two ways to the cost -/
theorem cost_eq {k : PK} (h : k.Ok) {i : Nat} (hi : i < k.n) : k.S i * 840 / k.W (k.fl i) = k.cost i := by
  have h1 := h.w (k.fl i) (h.f i hi)
  unfold PK.cost
  generalize k.W (k.fl i) = w at *
  rcases (show w = 1 ∨ w = 2 ∨ w = 3 ∨ w = 4 ∨ w = 5 ∨ w = 6 ∨ w = 7 ∨ w = 8 by omega) with e | e | e | e | e | e | e | e <;> subst e <;> omega
/-- what is taken out is the one, and no other -/
theorem erase_filter : ∀ (L : List Nat) (i : Nat), L.Pairwise (· < ·) → (hi : i < L.length) → L.eraseIdx i = L.filter fun j => !(j == L[i])
  | x :: r, 0, hs, _ => by
    obtain ⟨h1, _⟩ := List.pairwise_cons.1 hs
    have : r.filter (fun j => !(j == x)) = r := List.filter_eq_self.2 (fun j hj => by have := h1 j hj; simp; omega)
    simp [this]
  | x :: r, i + 1, hs, hi => by
    obtain ⟨h1, h2⟩ := List.pairwise_cons.1 hs
    have hi' : i < r.length := by simpa using hi
    have hx : (x == r[i]) = false := by have := h1 _ (List.getElem_mem hi'); simp; omega
    simp only [List.eraseIdx_cons_succ, List.getElem_cons_succ]
    rw [List.filter_cons, hx, erase_filter r i h2 hi']
    simp
end Go.Proofs.Ytgnegemiiahkaaa
