/- How arguments are read: slices of slices of integers. No program is in sight. No conditions. -/
import Derived.Test.YtggpcceljipelaaOpen
namespace Go.Proofs.Ytggpcceljipelaa
open Go Go.RowKit Go.ChangeShapes Go.WideShapes Go.Deep

/-- a slice of slices of integers -/
abbrev Sl := Option Addr × Nat × Nat × List Int
structure SLL (w : World) (p : Option Addr) (n c : Nat) (F : Nat → Sl) : Prop where
  cap : n ≤ c ∧ c ≤ 9223372036854775807
  cells : 0 < n → ∃ b off, p = some ⟨b, off, none⟩ ∧ b < w.heap.size ∧ ∀ j, j < n → w.cell? ⟨b, off + j, none⟩ = some (.slice (F j).1 (F j).2.1 (F j).2.2.1)
  si : ∀ j, j < n → SI w (F j).1 (F j).2.1 (F j).2.2.1 (F j).2.2.2
  bd : ∀ j, j < n → ∀ k, k < (F j).2.1 → -9223372036854775808 ≤ gi (F j).2.2.2 k ∧ gi (F j).2.2.2 k ≤ 9223372036854775807
theorem SLL.below {w w' : World} {p : Option Addr} {n c : Nat} {F : Nat → Sl} (h : SLL w p n c F) (hb : Below w.heap.size w w') : SLL w' p n c F := by
  refine ⟨h.cap, fun h0 => ?_, fun j hj => (h.si j hj).below hb, h.bd⟩
  obtain ⟨b, off, rfl, hlt, hc⟩ := h.cells h0
  exact ⟨b, off, rfl, Nat.lt_of_lt_of_le hlt hb.size, fun j hj => (bdeep hb hlt _).trans (hc j hj)⟩

section
variable {H : Type} {enc : TypeId × Value → H} {P : Program} {w : World} {base : Nat} {spare : Nat → Bool} {held : Bool}
theorem open_si (hsp : ∀ b, spare b = true) {t e : TypeId} {fuel : Nat} {v : Value} {x : DataW H × List MemPlace} (ht : P.underlying t = some (.slice e)) (he : P.underlying e = some (.int .i64)) (hc : P.cellsOf e = 1)
    (h : DataW.trod enc P w base spare held fuel t [v] = some x) : ∃ f : Sl, v = .slice f.1 f.2.1 f.2.2.1 ∧ SI w f.1 f.2.1 f.2.2.1 f.2.2.2 ∧ ∀ k, k < f.2.1 → -9223372036854775808 ≤ gi f.2.2.2 k ∧ gi f.2.2.2 k ≤ 9223372036854775807 := by
  rcases open_ints ht he hc h with ⟨hcs, _⟩ | ⟨a, l, c, zs, hcs, _, hl, hm, hz, _, hcell, hwz⟩
  · simp only [List.cons.injEq, and_true] at hcs
    exact ⟨(none, 0, 0, []), hcs, SI.nil0 _, fun k hk => by simp at hk⟩
  · simp only [List.cons.injEq, and_true] at hcs
    have hzc : zs.length = c := by rw [hz, if_pos (hsp _)]
    have hlz : l ≤ zs.length := by omega
    refine ⟨(some a, l, c, zs.take l), hcs, IsRow.si (.inr ⟨_, rfl, hl, hm, hzc, hcell, hwz⟩), fun k hk => ?_⟩
    have hk' : k < zs.length := Nat.lt_of_lt_of_le hk hlz
    show -9223372036854775808 ≤ gi (zs.take l) k ∧ gi (zs.take l) k ≤ 9223372036854775807
    have e : gi (zs.take l) k = zs[k] := by
      rw [gi_take hk]; simp [gi, List.getD, hk']
    rw [e]
    exact wf_bounds (hwz _ (List.getElem_mem hk'))
/-- a slice of slices of integers that came in -/
theorem open_sll (hsp : ∀ b, spare b = true) {t e i : TypeId} {fuel : Nat} {p : Option Addr} {n c : Nat} {x : DataW H × List MemPlace} (ht : P.underlying t = some (.slice e)) (hc : P.cellsOf e = 1) (he : P.underlying e = some (.slice i)) (hi : P.underlying i = some (.int .i64)) (hci : P.cellsOf i = 1)
    (h : DataW.trod enc P w base spare held fuel t [.slice p n c] = some x) : ∃ F, SLL w p n c F := by
  rcases open_slice1 ht hc h with ⟨hcs, _⟩ | ⟨a, len, cap, m, k, V, D, Pl, hcs, _, hl, hm, hmm, _, hx⟩
  · simp only [List.cons.injEq, Value.slice.injEq, and_true] at hcs
    obtain ⟨rfl, rfl, rfl⟩ := hcs
    exact ⟨fun _ => (none, 0, 0, []), ⟨by omega, fun h => absurd h (Nat.lt_irrefl _), fun j hj => by omega, fun j hj => by omega⟩⟩
  · simp only [List.cons.injEq, Value.slice.injEq, and_true] at hcs
    obtain ⟨rfl, rfl, rfl⟩ := hcs
    have hlm : n ≤ m := by rw [hmm]; split <;> omega
    have hb : ∀ j, j < n → ∃ f : Sl, w.cell? (a.add j) = some (.slice f.1 f.2.1 f.2.2.1) ∧ SI w f.1 f.2.1 f.2.2.1 f.2.2.2 ∧ ∀ k, k < f.2.1 → -9223372036854775808 ≤ gi f.2.2.2 k ∧ gi f.2.2.2 k ≤ 9223372036854775807 := by
      intro j hj
      obtain ⟨h1, h2⟩ := hx j (by omega)
      obtain ⟨f, hv, hs, hbd⟩ := open_si hsp he hi hci h2
      exact ⟨f, by rw [h1, hv], hs, hbd⟩
    obtain ⟨z, hz⟩ := choose_lt (α := Sl) (p := fun j f => w.cell? (a.add j) = some (.slice f.1 f.2.1 f.2.2.1) ∧ SI w f.1 f.2.1 f.2.2.1 f.2.2.2 ∧ ∀ k, k < f.2.1 → -9223372036854775808 ≤ gi f.2.2.2 k ∧ gi f.2.2.2 k ≤ 9223372036854775807) hb
    refine ⟨z, ⟨⟨hl, by unfold maxLen at hm; omega⟩, fun h0 => ?_, fun j hj => (hz j hj).2.1, fun j hj => (hz j hj).2.2⟩⟩
    have c0 := (hz 0 h0).1
    have hx0 : a.add 0 = a := by simp [Addr.add]
    rw [hx0] at c0
    obtain ⟨ha, hlt⟩ := addr_of_cell c0
    refine ⟨a.block, a.off, by rw [← ha], hlt, fun j hj => ?_⟩
    rw [← add_lit a j ha]; exact (hz j hj).1
end
end Go.Proofs.Ytggpcceljipelaa
