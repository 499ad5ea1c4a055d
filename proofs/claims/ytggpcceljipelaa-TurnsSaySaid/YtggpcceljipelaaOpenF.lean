/- How arguments are read: slices of structs of an integer and a slice of integers. No program is in sight. No conditions. -/
import Derived.Test.YtggpcceljipelaaOpen2
import Derived.Deep.SlicePairs
namespace Go.Proofs.Ytggpcceljipelaa
open Go Go.RowKit Go.ChangeShapes Go.WideShapes Go.Deep

/-- a slice of flows -/
structure SF (w : World) (p : Option Addr) (n c : Nat) (Q : Nat → Int) (F : Nat → Sl) : Prop where
  cap : n ≤ c ∧ c ≤ 9223372036854775807
  cells : 0 < n → ∃ b off, p = some ⟨b, off, none⟩ ∧ b < w.heap.size ∧ ∀ j, j < n → w.cell? ⟨b, off + j * 2, none⟩ = some (.int .i64 (Q j)) ∧ w.cell? ⟨b, off + j * 2 + 1, none⟩ = some (.slice (F j).1 (F j).2.1 (F j).2.2.1)
  si : ∀ j, j < n → SI w (F j).1 (F j).2.1 (F j).2.2.1 (F j).2.2.2
  qd : ∀ j, j < n → -9223372036854775808 ≤ Q j ∧ Q j ≤ 9223372036854775807
  bd : ∀ j, j < n → ∀ k, k < (F j).2.1 → -9223372036854775808 ≤ gi (F j).2.2.2 k ∧ gi (F j).2.2.2 k ≤ 9223372036854775807
theorem SF.below {w w' : World} {p : Option Addr} {n c : Nat} {Q : Nat → Int} {F : Nat → Sl} (h : SF w p n c Q F) (hb : Below w.heap.size w w') : SF w' p n c Q F := by
  refine ⟨h.cap, fun h0 => ?_, fun j hj => (h.si j hj).below hb, h.qd, h.bd⟩
  obtain ⟨b, off, rfl, hlt, hc⟩ := h.cells h0
  exact ⟨b, off, rfl, Nat.lt_of_lt_of_le hlt hb.size, fun j hj => ⟨(bdeep hb hlt _).trans (hc j hj).1, (bdeep hb hlt _).trans (hc j hj).2⟩⟩

section
variable {H : Type} {enc : TypeId × Value → H} {P : Program} {w : World} {base : Nat} {spare : Nat → Bool} {held : Bool}
/-- a slice of flows that came in -/
theorem open_sf (hsp : ∀ b, spare b = true) {t e i s : TypeId} {f0 f1 : Field} {fuel : Nat} {p : Option Addr} {n c : Nat} {x : DataW H × List MemPlace} (ht : P.underlying t = some (.slice e)) (he : P.underlying e = some (.struct #[f0, f1])) (hce : P.cellsOf e = 2) (o0 : f0.offset = 0) (o1 : f1.offset = 1)
    (c0 : P.cellsOf f0.type = 1) (c1 : P.cellsOf f1.type = 1) (t0 : f0.type = i) (t1 : f1.type = s) (hs : P.underlying s = some (.slice i)) (hi : P.underlying i = some (.int .i64)) (hci : P.cellsOf i = 1)
    (h : DataW.trod enc P w base spare held fuel t [.slice p n c] = some x) : ∃ Q F, SF w p n c Q F := by
  rcases open_slice_pairs ht he hce o0 o1 c0 c1 h with ⟨hcs, _⟩ | ⟨a, len, cap, m, k, V0, V1, D0, D1, P0, P1, hcs, _, hl, hm, hmm, _, hx⟩
  · simp only [List.cons.injEq, Value.slice.injEq, and_true] at hcs
    obtain ⟨rfl, rfl, rfl⟩ := hcs
    exact ⟨fun _ => 0, fun _ => (none, 0, 0, []), ⟨by omega, fun h => absurd h (Nat.lt_irrefl _), fun j hj => by omega, fun j hj => by omega, fun j hj => by omega⟩⟩
  · simp only [List.cons.injEq, Value.slice.injEq, and_true] at hcs
    obtain ⟨rfl, rfl, rfl⟩ := hcs
    have hlm : n ≤ m := by rw [hmm]; split <;> omega
    have hq : ∀ j, j < n → ∃ v : Int, w.cell? (a.add (j * 2)) = some (.int .i64 v) ∧ (-9223372036854775808 ≤ v ∧ v ≤ 9223372036854775807) := by
      intro j hj
      obtain ⟨h1, _, h3, _⟩ := hx j (by omega)
      rw [t0] at h3
      obtain ⟨v', hv, _, hw⟩ := DataW.trod_int hi h3
      simp only [List.cons.injEq, and_true] at hv
      exact ⟨v', by rw [← hv]; exact h1, wf_bounds hw⟩
    have hb : ∀ j, j < n → ∃ f : Sl, w.cell? (a.add (j * 2 + 1)) = some (.slice f.1 f.2.1 f.2.2.1) ∧ SI w f.1 f.2.1 f.2.2.1 f.2.2.2 ∧ ∀ k, k < f.2.1 → -9223372036854775808 ≤ gi f.2.2.2 k ∧ gi f.2.2.2 k ≤ 9223372036854775807 := by
      intro j hj
      obtain ⟨_, h2, _, h4⟩ := hx j (by omega)
      rw [t1] at h4
      obtain ⟨f, hv, hs, hbd⟩ := open_si hsp hs hi hci h4
      exact ⟨f, by rw [h2, hv], hs, hbd⟩
    obtain ⟨q, hq⟩ := choose_lt (α := Int) (p := fun j v => w.cell? (a.add (j * 2)) = some (.int .i64 v) ∧ (-9223372036854775808 ≤ v ∧ v ≤ 9223372036854775807)) hq
    obtain ⟨z, hz⟩ := choose_lt (α := Sl) (p := fun j f => w.cell? (a.add (j * 2 + 1)) = some (.slice f.1 f.2.1 f.2.2.1) ∧ SI w f.1 f.2.1 f.2.2.1 f.2.2.2 ∧ ∀ k, k < f.2.1 → -9223372036854775808 ≤ gi f.2.2.2 k ∧ gi f.2.2.2 k ≤ 9223372036854775807) hb
    refine ⟨q, z, ⟨⟨hl, by unfold maxLen at hm; omega⟩, fun h0 => ?_, fun j hj => (hz j hj).2.1, fun j hj => (hq j hj).2, fun j hj => (hz j hj).2.2⟩⟩
    have c0 := (hq 0 h0).1
    have hx0 : a.add (0 * 2) = a := by simp [Addr.add]
    rw [hx0] at c0
    obtain ⟨ha, hlt⟩ := addr_of_cell c0
    refine ⟨a.block, a.off, by rw [← ha], hlt, fun j hj => ?_⟩
    have e0 := (hq j hj).1
    have e1 := (hz j hj).1
    rw [add_lit a _ ha] at e0 e1
    rw [← Nat.add_assoc] at e1
    exact ⟨e0, e1⟩
end
end Go.Proofs.Ytggpcceljipelaa
