/- How arguments are read: slices of bools, slices of structs of three integers. No program is in sight. No conditions. -/
import Derived.Test.YtgnegemiiahkaaaLib
import Derived.Test.YtgnegemiiahkaaaS3
import Derived.ProofKit
import Derived.Deep.Slices
import Derived.Deep.Fields
import Derived.ChangeSame
namespace Go.Proofs.Ytgnegemiiahkaaa
open Go Go.RowKit Go.ChangeShapes Go.WideShapes Go.Deep

theorem add_lit (x : Addr) (j : Nat) (h : x = ⟨x.block, x.off, none⟩) : x.add j = ⟨x.block, x.off + j, none⟩ := by
  unfold Addr.add; split
  · rename_i h0; subst h0; exact h
  · rfl

section
variable {H : Type} {enc : TypeId × Value → H} {P : Program} {w : World} {base : Nat} {spare : Nat → Bool} {held : Bool}

theorem open_bools {t e : TypeId} {fuel : Nat} {p : Option Addr} {n c : Nat} {x : DataW H × List MemPlace} (ht : P.underlying t = some (.slice e)) (he : P.underlying e = some .bool) (hc : P.cellsOf e = 1)
    (h : DataW.trod enc P w base spare held fuel t [.slice p n c] = some x) : ∃ xs, SB w p n c xs := by
  rcases open_slice1 ht hc h with ⟨hcs, _⟩ | ⟨a, len, cap, m, k, V, D, Pl, hcs, _, hl, hm, hmm, _, hx⟩
  · simp only [List.cons.injEq, Value.slice.injEq, and_true] at hcs
    obtain ⟨rfl, rfl, rfl⟩ := hcs
    exact ⟨[], SB.nil0 w⟩
  · simp only [List.cons.injEq, Value.slice.injEq, and_true] at hcs
    obtain ⟨rfl, rfl, rfl⟩ := hcs
    have hlm : n ≤ m := by rw [hmm]; split <;> omega
    have hb : ∀ i, i < n → ∃ b, w.cell? (a.add i) = some (.bool b) := by
      intro i hi
      obtain ⟨h1, h2⟩ := hx i (by omega)
      obtain ⟨b, hb, _⟩ := DataW.trod_bool he h2
      simp only [List.cons.injEq, and_true] at hb
      exact ⟨b, by rw [h1, hb]⟩
    obtain ⟨z, hz⟩ := choose_lt (α := Bool) (p := fun i b => w.cell? (a.add i) = some (.bool b)) hb
    refine ⟨tab n z, tab_length _ _, ⟨hl, by unfold maxLen at hm; omega⟩, fun h0 => ?_⟩
    have c0 := hz 0 h0
    have hx0 : a.add 0 = a := by simp [Addr.add]
    rw [hx0] at c0
    obtain ⟨ha, hlt⟩ := addr_of_cell c0
    refine ⟨a.block, a.off, by rw [← ha], hlt, fun j hj => ?_⟩
    show _ = some (Value.bool (gb (tab n z) j))
    rw [← add_lit a j ha, hz j hj, gb_tab hj]

theorem open_bools_any {t e : TypeId} {fuel : Nat} {v : Value} {x : DataW H × List MemPlace} (ht : P.underlying t = some (.slice e)) (he : P.underlying e = some .bool) (hc : P.cellsOf e = 1)
    (h : DataW.trod enc P w base spare held fuel t [v] = some x) : ∃ p n c xs, v = .slice p n c ∧ SB w p n c xs := by
  rcases open_slice1 ht hc h with ⟨hcs, _⟩ | ⟨a, len, cap, m, k, V, D, Pl, hcs, _⟩
  · simp only [List.cons.injEq, and_true] at hcs
    subst hcs
    obtain ⟨xs, hx⟩ := open_bools ht he hc h
    exact ⟨_, _, _, xs, rfl, hx⟩
  · simp only [List.cons.injEq, and_true] at hcs
    subst hcs
    obtain ⟨xs, hx⟩ := open_bools ht he hc h
    exact ⟨_, _, _, xs, rfl, hx⟩

theorem open_slice_fields {t e : TypeId} {fs : Array Field} {fuel : Nat} {cs : List Value} {x : DataW H × List MemPlace} (ht : P.underlying t = some (.slice e)) (he : P.underlying e = some (.struct fs))
    (hone : oneCellFields P fs = true) (hC : P.cellsOf e = fs.size) (h : DataW.trod enc P w base spare held fuel t cs = some x) :
    (cs = [.slice none 0 0] ∧ x = (.nil, [])) ∨
    ∃ (a : Addr) (len cap m : Nat) (D : Nat → DataW H) (Pl : Nat → List MemPlace), cs = [.slice (some a) len cap] ∧ base ≤ a.block ∧ len ≤ cap ∧ cap ≤ maxLen ∧ m = (if spare a.block then cap else len) ∧
      x = (.slice ((List.range len).map D) ((List.range (m - len)).map fun j => D (len + j)), MemPlace.row a (m * fs.size) ++ (List.range m).flatMap Pl) ∧
      ∀ i, i < m → ∃ (ys : List (DataW H × List MemPlace)) (n : Nat), D i = .agg (ys.map (·.1)) ∧ Pl i = ys.flatMap (·.2) ∧ ys.length = fs.size ∧
        ∀ (j : Nat) (f : Field), fs[j]? = some f → ∃ (v : Value) (y : DataW H × List MemPlace), w.cell? (a.add (i * fs.size + j)) = some v ∧ ys[j]? = some y ∧ DataW.trod enc P w base spare held n f.type [v] = some y := by
  rcases open_slice ht h with h0 | ⟨a, len, cap, m, n, D, Pl, hcs, hb, hl, hm, hmm, hx, hi⟩
  · exact .inl h0
  · refine .inr ⟨a, len, cap, m, D, Pl, hcs, hb, hl, hm, hmm, by rw [hC] at hx; exact hx, fun i him => ?_⟩
    obtain ⟨cs', hc, ht'⟩ := hi i him
    rw [hC] at hc
    obtain ⟨ys, n', hn', hy, hlen, hyl, hf⟩ := DataW.trod_struct he ht'
    obtain ⟨_, hcl, hat⟩ := World.cells?_some hc
    simp only [Prod.mk.injEq] at hy
    refine ⟨ys, n', hy.1, hy.2, hyl, fun j f hj => ?_⟩
    obtain ⟨ho, hk⟩ := hone_of hone j f hj
    have hjl : j < fs.size := (Array.getElem?_eq_some_iff.1 hj).1
    have hcell := hat j hjl
    have hv : cs'[j]? = some (cs'[j]'(by omega)) := List.getElem?_eq_getElem (by omega)
    have h1 := hf j f hj
    rw [ho, hk] at h1
    have hone' : (cs'.drop j).take 1 = [cs'[j]'(by omega)] := by
      rw [List.drop_eq_getElem_cons (by omega)]
      rfl
    rw [hone'] at h1
    have hys : ys[j]? = some (ys[j]'(by omega)) := List.getElem?_eq_getElem (by omega)
    refine ⟨_, _, ?_, hys, h1.trans hys⟩
    rw [← Go.Deep.add_add, hcell, hv]

/-- a slice of structs of three integers that came in -/
theorem open_s3 {t e ti : TypeId} {f0 f1 f2 : Field} {fuel : Nat} {p : Option Addr} {n c : Nat} {x : DataW H × List MemPlace} (ht : P.underlying t = some (.slice e)) (he : P.underlying e = some (.struct #[f0, f1, f2]))
    (hone : oneCellFields P #[f0, f1, f2] = true) (hC : P.cellsOf e = 3) (hi : P.underlying ti = some (.int .i64)) (h0 : f0.type = ti) (h1 : f1.type = ti) (h2 : f2.type = ti)
    (h : DataW.trod enc P w base spare held fuel t [.slice p n c] = some x) : ∃ xs, S3 w p n c xs ∧ ∀ j, j < n → (-9223372036854775808 ≤ t0 xs j ∧ t0 xs j ≤ 9223372036854775807) ∧ (-9223372036854775808 ≤ t1 xs j ∧ t1 xs j ≤ 9223372036854775807) ∧ (-9223372036854775808 ≤ t2 xs j ∧ t2 xs j ≤ 9223372036854775807) := by
  rcases open_slice_fields ht he hone hC h with ⟨hcs, _⟩ | ⟨a, len, cap, m, D, Pl, hcs, _, hl, hm, hmm, _, hx⟩
  · simp only [List.cons.injEq, Value.slice.injEq, and_true] at hcs
    obtain ⟨rfl, rfl, rfl⟩ := hcs
    exact ⟨[], S3.nil0 w, fun j hj => by omega⟩
  · simp only [List.cons.injEq, Value.slice.injEq, and_true] at hcs
    obtain ⟨rfl, rfl, rfl⟩ := hcs
    have hlm : n ≤ m := by rw [hmm]; split <;> omega
    have hint : ∀ (f : Field) (k : Nat), #[f0, f1, f2][k]? = some f → f.type = ti → ∀ i, i < n → ∃ v : Int, w.cell? (a.add (i * 3 + k)) = some (.int .i64 v) ∧ (-9223372036854775808 ≤ v ∧ v ≤ 9223372036854775807) := by
      intro f k hk hf i hlt
      obtain ⟨ys, q, _, _, _, hfld⟩ := hx i (by omega)
      obtain ⟨v, y, hcell, _, htr⟩ := hfld k f hk
      rw [hf] at htr
      obtain ⟨v', hv, _, hw⟩ := DataW.trod_int hi htr
      simp only [List.cons.injEq, and_true] at hv
      exact ⟨v', by rw [← hv]; exact hcell, wf_bounds hw⟩
    obtain ⟨z0, k0⟩ := choose_lt (α := Int) (p := fun i v => w.cell? (a.add (i * 3 + 0)) = some (.int .i64 v) ∧ (-9223372036854775808 ≤ v ∧ v ≤ 9223372036854775807)) (hint f0 0 rfl h0)
    obtain ⟨z1, k1⟩ := choose_lt (α := Int) (p := fun i v => w.cell? (a.add (i * 3 + 1)) = some (.int .i64 v) ∧ (-9223372036854775808 ≤ v ∧ v ≤ 9223372036854775807)) (hint f1 1 rfl h1)
    obtain ⟨z2, k2⟩ := choose_lt (α := Int) (p := fun i v => w.cell? (a.add (i * 3 + 2)) = some (.int .i64 v) ∧ (-9223372036854775808 ≤ v ∧ v ≤ 9223372036854775807)) (hint f2 2 rfl h2)
    refine ⟨tab n fun k => (z0 k, z1 k, z2 k), ⟨tab_length _ _, ⟨hl, by unfold maxLen at hm; omega⟩, fun hn => ?_⟩, fun j hj => by rw [t0_tab hj, t1_tab hj, t2_tab hj]; exact ⟨(k0 j hj).2, (k1 j hj).2, (k2 j hj).2⟩⟩
    have c0 := (k0 0 hn).1
    have hx0 : a.add (0 * 3 + 0) = a := by simp [Addr.add]
    rw [hx0] at c0
    obtain ⟨ha, hlt⟩ := addr_of_cell c0
    refine ⟨a.block, a.off, by rw [← ha], hlt, fun j hj => ?_⟩
    rw [t0_tab hj, t1_tab hj, t2_tab hj]
    have e0 := (k0 j hj).1
    have e1 := (k1 j hj).1
    have e2 := (k2 j hj).1
    rw [add_lit a _ ha] at e0 e1 e2
    rw [← Nat.add_assoc] at e0 e1 e2
    exact ⟨e0, e1, e2⟩
end
end Go.Proofs.Ytgnegemiiahkaaa
