/- The contract of slices.Repeat at a list of one number. Conditions: the count is from 1 to 1000. -/
import Derived.Test.YtgbccpfehcjhbaaDeconv
import Derived.Deep.RegionLaw
import Derived.BigRegion
import Derived.Laws.CopyOwn
namespace Go.Proofs.Ytgbccpfehcjhbaa
open Go Go.RowKit
set_option linter.unusedSimpArgs false

theorem OwnI.whole {w : World} {B g n : Nat} {L : List Int} (h : OwnI w B (some ⟨g, 0, none⟩) n n L) : w.heap[g]? = some (.cells (L.map (Value.int .i64)).toArray 3 (0, 0)) := by
  rcases h.1.2 with ⟨h', _⟩ | ⟨g', cap', cur, h', _, hg, _, _, hs, htake⟩
  · simp at h'
  · simp only [Value.slice.injEq, Option.some.injEq, Addr.mk.injEq, and_true, true_and] at h'
    obtain ⟨rfl, rfl⟩ := h'
    rw [hg, ← htake, List.take_of_length_le (by simp [hs])]
theorem OwnI.of_whole {w : World} {B g n : Nat} {L : List Int} (h : w.heap[g]? = some (.cells (L.map (Value.int .i64)).toArray 3 (0, 0))) (hB : B ≤ g) (hl : L.length = n) (hn : n ≤ 17592186044416) : OwnI w B (some ⟨g, 0, none⟩) n n L :=
  ⟨⟨by simp [hl], .inr ⟨g, n, _, rfl, hB, h, Nat.le_refl _, by unfold maxLen; omega, by simp [hl], by simp [List.take_of_length_le, hl]⟩⟩, hn⟩

/-- the first m are v -/
def rep (v : Int) (n m : Nat) : List Int := tab n fun j => if j < m then v else 0
theorem rep_splice (v : Int) (n m k : Nat) (h : m + k ≤ n) : splice ((rep v n m).map (Value.int .i64)) m ((List.replicate k v).map (Value.int .i64)) = (rep v n (m + k)).map (Value.int .i64) := by
  unfold splice rep
  apply List.ext_getElem
  · simp [tab]; omega
  · intro j h1 h2
    simp only [List.length_map, tab_length] at h2
    simp only [tab, List.map_replicate, List.map_map, List.getElem_append, List.length_append, List.length_take, List.length_map, List.length_range, List.length_replicate, List.getElem_take, List.getElem_map, List.getElem_range, Function.comp, List.getElem_replicate, List.getElem_drop]
    split
    · rw [if_pos (by omega), if_pos (by omega)]
    · split
      · rw [if_pos (by omega)]
      · rw [if_neg (by omega), if_neg (by omega)]

theorem rep_start {w1 : World} {B g n : Nat} (v : Int) (hown : OwnI w1 B (some ⟨g, 0, none⟩) n n (tab n fun _ => 0)) : w1.heap[g]? = some (.cells ((rep v n 0).map (Value.int .i64)).toArray 3 (0, 0)) := by
  have := hown.whole
  rwa [show (tab n fun _ => (0 : Int)) = rep v n 0 from tab_congr fun j _ => by rw [if_neg (by omega)]] at this
theorem rep_len (v : Int) (n m : Nat) : ((rep v n m).map (Value.int .i64)).length = n := by simp [rep, tab_length]
theorem one_min (v : Value) {n : Nat} (h : 0 < n) : [v].length = Nat.min 1 n := by show 1 = min 1 n; omega

theorem src_cells {w : World} {g m b k : Nat} {v : Int} (h : ∀ j, j < k → w.cell? ⟨b, j, none⟩ = some (.int .i64 v)) :
    0 < ((List.replicate k v).map (Value.int .i64)).length → (some ⟨g, m, none⟩ : Option Addr) = some ⟨g, m, none⟩ ∧ ∃ ad : Addr, (some ⟨b, 0, none⟩ : Option Addr) = some ad ∧ ∀ j u, ((List.replicate k v).map (Value.int .i64))[j]? = some u → w.cell? (ad.add j) = some u := by
  intro _
  refine ⟨rfl, _, rfl, fun j u hu => ?_⟩
  have hj : j < k := by
    have := (List.getElem?_eq_some_iff.1 hu).1
    simpa using this
  have e : (⟨b, 0, none⟩ : Addr).add j = ⟨b, j, none⟩ := by unfold Addr.add; split <;> simp_all
  rw [e, h j hj]
  simpa [hj] using hu
theorem one_cell {w : World} {b : Nat} {v : Int} (h : w.cell? ⟨b, 0, none⟩ = some (.int .i64 v)) (j : Nat) (hj : j < 1) : w.cell? ⟨b, j, none⟩ = some (.int .i64 v) := by
  obtain rfl : j = 0 := by omega
  exact h
theorem rep_fit (v : Int) (n m k : Nat) (h : m + k ≤ n) : m + ((List.replicate k v).map (Value.int .i64)).length ≤ ((rep v n m).map (Value.int .i64)).length := by rw [rep_len]; simpa using h
theorem rep_min (v : Int) (k a b : Nat) (h : k = min a b) : ((List.replicate k v).map (Value.int .i64)).length = Nat.min a b := by simp; exact h
theorem rep_cells {w : World} {g n m : Nat} {v : Int} (h : w.heap[g]? = some (.cells ((rep v n m).map (Value.int .i64)).toArray 3 (0, 0))) (hmn : m ≤ n) : ∀ j, j < m → w.cell? ⟨g, j, none⟩ = some (.int .i64 v) := by
  intro j hj
  rw [blk_cell h j]
  simp [rep, tab, hj, show j < n by omega]

def RetRep (w : World) (v : Int) (n : Nat) (e : Ending) (w' : World) : Prop :=
  ∃ g, e = .returned (.slice (some ⟨g, 0, none⟩) n n) ∧ w.heap.size ≤ g ∧ OwnI w' w.heap.size (some ⟨g, 0, none⟩) n n (tab n fun _ => v) ∧ Below w.heap.size w w'

end Go.Proofs.Ytgbccpfehcjhbaa
