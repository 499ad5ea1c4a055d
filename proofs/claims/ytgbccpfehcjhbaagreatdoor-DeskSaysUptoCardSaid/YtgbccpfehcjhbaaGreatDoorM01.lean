/- Base lemmas, over any program: slices of integers and bools as lists, slices that the call owns, laws for append and make. No conditions. -/
import Derived.WalkKit
import Derived.WalkSpells
import Derived.WalkLawsBesides
import Derived.Lib.Hide
import Derived.WalkSmall
namespace Go.Proofs.YtgbccpfehcjhbaaGreatDoor
open Go Go.RowKit

/-! lists by their numbers -/
def gi (xs : List Int) (k : Nat) : Int := xs.getD k 0
def gb (xs : List Bool) (k : Nat) : Bool := xs.getD k false
def tab {α : Type} (n : Nat) (z : Nat → α) : List α := (List.range n).map z

theorem tab_length {α : Type} (n : Nat) (z : Nat → α) : (tab n z).length = n := by simp [tab]
theorem gi_tab {n j : Nat} {z : Nat → Int} (h : j < n) : gi (tab n z) j = z j := by simp [gi, tab, List.getD, h]
theorem gb_tab {n j : Nat} {z : Nat → Bool} (h : j < n) : gb (tab n z) j = z j := by simp [gb, tab, List.getD, h]
theorem gi_out {xs : List Int} {j : Nat} (h : xs.length ≤ j) : gi xs j = 0 := by simp [gi, List.getD, h]
theorem gi_get {xs : List Int} {j : Nat} (h : j < xs.length) : gi xs j = xs[j] := by simp [gi, List.getD, h]
theorem gb_get {xs : List Bool} {j : Nat} (h : j < xs.length) : gb xs j = xs[j] := by simp [gb, List.getD, h]
theorem tab_gi (xs : List Int) : tab xs.length (gi xs) = xs := by
  apply List.ext_getElem
  · simp [tab]
  · intro j h1 h2; simp [tab, gi, h2]
theorem tab_gb (xs : List Bool) : tab xs.length (gb xs) = xs := by
  apply List.ext_getElem
  · simp [tab]
  · intro j h1 h2; simp [tab, gb, h2]
theorem tab_congr {α : Type} {n : Nat} {z z' : Nat → α} (h : ∀ j, j < n → z j = z' j) : tab n z = tab n z' := by
  apply List.map_congr_left; intro j hj; exact h j (by simpa using hj)
theorem tab_succ {α : Type} (n : Nat) (z : Nat → α) : tab (n + 1) z = tab n z ++ [z n] := by simp [tab, List.range_succ]
theorem tab_zero {α : Type} (z : Nat → α) : tab 0 z = [] := rfl
theorem tab_const {α : Type} (n : Nat) (a : α) : tab n (fun _ => a) = List.replicate n a := by
  apply List.ext_getElem <;> simp [tab]
theorem tab_set {α : Type} (n : Nat) (z : Nat → α) (t : Nat) (x : α) : (tab n z).set t x = tab n (fun j => if j = t then x else z j) := by
  apply List.ext_getElem
  · simp [tab]
  · intro j h1 h2; simp only [tab, List.getElem_set, List.getElem_map, List.getElem_range]
    by_cases h : t = j
    · simp [h]
    · rw [if_neg h, if_neg (fun e => h e.symm)]
theorem list_ext_gi {xs ys : List Int} (hl : xs.length = ys.length) (h : ∀ j, j < xs.length → gi xs j = gi ys j) : xs = ys := by
  rw [← tab_gi xs, ← tab_gi ys, ← hl]; exact tab_congr h
theorem gi_append_left {xs ys : List Int} {j : Nat} (h : j < xs.length) : gi (xs ++ ys) j = gi xs j := by
  simp [gi, List.getD, List.getElem?_append_left h]
theorem gi_append_one {xs : List Int} {x : Int} : gi (xs ++ [x]) xs.length = x := by simp [gi, List.getD]
theorem gi_mem {xs : List Int} {j : Nat} (h : j < xs.length) : gi xs j ∈ xs := by rw [gi_get h]; exact List.getElem_mem h
theorem gi_set {xs : List Int} {t : Nat} {x : Int} (j : Nat) (ht : t < xs.length) : gi (xs.set t x) j = if j = t then x else gi xs j := by
  by_cases h : j = t
  · subst h; simp [gi, List.getD, ht]
  · rw [if_neg h]; unfold gi; rw [List.getD, List.getElem?_set, if_neg (fun e => h e.symm)]; rfl

theorem ret_int {k : IntKind} {a b : Int} (h : a = b) : Ending.returned (.int k a) = .returned (.int k b) := by rw [h]
theorem ret_bool {a b : Bool} (h : a = b) : Ending.returned (.bool a) = .returned (.bool b) := by rw [h]
theorem ret2_bool {a b : Bool} {v : Value} (h : a = b) : Ending.returned (.tuple #[.bool a, v]) = .returned (.tuple #[.bool b, v]) := by rw [h]
theorem ret2_int {k : IntKind} {a b : Int} {v : Value} (h : a = b) : Ending.returned (.tuple #[.int k a, v]) = .returned (.tuple #[.int k b, v]) := by rw [h]
theorem ret_val {a b : Value} (h : a = b) : Ending.returned a = .returned b := by rw [h]

/-! a slice that is read -/
/-- the slice at p shows m cells, cell j holds z j -/
def Row (w : World) (p : Option Addr) (m : Nat) (z : Nat → Value) : Prop :=
  0 < m → ∃ b off, p = some ⟨b, off, none⟩ ∧ b < w.heap.size ∧ ∀ j, j < m → w.cell? ⟨b, off + j, none⟩ = some (z j)

theorem Row.below {w w' : World} {p : Option Addr} {m : Nat} {z : Nat → Value} (h : Row w p m z) (hb : Below w.heap.size w w') : Row w' p m z := by
  intro hm
  obtain ⟨b, off, rfl, hlt, hc⟩ := h hm
  exact ⟨b, off, rfl, Nat.lt_of_lt_of_le hlt hb.size, fun j hj => (hb.cell (p := ⟨b, off + j, none⟩) hlt).trans (hc j hj)⟩
theorem Row.nil {w : World} {p : Option Addr} {z : Nat → Value} : Row w p 0 z := fun h => absurd h (Nat.lt_irrefl 0)
theorem Row.congr {w : World} {p : Option Addr} {m : Nat} {z z' : Nat → Value} (h : Row w p m z) (e : ∀ j, j < m → z j = z' j) : Row w p m z' := by
  intro hm
  obtain ⟨b, off, rfl, hlt, hc⟩ := h hm
  exact ⟨b, off, rfl, hlt, fun j hj => by rw [hc j hj, e j hj]⟩
theorem Row.shorter {w : World} {p : Option Addr} {m m' : Nat} {z : Nat → Value} (h : Row w p m z) (hm : m' ≤ m) : Row w p m' z := by
  intro h0
  obtain ⟨b, off, rfl, hlt, hc⟩ := h (by omega)
  exact ⟨b, off, rfl, hlt, fun j hj => hc j (by omega)⟩

/-- a slice of integers that is read: its n elements are xs -/
def SI (w : World) (p : Option Addr) (n c : Nat) (xs : List Int) : Prop := xs.length = n ∧ (n ≤ c ∧ c ≤ 9223372036854775807) ∧ Row w p n (fun j => .int .i64 (gi xs j))
/-- a slice of bools that is read -/
def SB (w : World) (p : Option Addr) (n c : Nat) (xs : List Bool) : Prop := xs.length = n ∧ (n ≤ c ∧ c ≤ 9223372036854775807) ∧ Row w p n (fun j => .bool (gb xs j))
theorem SI.below {w w' : World} {p : Option Addr} {n c : Nat} {xs : List Int} (h : SI w p n c xs) (hb : Below w.heap.size w w') : SI w' p n c xs := ⟨h.1, h.2.1, h.2.2.below hb⟩
theorem SB.below {w w' : World} {p : Option Addr} {n c : Nat} {xs : List Bool} (h : SB w p n c xs) (hb : Below w.heap.size w w') : SB w' p n c xs := ⟨h.1, h.2.1, h.2.2.below hb⟩
theorem SI.nil (w : World) (p : Option Addr) {c : Nat} (hc : c ≤ 9223372036854775807) : SI w p 0 c [] := ⟨rfl, ⟨Nat.zero_le _, hc⟩, Row.nil⟩
theorem SI.nil0 (w : World) : SI w none 0 0 [] := SI.nil w _ (by omega)
theorem SB.nil (w : World) (p : Option Addr) {c : Nat} (hc : c ≤ 9223372036854775807) : SB w p 0 c [] := ⟨rfl, ⟨Nat.zero_le _, hc⟩, Row.nil⟩
theorem SB.nil0 (w : World) : SB w none 0 0 [] := SB.nil w _ (by omega)
theorem SI.len {w : World} {p : Option Addr} {n c : Nat} {xs : List Int} (h : SI w p n c xs) : xs.length = n := h.1
theorem SI.cells {w : World} {p : Option Addr} {n c : Nat} {xs : List Int} (h : SI w p n c xs) (hn : 0 < n) :
    ∃ b off, p = some ⟨b, off, none⟩ ∧ b < w.heap.size ∧ ∀ j, j < n → w.cell? ⟨b, off + j, none⟩ = some (.int .i64 (gi xs j)) := h.2.2 hn
theorem SB.cells {w : World} {p : Option Addr} {n c : Nat} {xs : List Bool} (h : SB w p n c xs) (hn : 0 < n) :
    ∃ b off, p = some ⟨b, off, none⟩ ∧ b < w.heap.size ∧ ∀ j, j < n → w.cell? ⟨b, off + j, none⟩ = some (.bool (gb xs j)) := h.2.2 hn

theorem gi_take {xs : List Int} {k j : Nat} (h : j < k) : gi (xs.take k) j = gi xs j := by
  simp only [gi, List.getD, List.getElem?_take, if_pos h]
theorem gi_drop {xs : List Int} {k j : Nat} : gi (xs.drop k) j = gi xs (k + j) := by
  simp only [gi, List.getD, List.getElem?_drop]
/-- 'x[:k]' -/
theorem SI.take {w : World} {p : Option Addr} {n c : Nat} {xs : List Int} (h : SI w p n c xs) {k : Nat} (hk : k ≤ n) : SI w p k c (xs.take k) := by
  have := h.2.1
  refine ⟨by have := h.1; simp; omega, by omega, (h.2.2.shorter hk).congr fun j hj => by rw [gi_take hj]⟩
/-- 'x[k:]', where k is before the end of the capacity -/
theorem SI.drop {w : World} {b off n c : Nat} {xs : List Int} (h : SI w (some ⟨b, off, none⟩) n c xs) {k : Nat} (hk : k ≤ n) : SI w (some ⟨b, off + k, none⟩) (n - k) (c - k) (xs.drop k) := by
  have := h.2.1
  refine ⟨by have := h.1; simp; omega, by omega, fun h0 => ?_⟩
  obtain ⟨b', off', he, hlt, hc⟩ := h.cells (by omega)
  simp only [Option.some.injEq, Addr.mk.injEq, and_true] at he
  obtain ⟨rfl, rfl⟩ := he
  exact ⟨b, off + k, rfl, hlt, fun j hj => by show _ = some (Value.int .i64 (gi (xs.drop k) j)); rw [Nat.add_assoc, hc (k + j) (by omega), gi_drop]⟩
theorem bdeep {B : Nat} {w w' : World} (h : Below B w w') {b : Nat} (hb : b < B) (o : Nat) : w'.cell? ⟨b, o, none⟩ = w.cell? ⟨b, o, none⟩ := h.cell (p := ⟨b, o, none⟩) hb

/-- cells and marks of old blocks, as rules of the walk -/
theorem bcell {W w1 : World} (hb : Below W.heap.size W w1) : (∀ b o, b < W.heap.size → w1.cell? ⟨b, o, none⟩ = W.cell? ⟨b, o, none⟩) ∧ (∀ b o, b < W.heap.size → w1.frozen? ⟨b, o, none⟩ = W.frozen? ⟨b, o, none⟩) :=
  ⟨fun b o h => hb.cell (p := ⟨b, o, none⟩) h, fun b o h => hb.frozen (p := ⟨b, o, none⟩) h⟩

theorem blk_cell {w : World} {g : Nat} {c : Array Value} {T : TypeId} (h : w.heap[g]? = some (.cells c T (0, 0))) (j : Nat) : w.cell? ⟨g, j, none⟩ = c[j]? := cell_of_row w g j c T (0, 0) h
theorem blk_free {w : World} {g : Nat} {c : Array Value} {T : TypeId} (h : w.heap[g]? = some (.cells c T (0, 0))) (j : Nat) : w.frozen? ⟨g, j, none⟩ = false := frozen_of_row w g j c T h
/-- a block of three cells -/
theorem blk3 {w : World} {g : Nat} {x y z : Value} {T : TypeId} (h : w.heap[g]? = some (.cells #[x, y, z] T (0, 0))) :
    (w.cell? ⟨g, 0, none⟩ = some x ∧ w.cell? ⟨g, 1, none⟩ = some y ∧ w.cell? ⟨g, 2, none⟩ = some z) ∧ w.frozen? ⟨g, 0, none⟩ = false ∧ w.frozen? ⟨g, 1, none⟩ = false ∧ w.frozen? ⟨g, 2, none⟩ = false :=
  ⟨⟨blk_cell h 0, blk_cell h 1, blk_cell h 2⟩, blk_free h 0, blk_free h 1, blk_free h 2⟩
theorem blk_new (w : World) (c : Array Value) (T : TypeId) : (w.alloc (.cells c T)).heap[w.heap.size]? = some (.cells c T (0, 0)) := heap_alloc_new w _
theorem blk_alloc {w : World} {g : Nat} {o o' : Obj} (h : w.heap[g]? = some o) : (w.alloc o').heap[g]? = some o := by
  rw [Below.heap_alloc _ _ _ (Array.getElem?_eq_some_iff.1 h).1]; exact h
theorem blk_below {w w' : World} {g : Nat} {o : Obj} (h : w.heap[g]? = some o) (hb : Below w.heap.size w w') : w'.heap[g]? = some o := by
  rw [hb.block g (Array.getElem?_eq_some_iff.1 h).1]; exact h
theorem blk_set {w : World} {g j : Nat} {c : Array Value} {T : TypeId} {v : Value} (h : w.heap[g]? = some (.cells c T (0, 0))) : (w.setCell ⟨g, j, none⟩ v).heap[g]? = some (.cells (c.setIfInBounds j v) T (0, 0)) := heap_setCell_same w g j c T v h
theorem blk_other {w : World} {g g' j : Nat} {o : Obj} {v : Value} (h : w.heap[g]? = some o) (hne : g ≠ g') : (w.setCell ⟨g', j, none⟩ v).heap[g]? = some o := by
  rw [Below.heap_setCell _ _ _ _ hne]; exact h

/-! a slice that the call owns -/
theorem Own.below {w w' : World} {B E s n : Nat} {v : Value} {xs : List Value} (h : w.ownsRow B E s v n xs) (hb : Below w.heap.size w w') : w'.ownsRow B E s v n xs := by
  obtain ⟨h1, h2⟩ := h
  refine ⟨h1, ?_⟩
  rcases h2 with h2 | ⟨g, cap, cur, hv, hg, hh, r⟩
  · exact .inl h2
  · exact .inr ⟨g, cap, cur, hv, hg, by rw [hb.block g (Array.getElem?_eq_some_iff.1 hh).1]; exact hh, r⟩
theorem Own.base {w : World} {B B' E s n : Nat} {v : Value} {xs : List Value} (h : w.ownsRow B E s v n xs) (hB : B' ≤ B) : w.ownsRow B' E s v n xs := by
  obtain ⟨h1, h2⟩ := h
  refine ⟨h1, ?_⟩
  rcases h2 with h2 | ⟨g, cap, cur, hv, hg, r⟩
  · exact .inl h2
  · exact .inr ⟨g, cap, cur, hv, Nat.le_trans hB hg, r⟩
theorem Own.cap {w : World} {B E s n c : Nat} {p : Option Addr} {xs : List Value} (h : w.ownsRow B E s (.slice p n c) n xs) : n ≤ c ∧ c ≤ 9223372036854775807 := by
  rcases h.2 with ⟨h2, h3⟩ | ⟨g, cap, cur, hv, hg, hh, h5, h6, r⟩
  · simp only [Value.slice.injEq] at h2
    omega
  · simp only [Value.slice.injEq, true_and] at hv
    obtain ⟨rfl, rfl⟩ := hv
    unfold maxLen at h6
    exact ⟨h5, h6⟩
theorem Own.row {w : World} {B E n c : Nat} {p : Option Addr} {xs : List Value} (h : w.ownsRow B E 1 (.slice p n c) n xs) (d : Value) : Row w p n (fun j => xs.getD j d) := by
  intro hn
  rcases h.2 with ⟨h2, h3⟩ | ⟨g, cap, cur, hv, hg, hh, r⟩
  · omega
  · simp only [Value.slice.injEq, true_and] at hv
    obtain ⟨rfl, rfl⟩ := hv
    refine ⟨g, 0, rfl, (Array.getElem?_eq_some_iff.1 hh).1, fun j hj => ?_⟩
    have hl : j < xs.length := by rw [h.1]; omega
    rw [Nat.zero_add, h.cellAt j (by omega)]
    simp [List.getD, hl]

/-- owned integers -/
def OwnI (w : World) (B : Nat) (p : Option Addr) (n c : Nat) (L : List Int) : Prop := w.ownsRow B 3 1 (.slice p n c) n (L.map (Value.int .i64)) ∧ n ≤ 17592186044416
theorem OwnI.len {w : World} {B n c : Nat} {p : Option Addr} {L : List Int} (h : OwnI w B p n c L) : L.length = n := by simpa using h.1.1
theorem OwnI.si {w : World} {B n c : Nat} {p : Option Addr} {L : List Int} (h : OwnI w B p n c L) : SI w p n c L := by
  refine ⟨h.len, Own.cap h.1, (Own.row h.1 (.int .i64 0)).congr fun j hj => ?_⟩
  have : j < L.length := by rw [h.len]; exact hj
  simp [gi, this]
theorem OwnI.below {w w' : World} {B n c : Nat} {p : Option Addr} {L : List Int} (h : OwnI w B p n c L) (hb : Below w.heap.size w w') : OwnI w' B p n c L := ⟨Own.below h.1 hb, h.2⟩
theorem OwnI.base {w : World} {B B' n c : Nat} {p : Option Addr} {L : List Int} (h : OwnI w B p n c L) (hB : B' ≤ B) : OwnI w B' p n c L := ⟨Own.base h.1 hB, h.2⟩
theorem OwnI.nil (w : World) (B : Nat) : OwnI w B none 0 0 [] := ⟨World.ownsRow_nil w B 3 1, by omega⟩
theorem OwnI.at {w : World} {B g n c : Nat} {L : List Int} (h : OwnI w B (some ⟨g, 0, none⟩) n c L) {j : Nat} (hj : j < n) : w.cell? ⟨g, j, none⟩ = some (.int .i64 (gi L j)) := by
  have hl : j < L.length := by rw [h.len]; exact hj
  rw [h.1.cellAt j (by omega)]; simp [gi, hl]
theorem OwnI.free {w : World} {B g n c : Nat} {L : List Int} (h : OwnI w B (some ⟨g, 0, none⟩) n c L) (j : Nat) : w.frozen? ⟨g, j, none⟩ = false := h.1.frozenAt j
theorem OwnI.blk {w : World} {B g n c : Nat} {L : List Int} (h : OwnI w B (some ⟨g, 0, none⟩) n c L) : B ≤ g ∧ g < w.heap.size := h.1.lt g rfl
theorem OwnI.set {w : World} {B g n c : Nat} {L : List Int} (h : OwnI w B (some ⟨g, 0, none⟩) n c L) (j : Nat) (x : Int) : OwnI (w.setCell ⟨g, j, none⟩ (.int .i64 x)) B (some ⟨g, 0, none⟩) n c (L.set j x) := by
  refine ⟨?_, h.2⟩
  have := (h.1.stored j (.int .i64 x)).1
  rwa [← List.map_set] at this
theorem OwnI.put {w : World} {B g n c : Nat} {z z' : Nat → Int} (h : OwnI w B (some ⟨g, 0, none⟩) n c (tab n z)) (t : Nat) (x : Int) (e : ∀ j, j < n → (if j = t then x else z j) = z' j) :
    OwnI (w.setCell ⟨g, t, none⟩ (.int .i64 x)) B (some ⟨g, 0, none⟩) n c (tab n z') := by
  have := h.set t x
  rw [tab_set, tab_congr e] at this
  exact this
theorem OwnI.to {w : World} {B n c : Nat} {p : Option Addr} {z z' : Nat → Int} (h : OwnI w B p n c (tab n z)) (e : ∀ j, j < n → z j = z' j) : OwnI w B p n c (tab n z') := by
  rw [tab_congr e] at h; exact h
theorem OwnI.cast {w : World} {B n c : Nat} {p : Option Addr} {L L' : List Int} (h : OwnI w B p n c L) (e : L = L') : OwnI w B p n c L' := e ▸ h
theorem OwnI.drew {w : World} {B n c : Nat} {p : Option Addr} {L : List Int} (h : OwnI w B p n c L) : OwnI w.drew B p n c L := ⟨h.1.drew, h.2⟩
theorem Own.drewN {w : World} {B E s n : Nat} {v : Value} {xs : List Value} (h : w.ownsRow B E s v n xs) (k : Nat) : (w.drewN k).ownsRow B E s v n xs := h
theorem OwnI.drewN {w : World} {B n c : Nat} {p : Option Addr} {L : List Int} (h : OwnI w B p n c L) (k : Nat) : OwnI (w.drewN k) B p n c L := ⟨Own.drewN h.1 k, h.2⟩
theorem OwnI.lit1 (w : World) {B : Nat} (hB : B ≤ w.heap.size) (v : Int) : OwnI (w.alloc (.cells #[.int .i64 v] 3)) B (some ⟨w.heap.size, 0, none⟩) 1 1 [v] :=
  ⟨World.ownsRow_lit w #[.int .i64 v] 1 hB (by unfold maxLen; omega) rfl, by omega⟩
/-- an owned row that is not empty has an address -/
theorem OwnI.addr {w : World} {B n c : Nat} {p : Option Addr} {L : List Int} (h : OwnI w B p n c L) (hn : 0 < n) : ∃ g, p = some ⟨g, 0, none⟩ := by
  rcases h.1.2 with ⟨h2, h3⟩ | ⟨g, cap, cur, hv, hg, hh, r⟩
  · omega
  · simp only [Value.slice.injEq, true_and] at hv
    exact ⟨g, hv.1⟩
/-- two owned rows of which the second is in newer blocks -/
theorem OwnI.other {w w' : World} {B n c : Nat} {p : Option Addr} {L : List Int} {row : Option Nat} (h : OwnI w B p n c L) (hg : w.grownBy w' row) (hne : ∀ a k, p = some a → row = some k → a.block ≠ k) : OwnI w' B p n c L := by
  refine ⟨h.1.kept hg ?_, h.2⟩
  cases p with
  | none => exact .inl rfl
  | some a => exact .inr fun e => hne a a.block rfl e.symm rfl

/-- two slices in different blocks -/
def Sep (p q : Option Addr) : Prop := ∀ a b, p = some a → q = some b → a.block ≠ b.block
theorem Sep.symm {p q : Option Addr} (h : Sep p q) : Sep q p := fun a b ha hb e => h b a hb ha e.symm
theorem Sep.none_left {q : Option Addr} : Sep none q := fun _ _ h => by cases h
theorem Sep.none_right {p : Option Addr} : Sep p none := fun _ _ _ h => by cases h
theorem Sep.push {w : World} {B m d : Nat} {p p' q : Option Addr} {M : List Int} (hs : Sep p q) (hq : OwnI w B q m d M) (h : ∃ g, p' = some ⟨g, 0, none⟩ ∧ (p = some ⟨g, 0, none⟩ ∨ g = w.heap.size + 1)) : Sep p' q := by
  intro a b ha hb
  obtain ⟨g, rfl, hg⟩ := h
  rcases hg with hg | hg
  · exact hs a b (by rw [hg, ← ha]) hb
  · have := (hq.1.lt b.block (by rw [hb]; rfl)).2
    simp only [Option.some.injEq] at ha
    subst ha
    show g ≠ b.block
    omega
theorem OwnI.keep {w w' : World} {B n c m d : Nat} {p q : Option Addr} {M : List Int} {o : Obj} (hq : OwnI w B q m d M) (hg : (w.alloc o).grownBy w' (Value.slice p n c).ownBlock) (hs : Sep p q) : OwnI w' B q m d M := by
  refine OwnI.other (w := w.alloc o) ⟨hq.1.alloc _, hq.2⟩ hg ?_
  intro a k ha hk
  cases p with
  | none => simp [Value.ownBlock] at hk
  | some b =>
    simp only [Value.ownBlock, Option.some.injEq] at hk
    exact fun e => hs b a rfl ha (by rw [hk, e])

def OwnB (w : World) (B : Nat) (p : Option Addr) (n c : Nat) (L : List Bool) : Prop := w.ownsRow B 4 1 (.slice p n c) n (L.map Value.bool) ∧ n ≤ 140737488355328
theorem OwnB.len {w : World} {B n c : Nat} {p : Option Addr} {L : List Bool} (h : OwnB w B p n c L) : L.length = n := by simpa using h.1.1
theorem OwnB.sb {w : World} {B n c : Nat} {p : Option Addr} {L : List Bool} (h : OwnB w B p n c L) : SB w p n c L := by
  refine ⟨h.len, Own.cap h.1, (Own.row h.1 (.bool false)).congr fun j hj => ?_⟩
  have : j < L.length := by rw [h.len]; exact hj
  simp [gb, this]
theorem OwnB.below {w w' : World} {B n c : Nat} {p : Option Addr} {L : List Bool} (h : OwnB w B p n c L) (hb : Below w.heap.size w w') : OwnB w' B p n c L := ⟨Own.below h.1 hb, h.2⟩
theorem OwnB.base {w : World} {B B' n c : Nat} {p : Option Addr} {L : List Bool} (h : OwnB w B p n c L) (hB : B' ≤ B) : OwnB w B' p n c L := ⟨Own.base h.1 hB, h.2⟩
theorem OwnB.nil (w : World) (B : Nat) : OwnB w B none 0 0 [] := ⟨World.ownsRow_nil w B 4 1, by omega⟩
theorem OwnB.at {w : World} {B g n c : Nat} {L : List Bool} (h : OwnB w B (some ⟨g, 0, none⟩) n c L) {j : Nat} (hj : j < n) : w.cell? ⟨g, j, none⟩ = some (.bool (gb L j)) := by
  have hl : j < L.length := by rw [h.len]; exact hj
  rw [h.1.cellAt j (by omega)]; simp [gb, hl]
theorem OwnB.free {w : World} {B g n c : Nat} {L : List Bool} (h : OwnB w B (some ⟨g, 0, none⟩) n c L) (j : Nat) : w.frozen? ⟨g, j, none⟩ = false := h.1.frozenAt j
theorem OwnB.blk {w : World} {B g n c : Nat} {L : List Bool} (h : OwnB w B (some ⟨g, 0, none⟩) n c L) : B ≤ g ∧ g < w.heap.size := h.1.lt g rfl
theorem OwnB.set {w : World} {B g n c : Nat} {L : List Bool} (h : OwnB w B (some ⟨g, 0, none⟩) n c L) (j : Nat) (x : Bool) : OwnB (w.setCell ⟨g, j, none⟩ (.bool x)) B (some ⟨g, 0, none⟩) n c (L.set j x) := by
  refine ⟨?_, h.2⟩
  have := (h.1.stored j (.bool x)).1
  rwa [← List.map_set] at this
theorem OwnB.addr {w : World} {B n c : Nat} {p : Option Addr} {L : List Bool} (h : OwnB w B p n c L) (hn : 0 < n) : ∃ g, p = some ⟨g, 0, none⟩ := by
  rcases h.1.2 with ⟨h2, h3⟩ | ⟨g, cap, cur, hv, hg, hh, r⟩
  · omega
  · simp only [Value.slice.injEq, true_and] at hv
    exact ⟨g, hv.1⟩

/-! the laws of the walk -/
/-- a slice type of the program: its number, its element's number, the element's zero, cells, bytes -/
structure SliceTy (P : Program) (t E : TypeId) (z : Value) (s by_ : Nat) : Prop where
  under : P.underlying t = .some (.slice E)
  info : (P.info? E).map (fun i => (i.zero, i.size, i.bytes)) = .some (.some z, s, by_)

/-- 'append(x, v)' on a slice that the call owns: the new world is below B as the old one -/
theorem run_push {P : Program} {w : World} {t ty E : TypeId} {z : Value} {sz by_ : Nat} (hT : SliceTy P t E z sz by_)
    {B : Nat} {W0 : World} {p : Option Addr} {n c : Nat} {xs : List Value} (hzs : z.cells.size = sz) (hsz : 0 < sz)
    (hown : w.ownsRow B E sz (.slice p n c) n xs) (hbel : Below B W0 w) {news : List Value} {bx : Nat} {E' : TypeId} (hbx : w.heap[bx]? = .some (.cells news.toArray E' (0, 0)))
    (hl : news.length = sz) (h1 : ∀ u ∈ news, u.oneCell' = true) (hn : (n + 1) * by_ ≤ 140737488355328) (hn2 : n < 17592186044416) (hB : B ≤ w.heap.size) :
    ∃ p' c' w', (Builtin.append_ #[t, t] ty #[.slice p n c, .slice (.some ⟨bx, 0, none⟩) 1 1]).run P w = .ok (.slice p' (n + 1) c') w' ∧ w'.ownsRow B E sz (.slice p' (n + 1) c') (n + 1) (xs ++ news) ∧ Below B W0 w' ∧
      w.grownBy w' (Value.slice p n c).ownBlock ∧ (∃ g, p' = .some ⟨g, 0, none⟩ ∧ (p = .some ⟨g, 0, none⟩ ∨ g = w.heap.size)) := by
  obtain ⟨i, hi, hz0, hz1, hz2⟩ := info_parts hT.info
  have hcells : ∀ j u, news[j]? = .some u → w.cell? ((⟨bx, 0, none⟩ : Addr).add j) = .some u := by
    intro j u hu
    have hadd : (⟨bx, 0, none⟩ : Addr).add j = ⟨bx, j, none⟩ := by unfold Addr.add; split <;> simp_all
    rw [hadd, cell_of_row w bx j _ _ _ hbx]
    simpa using hu
  have hmax : n + 1 ≤ maxLen := by unfold maxLen; omega
  -- the value behind the append
  have key : ∃ v' w', (Builtin.append_ #[t, t] ty #[.slice p n c, .slice (.some ⟨bx, 0, none⟩) 1 1]).run P w = .ok v' w' ∧ w'.ownsRow B E sz v' (n + 1) (xs ++ news) ∧ w.grownBy w' (Value.slice p n c).ownBlock ∧
      (∃ g cp, v' = .slice (.some ⟨g, 0, none⟩) (n + 1) cp ∧ (p = .some ⟨g, 0, none⟩ ∨ g = w.heap.size)) := by
    have hlen : (xs ++ news).length = (n + 1) * sz := by rw [List.length_append, hown.1, hl, Nat.add_mul]; omega
    have grown : ∀ (old : Nat), old < n + 1 → ∀ (row : Option Nat),
        (w.drew.alloc (.cells (xs.toArray ++ news.toArray ++ Builtin.zeroCells z.cells (grownCap w (n + 1) old E - (n + 1))) E)).ownsRow B E sz
          (.slice (.some ⟨w.heap.size, 0, none⟩) (n + 1) (grownCap w (n + 1) old E)) (n + 1) (xs ++ news) ∧
        w.grownBy (w.drew.alloc (.cells (xs.toArray ++ news.toArray ++ Builtin.zeroCells z.cells (grownCap w (n + 1) old E - (n + 1))) E)) row := by
      intro old ho row
      have hge := grownCap_ge w (n + 1) old E
      have hcm : grownCap w (n + 1) old E ≤ maxLen := grownCap_le_maxLen w (n + 1) old E hmax
      refine ⟨⟨hlen, .inr ⟨w.heap.size, _, _, rfl, hB, heap_alloc_new w.drew _, hge, hcm, ?_, ?_⟩⟩, ⟨rfl, rfl, rfl, by simp, fun k hk _ => Below.heap_alloc w.drew _ k hk⟩⟩
      · have e : sz = 1 * sz := by omega
        simp only [Array.size_append, List.size_toArray, size_zeroCells, hzs, hown.1, hl]
        have : n * sz + sz = (n + 1) * sz := by rw [Nat.add_mul]; omega
        rw [this, ← Nat.add_mul]
        congr 1
        omega
      · simp only [Array.toList_append, List.append_assoc]
        rw [← List.append_assoc, ← hlen]
        exact List.take_left
    have hl' : news.length = 1 * i.size := by rw [hl, hz1]; omega
    rcases hown.2 with ⟨hv, hn0⟩ | ⟨g, cap, cur, hv, hbg, hg, hnc, hcm, hcs, htake⟩
    · subst hn0
      simp only [Value.slice.injEq, true_and] at hv
      obtain ⟨rfl, rfl⟩ := hv
      have hx0 : xs = [] := List.eq_nil_of_length_eq_zero (by simpa using hown.1)
      subst hx0
      have hr := run_append_nil (P := P) w t ty E i z hT.under hi hz0 ⟨bx, 0, none⟩ 1 1 news hl' hcells (by omega) (by omega) (by have := hn; rw [hz2]; simp only [Nat.zero_add, Nat.one_mul] at this ⊢; omega)
      have hgr := grown 0 (by omega) (Value.ownBlock (.slice none 0 0))
      simp only [Nat.zero_add, List.nil_append, Array.empty_append] at hgr ⊢
      exact ⟨_, _, hr, hgr.1, hgr.2, _, _, rfl, .inr rfl⟩
    · simp only [Value.slice.injEq, true_and] at hv
      obtain ⟨rfl, rfl⟩ := hv
      by_cases hroom : n + 1 ≤ c
      · have hfit : n * i.size + news.length ≤ cur.size := by
          rw [hl, hcs, hz1]
          have h3 : (n + 1) * sz ≤ c * sz := Nat.mul_le_mul_right _ hroom
          rw [Nat.add_mul] at h3; omega
        have hr := run_append_room (P := P) w t ty E i hT.under hi g n c cur hg ⟨bx, 0, none⟩ 1 1 news hl' hcells h1 hroom hfit
        refine ⟨_, _, hr, ⟨hlen, .inr ⟨g, c, _, rfl, hbg, setRow_heap w g cur _ E _ hg, hroom, hcm, ?_, ?_⟩⟩, ⟨rfl, rfl, rfl, by simp, fun k _ hk => setRow_other w g k _ (fun e => hk (by simp [Value.ownBlock, e]))⟩, _, _, rfl, .inl rfl⟩
        · simp only [List.size_toArray, List.length_append, List.length_take, List.length_drop, Array.length_toList]
          omega
        · rw [hz1, htake, ← hlen]
          exact List.take_left
      · have holds : ∀ j u, xs[j]? = .some u → w.cell? ((⟨g, 0, none⟩ : Addr).add j) = .some u := hown.cells (g := g) rfl
        have hr := run_append_grow (P := P) w t ty E i z hT.under hi hz0 ⟨g, 0, none⟩ n c xs (by rw [hz1]; exact hown.1) holds ⟨bx, 0, none⟩ 1 1 news hl' hcells (by omega) (by omega) (growslice_fits (by omega) (by rw [hz2]; exact hn))
        have hgr := grown c (by omega) (Value.ownBlock (.slice (.some ⟨g, 0, none⟩) n c))
        exact ⟨_, _, hr, hgr.1, hgr.2, _, _, rfl, .inr rfl⟩
  obtain ⟨v', w', hr, h2, h3, g, cp, rfl, hgp⟩ := key
  have hbl : Below B W0 w' := hbel.grown h3 hB fun k hk => (hown.lt k hk).1
  exact ⟨_, _, w', hr, h2, hbl, h3, g, rfl, hgp⟩

theorem wp_push {P : Program} {w : World} {o : Oper} {a : Act} {K : Act → World → Prop} {Q : Exit → Act → World → Prop} {t E : TypeId} {z : Value} {sz by_ : Nat}
    (hT : SliceTy P t E z sz by_) {s x : Operand}
    (ho : o.op = .call { callee := .builtin .append, args := #[s, x], argTypes := #[t, t] })
    {B : Nat} {W0 : World} {p : Option Addr} {n c : Nat} {xs : List Value} (hzs : z.cells.size = sz) (hsz : 0 < sz) (hs : a.eval s = .slice p n c)
    (hown : w.ownsRow B E sz (.slice p n c) n xs) (hbel : Below B W0 w) {news : List Value} {bx : Nat} {E' : TypeId} (hx : a.eval x = .slice (.some ⟨bx, 0, none⟩) 1 1) (hbx : w.heap[bx]? = .some (.cells news.toArray E' (0, 0)))
    (hl : news.length = sz) (h1 : ∀ u ∈ news, u.oneCell' = true) (hn : (n + 1) * by_ ≤ 140737488355328) (hn2 : n < 17592186044416) (hB : B ≤ w.heap.size)
    (h : ∀ p' c' w', w'.ownsRow B E sz (.slice p' (n + 1) c') (n + 1) (xs ++ news) → Below B W0 w' → w.grownBy w' (Value.slice p n c).ownBlock → (∃ g, p' = .some ⟨g, 0, none⟩ ∧ (p = .some ⟨g, 0, none⟩ ∨ g = w.heap.size)) → K (a.put o.dst (.slice p' (n + 1) c')) w') :
    o.wp P a w K Q := by
  obtain ⟨p', c', w', hr, h2, h3, h4, h5⟩ := run_push (ty := o.type) hT (W0 := W0) hzs hsz hown hbel hbx hl h1 hn hn2 hB
  unfold Oper.wp execOp
  simp only [ho, resolve, invoke, builtin, Sem.run_bind, Sem.run_pure, Result.andThen_ok, List.map_toArray, List.map_cons, List.map_nil, hs, hx, hr]
  exact h _ _ w' h2 h3 h4 h5

theorem wpL_push {P : Program} {w : World} {ops : Array Oper} {rest : List Oper} {o : Oper} {a : Act} {Q : Exit → Act → World → Prop} {t E : TypeId} {z : Value} {sz by_ : Nat}
    (hT : SliceTy P t E z sz by_) (hgd : o.guard = none) {s x : Operand}
    (ho : o.op = .call { callee := .builtin .append, args := #[s, x], argTypes := #[t, t] })
    {B : Nat} {W0 : World} {p : Option Addr} {n c : Nat} {xs : List Value} (hzs : z.cells.size = sz) (hsz : 0 < sz) (hs : a.eval s = .slice p n c)
    (hown : w.ownsRow B E sz (.slice p n c) n xs) (hbel : Below B W0 w) {news : List Value} {bx : Nat} {E' : TypeId} (hx : a.eval x = .slice (.some ⟨bx, 0, none⟩) 1 1) (hbx : w.heap[bx]? = .some (.cells news.toArray E' (0, 0)))
    (hl : news.length = sz) (h1 : ∀ u ∈ news, u.oneCell' = true) (hn : (n + 1) * by_ ≤ 140737488355328) (hn2 : n < 17592186044416) (hB : B ≤ w.heap.size)
    (h : ∀ p' c' w', w'.ownsRow B E sz (.slice p' (n + 1) c') (n + 1) (xs ++ news) → Below B W0 w' → w.grownBy w' (Value.slice p n c).ownBlock → (∃ g, p' = .some ⟨g, 0, none⟩ ∧ (p = .some ⟨g, 0, none⟩ ∨ g = w.heap.size)) → wpList P ops Q rest (a.put o.dst (.slice p' (n + 1) c')) w') :
    wpList P ops Q (o :: rest) a w :=
  wpList_plain hgd fun _ hK => wp_push hT ho hzs hsz hs hown hbel hx hbx hl h1 hn hn2 hB fun p' c' w' h2 h3 h4 h5 => hK _ _ (h p' c' w' h2 h3 h4 h5)

/-- the same, in a region that draws its order, of one integer -/
theorem step_push_int {P : Program} {ops : Array Oper} {w : World} {o : Oper} {a : Act} {K : Act → World → Prop} {Q : Exit → Act → World → Prop} {R : Prop} {t : TypeId}
    (hT : SliceTy P t 3 (.int .i64 0) 1 8) (hgd : o.guard = none) {s x : Operand}
    (ho : o.op = .call { callee := .builtin .append, args := #[s, x], argTypes := #[t, t] })
    {B : Nat} {W0 : World} {p : Option Addr} {n c : Nat} {L : List Int} {v : Int} (hs : a.eval s = .slice p n c) {bx : Nat} (hx : a.eval x = .slice (.some ⟨bx, 0, none⟩) 1 1)
    (hown : w.ownsRow B 3 1 (.slice p n c) n (L.map (Value.int .i64))) (hbel : Below B W0 w) (hbx : w.heap[bx]? = .some (.cells #[.int .i64 v] 3 (0, 0))) (hn : n < 1000000) (hB : B ≤ w.heap.size)
    (h : ∀ p' c' w', (w'.ownsRow B 3 1 (.slice p' (n + 1) c') (n + 1) ((L ++ [v]).map (Value.int .i64)) ∧ n + 1 ≤ 17592186044416) → Below B W0 w' → K (a.put o.dst (.slice p' (n + 1) c')) w') :
    if Region.wanted o (yielded ops a.tmps) = true then Oper.wp P o a w K Q else R := by
  have hw : Region.wanted o (yielded ops a.tmps) = true := by simp [Region.wanted, hgd]
  rw [if_pos hw]
  exact wp_push hT ho (news := [.int .i64 v]) rfl (by omega) hs hown hbel hx hbx rfl (by intro u hu; simp at hu; subst hu; rfl) (by omega) (by omega) hB fun p' c' w' h2 h3 _ _ => h p' c' w' ⟨by simpa using h2, by omega⟩ h3

/-- the integers' case -/
theorem wpL_push_int {P : Program} {w : World} {ops : Array Oper} {rest : List Oper} {o : Oper} {a : Act} {Q : Exit → Act → World → Prop} {t : TypeId}
    (hT : SliceTy P t 3 (.int .i64 0) 1 8) (hgd : o.guard = none) {s x : Operand}
    (ho : o.op = .call { callee := .builtin .append, args := #[s, x], argTypes := #[t, t] })
    {B : Nat} {W0 : World} {p : Option Addr} {n c : Nat} {L : List Int} {v : Int} (hs : a.eval s = .slice p n c) (hx : a.eval x = .slice (.some ⟨w.heap.size, 0, none⟩) 1 1)
    (hown : OwnI w B p n c L) (hbel : Below B W0 w) (hn : n < 1000000) (hB : B ≤ w.heap.size)
    (h : ∀ p' c' w', OwnI w' B p' (n + 1) c' (L ++ [v]) → Below B W0 w' → (w.alloc (.cells #[.int .i64 v] 3)).grownBy w' (Value.slice p n c).ownBlock → (∃ g, p' = .some ⟨g, 0, none⟩ ∧ (p = .some ⟨g, 0, none⟩ ∨ g = w.heap.size + 1)) → wpList P ops Q rest (a.put o.dst (.slice p' (n + 1) c')) w') :
    wpList P ops Q (o :: rest) a (w.alloc (.cells #[.int .i64 v] 3)) := by
  refine wpL_push hT hgd ho (B := B) (W0 := W0) (news := [.int .i64 v]) (bx := w.heap.size) rfl (by omega) hs (hown.1.alloc _) (hbel.alloc hB _) hx (heap_alloc_new w _) rfl (by intro u hu; simp at hu; subst hu; rfl) (by omega) (by omega) (by simp; omega) ?_
  intro p' c' w' h1 h2 h3 h4
  refine h p' c' w' ⟨by simpa using h1, by omega⟩ h2 h3 ?_
  obtain ⟨g, rfl, hg⟩ := h4
  exact ⟨g, rfl, by simpa using hg⟩

/-- the bools' case -/
theorem wpL_push_bool {P : Program} {w : World} {ops : Array Oper} {rest : List Oper} {o : Oper} {a : Act} {Q : Exit → Act → World → Prop} {t : TypeId}
    (hT : SliceTy P t 4 (.bool false) 1 1) (hgd : o.guard = none) {s x : Operand}
    (ho : o.op = .call { callee := .builtin .append, args := #[s, x], argTypes := #[t, t] })
    {B : Nat} {W0 : World} {p : Option Addr} {n c : Nat} {L : List Bool} {v : Bool} (hs : a.eval s = .slice p n c) (hx : a.eval x = .slice (.some ⟨w.heap.size, 0, none⟩) 1 1)
    (hown : OwnB w B p n c L) (hbel : Below B W0 w) (hn : n < 1000000) (hB : B ≤ w.heap.size)
    (h : ∀ p' c' w', OwnB w' B p' (n + 1) c' (L ++ [v]) → Below B W0 w' → (w.alloc (.cells #[.bool v] 4)).grownBy w' (Value.slice p n c).ownBlock → (∃ g, p' = .some ⟨g, 0, none⟩ ∧ (p = .some ⟨g, 0, none⟩ ∨ g = w.heap.size + 1)) → wpList P ops Q rest (a.put o.dst (.slice p' (n + 1) c')) w') :
    wpList P ops Q (o :: rest) a (w.alloc (.cells #[.bool v] 4)) := by
  refine wpL_push hT hgd ho (B := B) (W0 := W0) (news := [.bool v]) (bx := w.heap.size) rfl (by omega) hs (hown.1.alloc _) (hbel.alloc hB _) hx (heap_alloc_new w _) rfl (by intro u hu; simp at hu; subst hu; rfl) (by omega) (by omega) (by simp; omega) ?_
  intro p' c' w' h1 h2 h3 h4
  refine h p' c' w' ⟨by simpa using h1, by omega⟩ h2 h3 ?_
  obtain ⟨g, rfl, hg⟩ := h4
  exact ⟨g, rfl, by simpa using hg⟩

/-- 'make([]int, n)' -/
theorem wpL_make_int {P : Program} {w : World} {ops : Array Oper} {rest : List Oper} {o : Oper} {a : Act} {Q : Exit → Act → World → Prop} {t : TypeId}
    (hT : SliceTy P t 3 (.int .i64 0) 1 8) (hg : o.guard = none) {l c : Operand} (hop : o.op = Op.makeSlice t l c) {B : Nat} {W0 : World} {kl kc : IntKind} {L C : Int} (n : Nat)
    (hl : a.eval l = .int kl L) (hc : a.eval c = .int kc C) (hL : L = (n : Int)) (hC : C = (n : Int)) (hbel : Below B W0 w) (hn : n ≤ 17592186044416) (hB : B ≤ w.heap.size)
    (hK : ∀ g w', w.heap.size ≤ g → OwnI w' B (.some ⟨g, 0, none⟩) n n (tab n fun _ => 0) → Below B W0 w' → Below w.heap.size w w' → wpList P ops Q rest (a.put o.dst (.slice (.some ⟨g, 0, none⟩) n n)) w') :
    wpList P ops Q (o :: rest) a w := by
  obtain ⟨i, hi, hz0, hz1, hz2⟩ := info_parts hT.info
  refine wpList_make_full w hg l c t hop B 3 i (.int .i64 0) 1 hT.under hi hz0 hz1 kl kc L C n hl hc hL hC (by rw [hz2]; omega) (by unfold maxLen; omega) hB ?_
  intro w' h1 h2
  have e : (madeCells (Value.int .i64 0).cells (n * 1)).toList = (tab n fun _ => (0 : Int)).map (Value.int .i64) := by
    rw [tab_const, Nat.mul_one]; simpa [Value.cells] using toList_madeCells_one (.int .i64 0) n
  rw [e] at h1
  exact hK _ w' (Nat.le_refl _) ⟨h1, hn⟩ (hbel.grown h2 hB fun k hk => by cases hk) ((Below.refl _ _).grown h2 (Nat.le_refl _) fun k hk => by cases hk)

/-- 'make([]bool, n)' -/
theorem wpL_make_bool {P : Program} {w : World} {ops : Array Oper} {rest : List Oper} {o : Oper} {a : Act} {Q : Exit → Act → World → Prop} {t : TypeId}
    (hT : SliceTy P t 4 (.bool false) 1 1) (hg : o.guard = none) {l c : Operand} (hop : o.op = Op.makeSlice t l c) {B : Nat} {W0 : World} {kl kc : IntKind} {L C : Int} (n : Nat)
    (hl : a.eval l = .int kl L) (hc : a.eval c = .int kc C) (hL : L = (n : Int)) (hC : C = (n : Int)) (hbel : Below B W0 w) (hn : n ≤ 17592186044416) (hB : B ≤ w.heap.size)
    (hK : ∀ g w', w.heap.size ≤ g → OwnB w' B (.some ⟨g, 0, none⟩) n n (tab n fun _ => false) → Below B W0 w' → Below w.heap.size w w' → wpList P ops Q rest (a.put o.dst (.slice (.some ⟨g, 0, none⟩) n n)) w') :
    wpList P ops Q (o :: rest) a w := by
  obtain ⟨i, hi, hz0, hz1, hz2⟩ := info_parts hT.info
  refine wpList_make_full w hg l c t hop B 4 i (.bool false) 1 hT.under hi hz0 hz1 kl kc L C n hl hc hL hC (by rw [hz2]; omega) (by unfold maxLen; omega) hB ?_
  intro w' h1 h2
  have e : (madeCells (Value.bool false).cells (n * 1)).toList = (tab n fun _ => false).map Value.bool := by
    rw [tab_const, Nat.mul_one]; simpa [Value.cells] using toList_madeCells_one (.bool false) n
  rw [e] at h1
  exact hK _ w' (Nat.le_refl _) ⟨h1, by omega⟩ (hbel.grown h2 hB fun k hk => by cases hk) ((Below.refl _ _).grown h2 (Nat.le_refl _) fun k hk => by cases hk)

/-- 'append(x, y...)' on integers, x owned, y read (it may be nil or empty) -/
theorem wpL_append_int {P : Program} {w : World} {ops : Array Oper} {rest : List Oper} {o : Oper} {a : Act} {Q : Exit → Act → World → Prop} {t : TypeId}
    (hT : SliceTy P t 3 (.int .i64 0) 1 8) (hgd : o.guard = none) {s x : Operand}
    (ho : o.op = .call { callee := .builtin .append, args := #[s, x], argTypes := #[t, t] })
    {B : Nat} {W0 : World} {p q : Option Addr} {n c m d : Nat} {L ys : List Int} (hs : a.eval s = .slice p n c) (hx : a.eval x = .slice q m d)
    (hown : OwnI w B p n c L) (hy : SI w q m d ys) (hbel : Below B W0 w) (hn : n + m < 1000000) (hB : B ≤ w.heap.size)
    (h : ∀ p' c' w', OwnI w' B p' (n + m) c' (L ++ ys) → Below B W0 w' → w.grownBy w' (Value.slice p n c).ownBlock → wpList P ops Q rest (a.put o.dst (.slice p' (n + m) c')) w') :
    wpList P ops Q (o :: rest) a w := by
  obtain ⟨i, hi, hz0, hz1, hz2⟩ := info_parts hT.info
  by_cases hm : m = 0
  · subst hm
    obtain rfl : ys = [] := List.eq_nil_of_length_eq_zero hy.1
    refine wpList_plain hgd fun K hK => ?_
    have hrun : (Builtin.append_ #[t, t] o.type #[.slice p n c, .slice q 0 d]).run P w = .ok (.slice p n c) w := by
      have hnc := Own.cap hown.1
      rcases hown.1.2 with ⟨hv, hn0⟩ | ⟨g, cap, cur, hv, _⟩
      · simp only [Value.slice.injEq] at hv
        obtain ⟨rfl, rfl, rfl⟩ := hv
        cases q <;> simp [Builtin.append_, run_underlying hT.under, sizeOf, typeInfo, hi, Builtin.lenOf, Builtin.firstCells, loadCells, loadCellsFrom]
      · simp only [Value.slice.injEq, true_and] at hv
        obtain ⟨rfl, rfl⟩ := hv
        cases q <;> simp [Builtin.append_, run_underlying hT.under, sizeOf, typeInfo, hi, Builtin.lenOf, Builtin.firstCells, hnc.1, storeCells, loadCells, loadCellsFrom]
    unfold Oper.wp
    simp [execOp, ho, resolve, invoke, builtin, hs, hx, hrun, Result.andThen]
    exact hK _ _ (h p c w (by simpa using hown) hbel (World.grownBy.refl _ _))
  · obtain ⟨b, off, rfl, hlt, hc⟩ := hy.cells (by omega)
    refine wpList_append_own w hgd s x t ho B 3 i (.int .i64 0) 1 8 hT.under hi hz0 hz1 hz2 rfl (by omega) (.slice p n c) n (L.map (.int .i64)) hs hown.1 ⟨b, off, none⟩ m d (ys.map (.int .i64)) hx (by simp [hy.1]) ?_ (ints_oneCell _ _) (by unfold maxLen; omega) (by omega) hB ?_
    · intro j u hu
      have hj : j < m := by
        have := (List.getElem?_eq_some_iff.1 hu).1
        simpa [hy.1] using this
      have e : (⟨b, off, none⟩ : Addr).add j = ⟨b, off + j, none⟩ := by unfold Addr.add; split <;> simp_all
      rw [e, hc j hj]
      have : (ys.map (Value.int .i64))[j]? = some (.int .i64 (gi ys j)) := by simp [gi, List.getD, hy.1, hj]
      rw [this] at hu
      exact hu
    · intro v' w' h1 h2 h3
      have hcase := h1.2
      rcases hcase with ⟨hv, hn0⟩ | ⟨g, cap, cur, rfl, _⟩
      · omega
      · exact h _ _ w' ⟨by simpa using h1, by omega⟩ (hbel.grown h2 hB fun k hk => (hown.1.lt k hk).1) h2

/-- a slice of integers that came in, as the row's reader gives it -/
def IsRow (k : IntKind) (w : World) (a : Option Addr) (len cap : Nat) (zs : List Int) : Prop :=
  (a = none ∧ len = 0 ∧ cap = 0 ∧ zs = []) ∨
  ∃ x, a = .some x ∧ len ≤ cap ∧ cap ≤ maxLen ∧ zs.length = cap ∧ (∀ i, i < zs.length → w.cell? (x.add i) = .some (.int k (zs.getD i 0))) ∧ ∀ n ∈ zs, (Lit.int k n).wf = true

theorem addr_of_cell {w : World} {x : Addr} {v : Value} (h : w.cell? x = .some v) : x = ⟨x.block, x.off, none⟩ ∧ x.block < w.heap.size := by
  refine ⟨?_, World.block_lt_of_cell? w x h⟩
  unfold World.cell? at h
  split at h
  · cases hs : x.spot with
    | none => cases x; simp_all
    | some q => simp [hs] at h
  · cases h

theorem IsRow.si {w : World} {a : Option Addr} {len cap : Nat} {zs : List Int} (h : IsRow .i64 w a len cap zs) : SI w a len cap (zs.take len) := by
  rcases h with ⟨rfl, rfl, rfl, rfl⟩ | ⟨x, rfl, hl, hm, hz, hc, hw⟩
  · exact SI.nil0 w
  · refine ⟨by simp; omega, by unfold maxLen at hm; omega, fun h0 => ?_⟩
    have c0 := hc 0 (by omega)
    have hx0 : x.add 0 = x := by simp [Addr.add]
    rw [hx0] at c0
    obtain ⟨he, hlt⟩ := addr_of_cell c0
    refine ⟨x.block, x.off, by rw [← he], hlt, fun j hj => ?_⟩
    have cj := hc j (by omega)
    have hxj : x.add j = ⟨x.block, x.off + j, none⟩ := by
      unfold Addr.add; split
      · rename_i h0; subst h0; exact he
      · rfl
    rw [hxj] at cj
    rw [cj]
    simp [gi, List.getD, hj]
theorem wf_bounds {a : Int} (h : (Lit.int .i64 a).wf = true) : -9223372036854775808 ≤ a ∧ a ≤ 9223372036854775807 := by
  have h1 : IntKind.i64.min = -9223372036854775808 := rfl
  have h2 : IntKind.i64.max = 9223372036854775807 := rfl
  simpa only [Lit.wf, Bool.and_eq_true, decide_eq_true_eq, h1, h2] using h
end Go.Proofs.YtgbccpfehcjhbaaGreatDoor
