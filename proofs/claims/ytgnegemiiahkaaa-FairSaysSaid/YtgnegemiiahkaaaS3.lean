/- A slice of structs of three integers, as it is read. No program is in sight. No conditions. -/
import Derived.Test.YtgnegemiiahkaaaLib
namespace Go.Proofs.Ytgnegemiiahkaaa
open Go Go.RowKit

def t0 (xs : List (Int × Int × Int)) (k : Nat) : Int := (xs.getD k (0, 0, 0)).1
def t1 (xs : List (Int × Int × Int)) (k : Nat) : Int := (xs.getD k (0, 0, 0)).2.1
def t2 (xs : List (Int × Int × Int)) (k : Nat) : Int := (xs.getD k (0, 0, 0)).2.2
/-- the slice at p shows the n structs xs -/
def S3 (w : World) (p : Option Addr) (n c : Nat) (xs : List (Int × Int × Int)) : Prop := xs.length = n ∧ (n ≤ c ∧ c ≤ 9223372036854775807) ∧
  (0 < n → ∃ b off, p = some ⟨b, off, none⟩ ∧ b < w.heap.size ∧ ∀ j, j < n → w.cell? ⟨b, off + j * 3, none⟩ = some (.int .i64 (t0 xs j)) ∧ w.cell? ⟨b, off + j * 3 + 1, none⟩ = some (.int .i64 (t1 xs j)) ∧ w.cell? ⟨b, off + j * 3 + 2, none⟩ = some (.int .i64 (t2 xs j)))
theorem S3.below {w w' : World} {p : Option Addr} {n c : Nat} {xs : List (Int × Int × Int)} (h : S3 w p n c xs) (hb : Below w.heap.size w w') : S3 w' p n c xs := by
  refine ⟨h.1, h.2.1, fun h0 => ?_⟩
  obtain ⟨b, off, rfl, hlt, hc⟩ := h.2.2 h0
  exact ⟨b, off, rfl, Nat.lt_of_lt_of_le hlt hb.size, fun j hj => by rw [bdeep hb hlt, bdeep hb hlt, bdeep hb hlt]; exact hc j hj⟩
theorem S3.nil0 (w : World) : S3 w none 0 0 [] := ⟨rfl, ⟨Nat.le_refl _, by omega⟩, fun h => absurd h (Nat.lt_irrefl 0)⟩
theorem S3.cells {w : World} {p : Option Addr} {n c : Nat} {xs : List (Int × Int × Int)} (h : S3 w p n c xs) (hn : 0 < n) :
    ∃ b off, p = some ⟨b, off, none⟩ ∧ b < w.heap.size ∧ ∀ j, j < n → w.cell? ⟨b, off + j * 3, none⟩ = some (.int .i64 (t0 xs j)) ∧ w.cell? ⟨b, off + j * 3 + 1, none⟩ = some (.int .i64 (t1 xs j)) ∧ w.cell? ⟨b, off + j * 3 + 2, none⟩ = some (.int .i64 (t2 xs j)) := h.2.2 hn
theorem t0_tab {n j : Nat} {f g h : Nat → Int} (hj : j < n) : t0 (tab n fun k => (f k, g k, h k)) j = f j := by simp [t0, tab, List.getD, hj]
theorem t1_tab {n j : Nat} {f g h : Nat → Int} (hj : j < n) : t1 (tab n fun k => (f k, g k, h k)) j = g j := by simp [t1, tab, List.getD, hj]
theorem t2_tab {n j : Nat} {f g h : Nat → Int} (hj : j < n) : t2 (tab n fun k => (f k, g k, h k)) j = h j := by simp [t2, tab, List.getD, hj]
end Go.Proofs.Ytgnegemiiahkaaa
