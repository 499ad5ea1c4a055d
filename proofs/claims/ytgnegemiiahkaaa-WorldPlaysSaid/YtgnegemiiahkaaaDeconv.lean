/- The contract of deconv.Of: the deconvolution of two curves (P11). No conditions. -/
import Derived.Test.YtgnegemiiahkaaaCurveFacts
import Derived.RegionTactic
import Derived.ChangeAlike
import Derived.BigRegion
import Derived.WalkSmall
namespace Go.Proofs.Ytgnegemiiahkaaa
open Go Go.RowKit

theorem Try.tyInts : SliceTy Try.prog 35 3 (.int .i64 0) 1 8 := ⟨Try.underlying35, by kernel_rfl⟩

/-- f(t+u) - g(u) -/
def dce (f g : List Int) (t u : Nat) : Int := gi f (t + u) - gi g u
def dcv (f g : List Int) (n t : Nat) : Int := mxf 0 (dce f g t) (n - t)
def dcvL (f g : List Int) : List Int := tab f.length (dcv f g f.length)

theorem deconv_fits {xs ys : List Int} {n : Nat} (hx : Curve xs n) (hy : Curve ys n) : fits (dcvL xs ys) := by
  intro j hj
  unfold dcvL at hj ⊢
  rw [tab_length] at hj
  rw [gi_tab hj, hx.len]
  rw [hx.len] at hj
  refine mxf_le (by omega) fun u hu => ?_
  have a := hx.bd (j + u) (by omega)
  have b := hy.bd u (by omega)
  unfold dce; omega

/-- one result: a new list -/
def RetS (w : World) (L : List Int) (e : Ending) (w' : World) : Prop :=
  ∃ p n c, e = .returned (.slice p n c) ∧ OwnI w' w.heap.size p n c L ∧ Below w.heap.size w w'

end Go.Proofs.Ytgnegemiiahkaaa
