/- Rows of structs of three integers that the call owns. No program is in sight. No conditions. -/
import Derived.Test.YtgnegemiiahkaaaS3
import Derived.Test.YtgnegemiiahkaaaRow
namespace Go.Proofs.Ytgnegemiiahkaaa
open Go Go.RowKit

def enc3 (x : Int × Int × Int) : List Value := [.int .i64 x.1, .int .i64 x.2.1, .int .i64 x.2.2]
theorem enc3_len (x : Int × Int × Int) : (enc3 x).length = 3 := rfl
theorem enc3_one (x : Int × Int × Int) : ∀ u ∈ enc3 x, u.oneCell' = true := by
  intro u hu
  simp only [enc3, List.mem_cons, List.not_mem_nil, or_false] at hu
  rcases hu with rfl | rfl | rfl <;> rfl
theorem ge_t0 (L : List (Int × Int × Int)) (j : Nat) : (ge L j).1 = t0 L j := rfl
theorem SR.s3 {w : World} {p : Option Addr} {n c : Nat} {L : List (Int × Int × Int)} (h : SR enc3 3 w p n c L) : S3 w p n c L := by
  refine ⟨h.1, h.2.1, fun hn => ?_⟩
  obtain ⟨b, off, rfl, hlt, hc⟩ := h.cells hn
  exact ⟨b, off, rfl, hlt, fun j hj => ⟨hc j hj 0 (by omega), hc j hj 1 (by omega), hc j hj 2 (by omega)⟩⟩
theorem S3.sr {w : World} {p : Option Addr} {n c : Nat} {L : List (Int × Int × Int)} (h : S3 w p n c L) : SR enc3 3 w p n c L := by
  refine ⟨h.1, h.2.1, fun hn => ?_⟩
  obtain ⟨b, off, rfl, hlt, hc⟩ := h.cells hn
  refine ⟨b, off, rfl, hlt, fun j hj i hi => ?_⟩
  obtain ⟨c0, c1, c2⟩ := hc j hj
  rcases (show i = 0 ∨ i = 1 ∨ i = 2 by omega) with rfl | rfl | rfl
  · exact c0
  · exact c1
  · exact c2
theorem t0_push {L : List (Int × Int × Int)} {x : Int × Int × Int} {j : Nat} : (j < L.length → t0 (L ++ [x]) j = t0 L j ∧ t1 (L ++ [x]) j = t1 L j ∧ t2 (L ++ [x]) j = t2 L j) ∧ t0 (L ++ [x]) L.length = x.1 ∧ t1 (L ++ [x]) L.length = x.2.1 ∧ t2 (L ++ [x]) L.length = x.2.2 := by
  refine ⟨fun h => ?_, ?_, ?_, ?_⟩
  · simp only [t0, t1, t2, List.getD, List.getElem?_append_left h, and_self]
  all_goals simp [t0, t1, t2, List.getD]
end Go.Proofs.Ytgnegemiiahkaaa
