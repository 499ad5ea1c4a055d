/- The contracts of trace.Added and headref.Added (P21): the sums by each time. Conditions: how long the list is, and how large its numbers. -/
import Derived.Test.YtgbccpfehcjhbaaTrace
import Derived.Test.YtgbccpfehcjhbaaLineLaw
namespace Go.Proofs.Ytgbccpfehcjhbaa
open Go Go.RowKit

def addL (xs : List Int) : List Int := tab (xs.length + 1) (sumT (gi xs))

set_option maxHeartbeats 1000000 in
theorem trace_Added {w : World} {p : Option Addr} {n c : Nat} {xs : List Int} (h : SI w p n c xs) (hn : n ≤ 1000) (hbd : ∀ j, j < n → 0 ≤ gi xs j ∧ gi xs j ≤ 1000000) :
    Calls Try.prog 16 #[.slice p n c] w (RetS w (addL xs)) := by
  have hl := h.1
  have hm := h.2.1
  have HL := Lib.hid hl; clear hl
  have HS := Lib.hid (fun k (hk : k ≤ n) => sumT_bd hbd k hk)
  go_enter Try.func16, Try.ntmps16
  go_wp2_with (at_make; refine wpL_make_int Try.tyInts rfl rfl (B := w.heap.size) (W0 := w) (n + 1) rfl rfl (by simp) (by simp) (Below.refl _ _) (by omega) (Nat.le_refl _) ?_; intro g w1 hg hown hbel hb0)
  clear hb0
  go_loopw [12] (fun i wr => ∃ k : Nat, k ≤ n ∧ i = .int .i64 k ∧ OwnI wr w.heap.size (some ⟨g, 0, none⟩) (n + 1) (n + 1) (tab (n + 1) fun j => if j ≤ k then sumT (gi xs) j else 0) ∧ Below w.heap.size w wr) (fun i _ => n - (intOf i).toNat)
  case atStart => exact ⟨0, Nat.zero_le _, rfl, hown.to (fun j _ => (by by_cases e : j = 0; (subst e; rfl); rw [if_neg (by omega)])), hbel⟩
  case round =>
    obtain ⟨k, hk, rfl, ho, hb⟩ := hrel
    clear hown hbel
    by_cases hkn : k < n
    · obtain ⟨b, off, rfl, hlt, hc⟩ := h.cells (by omega)
      have c1 : wr.cell? ⟨b, off + k, none⟩ = some (.int .i64 (gi xs k)) := (bdeep hb hlt _).trans (hc _ hkn)
      have c2 := ho.at (j := k) (by omega)
      rw [gi_tab (by omega), if_pos (Nat.le_refl k)] at c2
      have f3 := ho.free (k + 1)
      have c3 := ho.at (j := k + 1) (by omega)
      rw [gi_tab (by omega), if_neg (by omega)] at c3
      have b1 := hbd k hkn
      have b2 := HS.out k hk
      have HST := Lib.hid (sumT_succ (gi xs) k)
      generalize hsk : sumT (gi xs) k = sk at *
      have HSK := Lib.hid hsk; clear hsk
      clear hc h hbd
      go_wp2
      go_roundw
      case rel =>
        refine ⟨k + 1, by omega, by go_num, ho.put (k + 1) _ fun j _ => ?_, hb.setCell hg _⟩
        by_cases e : j = k + 1
        · subst e; rw [if_pos rfl, if_pos (Nat.le_refl _), HST.out]
        · rw [if_neg e]
          by_cases e2 : j ≤ k
          · rw [if_pos e2, if_pos (by omega)]
          · rw [if_neg e2, if_neg (by omega)]
      case measure => simp [intOf]; omega
    · obtain rfl : n = k := by omega
      go_wp2
      go_ret
      exact ⟨_, _, _, rfl, by unfold addL; rw [HL.out]; exact ho.to fun j hj => if_pos (by omega), hb⟩

end Go.Proofs.Ytgbccpfehcjhbaa
