/- The contract of slices.Repeat at a list of one number. Conditions: the count is from 1 to 1000. -/
import Derived.Test.YtgbccpfehcjhbaaGreatDoorM09
import Derived.Deep.RegionLaw
import Derived.BigRegion
import Derived.Laws.CopyOwn
namespace Go.Proofs.YtgbccpfehcjhbaaGreatDoor
open Go Go.RowKit
set_option linter.unusedSimpArgs false

set_option maxHeartbeats 400000 in
theorem bits_Mul1 {w : World} {n : Nat} (hn : n ≤ 1000) :
    Calls Tryz.prog 41 #[.int .u64 1, .int .u64 n] w fun e w' => e = .returned (.tuple #[.int .u64 0, .int .u64 n]) ∧ w = w' := by
  have h1 : bits .and .u64 1 4294967295 = 1 := by rw [and_low32 _ (by omega) (by omega)]; omega
  have h2 : bits .and .u64 (n : Int) 4294967295 = (n : Int) := by rw [and_low32 _ (by omega) (by omega)]; omega
  have h3 : (n : Int) / 4294967296 = 0 := by omega
  go_enter Tryz.func41, Tryz.ntmps41
  go_wp2
  go_ret2
  exact ⟨rfl, rfl⟩

theorem OwnI.whole {w : World} {B g n : Nat} {L : List Int} (h : OwnI w B (some ⟨g, 0, none⟩) n n L) : w.heap[g]? = some (.cells (L.map (Value.int .i64)).toArray 3 (0, 0)) := by
  rcases h.1.2 with ⟨h', _⟩ | ⟨g', cap', cur, h', _, hg, _, _, hs, htake⟩
  · simp at h'
  · simp only [Value.slice.injEq, Option.some.injEq, Addr.mk.injEq, and_true, true_and] at h'
    obtain ⟨rfl, rfl⟩ := h'
    rw [hg, ← htake, List.take_of_length_le (by simp [hs])]
theorem OwnI.of_whole {w : World} {B g n : Nat} {L : List Int} (h : w.heap[g]? = some (.cells (L.map (Value.int .i64)).toArray 3 (0, 0))) (hB : B ≤ g) (hl : L.length = n) (hn : n ≤ 17592186044416) : OwnI w B (some ⟨g, 0, none⟩) n n L :=
  ⟨⟨by simp [hl], .inr ⟨g, n, _, rfl, hB, h, Nat.le_refl _, by unfold maxLen; omega, by simp [hl], by simp [List.take_of_length_le, hl]⟩⟩, hn⟩

/-- the first m are v -/
def rep (v : Int) (n m : Nat) : List Int := tab n fun j => if j < m then v else 0
theorem rep_splice (v : Int) (n m k : Nat) (h : m + k ≤ n) : splice ((rep v n m).map (Value.int .i64)) m ((List.replicate k v).map (Value.int .i64)) = (rep v n (m + k)).map (Value.int .i64) := by
  unfold splice rep
  apply List.ext_getElem
  · simp [tab]; omega
  · intro j h1 h2
    simp only [List.length_map, tab_length] at h2
    simp only [tab, List.map_replicate, List.map_map, List.getElem_append, List.length_append, List.length_take, List.length_map, List.length_range, List.length_replicate, List.getElem_take, List.getElem_map, List.getElem_range, Function.comp, List.getElem_replicate, List.getElem_drop]
    split
    · rw [if_pos (by omega), if_pos (by omega)]
    · split
      · rw [if_pos (by omega)]
      · rw [if_neg (by omega), if_neg (by omega)]

theorem rep_start {w1 : World} {B g n : Nat} (v : Int) (hown : OwnI w1 B (some ⟨g, 0, none⟩) n n (tab n fun _ => 0)) : w1.heap[g]? = some (.cells ((rep v n 0).map (Value.int .i64)).toArray 3 (0, 0)) := by
  have := hown.whole
  rwa [show (tab n fun _ => (0 : Int)) = rep v n 0 from tab_congr fun j _ => by rw [if_neg (by omega)]] at this
theorem rep_len (v : Int) (n m : Nat) : ((rep v n m).map (Value.int .i64)).length = n := by simp [rep, tab_length]
theorem one_min (v : Value) {n : Nat} (h : 0 < n) : [v].length = Nat.min 1 n := by show 1 = min 1 n; omega

theorem src_cells {w : World} {g m b k : Nat} {v : Int} (h : ∀ j, j < k → w.cell? ⟨b, j, none⟩ = some (.int .i64 v)) :
    0 < ((List.replicate k v).map (Value.int .i64)).length → (some ⟨g, m, none⟩ : Option Addr) = some ⟨g, m, none⟩ ∧ ∃ ad : Addr, (some ⟨b, 0, none⟩ : Option Addr) = some ad ∧ ∀ j u, ((List.replicate k v).map (Value.int .i64))[j]? = some u → w.cell? (ad.add j) = some u := by
  intro _
  refine ⟨rfl, _, rfl, fun j u hu => ?_⟩
  have hj : j < k := by
    have := (List.getElem?_eq_some_iff.1 hu).1
    simpa using this
  have e : (⟨b, 0, none⟩ : Addr).add j = ⟨b, j, none⟩ := by unfold Addr.add; split <;> simp_all
  rw [e, h j hj]
  simpa [hj] using hu
theorem one_cell {w : World} {b : Nat} {v : Int} (h : w.cell? ⟨b, 0, none⟩ = some (.int .i64 v)) (j : Nat) (hj : j < 1) : w.cell? ⟨b, j, none⟩ = some (.int .i64 v) := by
  obtain rfl : j = 0 := by omega
  exact h
theorem rep_fit (v : Int) (n m k : Nat) (h : m + k ≤ n) : m + ((List.replicate k v).map (Value.int .i64)).length ≤ ((rep v n m).map (Value.int .i64)).length := by rw [rep_len]; simpa using h
theorem rep_min (v : Int) (k a b : Nat) (h : k = min a b) : ((List.replicate k v).map (Value.int .i64)).length = Nat.min a b := by simp; exact h
theorem rep_cells {w : World} {g n m : Nat} {v : Int} (h : w.heap[g]? = some (.cells ((rep v n m).map (Value.int .i64)).toArray 3 (0, 0))) (hmn : m ≤ n) : ∀ j, j < m → w.cell? ⟨g, j, none⟩ = some (.int .i64 v) := by
  intro j hj
  rw [blk_cell h j]
  simp [rep, tab, hj, show j < n by omega]

def RetRep (w : World) (v : Int) (n : Nat) (e : Ending) (w' : World) : Prop :=
  ∃ g, e = .returned (.slice (some ⟨g, 0, none⟩) n n) ∧ w.heap.size ≤ g ∧ OwnI w' w.heap.size (some ⟨g, 0, none⟩) n n (tab n fun _ => v) ∧ Below w.heap.size w w'

set_option maxRecDepth 100000 in
set_option maxHeartbeats 1000000 in
theorem slices_Repeat1 {w : World} {v : Int} {n : Nat} (hpos : 0 < n) (hn : n ≤ 1000) :
    Calls Tryz.prog 120 #[.slice (some ⟨w.heap.size, 0, none⟩) 1 1, .int .i64 n] (w.alloc (.cells #[.int .i64 v] 3)) (RetRep w v n) := by
  have hsz : (Tryz.prog.info? 3).map (·.size) = some 1 := by kernel_rfl
  have hb0 := (Below.refl w.heap.size w).alloc (Nat.le_refl _) (.cells #[.int .i64 v] 3)
  have hv0 : (w.alloc (.cells #[.int .i64 v] 3)).heap[w.heap.size]? = some (.cells #[.int .i64 v] 3 (0, 0)) := blk_new _ _ _
  have hs0 : w.heap.size < (w.alloc (.cells #[.int .i64 v] 3)).heap.size := by simp
  generalize w.alloc (.cells #[.int .i64 v] 3) = W at *
  generalize hB : w.heap.size = B at *
  have HB := Lib.hid hB; clear hB
  have HV := Lib.hid hv0; clear hv0
  have HSZ := Lib.hid hsz; clear hsz
  go_enter Tryz.func120, Tryz.ntmps120
  go_wp2_with fail
  refine (bits_Mul1 hn).mono ?_; rintro e w' ⟨rfl, rfl⟩
  have HMIN := Lib.hid (rep_min v 1 1 n (by omega))
  have HFIT := Lib.hid (rep_fit v n 0 1 (by omega))
  have HONE := Lib.hid (ints_oneCell .i64 (List.replicate 1 v))
  go_wp2_with (first | (at_make; refine wpL_make_int Tryz.tyInts rfl rfl (B := W.heap.size) (W0 := W) n rfl rfl rfl rfl (Below.refl _ _) (by omega) (Nat.le_refl _) ?_; intro g w1 hg hown hbel hb1; have HW0 := Lib.hid (rep_start v hown); have HVC := Lib.hid (blk_cell (blk_below HV.out hb1) 0); clear hown hb1) | (with_reducible refine wpList_copy_splice rfl (.tmp 31) (.tmp 32) 35 35 rfl 3 Tryz.underlying35 HSZ.out (some ⟨g, 0, none⟩) (some ⟨B, 0, none⟩) n n 1 1 rfl rfl g 0 ((rep v n 0).map (Value.int .i64)) 3 HW0.out ((List.replicate 1 v).map (Value.int .i64)) HMIN.out (src_cells fun j hj => one_cell HVC.out j hj) HFIT.out HONE.out W.heap.size W hbel hg ?_))
  intro w2 hh2 hb2
  have hw2 : w2.heap[g]? = some (.cells ((rep v n 1).map (Value.int .i64)).toArray 3 (0, 0)) := by
    have := hh2.out
    rwa [show [Value.int .i64 v] = (List.replicate 1 v).map (Value.int .i64) from rfl, rep_splice v n 0 1 (by omega), Nat.zero_add] at this
  have HW2 := Lib.hid hw2
  clear hh2 hw2 hbel
  go_wp2
  go_loopw [8] (fun i wr => ∃ m : Nat, 1 ≤ m ∧ m ≤ n ∧ i = .int .i64 m ∧ Hid (wr.heap[g]? = some (.cells ((rep v n m).map (Value.int .i64)).toArray 3 (0, 0))) ∧ Below W.heap.size W wr) (fun i _ => n - (intOf i).toNat)
  case atStart => exact ⟨1, by omega, by omega, rfl, HW2, hb2⟩
  case round =>
    obtain ⟨m, hm1, hm, rfl, HR, hb⟩ := hrel
    clear hb2 HW0 HMIN HFIT HONE
    by_cases hmn : m < n
    · have hne : ¬ n = m := by omega
      obtain ⟨k, hk⟩ : ∃ k, k = min m (n - m) := ⟨_, rfl⟩
      have hk1 : 1 ≤ k := by omega
      have hk2 : m + k ≤ n := by omega
      have hwr : IntKind.i64.wrap ((m : Int) + (k : Int)) = (m : Int) + (k : Int) := IntWalk.i64_in _ (by omega)
      have HMIN := Lib.hid (rep_min v k m (n - m) hk)
      have HFIT := Lib.hid (rep_fit v n m k hk2)
      have HONE := Lib.hid (ints_oneCell .i64 (List.replicate k v))
      have HSRC := Lib.hid (fun j (hj : j < k) => rep_cells HR.out hm j (by omega))
      clear hk
      go_wp2
      go_region_law (refine step_copy_splice rfl (.tmp 41) (.tmp 44) 35 35 rfl 3 Tryz.underlying35 HSZ.out (some ⟨g, m, none⟩) (some ⟨g, 0, none⟩) (n - m) (n - m) m n (by simp [Act.eval, Act.put]) (by simp [Act.eval, Act.put]) g m ((rep v n m).map (Value.int .i64)) 3 (by exact HR.out) ((List.replicate k v).map (Value.int .i64)) HMIN.out (by first | exact src_cells HSRC.out | (rw [if_neg hne]; exact src_cells HSRC.out)) HFIT.out HONE.out W.heap.size W (by exact hb.drew) hg ?_; intro w3 hh3 hb3)
      simp only [Act.put, List.getElem_toArray, List.getElem_cons_succ, List.getElem_cons_zero, List.setIfInBounds_toArray, List.set_cons_succ, List.set_cons_zero]
      go_wp2
      go_roundw
      case rel =>
        refine ⟨m + k, by omega, by omega, by go_num, ?_, hb3⟩
        have := hh3.out
        rw [rep_splice v n m k (by omega)] at this
        exact Lib.hid this
      case measure => simp [intOf]; omega
    · obtain rfl : n = m := by omega
      go_wp2
      go_ret
      have hr := HR.out
      rw [show rep v n n = tab n fun _ => v from tab_congr fun j hj => if_pos hj] at hr
      have hbw := hb0.trans (hb.mono (by omega))
      rw [← HB.out] at hbw
      refine ⟨g, rfl, by rw [HB.out]; omega, OwnI.of_whole hr (by rw [HB.out]; omega) (tab_length _ _) (by omega), hbw⟩
end Go.Proofs.YtgbccpfehcjhbaaGreatDoor
