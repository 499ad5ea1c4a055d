/- The contract of slices.Repeat at a list of one peer, and headref.NewWorld. Conditions: the count is from 1 to 8. -/
import Derived.Test.YtgnegemiiahkaaaRepeat
import Derived.Test.YtgnegemiiahkaaaCopyR
import Derived.Test.YtgnegemiiahkaaaWorldMore
namespace Go.Proofs.Ytgnegemiiahkaaa
open Go Go.RowKit
set_option linter.unusedVariables false
set_option linter.unusedSimpArgs false

/-- the first m are x -/
def repP (x : Peer) (n m : Nat) : List Peer := tab n fun j => if j < m then x else (0, 0, false)
theorem repP_len (x : Peer) (n m : Nat) : (repP x n m).length = n := tab_length _ _
theorem repP_copy (x : Peer) (n m k : Nat) (h : m + k ≤ n) : (repP x n m).take m ++ List.replicate k x ++ (repP x n m).drop (m + k) = repP x n (m + k) := by
  unfold repP
  apply List.ext_getElem
  · simp [tab]; omega
  · intro j h1 h2
    simp only [tab_length] at h2
    simp only [tab, List.getElem_append, List.length_append, List.length_take, List.length_map, List.length_range, List.length_replicate, List.getElem_take, List.getElem_map, List.getElem_range, List.getElem_replicate, List.getElem_drop]
    split
    · split
      · rw [if_pos (by omega), if_pos (by omega)]
      · rw [if_pos (by omega)]
    · rw [if_neg (by omega), if_neg (by omega)]
theorem rep_one {x : Peer} {n : Nat} (h : 1 ≤ n) : encP x ++ (repP x n 0).tail.flatMap encP = (repP x n 1).flatMap encP := by
  have e := repP_copy x n 0 1 (by omega)
  rw [Nat.zero_add] at e
  rw [← e]
  simp
theorem rep_src {w : World} {b n m k : Nat} {x : Peer} {T : TypeId} (h : w.heap[b]? = some (.cells ((repP x n m).flatMap encP).toArray T (0, 0))) (hk : k ≤ m) (hm : m ≤ n) :
    ∀ j, j < (List.replicate k x).length → ∀ i, i < 3 → w.cell? ⟨b, 0 + j * 3 + i, none⟩ = (encP (ge (List.replicate k x) j))[i]? := by
  intro j hj i hi
  rw [List.length_replicate] at hj
  have h1 := blk_cell h (j * 3 + i)
  have h2 := fm_get encP_len (repP x n m) j i (by rw [repP_len]; omega) hi
  have e1 : ge (List.replicate k x) j = x := by rw [ge_get (by simpa using hj)]; simp
  have e2 : (repP x n m)[j]'(by rw [repP_len]; omega) = x := by simp [repP, tab]; omega
  rw [e2] at h2
  rw [Nat.zero_add, h1, e1, ← h2]
  simp
theorem one_src {w : World} {b : Nat} {x : Peer} {T : TypeId} (h : w.heap[b]? = some (.cells (encP x).toArray T (0, 0))) :
    ∀ j, j < (List.replicate 1 x).length → ∀ i, i < 3 → w.cell? ⟨b, 0 + j * 3 + i, none⟩ = (encP (ge (List.replicate 1 x) j))[i]? := by
  intro j hj i hi
  obtain rfl : j = 0 := by simp at hj; exact hj
  rw [Nat.zero_add, blk_cell h i]
  have e1 : ge (List.replicate 1 x) 0 = x := by rw [ge_get (by simp)]; simp
  rw [e1]; simp
theorem rep_minP (x : Peer) (k a b : Nat) (h : k = min a b) : (List.replicate k x).length = Nat.min a b := by simp; exact h
theorem rep_fitP (x : Peer) (n m k : Nat) (h : m + k ≤ n) : m + (List.replicate k x).length ≤ (repP x n m).length := by rw [repP_len]; simpa using h

set_option maxRecDepth 100000 in
set_option maxHeartbeats 1000000 in
theorem slices_RepeatP {w : World} {x : Peer} {n : Nat} (hpos : 1 ≤ n) (hn : n ≤ 8) :
    Calls Try.prog 68 #[.slice (some ⟨w.heap.size, 0, none⟩) 1 1, .int .i64 n] (w.alloc (.cells (encP x).toArray 53)) fun e w' => ∃ g, e = .returned (.slice (some ⟨g, 0, none⟩) n n) ∧ OwnR 53 encP 3 w' w.heap.size (some ⟨g, 0, none⟩) n n (tab n fun _ => x) ∧ Below w.heap.size w w' := by
  have hsz : (Try.prog.info? 53).map (·.size) = some 3 := by kernel_rfl
  have hb0 := (Below.refl w.heap.size w).alloc (Nat.le_refl _) (.cells (encP x).toArray 53)
  have hv0 : (w.alloc (.cells (encP x).toArray 53)).heap[w.heap.size]? = some (.cells (encP x).toArray 53 (0, 0)) := blk_new _ _ _
  have hs0 : w.heap.size < (w.alloc (.cells (encP x).toArray 53)).heap.size := by simp
  generalize w.alloc (.cells (encP x).toArray 53) = W at *
  generalize hB : w.heap.size = B at *
  have HB := Lib.hid hB; clear hB
  have HV := Lib.hid hv0; clear hv0
  have HSZ := Lib.hid hsz; clear hsz
  go_enter Try.func68, Try.ntmps68
  go_wp2_with fail
  refine (bits_Mul1 (by omega)).mono ?_; rintro e w' ⟨rfl, rfl⟩
  go_wp2_with (first | (refine wpL_make_R (z0 := ((0, 0, false) : Peer)) Try.tyPeers rfl encP_len (by omega) (by omega) (by omega) rfl rfl (B := W.heap.size) (W0 := W) n (by first | rfl | simp [Act.eval]) (by first | rfl | simp [Act.eval]) rfl rfl (Below.refl _ _) (by omega) (Nat.le_refl _) ?_; intro g w1 hg hown hbel hb1; have HW0 := Lib.hid (show w1.heap[g]? = some (.cells ((repP x n 0).flatMap encP).toArray 53 (0, 0)) by (have := hown.wholeR; rwa [show (tab n fun _ => ((0, 0, false) : Peer)) = repP x n 0 from tab_congr fun j _ => by rw [if_neg (by omega)]] at this)); have HVC := Lib.hid (blk_below HV.out hb1); clear hown hb1) | (refine wpList_copy_R rfl (.tmp 31) (.tmp 32) 54 54 53 rfl encP_len (by omega) encP_oneC Try.underlying54 HSZ.out (o1 := 0) (xs := List.replicate 1 x) (L := repP x n 0) (b := B) (off := 0) (g := g) (dLen := n) (dCap := n) (sLen := 1) (sCap := 1) (by rfl) rfl rfl HW0.out (rep_minP x 1 1 n (by omega)) (rep_fitP x n 0 1 (by omega)) (one_src HVC.out) (B := W.heap.size) (w0 := W) hbel hg ?_))
  intro w2 hh2 hb2
  have hw2 : w2.heap[g]? = some (.cells ((repP x n 1).flatMap encP).toArray 53 (0, 0)) := by
    have := hh2.out
    rw [← rep_one hpos]
    exact this
  have HW2 := Lib.hid hw2
  clear hh2 hw2 hbel
  go_wp2
  go_loopw [8] (fun i wr => ∃ m : Nat, 1 ≤ m ∧ m ≤ n ∧ i = .int .i64 m ∧ Hid (wr.heap[g]? = some (.cells ((repP x n m).flatMap encP).toArray 53 (0, 0))) ∧ Below W.heap.size W wr) (fun i _ => n - (intOf i).toNat)
  case atStart => exact ⟨1, by omega, by omega, rfl, HW2, hb2⟩
  case round =>
    obtain ⟨m, hm1, hm, rfl, HR, hb⟩ := hrel
    clear hb2 HW0
    by_cases hmn : m < n
    · have hne : ¬ n = m := by omega
      obtain ⟨k, hk⟩ : ∃ k, k = min m (n - m) := ⟨_, rfl⟩
      have hk1 : 1 ≤ k := by omega
      have hk2 : m + k ≤ n := by omega
      have hk3 : k ≤ m := by omega
      have hwr : IntKind.i64.wrap ((m : Int) + (k : Int)) = (m : Int) + (k : Int) := IntWalk.i64_in _ (by omega)
      have HMIN := Lib.hid (rep_minP x k m (n - m) hk)
      have HSRC := Lib.hid (rep_src HR.out hk3 hm)
      clear hk
      go_wp2
      go_region_law (refine step_copy_R rfl (.tmp 41) (.tmp 44) 54 54 53 rfl encP_len (by omega) encP_oneC Try.underlying54 HSZ.out (o1 := m) (o' := m * 3) (xs := List.replicate k x) (L := repP x n m) (b := g) (off := 0) (g := g) (dLen := n - m) (dCap := n - m) (sLen := m) (sCap := n) rfl (by simp [Act.eval, Act.put]) (by simp [Act.eval, Act.put]) (by exact HR.out) HMIN.out (rep_fitP x n m k hk2) (by exact HSRC.out) (B := W.heap.size) (w0 := W) (by exact hb.drew) hg ?_; intro w3 hh3 hb3)
      simp only [Act.put, List.getElem_toArray, List.getElem_cons_succ, List.getElem_cons_zero, List.setIfInBounds_toArray, List.set_cons_succ, List.set_cons_zero]
      rw [List.length_replicate] at *
      go_wp2
      go_roundw
      case rel =>
        refine ⟨m + k, by omega, by omega, by go_num, ?_, hb3⟩
        have := hh3.out
        rw [repP_copy x n m k (by omega)] at this
        exact Lib.hid this
      case measure => simp [intOf]; omega
    · obtain rfl : n = m := by omega
      go_wp2
      go_ret
      have hr := HR.out
      rw [show repP x n n = tab n fun _ => x from tab_congr fun j hj => if_pos hj] at hr
      have hbw := hb0.trans (hb.mono (by omega))
      rw [← HB.out] at hbw
      refine ⟨g, rfl, OwnR.of_wholeR hr encP_len (by omega) (tab_length _ _) (by omega), by rw [HB.out] at hbw; exact hbw⟩

set_option maxHeartbeats 800000 in
theorem ref_NewWorld {w : World} {n : Nat} {rate unit : Int} (h1 : 1 ≤ n) (h2 : n ≤ 8) :
    Calls Try.prog 23 #[.int .i64 (n : Int), .int .i64 rate, .int .i64 unit] w fun e w' => ∃ g h, e = .returned (.pointer (some ⟨g, 0, none⟩)) ∧ WorldAt w' 56 w.heap.size g h rate unit n (tab n fun _ => (0, 0, true)) 0 ∧ Below w.heap.size w w' := by
  have HC := Lib.hid (slices_RepeatP (w := w) (x := (0, 0, true)) h1 h2)
  go_enter Try.func23, Try.ntmps23
  go_wp2_with fail
  refine HC.out.mono ?_; rintro e w1 ⟨h, rfl, ho, hb1⟩
  have hX := blk_new w1 #[.int .i64 rate, .int .i64 unit, .slice (some ⟨h, 0, none⟩) n n, .int .i64 0] 56
  have hoA := ho.alloc (.cells #[.int .i64 rate, .int .i64 unit, .slice (some ⟨h, 0, none⟩) n n, .int .i64 0] 56)
  have hbA := hb1.alloc hb1.size (.cells #[.int .i64 rate, .int .i64 unit, .slice (some ⟨h, 0, none⟩) n n, .int .i64 0] 56)
  have K : WorldAt (w1.alloc (.cells #[.int .i64 rate, .int .i64 unit, .slice (some ⟨h, 0, none⟩) n n, .int .i64 0] 56)) 56 w.heap.size w1.heap.size h rate unit n (tab n fun _ => (0, 0, true)) 0 :=
    ⟨hX, by simpa using hoA, hb1.size, fun e => by have := ho.blk.2; omega⟩
  clear hX hoA ho hb1
  go_wp2
  go_ret
  exact ⟨_, h, rfl, K, hbA⟩
end Go.Proofs.Ytgnegemiiahkaaa
