/- The contract of headref.Ranked (P50). Conditions: that the tasks are right ones. -/
import Derived.Test.YtgnegemiiahkaaaRanksRun
import Derived.Test.YtgnegemiiahkaaaRepeat0
namespace Go.Proofs.Ytgnegemiiahkaaa
open Go Go.RowKit
set_option linter.unusedVariables false
set_option linter.unusedSimpArgs false

set_option maxRecDepth 100000 in
set_option maxHeartbeats 3200000 in
theorem ref_Ranked {w : World} {p : Option Addr} {n c m : Nat} {xs : List (Int × Int × Int)} (h : S3 w p n c xs) (he : tasksErr xs = 0) (hm2 : m ≤ 200) :
    Calls Try.prog 36 #[.slice p n c, .int .i64 m] w fun e w' => ∃ q d, e = .returned (.slice q m d) ∧ SI w' q m d (tab m (wh (t0 xs) (t1 xs) n)) ∧ Below w.heap.size w w' := by
  obtain ⟨h5, hok⟩ := tasks_ok he
  rw [h.1] at h5
  have hm := h.2.1
  have HOK : Hid (∀ j, j < n → okTask (t0 xs j) (t1 xs j) (t2 xs j)) := Lib.hid (by rw [← h.1]; exact hok)
  have HC : Hid (∀ i, i < n → 1 ≤ t1 xs i ∧ t1 xs i ≤ 60) := Lib.hid (fun j hj => by have := HOK.out j hj; unfold okTask at this; omega)
  have HS := Lib.hid h
  clear hok he h
  go_enter Try.func36, Try.ntmps36
  go_wp2_with fail
  refine (slices_RepeatN (w := w) (v := -1) (n := m) (by omega)).mono ?_; rintro e w1 ⟨g, rfl, hg, ho, hb⟩
  go_wp2
  go_loopw [15] (fun iv wr => ∃ k : Nat, k ≤ n ∧ iv = .int .i64 k ∧ OwnI wr w.heap.size (some ⟨g, 0, none⟩) m m (tab m (wrr (t0 xs) (t1 xs) n k)) ∧ Hid (Below w.heap.size w wr)) (fun iv _ => n - (intOf iv).toNat)
  case atStart => exact ⟨0, by omega, rfl, ho.to (fun j _ => wrr_zero.symm), Lib.hid hb⟩
  case round =>
    clear ho hb
    obtain ⟨k, hk, rfl, ho, HB⟩ := hrel
    have hsz := HB.out.size
    by_cases hkn : k < n
    · obtain ⟨b, off, hp, hlt, hc⟩ := HS.out.cells (by omega)
      subst hp
      have c0 : wr.cell? ⟨b, off + k * 3, none⟩ = some (.int .i64 (t0 xs k)) := (bdeep HB.out hlt _).trans (hc k hkn).1
      have c1 : wr.cell? ⟨b, off + k * 3 + 1, none⟩ = some (.int .i64 (t1 xs k)) := (bdeep HB.out hlt _).trans (hc k hkn).2.1
      have c2 : wr.cell? ⟨b, off + k * 3 + 2, none⟩ = some (.int .i64 (t2 xs k)) := (bdeep HB.out hlt _).trans (hc k hkn).2.2
      have hti := HOK.out k hkn
      unfold okTask at hti
      have hgb := ho.blk
      have hq0 : (t0 xs k == 0) = false := by simp; omega
      have hBX : Below w.heap.size w (wr.alloc (.cells #[.int .i64 (t0 xs k), .int .i64 (t1 xs k), .int .i64 (t2 xs k)] 66)) := HB.out.alloc hsz _
      have hoX := ho.below ((Below.refl _ wr).alloc (Nat.le_refl _) (.cells #[.int .i64 (t0 xs k), .int .i64 (t1 xs k), .int .i64 (t2 xs k)] 66))
      have hbl := blk_new wr #[.int .i64 (t0 xs k), .int .i64 (t1 xs k), .int .i64 (t2 xs k)] 66
      have hszX : (wr.alloc (.cells #[.int .i64 (t0 xs k), .int .i64 (t1 xs k), .int .i64 (t2 xs k)] 66)).heap.size = wr.heap.size + 1 := by simp
      have hne : ¬ g = wr.heap.size := by omega
      have hd0 : decide ((k : Int) < (n : Int)) = true := by simp; omega
      clear hc
      go_wp2
      go_loopw [8, 21] (fun lvv tv wz => ∃ t : Nat, t ≤ m ∧ tv = .int .i64 t ∧ lvv = .int .i64 (lv (t0 xs) (t1 xs) n t k) ∧ OwnI wz w.heap.size (some ⟨g, 0, none⟩) m m (tab m (wrm (t0 xs) (t1 xs) n k t)) ∧ Hid (Below w.heap.size w wz) ∧ Hid (wz.heap[wr.heap.size]? = some (.cells #[.int .i64 (t0 xs k), .int .i64 (t1 xs k), .int .i64 (t2 xs k)] 66 (0, 0)))) (fun _ tv _ => m - (intOf tv).toNat)
      case atStart => exact ⟨0, by omega, rfl, rfl, hoX.to (fun j _ => by unfold wrm; rw [if_neg (by omega)]), Lib.hid hBX, Lib.hid hbl⟩
      case round =>
        clear ho hoX hBX hbl c0 c1 c2 hszX hsz HB
        obtain ⟨t, ht, rfl, rfl, ho, HB, HX⟩ := hrel
        obtain ⟨⟨x0, x1, x2⟩, _⟩ := blk3 HX.out
        by_cases htm : t < m
        · have hlv := lv_bd (P := t0 xs) HC.out t k hkn
          have har := arr_bd (P := t0 xs) HC.out (t := t) hkn
          have co := ho.at (j := t) htm
          rw [gi_tab htm] at co
          have e5 : wrm (t0 xs) (t1 xs) n k t t = wrr (t0 xs) (t1 xs) n k t := by unfold wrm; rw [if_neg (Nat.lt_irrefl _)]
          rw [e5] at co
          have fo := ho.free t
          have hgb' := ho.blk
          have hwb := wrr_bd (P := t0 xs) (C := t1 xs) (n := n) (k := k) (s := t)
          have hq1 : 0 ≤ (t : Int) := by omega
          obtain ⟨hvx, hhv⟩ : ∃ x, hv (t0 xs) (t1 xs) n t k = x := ⟨_, rfl⟩
          have HHV := Lib.hid hhv
          have HNX : ∀ z, wh (t0 xs) (t1 xs) n t ≠ (k : Int) → OwnI z w.heap.size (some ⟨g, 0, none⟩) m m (tab m (wrm (t0 xs) (t1 xs) n k t)) → OwnI z w.heap.size (some ⟨g, 0, none⟩) m m (tab m (wrm (t0 xs) (t1 xs) n k (t + 1))) := fun z hne hz => hz.to (fun s hs => by
            unfold wrm
            by_cases e2 : s < t
            · rw [if_pos e2, if_pos (by omega)]
            · rw [if_neg e2]
              by_cases e : s = t
              · subst e; rw [if_pos (Nat.lt_succ_self _)]; exact (wrr_same hne).symm
              · rw [if_neg (by omega)])
          have HNX' := Lib.hid HNX
          clear HNX hhv e5
          by_cases hmod : (t : Int) % t0 xs k = 0
          · have hd : ((t : Int) % t0 xs k == 0) = true := by simp [hmod]
            have hhx : hvx = lv (t0 xs) (t1 xs) n t k + t1 xs k := by rw [← HHV.out]; unfold hv arr; rw [if_pos hmod]
            have hpos : 0 < lv (t0 xs) (t1 xs) n t k + t1 xs k := by omega
            have hdp : decide (0 < lv (t0 xs) (t1 xs) n t k + t1 xs k) = true := by simp; omega
            by_cases hwn : wrr (t0 xs) (t1 xs) n k t < 0
            · have hw0 : wrr (t0 xs) (t1 xs) n k t < 0 := hwn
              have hpk := wrr_take hkn hw0 (by rw [HHV.out, hhx]; exact hpos)
              have HLS := Lib.hid (show lv (t0 xs) (t1 xs) n (t + 1) k = lv (t0 xs) (t1 xs) n t k + t1 xs k - 1 by rw [lv_succ, if_pos hpk, HHV.out, hhx])
              have PO := ho.put t (k : Int) (z' := wrm (t0 xs) (t1 xs) n k (t + 1)) (fun s hs => by
                by_cases e : s = t
                · subst e; rw [if_pos rfl]; unfold wrm; rw [if_pos (Nat.lt_succ_self _)]; exact (wrr_hit hpk).symm
                · rw [if_neg e]; unfold wrm
                  by_cases e2 : s < t
                  · rw [if_pos e2, if_pos (by omega)]
                  · rw [if_neg e2, if_neg (by omega)])
              have PB := Lib.hid (HB.out.setCell (p := ⟨g, t, none⟩) hgb.1 (.int .i64 (k : Int)))
              have PX := Lib.hid (blk_other (g' := g) (j := t) (v := .int .i64 (k : Int)) HX.out (fun e => hne e.symm))
              have hdw : decide (wrr (t0 xs) (t1 xs) n k t < 0) = true := by simp; omega
              clear hpk hhx hmod
              generalize wrr (t0 xs) (t1 xs) n k t = wv at *
              go_wp2
              go_roundw
              case rel => exact ⟨t + 1, by omega, by go_num, by rw [HLS.out], PO, PB, PX⟩
              case measure => simp [intOf]; omega
            · have hpk := wrr_not (P := t0 xs) (C := t1 xs) (n := n) (k := k) (s := t) (by rw [HHV.out, hhx]; exact fun h => hwn h.1)
              have HLS := Lib.hid (show lv (t0 xs) (t1 xs) n (t + 1) k = lv (t0 xs) (t1 xs) n t k + t1 xs k by rw [lv_succ, if_neg hpk, HHV.out, hhx])
              have PO := HNX'.out _ hpk ho
              have hdw : decide (wrr (t0 xs) (t1 xs) n k t < 0) = false := by simp; omega
              clear hpk hhx hmod
              generalize wrr (t0 xs) (t1 xs) n k t = wv at *
              go_wp2
              go_roundw
              case rel => exact ⟨t + 1, by omega, by go_num, by rw [HLS.out], PO, HB, HX⟩
              case measure => simp [intOf]; omega
          · have hd : ((t : Int) % t0 xs k == 0) = false := by simp [hmod]
            have hhx : hvx = lv (t0 xs) (t1 xs) n t k := by rw [← HHV.out]; unfold hv arr; rw [if_neg hmod, Int.add_zero]
            by_cases hwn : wrr (t0 xs) (t1 xs) n k t < 0
            · by_cases hpos : 0 < lv (t0 xs) (t1 xs) n t k
              · have hdp : decide (0 < lv (t0 xs) (t1 xs) n t k) = true := by simp; omega
                have hw0 : wrr (t0 xs) (t1 xs) n k t < 0 := hwn
                have hpk := wrr_take hkn hw0 (by rw [HHV.out, hhx]; exact hpos)
                have HLS := Lib.hid (show lv (t0 xs) (t1 xs) n (t + 1) k = lv (t0 xs) (t1 xs) n t k - 1 by rw [lv_succ, if_pos hpk, HHV.out, hhx])
                have PO := ho.put t (k : Int) (z' := wrm (t0 xs) (t1 xs) n k (t + 1)) (fun s hs => by
                  by_cases e : s = t
                  · subst e; rw [if_pos rfl]; unfold wrm; rw [if_pos (Nat.lt_succ_self _)]; exact (wrr_hit hpk).symm
                  · rw [if_neg e]; unfold wrm
                    by_cases e2 : s < t
                    · rw [if_pos e2, if_pos (by omega)]
                    · rw [if_neg e2, if_neg (by omega)])
                have PB := Lib.hid (HB.out.setCell (p := ⟨g, t, none⟩) hgb.1 (.int .i64 (k : Int)))
                have PX := Lib.hid (blk_other (g' := g) (j := t) (v := .int .i64 (k : Int)) HX.out (fun e => hne e.symm))
                have hdw : decide (wrr (t0 xs) (t1 xs) n k t < 0) = true := by simp; omega
                clear hpk hhx hmod
                generalize wrr (t0 xs) (t1 xs) n k t = wv at *
                go_wp2
                go_roundw
                case rel => exact ⟨t + 1, by omega, by go_num, by rw [HLS.out], PO, PB, PX⟩
                case measure => simp [intOf]; omega
              · have hdp : decide (0 < lv (t0 xs) (t1 xs) n t k) = false := by simp; omega
                have hpk := wrr_not (P := t0 xs) (C := t1 xs) (n := n) (k := k) (s := t) (by rw [HHV.out, hhx]; exact fun h => hpos h.2)
                have HLS := Lib.hid (show lv (t0 xs) (t1 xs) n (t + 1) k = lv (t0 xs) (t1 xs) n t k by rw [lv_succ, if_neg hpk, HHV.out, hhx])
                have PO := HNX'.out _ hpk ho
                have hdw : decide (wrr (t0 xs) (t1 xs) n k t < 0) = true := by simp; omega
                clear hpk hhx hmod
                generalize wrr (t0 xs) (t1 xs) n k t = wv at *
                go_wp2
                go_roundw
                case rel => exact ⟨t + 1, by omega, by go_num, by rw [HLS.out], PO, HB, HX⟩
                case measure => simp [intOf]; omega
            · have hpk := wrr_not (P := t0 xs) (C := t1 xs) (n := n) (k := k) (s := t) (by rw [HHV.out, hhx]; exact fun h => hwn h.1)
              have HLS := Lib.hid (show lv (t0 xs) (t1 xs) n (t + 1) k = lv (t0 xs) (t1 xs) n t k by rw [lv_succ, if_neg hpk, HHV.out, hhx])
              have PO := HNX'.out _ hpk ho
              have hdw : decide (wrr (t0 xs) (t1 xs) n k t < 0) = false := by simp; omega
              clear hpk hhx hmod
              generalize wrr (t0 xs) (t1 xs) n k t = wv at *
              go_wp2
              go_roundw
              case rel => exact ⟨t + 1, by omega, by go_num, by rw [HLS.out], PO, HB, HX⟩
              case measure => simp [intOf]; omega
        · obtain rfl : m = t := by omega
          have hoE := ho.to (z' := wrr (t0 xs) (t1 xs) n (k + 1)) (fun s hs => by unfold wrm; rw [if_pos hs])
          generalize lv (t0 xs) (t1 xs) n m k = lx at *
          go_wp2
          go_roundw
          case rel => exact ⟨k + 1, by omega, by go_num, hoE, HB⟩
          case measure => simp [intOf]; omega
    · obtain rfl : n = k := by omega
      have hoE := ho.to (z' := wh (t0 xs) (t1 xs) n) (fun s hs => wrr_all)
      go_wp2
      go_ret
      exact ⟨_, _, rfl, hoE.si, HB.out⟩
end Go.Proofs.Ytgnegemiiahkaaa
