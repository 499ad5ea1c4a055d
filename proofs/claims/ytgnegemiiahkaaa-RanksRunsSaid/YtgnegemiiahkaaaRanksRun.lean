/- The contracts of ranks.Run and headref.Ranked (P50). Conditions: that the tasks are right ones. -/
import Derived.Test.YtgnegemiiahkaaaRunLaw
import Derived.Test.YtgnegemiiahkaaaRanks
import Derived.Test.YtgnegemiiahkaaaEdfPlay
import Derived.IntWalk
namespace Go.Proofs.Ytgnegemiiahkaaa
open Go Go.RowKit
set_option linter.unusedVariables false
set_option linter.unusedSimpArgs false

theorem ranks_Run_bad {w : World} {p : Option Addr} {n c : Nat} {xs : List (Int × Int × Int)} {hh : Int} (h : S3 w p n c xs) {er : Int} (he : tasksErr xs = er) (h0 : er ≠ 0) :
    Calls Try.prog 33 #[.slice p n c, .int .i64 hh] w fun e w' => e = .returned (.tuple #[.slice none 0 0, .int .i64 er]) ∧ Below w.heap.size w w' := by
  have hb : (er == 0) = false := by simp [h0]
  go_enter Try.func33, Try.ntmps33
  go_wp2_with fail
  refine (ranks_Check h he).mono ?_; rintro e w' ⟨rfl, b1⟩
  go_wp2
  go_ret2
  exact ⟨rfl, b1⟩
theorem ranks_Run_arg {w : World} {p : Option Addr} {n c : Nat} {xs : List (Int × Int × Int)} {hh : Int} (h : S3 w p n c xs) (he : tasksErr xs = 0) (hl : hh < 0 ∨ 200 < hh) :
    Calls Try.prog 33 #[.slice p n c, .int .i64 hh] w fun e w' => e = .returned (.tuple #[.slice none 0 0, .int .i64 1]) ∧ Below w.heap.size w w' := by
  rcases (show hh < 0 ∨ (0 ≤ hh ∧ 200 < hh) by omega) with h1 | ⟨h1, h2⟩
  all_goals
    clear hl
    go_enter Try.func33, Try.ntmps33
    go_wp2_with fail
    refine (ranks_Check h he).mono ?_; rintro e w' ⟨rfl, b1⟩
    go_wp2
    go_ret2
    exact ⟨rfl, b1⟩
set_option maxRecDepth 100000 in
set_option maxHeartbeats 6400000 in
theorem ranks_Run_ok {w : World} {p : Option Addr} {n c m : Nat} {xs : List (Int × Int × Int)} (h : S3 w p n c xs) (he : tasksErr xs = 0) (hm2 : m ≤ 200) :
    Calls Try.prog 33 #[.slice p n c, .int .i64 m] w fun e w' => ∃ q d, e = .returned (.tuple #[.slice q m d, .int .i64 0]) ∧ SI w' q m d (tab m (wh (t0 xs) (t1 xs) n)) ∧ Below w.heap.size w w' := by
  obtain ⟨h5, hok⟩ := tasks_ok he
  rw [h.1] at h5
  have hm := h.2.1
  have HOK : Hid (∀ j, j < n → okTask (t0 xs j) (t1 xs j) (t2 xs j)) := Lib.hid (by rw [← h.1]; exact hok)
  have HC : Hid (∀ i, i < n → 1 ≤ t1 xs i ∧ t1 xs i ≤ 60) := Lib.hid (fun j hj => by have := HOK.out j hj; unfold okTask at this; omega)
  have HE := Lib.hid he
  have HS := Lib.hid h
  clear hok he
  go_enter Try.func33, Try.ntmps33
  go_wp2_with fail
  refine (ranks_Check h HE.out).mono ?_; rintro e w1 ⟨rfl, b1⟩
  have hs1 := b1.size
  clear h
  go_wp2_with (at_make; refine wpL_make_int Try.tyIntsEp rfl rfl (B := w.heap.size) (W0 := w) n rfl rfl rfl rfl b1 (by omega) hs1 ?_; intro gl w2 hgl hol hb hb2)
  have hs2 := hb.size
  have hgl2 := hol.blk
  clear b1 hb2
  go_loopw [8, 28] (fun ov tv wr => ∃ (t : Nat) (q : Option Addr) (d : Nat), t ≤ m ∧ tv = .int .i64 t ∧ ov = .slice q t d ∧ OwnI wr w.heap.size q t d (tab t (wh (t0 xs) (t1 xs) n)) ∧ OwnI wr w.heap.size (some ⟨gl, 0, none⟩) n n (tab n (lv (t0 xs) (t1 xs) n t)) ∧ Sep q (some ⟨gl, 0, none⟩) ∧ Hid (Below w.heap.size w wr)) (fun _ tv _ => m - (intOf tv).toNat)
  case atStart => exact ⟨0, none, 0, by omega, rfl, rfl, OwnI.nil _ _, hol.to (fun j hj => rfl), Sep.none_left, Lib.hid hb⟩
  case round =>
    clear hol hb
    obtain ⟨t, q, d, ht, rfl, rfl, hoq, hol, hsep, HB⟩ := hrel
    by_cases ht2 : t < m
    · have hd1 : decide ((t : Int) < (m : Int)) = true := by simp; omega
      go_wp2
      go_loopw [10, 33] (fun wv iv wr => ∃ k : Nat, k ≤ n ∧ iv = .int .i64 k ∧ wv = .int .i64 (whf (hv (t0 xs) (t1 xs) n t) k) ∧ OwnI wr w.heap.size q t d (tab t (wh (t0 xs) (t1 xs) n)) ∧ OwnI wr w.heap.size (some ⟨gl, 0, none⟩) n n (tab n fun j => if j < k then hv (t0 xs) (t1 xs) n t j else lv (t0 xs) (t1 xs) n t j) ∧ Hid (Below w.heap.size w wr)) (fun _ iv _ => n - (intOf iv).toNat)
      case atStart => exact ⟨0, by omega, rfl, rfl, hoq, hol.to (fun j hj => by rw [if_neg (by omega)]), HB⟩
      case round =>
        clear hoq hol HB
        obtain ⟨k, hk, rfl, rfl, hoq, hol, HB⟩ := hrel
        by_cases hkn : k < n
        · obtain ⟨b, off, hp, hlt, hc⟩ := HS.out.cells (by omega)
          subst hp
          have c0 : wr.cell? ⟨b, off + k * 3, none⟩ = some (.int .i64 (t0 xs k)) := (bdeep HB.out hlt _).trans (hc k hkn).1
          have c1 : wr.cell? ⟨b, off + k * 3 + 1, none⟩ = some (.int .i64 (t1 xs k)) := (bdeep HB.out hlt _).trans (hc k hkn).2.1
          have c2 : wr.cell? ⟨b, off + k * 3 + 2, none⟩ = some (.int .i64 (t2 xs k)) := (bdeep HB.out hlt _).trans (hc k hkn).2.2
          have hti := HOK.out k hkn
          unfold okTask at hti
          have hlv := lv_bd (P := t0 xs) HC.out t k hkn
          have hlv2 : lv (t0 xs) (t1 xs) n t k ≤ 12000 := by omega
          have cl := hol.at (j := k) hkn
          rw [gi_tab hkn, if_neg (Nat.lt_irrefl k)] at cl
          have fl := hol.free k
          have hgb := hol.blk
          have hq0 : (t0 xs k == 0) = false := by simp; omega
          have hq1 : 0 ≤ (t : Int) := by omega
          have HSP := Lib.hid (whf_spec (hv (t0 xs) (t1 xs) n t) k)
          have HWS : Hid (whf (hv (t0 xs) (t1 xs) n t) (k + 1) = if whf (hv (t0 xs) (t1 xs) n t) k < 0 ∧ 0 < hv (t0 xs) (t1 xs) n t k then (k : Int) else whf (hv (t0 xs) (t1 xs) n t) k) := Lib.hid rfl
          have HBA := Lib.hid (HB.out.alloc HB.out.size (.cells #[.int .i64 (t0 xs k), .int .i64 (t1 xs k), .int .i64 (t2 xs k)] 66))
          have holA := hol.below ((Below.refl _ wr).alloc (Nat.le_refl _) (.cells #[.int .i64 (t0 xs k), .int .i64 (t1 xs k), .int .i64 (t2 xs k)] 66))
          have hoqA := hoq.below ((Below.refl _ wr).alloc (Nat.le_refl _) (.cells #[.int .i64 (t0 xs k), .int .i64 (t1 xs k), .int .i64 (t2 xs k)] 66))
          have hszA : (wr.alloc (.cells #[.int .i64 (t0 xs k), .int .i64 (t1 xs k), .int .i64 (t2 xs k)] 66)).heap.size = wr.heap.size + 1 := by simp
          have hne1 : ¬ gl = wr.heap.size := by omega
          have hne2 : ¬ wr.heap.size = gl := by omega
          have hnb : ¬ gl = b := by omega
          have hlr : b < wr.heap.size := by omega
          clear hc
          by_cases hmod : (t : Int) % t0 xs k = 0
          · have hd : ((t : Int) % t0 xs k == 0) = true := by simp [hmod]
            have hd2 : ((t : Int).tmod (t0 xs k) == 0) = true := by rw [Int.tmod_eq_emod_of_nonneg hq1]; exact hd
            have HH := Lib.hid (show hv (t0 xs) (t1 xs) n t k = lv (t0 xs) (t1 xs) n t k + t1 xs k by unfold hv arr; rw [if_pos hmod])
            have holP := hol.put k (lv (t0 xs) (t1 xs) n t k + t1 xs k) (z' := fun j => if j < k + 1 then hv (t0 xs) (t1 xs) n t j else lv (t0 xs) (t1 xs) n t j) (fun j hj => by
              by_cases e : j = k
              · subst e; rw [if_pos rfl, if_pos (Nat.lt_succ_self _), HH.out]
              · rw [if_neg e]
                by_cases e2 : j < k
                · rw [if_pos e2, if_pos (by omega)]
                · rw [if_neg e2, if_neg (by omega)])
            have hol2 := (holP.below ((Below.refl _ _).alloc (Nat.le_refl _) (.cells #[.int .i64 (t0 xs k), .int .i64 (t1 xs k), .int .i64 (t2 xs k)] 66))).drew
            have hoq2 := ((hoq.farS (g' := gl) (j := k) (v := .int .i64 (lv (t0 xs) (t1 xs) n t k + t1 xs k)) hsep).below ((Below.refl _ _).alloc (Nat.le_refl _) (.cells #[.int .i64 (t0 xs k), .int .i64 (t1 xs k), .int .i64 (t2 xs k)] 66))).drew
            have hbP := HB.out.setCell (p := ⟨gl, k, none⟩) hgb.1 (.int .i64 (lv (t0 xs) (t1 xs) n t k + t1 xs k))
            have HB2 := Lib.hid (Below.drew (hbP.alloc hbP.size (.cells #[.int .i64 (t0 xs k), .int .i64 (t1 xs k), .int .i64 (t2 xs k)] 66)))
            have hpos : 0 < lv (t0 xs) (t1 xs) n t k + t1 xs k := by omega
            have hd3 : decide (0 < lv (t0 xs) (t1 xs) n t k + t1 xs k) = true := by simp; omega
            rcases HSP.out with ⟨e1, _⟩ | ⟨i, hi, e1, _, _⟩
            · have HE1 := Lib.hid e1
              rw [e1]
              have HN := Lib.hid (show whf (hv (t0 xs) (t1 xs) n t) (k + 1) = (k : Int) by rw [HWS.out, if_pos ⟨by rw [HE1.out]; omega, by rw [HH.out]; exact hpos⟩])
              clear e1 hmod holA hoqA hol hoq holP hbP
              go_wp2
              go_region
              all_goals
                go_wp2
                go_roundw
                case rel => exact ⟨k + 1, by omega, by go_num, by rw [HN.out], (by exact hoq2), (by exact hol2), (by exact HB2)⟩
                case measure => simp [intOf]; omega
            · have HN := Lib.hid (show whf (hv (t0 xs) (t1 xs) n t) (k + 1) = (i : Int) by rw [HWS.out, if_neg (fun h => by have := h.1; omega), e1])
              have hi0 : ¬ ((i : Int) < 0) := by omega
              rw [e1]
              clear e1 hmod holA hoqA hol hoq holP hbP
              go_wp2
              go_region
              all_goals
                go_wp2
                go_roundw
                case rel => exact ⟨k + 1, by omega, by go_num, by rw [HN.out], (by exact hoq2), (by exact hol2), (by exact HB2)⟩
                case measure => simp [intOf]; omega
          · have hd : ((t : Int) % t0 xs k == 0) = false := by simp [hmod]
            have hd2 : ((t : Int).tmod (t0 xs k) == 0) = false := by rw [Int.tmod_eq_emod_of_nonneg hq1]; exact hd
            have HH := Lib.hid (show hv (t0 xs) (t1 xs) n t k = lv (t0 xs) (t1 xs) n t k by unfold hv arr; rw [if_neg hmod, Int.add_zero])
            have hol2 := holA.to (z' := fun j => if j < k + 1 then hv (t0 xs) (t1 xs) n t j else lv (t0 xs) (t1 xs) n t j) (fun j hj => by
              by_cases e : j < k
              · rw [if_pos e, if_pos (by omega)]
              · rw [if_neg e]
                by_cases e2 : j = k
                · subst e2; rw [if_pos (Nat.lt_succ_self _), HH.out]
                · rw [if_neg (by omega)])
            rcases HSP.out with ⟨e1, _⟩ | ⟨i, hi, e1, _, _⟩
            · have HE1 := Lib.hid e1
              rw [e1]
              by_cases hpos : 0 < lv (t0 xs) (t1 xs) n t k
              · have hd3 : decide (0 < lv (t0 xs) (t1 xs) n t k) = true := by simp; omega
                have HN := Lib.hid (show whf (hv (t0 xs) (t1 xs) n t) (k + 1) = (k : Int) by rw [HWS.out, if_pos ⟨by rw [HE1.out]; omega, by rw [HH.out]; exact hpos⟩])
                clear e1 hmod holA hol hoq
                go_wp2
                go_roundw
                case rel => exact ⟨k + 1, by omega, by go_num, by rw [HN.out], hoqA, hol2, HBA⟩
                case measure => simp [intOf]; omega
              · have hd3 : decide (0 < lv (t0 xs) (t1 xs) n t k) = false := by simp; omega
                have HN := Lib.hid (show whf (hv (t0 xs) (t1 xs) n t) (k + 1) = -1 by rw [HWS.out, if_neg (fun h => hpos (by have := h.2; rw [HH.out] at this; exact this)), HE1.out])
                clear e1 hmod holA hol hoq
                go_wp2
                go_roundw
                case rel => exact ⟨k + 1, by omega, by go_num, by rw [HN.out], hoqA, hol2, HBA⟩
                case measure => simp [intOf]; omega
            · have HN := Lib.hid (show whf (hv (t0 xs) (t1 xs) n t) (k + 1) = (i : Int) by rw [HWS.out, if_neg (fun h => by have := h.1; omega), e1])
              have hi0 : ¬ ((i : Int) < 0) := by omega
              rw [e1]
              clear e1 hmod holA hol hoq
              go_wp2
              go_roundw
              case rel => exact ⟨k + 1, by omega, by go_num, by rw [HN.out], hoqA, hol2, HBA⟩
              case measure => simp [intOf]; omega
        · obtain rfl : n = k := by omega
          have hol1 := hol.to (z' := hv (t0 xs) (t1 xs) n t) (fun j hj => by rw [if_pos hj])
          have HTS := Lib.hid (tab_succ t (wh (t0 xs) (t1 xs) n))
          have HWH : Hid (whf (hv (t0 xs) (t1 xs) n t) n = wh (t0 xs) (t1 xs) n t) := Lib.hid rfl
          rw [HWH.out]
          have hbs := HB.out.size
          clear hol
          rcases wh_spec (t0 xs) (t1 xs) n t with ⟨e1, _⟩ | ⟨i, hi, e1, hpos, _⟩
          · have HE1 := Lib.hid e1
            rw [e1]
            have hol2 := hol1.to (z' := lv (t0 xs) (t1 xs) n (t + 1)) (fun j hj => by rw [lv_succ, e1, if_neg (by omega)])
            clear e1 hol1
            go_wp2_with (at_builtin; refine wpL_push_int Try.tyIntsEp rfl rfl (B := w.heap.size) (W0 := w) (by first | rfl | simp [Act.eval]) (by first | rfl | simp [Act.eval]) hoq HB.out (by omega) hbs ?_; intro p' c' w3 ho3 hb3 hg3 hp3)
            have k4 := hol2.keep hg3 hsep
            have s4 := Sep.push hsep hol2 hp3
            go_roundw
            case rel => exact ⟨t + 1, _, _, by omega, by go_num, rfl, by rw [HTS.out, HE1.out]; exact ho3, k4, s4, Lib.hid hb3⟩
            case measure => simp [intOf]; omega
          · have HE1 := Lib.hid e1
            rw [e1]
            have hlv := lv_bd (P := t0 xs) HC.out t i hi
            have har := arr_bd (P := t0 xs) HC.out (t := t) hi
            have hhv : hv (t0 xs) (t1 xs) n t i ≤ 12060 := by unfold hv; omega
            have hi0 : 0 ≤ (i : Int) := by omega
            have hi1 : (i : Int) < (n : Int) := by omega
            have hi2 : ¬ ((i : Int) < 0) := by omega
            obtain ⟨x, hx⟩ : ∃ x, hv (t0 xs) (t1 xs) n t i = x := ⟨_, rfl⟩
            have HX := Lib.hid hx
            rw [hx] at hpos hhv
            clear e1 hx
            go_wp2_with (at_builtin; refine wpL_push_int Try.tyIntsEp rfl rfl (B := w.heap.size) (W0 := w) (by first | rfl | simp [Act.eval]) (by first | rfl | simp [Act.eval]) hoq HB.out (by omega) hbs ?_; intro p' c' w3 ho3 hb3 hg3 hp3; (have k4 := hol1.keep hg3 hsep); (have s4 := Sep.push hsep hol1 hp3); (have cl := k4.at (j := i) hi); rw [gi_tab hi, HX.out] at cl; (have fl := k4.free i); (have hgb := k4.blk))
            have P4 := k4.put i (x - 1) (z' := lv (t0 xs) (t1 xs) n (t + 1)) (fun j hj => by
              by_cases e : j = i
              · subst e; rw [if_pos rfl, lv_succ, if_pos HE1.out, HX.out]
              · rw [if_neg e, lv_succ, if_neg (by rw [HE1.out]; omega)])
            have P5 := ho3.farS (g' := gl) (j := i) (v := .int .i64 (x - 1)) s4
            have PB := hb3.setCell (p := ⟨gl, i, none⟩) hgb.1 (.int .i64 (x - 1))
            go_roundw
            case rel => exact ⟨t + 1, _, _, by omega, by go_num, rfl, by rw [HTS.out, HE1.out]; exact P5, P4, s4, Lib.hid PB⟩
            case measure => simp [intOf]; omega
    · obtain rfl : m = t := by omega
      go_wp2
      go_ret2
      exact ⟨_, _, rfl, hoq.si, HB.out⟩
end Go.Proofs.Ytgnegemiiahkaaa
