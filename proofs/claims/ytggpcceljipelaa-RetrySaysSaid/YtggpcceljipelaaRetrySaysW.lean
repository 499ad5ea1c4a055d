/- The walk of headlaw.RetrySays: it returns true and changes nothing that was there. No conditions. -/
import Derived.Test.YtggpcceljipelaaRetry
import Derived.RegionTactic
import Derived.BigRegion
import Derived.Deep.RegionLaw
namespace Go.Proofs.Ytggpcceljipelaa
open Go Go.RowKit

/-- the two captured variables in their boxes -/
theorem two_boxes (w : World) (v u : Value) (t1 t2 : TypeId) :
    ((w.alloc (.cells #[v] t1)).alloc (.cells #[u] t2)).cell? ⟨w.heap.size, 0, none⟩ = some v ∧ ((w.alloc (.cells #[v] t1)).alloc (.cells #[u] t2)).cell? ⟨w.heap.size + 1, 0, none⟩ = some u ∧
    Below w.heap.size w ((w.alloc (.cells #[v] t1)).alloc (.cells #[u] t2)) ∧ ((w.alloc (.cells #[v] t1)).alloc (.cells #[u] t2)).heap.size = w.heap.size + 2 := by
  refine ⟨?_, ?_, ((Below.refl _ _).alloc (Nat.le_refl _) _).alloc (by simp) _, by simp⟩
  · rw [World.cell?_alloc_past _ _ _ (by simp), World.cell?_alloc_at _ _ _ _ rfl]; rfl
  · rw [World.cell?_alloc_at _ _ _ _ (by simp)]; rfl

set_option maxRecDepth 100000 in
set_option maxHeartbeats 3200000 in
theorem retrySays_bad_any_large {w : World} {f m : Int} {k : Int} {p : Option Addr} {n c : Nat} {ls : List Bool} (g0 : SB w p n c ls) (hK : ¬ okW f m) (hl : 40 < n) :
    Calls Try.prog 7 #[.int .i64 f, .int .i64 m, .int .i64 k, .slice p n c] w fun e w' => e = .returned (.bool true) ∧ Below w.heap.size w w' := by
  have hm := g0.2.1
  have HK := Lib.hid hK
  have hl1 : decide ((40 : Int) < (n : Int)) = true := by simp; omega
  obtain ⟨k1, k2, kb, ks⟩ := two_boxes w (.int .i64 f) (.int .i64 m) 3 3
  rcases not_okW hK with w1 | ⟨w1, w2⟩ | ⟨w1, w2, w3⟩
  all_goals
    clear hK
    try have w4 : decide (m ≤ 1000000) = false := by simp; omega
    go_enter Try.func7, Try.ntmps7
    go_wp2_with fail
    generalize ((w.alloc (.cells #[.int .i64 f] 3)).alloc (.cells #[.int .i64 m] 3)) = W0 at *
    have g := g0.below kb
    have K1 := Lib.hid k1; have K2 := Lib.hid k2
    refine (retry_Waits_bad HK.out).mono ?_; rintro e w' ⟨rfl, rfl⟩
    go_wp2_with fail
    refine (retry_When_large hl (by omega)).mono ?_; rintro e w' ⟨rfl, rfl⟩
    have ba := Below.refl W0.heap.size W0
    go_wp2
    go_ret
    exact ⟨rfl, kb.trans (ba.mono kb.size)⟩

set_option maxRecDepth 100000 in
set_option maxHeartbeats 3200000 in
theorem retrySays_bad_any_small {w : World} {f m : Int} {k : Int} {p : Option Addr} {n c : Nat} {ls : List Bool} (g0 : SB w p n c ls) (hK : ¬ okW f m) (hl : n ≤ 40) :
    Calls Try.prog 7 #[.int .i64 f, .int .i64 m, .int .i64 k, .slice p n c] w fun e w' => e = .returned (.bool true) ∧ Below w.heap.size w w' := by
  have hm := g0.2.1
  have HK := Lib.hid hK
  have hl1 : decide ((40 : Int) < (n : Int)) = false := by simp; omega
  obtain ⟨k1, k2, kb, ks⟩ := two_boxes w (.int .i64 f) (.int .i64 m) 3 3
  rcases not_okW hK with w1 | ⟨w1, w2⟩ | ⟨w1, w2, w3⟩
  all_goals
    clear hK
    try have w4 : decide (m ≤ 1000000) = false := by simp; omega
    go_enter Try.func7, Try.ntmps7
    go_wp2_with fail
    generalize ((w.alloc (.cells #[.int .i64 f] 3)).alloc (.cells #[.int .i64 m] 3)) = W0 at *
    have g := g0.below kb
    have K1 := Lib.hid k1; have K2 := Lib.hid k2
    refine (retry_Waits_bad HK.out).mono ?_; rintro e w' ⟨rfl, rfl⟩
    go_wp2_with fail
    refine (retry_When_bad HK.out hl).mono ?_; rintro e w' ⟨rfl, rfl⟩
    have ba := Below.refl W0.heap.size W0
    go_wp2
    go_ret
    exact ⟨rfl, kb.trans (ba.mono kb.size)⟩

set_option maxRecDepth 100000 in
set_option maxHeartbeats 3200000 in
theorem retrySays_ok_bad_large {w : World} {f m : Int} {k : Int} {p : Option Addr} {n c : Nat} {ls : List Bool} (g0 : SB w p n c ls) (hK : okW f m) (hn : k < 0 ∨ 40 < k) (hl : 40 < n) :
    Calls Try.prog 7 #[.int .i64 f, .int .i64 m, .int .i64 k, .slice p n c] w fun e w' => e = .returned (.bool true) ∧ Below w.heap.size w w' := by
  have hm := g0.2.1
  have HK := Lib.hid hK
  have hl1 : decide ((40 : Int) < (n : Int)) = true := by simp; omega
  obtain ⟨k1, k2, kb, ks⟩ := two_boxes w (.int .i64 f) (.int .i64 m) 3 3
  obtain ⟨w1, w2, w3⟩ := id hK
  clear hK
  rcases (show k < 0 ∨ (0 ≤ k ∧ 40 < k) by omega) with n1 | ⟨n1, n2⟩
  all_goals
    clear hn
    have w4 : decide (m ≤ 1000000) = true := by simp; exact w3
    go_enter Try.func7, Try.ntmps7
    go_wp2_with fail
    generalize ((w.alloc (.cells #[.int .i64 f] 3)).alloc (.cells #[.int .i64 m] 3)) = W0 at *
    have g := g0.below kb
    have K1 := Lib.hid k1; have K2 := Lib.hid k2
    refine (retry_Waits_arg HK.out (by omega)).mono ?_; rintro e w' ⟨rfl, rfl⟩
    go_wp2_with fail
    refine (retry_When_large hl (by omega)).mono ?_; rintro e w' ⟨rfl, rfl⟩
    have ba := Below.refl W0.heap.size W0
    go_wp2
    go_ret
    exact ⟨rfl, kb.trans (ba.mono kb.size)⟩

set_option maxRecDepth 100000 in
set_option maxHeartbeats 3200000 in
theorem retrySays_ok_bad_none {w : World} {f m : Int} {k : Int} {p : Option Addr} {n c : Nat} {ls : List Bool} (g0 : SB w p n c ls) (hK : okW f m) (hn : k < 0 ∨ 40 < k) (hl : n ≤ 40) {i : Nat} (hi : FirstNo (gb ls) n i) (hin : ¬ i < n) :
    Calls Try.prog 7 #[.int .i64 f, .int .i64 m, .int .i64 k, .slice p n c] w fun e w' => e = .returned (.bool true) ∧ Below w.heap.size w w' := by
  have hm := g0.2.1
  have HK := Lib.hid hK
  have hi0 := hi.1
  have HI := Lib.hid hi; clear hi
  have hl1 : decide ((40 : Int) < (n : Int)) = false := by simp; omega
  obtain ⟨k1, k2, kb, ks⟩ := two_boxes w (.int .i64 f) (.int .i64 m) 3 3
  obtain ⟨w1, w2, w3⟩ := id hK
  clear hK
  rcases (show k < 0 ∨ (0 ≤ k ∧ 40 < k) by omega) with n1 | ⟨n1, n2⟩
  all_goals
    clear hn
    have w4 : decide (m ≤ 1000000) = true := by simp; exact w3
    go_enter Try.func7, Try.ntmps7
    go_wp2_with fail
    generalize ((w.alloc (.cells #[.int .i64 f] 3)).alloc (.cells #[.int .i64 m] 3)) = W0 at *
    have g := g0.below kb
    have K1 := Lib.hid k1; have K2 := Lib.hid k2
    refine (retry_Waits_arg HK.out (by omega)).mono ?_; rintro e w' ⟨rfl, rfl⟩
    go_wp2_with fail
    refine (retry_When_ok g HK.out hl HI.out).mono ?_; rintro e wb ⟨rfl, bb⟩
    rw [if_neg hin, if_neg hin]
    have ba := bb
    clear k1 k2
    have k1 := (bdeep ba (show w.heap.size < W0.heap.size by omega) 0).trans K1.out
    have k2 := (bdeep ba (show w.heap.size + 1 < W0.heap.size by omega) 0).trans K2.out
    go_wp2_with fail
    refine (contains_no (q := false) (g.below ba) HI.out (by simp [hin])).mono ?_; rintro e w' ⟨rfl, rfl⟩
    go_wp2
    go_ret
    exact ⟨rfl, kb.trans (ba.mono kb.size)⟩

set_option maxRecDepth 100000 in
set_option maxHeartbeats 3200000 in
theorem retrySays_ok_bad_some {w : World} {f m : Int} {k : Int} {p : Option Addr} {n c : Nat} {ls : List Bool} (g0 : SB w p n c ls) (hK : okW f m) (hn : k < 0 ∨ 40 < k) (hl : n ≤ 40) {i : Nat} (hi : FirstNo (gb ls) n i) (hin : i < n) :
    Calls Try.prog 7 #[.int .i64 f, .int .i64 m, .int .i64 k, .slice p n c] w fun e w' => e = .returned (.bool true) ∧ Below w.heap.size w w' := by
  have hm := g0.2.1
  have HK := Lib.hid hK
  have hi0 := hi.1
  have HI := Lib.hid hi; clear hi
  have hl1 : decide ((40 : Int) < (n : Int)) = false := by simp; omega
  obtain ⟨k1, k2, kb, ks⟩ := two_boxes w (.int .i64 f) (.int .i64 m) 3 3
  obtain ⟨w1, w2, w3⟩ := id hK
  clear hK
  rcases (show k < 0 ∨ (0 ≤ k ∧ 40 < k) by omega) with n1 | ⟨n1, n2⟩
  all_goals
    clear hn
    have w4 : decide (m ≤ 1000000) = true := by simp; exact w3
    go_enter Try.func7, Try.ntmps7
    go_wp2_with fail
    generalize ((w.alloc (.cells #[.int .i64 f] 3)).alloc (.cells #[.int .i64 m] 3)) = W0 at *
    have g := g0.below kb
    have K1 := Lib.hid k1; have K2 := Lib.hid k2
    refine (retry_Waits_arg HK.out (by omega)).mono ?_; rintro e w' ⟨rfl, rfl⟩
    go_wp2_with fail
    refine (retry_When_ok g HK.out hl HI.out).mono ?_; rintro e wb ⟨rfl, bb⟩
    rw [if_pos hin, if_pos hin]
    have ba := bb
    clear k1 k2
    have k1 := (bdeep ba (show w.heap.size < W0.heap.size by omega) 0).trans K1.out
    have k2 := (bdeep ba (show w.heap.size + 1 < W0.heap.size by omega) 0).trans K2.out
    go_wp2_with fail
    refine (contains_no (q := true) (g.below ba) HI.out (by simp [hin])).mono ?_; rintro e w' ⟨rfl, rfl⟩
    go_wp2_with fail
    refine (index_no (g.below ba) HI.out).mono ?_; rintro e w' ⟨rfl, rfl⟩
    rw [if_pos hin]
    have C1 := Lib.hid ((bdeep ba (show w.heap.size < W0.heap.size by omega) 0).trans K1.out)
    have C2 := Lib.hid ((bdeep ba (show w.heap.size + 1 < W0.heap.size by omega) 0).trans K2.out)
    go_wp2
    go_loop [16, 114] (fun s v => ∃ k : Nat, k ≤ i ∧ v = .int .i64 k ∧ s = .int .i64 (sumT (wv f m) k)) (fun _ v => i - (intOf v).toNat)
    case atStart => exact ⟨0, by omega, rfl, rfl⟩
    case round =>
      obtain ⟨k, hk, rfl, rfl⟩ := hrel
      by_cases hki : k < i
      · have hwb := wv_bd HK.out.1 HK.out.2.1 k
        have hm6 := HK.out.2.2
        have hsb := wsum_bd HK.out k (by omega)
        have HST := Lib.hid (sumT_succ (wv f m) k)
        go_wp2_with fail
        refine (retrySays1 HK.out (by omega) C1.out C2.out).mono ?_; rintro e w' ⟨rfl, rfl⟩
        go_wp2
        go_round
        case rel => exact ⟨k + 1, by omega, by go_num, by rw [HST.out]⟩
        case measure => simp [intOf]; omega
      · obtain rfl : i = k := by omega
        go_wp2
        go_ret
        exact ⟨rfl, kb.trans (ba.mono kb.size)⟩

set_option maxRecDepth 100000 in
set_option maxHeartbeats 3200000 in
theorem retrySays_ok_ok_large {w : World} {f m : Int} {k : Nat} {p : Option Addr} {n c : Nat} {ls : List Bool} (g0 : SB w p n c ls) (hK : okW f m) (hn : k ≤ 40) (hl : 40 < n) :
    Calls Try.prog 7 #[.int .i64 f, .int .i64 m, .int .i64 k, .slice p n c] w fun e w' => e = .returned (.bool true) ∧ Below w.heap.size w w' := by
  have hm := g0.2.1
  have HK := Lib.hid hK
  have hl1 : decide ((40 : Int) < (n : Int)) = true := by simp; omega
  obtain ⟨k1, k2, kb, ks⟩ := two_boxes w (.int .i64 f) (.int .i64 m) 3 3
  obtain ⟨w1, w2, w3⟩ := id hK
  clear hK
  have hk1 : decide ((40 : Int) < (k : Int)) = false := by simp; omega
  have w4 : decide (m ≤ 1000000) = true := by simp; exact w3
  go_enter Try.func7, Try.ntmps7
  go_wp2_with fail
  generalize ((w.alloc (.cells #[.int .i64 f] 3)).alloc (.cells #[.int .i64 m] 3)) = W0 at *
  have g := g0.below kb
  have K1 := Lib.hid k1; have K2 := Lib.hid k2
  refine (retry_Waits_ok HK.out hn).mono ?_; rintro e wa ⟨pa, na, ca, La, ea, rfl, oa, ba, rfl, rfl⟩
  have hna := oa.len
  rw [tab_length] at hna
  subst hna
  have sa := oa.si
  clear oa k1 k2
  have k1 := (bdeep ba (show w.heap.size < W0.heap.size by omega) 0).trans K1.out
  have k2 := (bdeep ba (show w.heap.size + 1 < W0.heap.size by omega) 0).trans K2.out
  go_wp2_with fail
  refine (retry_When_large hl (by omega)).mono ?_; rintro e w' ⟨rfl, rfl⟩
  go_wp2
  go_loopw [71] (fun v wr => ∃ j : Nat, j ≤ k ∧ v = .int .i64 j ∧ Below W0.heap.size W0 wr ∧ SI wr pa k ca (tab k (wv f m))) (fun v _ => k - (intOf v).toNat)
  case atStart => exact ⟨0, by omega, rfl, ba, sa⟩
  case round =>
    clear ba sa k1 k2
    obtain ⟨j, hj, rfl, ba, sa⟩ := hrel
    have k1 := (bdeep ba (show w.heap.size < W0.heap.size by omega) 0).trans K1.out
    have k2 := (bdeep ba (show w.heap.size + 1 < W0.heap.size by omega) 0).trans K2.out
    by_cases hjk : j < k
    · obtain ⟨b, off, rfl, hlt, hc⟩ := sa.cells (by omega)
      have c1 : wr.cell? ⟨b, off + j, none⟩ = some (.int .i64 (wv f m j)) := (hc j hjk).trans (by rw [gi_tab hjk])
      have C1 := Lib.hid k1; have C2 := Lib.hid k2
      have SA := Lib.hid sa; have BA := Lib.hid ba
      have hz : (wv f m j == wv f m j) = true := by simp
      clear hc k1 k2 sa ba
      go_wp2
      go_region_law (go_simp; refine (retrySays1 HK.out (by omega) (by exact C1.out) (by exact C2.out)).mono ?_; rintro e w' ⟨rfl, rfl⟩)
      all_goals
        go_wp2
        go_roundw
        case rel => exact ⟨j + 1, by omega, by go_num, BA.out.drew, SA.out⟩
        case measure => simp [intOf]; omega
    · obtain rfl : k = j := by omega
      go_wp2
      go_ret
      exact ⟨rfl, kb.trans (ba.mono kb.size)⟩

set_option maxRecDepth 100000 in
set_option maxHeartbeats 3200000 in
theorem retrySays_ok_ok_none {w : World} {f m : Int} {k : Nat} {p : Option Addr} {n c : Nat} {ls : List Bool} (g0 : SB w p n c ls) (hK : okW f m) (hn : k ≤ 40) (hl : n ≤ 40) {i : Nat} (hi : FirstNo (gb ls) n i) (hin : ¬ i < n) :
    Calls Try.prog 7 #[.int .i64 f, .int .i64 m, .int .i64 k, .slice p n c] w fun e w' => e = .returned (.bool true) ∧ Below w.heap.size w w' := by
  have hm := g0.2.1
  have HK := Lib.hid hK
  have hi0 := hi.1
  have HI := Lib.hid hi; clear hi
  have hl1 : decide ((40 : Int) < (n : Int)) = false := by simp; omega
  obtain ⟨k1, k2, kb, ks⟩ := two_boxes w (.int .i64 f) (.int .i64 m) 3 3
  obtain ⟨w1, w2, w3⟩ := id hK
  clear hK
  have hk1 : decide ((40 : Int) < (k : Int)) = false := by simp; omega
  have w4 : decide (m ≤ 1000000) = true := by simp; exact w3
  go_enter Try.func7, Try.ntmps7
  go_wp2_with fail
  generalize ((w.alloc (.cells #[.int .i64 f] 3)).alloc (.cells #[.int .i64 m] 3)) = W0 at *
  have g := g0.below kb
  have K1 := Lib.hid k1; have K2 := Lib.hid k2
  refine (retry_Waits_ok HK.out hn).mono ?_; rintro e wa ⟨pa, na, ca, La, ea, rfl, oa, ba, rfl, rfl⟩
  have hna := oa.len
  rw [tab_length] at hna
  subst hna
  have sa := oa.si
  clear oa k1 k2
  have k1 := (bdeep ba (show w.heap.size < W0.heap.size by omega) 0).trans K1.out
  have k2 := (bdeep ba (show w.heap.size + 1 < W0.heap.size by omega) 0).trans K2.out
  go_wp2_with fail
  refine (retry_When_ok (g.below ba) HK.out hl HI.out).mono ?_; rintro e wb ⟨rfl, bb⟩
  rw [if_neg hin, if_neg hin]
  have sa := sa.below bb
  have ba := ba.trans (bb.mono ba.size)
  clear k1 k2
  have k1 := (bdeep ba (show w.heap.size < W0.heap.size by omega) 0).trans K1.out
  have k2 := (bdeep ba (show w.heap.size + 1 < W0.heap.size by omega) 0).trans K2.out
  go_wp2
  go_loopw [71] (fun v wr => ∃ j : Nat, j ≤ k ∧ v = .int .i64 j ∧ Below W0.heap.size W0 wr ∧ SI wr pa k ca (tab k (wv f m))) (fun v _ => k - (intOf v).toNat)
  case atStart => exact ⟨0, by omega, rfl, ba, sa⟩
  case round =>
    clear ba sa k1 k2
    obtain ⟨j, hj, rfl, ba, sa⟩ := hrel
    have k1 := (bdeep ba (show w.heap.size < W0.heap.size by omega) 0).trans K1.out
    have k2 := (bdeep ba (show w.heap.size + 1 < W0.heap.size by omega) 0).trans K2.out
    by_cases hjk : j < k
    · obtain ⟨b, off, rfl, hlt, hc⟩ := sa.cells (by omega)
      have c1 : wr.cell? ⟨b, off + j, none⟩ = some (.int .i64 (wv f m j)) := (hc j hjk).trans (by rw [gi_tab hjk])
      have C1 := Lib.hid k1; have C2 := Lib.hid k2
      have SA := Lib.hid sa; have BA := Lib.hid ba
      have hz : (wv f m j == wv f m j) = true := by simp
      clear hc k1 k2 sa ba
      go_wp2
      go_region_law (go_simp; refine (retrySays1 HK.out (by omega) (by exact C1.out) (by exact C2.out)).mono ?_; rintro e w' ⟨rfl, rfl⟩)
      all_goals
        go_wp2
        go_roundw
        case rel => exact ⟨j + 1, by omega, by go_num, BA.out.drew, SA.out⟩
        case measure => simp [intOf]; omega
    · obtain rfl : k = j := by omega
      go_wp2_with fail
      refine (contains_no (q := false) (g.below ba) HI.out (by simp [hin])).mono ?_; rintro e w' ⟨rfl, rfl⟩
      go_wp2
      go_ret
      exact ⟨rfl, kb.trans (ba.mono kb.size)⟩

set_option maxRecDepth 100000 in
set_option maxHeartbeats 3200000 in
theorem retrySays_ok_ok_some {w : World} {f m : Int} {k : Nat} {p : Option Addr} {n c : Nat} {ls : List Bool} (g0 : SB w p n c ls) (hK : okW f m) (hn : k ≤ 40) (hl : n ≤ 40) {i : Nat} (hi : FirstNo (gb ls) n i) (hin : i < n) :
    Calls Try.prog 7 #[.int .i64 f, .int .i64 m, .int .i64 k, .slice p n c] w fun e w' => e = .returned (.bool true) ∧ Below w.heap.size w w' := by
  have hm := g0.2.1
  have HK := Lib.hid hK
  have hi0 := hi.1
  have HI := Lib.hid hi; clear hi
  have hl1 : decide ((40 : Int) < (n : Int)) = false := by simp; omega
  obtain ⟨k1, k2, kb, ks⟩ := two_boxes w (.int .i64 f) (.int .i64 m) 3 3
  obtain ⟨w1, w2, w3⟩ := id hK
  clear hK
  have hk1 : decide ((40 : Int) < (k : Int)) = false := by simp; omega
  have w4 : decide (m ≤ 1000000) = true := by simp; exact w3
  go_enter Try.func7, Try.ntmps7
  go_wp2_with fail
  generalize ((w.alloc (.cells #[.int .i64 f] 3)).alloc (.cells #[.int .i64 m] 3)) = W0 at *
  have g := g0.below kb
  have K1 := Lib.hid k1; have K2 := Lib.hid k2
  refine (retry_Waits_ok HK.out hn).mono ?_; rintro e wa ⟨pa, na, ca, La, ea, rfl, oa, ba, rfl, rfl⟩
  have hna := oa.len
  rw [tab_length] at hna
  subst hna
  have sa := oa.si
  clear oa k1 k2
  have k1 := (bdeep ba (show w.heap.size < W0.heap.size by omega) 0).trans K1.out
  have k2 := (bdeep ba (show w.heap.size + 1 < W0.heap.size by omega) 0).trans K2.out
  go_wp2_with fail
  refine (retry_When_ok (g.below ba) HK.out hl HI.out).mono ?_; rintro e wb ⟨rfl, bb⟩
  rw [if_pos hin, if_pos hin]
  have sa := sa.below bb
  have ba := ba.trans (bb.mono ba.size)
  clear k1 k2
  have k1 := (bdeep ba (show w.heap.size < W0.heap.size by omega) 0).trans K1.out
  have k2 := (bdeep ba (show w.heap.size + 1 < W0.heap.size by omega) 0).trans K2.out
  go_wp2
  go_loopw [71] (fun v wr => ∃ j : Nat, j ≤ k ∧ v = .int .i64 j ∧ Below W0.heap.size W0 wr ∧ SI wr pa k ca (tab k (wv f m))) (fun v _ => k - (intOf v).toNat)
  case atStart => exact ⟨0, by omega, rfl, ba, sa⟩
  case round =>
    clear ba sa k1 k2
    obtain ⟨j, hj, rfl, ba, sa⟩ := hrel
    have k1 := (bdeep ba (show w.heap.size < W0.heap.size by omega) 0).trans K1.out
    have k2 := (bdeep ba (show w.heap.size + 1 < W0.heap.size by omega) 0).trans K2.out
    by_cases hjk : j < k
    · obtain ⟨b, off, rfl, hlt, hc⟩ := sa.cells (by omega)
      have c1 : wr.cell? ⟨b, off + j, none⟩ = some (.int .i64 (wv f m j)) := (hc j hjk).trans (by rw [gi_tab hjk])
      have C1 := Lib.hid k1; have C2 := Lib.hid k2
      have SA := Lib.hid sa; have BA := Lib.hid ba
      have hz : (wv f m j == wv f m j) = true := by simp
      clear hc k1 k2 sa ba
      go_wp2
      go_region_law (go_simp; refine (retrySays1 HK.out (by omega) (by exact C1.out) (by exact C2.out)).mono ?_; rintro e w' ⟨rfl, rfl⟩)
      all_goals
        go_wp2
        go_roundw
        case rel => exact ⟨j + 1, by omega, by go_num, BA.out.drew, SA.out⟩
        case measure => simp [intOf]; omega
    · obtain rfl : k = j := by omega
      go_wp2_with fail
      refine (contains_no (q := true) (g.below ba) HI.out (by simp [hin])).mono ?_; rintro e w' ⟨rfl, rfl⟩
      go_wp2_with fail
      refine (index_no (g.below ba) HI.out).mono ?_; rintro e w' ⟨rfl, rfl⟩
      rw [if_pos hin]
      have C1 := Lib.hid ((bdeep ba (show w.heap.size < W0.heap.size by omega) 0).trans K1.out)
      have C2 := Lib.hid ((bdeep ba (show w.heap.size + 1 < W0.heap.size by omega) 0).trans K2.out)
      go_wp2
      go_loop [16, 114] (fun s v => ∃ k : Nat, k ≤ i ∧ v = .int .i64 k ∧ s = .int .i64 (sumT (wv f m) k)) (fun _ v => i - (intOf v).toNat)
      case atStart => exact ⟨0, by omega, rfl, rfl⟩
      case round =>
        obtain ⟨k, hk, rfl, rfl⟩ := hrel
        by_cases hki : k < i
        · have hwb := wv_bd HK.out.1 HK.out.2.1 k
          have hm6 := HK.out.2.2
          have hsb := wsum_bd HK.out k (by omega)
          have HST := Lib.hid (sumT_succ (wv f m) k)
          go_wp2_with fail
          refine (retrySays1 HK.out (by omega) C1.out C2.out).mono ?_; rintro e w' ⟨rfl, rfl⟩
          go_wp2
          go_round
          case rel => exact ⟨k + 1, by omega, by go_num, by rw [HST.out]⟩
          case measure => simp [intOf]; omega
        · obtain rfl : i = k := by omega
          go_wp2
          go_ret
          exact ⟨rfl, kb.trans (ba.mono kb.size)⟩

theorem retrySays_walk {w : World} {f m k : Int} (_ : -9223372036854775808 ≤ f ∧ f ≤ 9223372036854775807) (_ : -9223372036854775808 ≤ m ∧ m ≤ 9223372036854775807) (_ : -9223372036854775808 ≤ k ∧ k ≤ 9223372036854775807) {p : Option Addr} {n c : Nat} {ls : List Bool} (g : SB w p n c ls) :
    Calls Try.prog 7 #[.int .i64 f, .int .i64 m, .int .i64 k, .slice p n c] w fun e w' => e = .returned (.bool true) ∧ Below w.heap.size w w' := by
  by_cases hK : okW f m
  · by_cases hl : 40 < n
    · by_cases hn : k < 0 ∨ 40 < k
      · exact retrySays_ok_bad_large g hK hn hl
      · obtain ⟨k, rfl⟩ := Int.eq_ofNat_of_zero_le (show 0 ≤ k by omega)
        exact retrySays_ok_ok_large g hK (by omega) hl
    · obtain ⟨i, hi⟩ := firstNo_exists (gb ls) n
      by_cases hin : i < n
      · by_cases hn : k < 0 ∨ 40 < k
        · exact retrySays_ok_bad_some g hK hn (by omega) hi hin
        · obtain ⟨k, rfl⟩ := Int.eq_ofNat_of_zero_le (show 0 ≤ k by omega)
          exact retrySays_ok_ok_some g hK (by omega) (by omega) hi hin
      · by_cases hn : k < 0 ∨ 40 < k
        · exact retrySays_ok_bad_none g hK hn (by omega) hi hin
        · obtain ⟨k, rfl⟩ := Int.eq_ofNat_of_zero_le (show 0 ≤ k by omega)
          exact retrySays_ok_ok_none g hK (by omega) (by omega) hi hin
  · by_cases hl : 40 < n
    · exact retrySays_bad_any_large g hK hl
    · exact retrySays_bad_any_small g hK (by omega)
end Go.Proofs.Ytggpcceljipelaa
