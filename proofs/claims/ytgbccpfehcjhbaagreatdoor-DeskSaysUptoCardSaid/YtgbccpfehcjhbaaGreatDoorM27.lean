/- How the desk reads its lines close, bucket, window, bound, rate (P77). Conditions: what each theorem says. -/
import Derived.Test.YtgbccpfehcjhbaaGreatDoorM19
import Derived.Test.YtgbccpfehcjhbaaGreatDoorM23
import Derived.Test.YtgbccpfehcjhbaaGreatDoorM25
import Derived.Test.YtgbccpfehcjhbaaGreatDoorM26
import Derived.Test.YtgbccpfehcjhbaaGreatDoorM17
namespace Go.Proofs.YtgbccpfehcjhbaaGreatDoor
open Go Go.RowKit
set_option linter.unusedVariables false
set_option linter.unusedSimpArgs false

theorem bx3 (w : World) (a b c : Value) (s t u : TypeId) : ∃ W, ((w.alloc (.cells #[a] s)).alloc (.cells #[b] t)).alloc (.cells #[c] u) = W ∧ Below w.heap.size w W ∧ W.heap[w.heap.size]? = some (.cells #[a] s (0, 0)) ∧ W.heap[w.heap.size + 1]? = some (.cells #[b] t (0, 0)) ∧ W.heap[w.heap.size + 2]? = some (.cells #[c] u (0, 0)) := by
  refine ⟨_, rfl, (((Below.refl _ _).alloc (Nat.le_refl _) _).alloc (by simp) _).alloc (by simp; omega) _, ?_, ?_, ?_⟩
  · exact blk_alloc (o' := .cells #[c] u) (blk_alloc (o' := .cells #[b] t) (blk_new w #[a] s))
  · have h := blk_new (w.alloc (.cells #[a] s)) #[b] t
    rw [World.size_alloc] at h
    exact blk_alloc (o' := .cells #[c] u) h
  · have h := blk_new ((w.alloc (.cells #[a] s)).alloc (.cells #[b] t)) #[c] u
    rw [World.size_alloc, World.size_alloc] at h
    exact h
theorem tellable_bucket {h r n : Int} (he : shErr h r (n < 0 ∨ 1000000 < n) = 0) : tellable (tab (h.toNat + 1) (bucketV r n)) := by
  obtain ⟨h0, h1, r0, r1, hn⟩ := shErr_ok he
  refine ⟨by rw [tab_length]; omega, fun x hx => ?_⟩
  obtain ⟨j, hj, rfl⟩ : ∃ j, j < h.toNat + 1 ∧ bucketV r n j = x := by unfold tab at hx; simpa using hx
  unfold bucketV
  split
  · omega
  · have := rt_bd (r := r) (t := (j : Int)) r0 r1 (by omega) (by omega)
    omega
set_option maxRecDepth 100000 in
set_option maxHeartbeats 3200000 in
theorem read_close {w : World} (LD : Laid w) {bd bl k : Nat} {L : List ByteArray} (h : LineS w bl L k) (hz : ∀ j, (gsW L j).size ≤ 900000) (hb : 8 ≤ bl) :
    Calls Tryz.prog 39 #[.pointer (some ⟨bd, 0, none⟩), .string ⟨#[99, 108, 111, 115, 101]⟩, .pointer (some ⟨bl, 0, none⟩)] w (ReadAny w bl L (k + 1) (lAt L k) (fun _ => True) fun w' => OutPost w' (fitOut (curveErr (numsL (gsW L k))) (clsL (numsL (gsW L k))))) := by
  have hmf := mf
  have hlt := h.lt
  have HZ := Lib.hid hz
  have HC0 := Lib.hid (dk_nums_any LD h hz hb)
  have HLD := Lib.hid LD
  clear LD h hz
  go_enter Tryz.func39, Tryz.ntmps39
  go_wp2_with fail
  refine HC0.out.mono ?_
  rintro e w1 (⟨hk0, q1, d1, rfl, s1, l1, c1, a1⟩ | ⟨hn, rfl, c1⟩)
  case inr =>
    have HP := Lib.hid (c1)
    clear c1
    go_wp2
    exact ⟨rfl, .inr ⟨fun hh => hn hh, rfl, HP.out⟩⟩
  have L1 := Lib.hid l1; have C1 : Hid (Chg (fun x => x = bl) w w1) := Lib.hid (c1)
  have LD1 := Lib.hid (HLD.out.chg c1 (fun x hx => by omega))
  have S1 := Lib.hid s1; have A1 := Lib.hid a1
  clear s1 a1
  clear l1 c1
  have hzn := C1.out.size
  have BW := Lib.hid ((Below.refl w1.heap.size w1).alloc (Nat.le_refl _) (.cells #[.slice q1 (numsL (gsW L k)).length d1] 35))
  have T0 := Lib.hid (blk_new w1 #[.slice q1 (numsL (gsW L k)).length d1] 35)
  go_wp2
  go_ret
  have hWz : w1.heap.size < (w1.alloc (.cells #[.slice q1 (numsL (gsW L k)).length d1] 35)).heap.size := (Array.getElem?_eq_some_iff.1 T0.out).1
  refine .inl ⟨hk0, _, rfl, ⟨59, _, rfl, (fun args w => by simp [callFunc, Tryz.func59, Tryz.f59, go_sem]), fun w' hb' LD' _ => ?_⟩, L1.out.below BW.out, C1.out.then BW.out⟩
  exact dk_close1 LD' ((hb'.block _ (by omega)).trans T0.out) (S1.out.below (BW.out.trans (hb'.mono BW.out.size)))
set_option maxRecDepth 100000 in
set_option maxHeartbeats 3200000 in
theorem read_bucket {w : World} (LD : Laid w) {bd bl k : Nat} {L : List ByteArray} (h : LineS w bl L k) (hz : ∀ j, (gsW L j).size ≤ 900000) (hb : 8 ≤ bl) :
    Calls Tryz.prog 39 #[.pointer (some ⟨bd, 0, none⟩), .string ⟨#[98, 117, 99, 107, 101, 116]⟩, .pointer (some ⟨bl, 0, none⟩)] w (ReadAny w bl L (k + 3) (nAt L k ∧ nAt L (k + 1) ∧ nAt L (k + 2)) (fun _ => True) fun w' => OutPost w' (fitOut (shErr (nV L k) (nV L (k + 1)) (nV L (k + 2) < 0 ∨ 1000000 < nV L (k + 2))) (tab ((nV L k).toNat + 1) (bucketV (nV L (k + 1)) (nV L (k + 2)))))) := by
  have hmf := mf
  have hlt := h.lt
  have HZ := Lib.hid hz
  have HC0 := Lib.hid (dk_num_any LD h hz hb)
  have HLD := Lib.hid LD
  clear LD h hz
  go_enter Tryz.func39, Tryz.ntmps39
  go_wp2_with fail
  refine HC0.out.mono ?_
  rintro e w1 (⟨hk0, rfl, l1, c1⟩ | ⟨hn, rfl, c1⟩)
  case inr =>
    have HP := Lib.hid (c1)
    clear c1
    go_wp2
    exact ⟨rfl, .inr ⟨fun hh => hn hh.1, rfl, HP.out⟩⟩
  have L1 := Lib.hid l1; have C1 : Hid (Chg (fun x => x = bl) w w1) := Lib.hid (c1)
  have LD1 := Lib.hid (HLD.out.chg c1 (fun x hx => by omega))
  clear l1 c1
  go_wp2_with fail
  refine (dk_num_any LD1.out L1.out HZ.out hb).mono ?_
  rintro e w2 (⟨hk1, rfl, l1, c1⟩ | ⟨hn, rfl, c1⟩)
  case inr =>
    have HP := Lib.hid (C1.out.trans c1)
    clear c1
    go_wp2
    exact ⟨rfl, .inr ⟨fun hh => hn hh.2.1, rfl, HP.out⟩⟩
  have L2 := Lib.hid l1; have C2 : Hid (Chg (fun x => x = bl) w w2) := Lib.hid (C1.out.trans c1)
  have LD2 := Lib.hid (LD1.out.chg c1 (fun x hx => by omega))
  clear l1 c1
  go_wp2_with fail
  refine (dk_num_any LD2.out L2.out HZ.out hb).mono ?_
  rintro e w3 (⟨hk2, rfl, l1, c1⟩ | ⟨hn, rfl, c1⟩)
  case inr =>
    have HP := Lib.hid (C2.out.trans c1)
    clear c1
    go_wp2
    exact ⟨rfl, .inr ⟨fun hh => hn hh.2.2, rfl, HP.out⟩⟩
  have L3 := Lib.hid l1; have C3 : Hid (Chg (fun x => x = bl) w w3) := Lib.hid (C2.out.trans c1)
  have LD3 := Lib.hid (LD2.out.chg c1 (fun x hx => by omega))
  clear l1 c1
  have hzn := C3.out.size
  obtain ⟨W, hW, bW, t0, t1, t2⟩ := bx3 w3 (.int .i64 (nV L k)) (.int .i64 (nV L (k + 1))) (.int .i64 (nV L (k + 2))) 3 3 3
  have HW := Lib.hid hW; have BW := Lib.hid bW; have T0 := Lib.hid t0; have T1 := Lib.hid t1; have T2 := Lib.hid t2
  clear hW bW t0 t1 t2
  go_wp2
  go_ret
  rw [HW.out]
  have hWz : w3.heap.size + 2 < W.heap.size := (Array.getElem?_eq_some_iff.1 T2.out).1
  refine .inl ⟨⟨hk0, hk1, hk2⟩, _, rfl, ⟨63, _, rfl, (fun args w => by simp [callFunc, Tryz.func63, Tryz.f63, go_sem]), fun w' hb' LD' _ => ?_⟩, L3.out.below BW.out, C3.out.then BW.out⟩
  exact dk_bucket1 LD' ((hb'.block _ (by omega)).trans T0.out) ((hb'.block _ (by omega)).trans T1.out) ((hb'.block _ (by omega)).trans T2.out) (fun h _ => tellable_bucket h)
set_option maxRecDepth 100000 in
set_option maxHeartbeats 3200000 in
theorem read_window {w : World} (LD : Laid w) {bd bl k : Nat} {L : List ByteArray} (h : LineS w bl L k) (hz : ∀ j, (gsW L j).size ≤ 900000) (hb : 8 ≤ bl) :
    Calls Tryz.prog 39 #[.pointer (some ⟨bd, 0, none⟩), .string ⟨#[119, 105, 110, 100, 111, 119]⟩, .pointer (some ⟨bl, 0, none⟩)] w (ReadAny w bl L (k + 3) (nAt L k ∧ nAt L (k + 1) ∧ nAt L (k + 2)) (fun _ => True) fun w' => OutPost w' (oneOut (windowVE (nV L k) (nV L (k + 1)) (nV L (k + 2))))) := by
  have hmf := mf
  have hlt := h.lt
  have HZ := Lib.hid hz
  have HC0 := Lib.hid (dk_num_any LD h hz hb)
  have HLD := Lib.hid LD
  clear LD h hz
  go_enter Tryz.func39, Tryz.ntmps39
  go_wp2_with fail
  refine HC0.out.mono ?_
  rintro e w1 (⟨hk0, rfl, l1, c1⟩ | ⟨hn, rfl, c1⟩)
  case inr =>
    have HP := Lib.hid (c1)
    clear c1
    go_wp2
    exact ⟨rfl, .inr ⟨fun hh => hn hh.1, rfl, HP.out⟩⟩
  have L1 := Lib.hid l1; have C1 : Hid (Chg (fun x => x = bl) w w1) := Lib.hid (c1)
  have LD1 := Lib.hid (HLD.out.chg c1 (fun x hx => by omega))
  clear l1 c1
  go_wp2_with fail
  refine (dk_num_any LD1.out L1.out HZ.out hb).mono ?_
  rintro e w2 (⟨hk1, rfl, l1, c1⟩ | ⟨hn, rfl, c1⟩)
  case inr =>
    have HP := Lib.hid (C1.out.trans c1)
    clear c1
    go_wp2
    exact ⟨rfl, .inr ⟨fun hh => hn hh.2.1, rfl, HP.out⟩⟩
  have L2 := Lib.hid l1; have C2 : Hid (Chg (fun x => x = bl) w w2) := Lib.hid (C1.out.trans c1)
  have LD2 := Lib.hid (LD1.out.chg c1 (fun x hx => by omega))
  clear l1 c1
  go_wp2_with fail
  refine (dk_num_any LD2.out L2.out HZ.out hb).mono ?_
  rintro e w3 (⟨hk2, rfl, l1, c1⟩ | ⟨hn, rfl, c1⟩)
  case inr =>
    have HP := Lib.hid (C2.out.trans c1)
    clear c1
    go_wp2
    exact ⟨rfl, .inr ⟨fun hh => hn hh.2.2, rfl, HP.out⟩⟩
  have L3 := Lib.hid l1; have C3 : Hid (Chg (fun x => x = bl) w w3) := Lib.hid (C2.out.trans c1)
  have LD3 := Lib.hid (LD2.out.chg c1 (fun x hx => by omega))
  clear l1 c1
  have hzn := C3.out.size
  obtain ⟨W, hW, bW, t0, t1, t2⟩ := bx3 w3 (.int .i64 (nV L k)) (.int .i64 (nV L (k + 1))) (.int .i64 (nV L (k + 2))) 3 3 3
  have HW := Lib.hid hW; have BW := Lib.hid bW; have T0 := Lib.hid t0; have T1 := Lib.hid t1; have T2 := Lib.hid t2
  clear hW bW t0 t1 t2
  go_wp2
  go_ret
  rw [HW.out]
  have hWz : w3.heap.size + 2 < W.heap.size := (Array.getElem?_eq_some_iff.1 T2.out).1
  refine .inl ⟨⟨hk0, hk1, hk2⟩, _, rfl, ⟨65, _, rfl, (fun args w => by simp [callFunc, Tryz.func65, Tryz.f65, go_sem]), fun w' hb' LD' _ => ?_⟩, L3.out.below BW.out, C3.out.then BW.out⟩
  exact dk_window1 LD' ((hb'.block _ (by omega)).trans T0.out) ((hb'.block _ (by omega)).trans T1.out) ((hb'.block _ (by omega)).trans T2.out)
set_option maxRecDepth 100000 in
set_option maxHeartbeats 3200000 in
theorem read_bound {w : World} (LD : Laid w) {bd bl k : Nat} {L : List ByteArray} (h : LineS w bl L k) (hz : ∀ j, (gsW L j).size ≤ 900000) (hb : 8 ≤ bl) :
    Calls Tryz.prog 39 #[.pointer (some ⟨bd, 0, none⟩), .string ⟨#[98, 111, 117, 110, 100]⟩, .pointer (some ⟨bl, 0, none⟩)] w (ReadAny w bl L (k + 3) (lAt L k ∧ nAt L (k + 1) ∧ nAt L (k + 2)) (fun _ => True) fun w' => OutPost w' (oneOut (boundVE (numsL (gsW L k)) (nV L (k + 1)) (nV L (k + 2))))) := by
  have hmf := mf
  have hlt := h.lt
  have HZ := Lib.hid hz
  have HC0 := Lib.hid (dk_nums_any LD h hz hb)
  have HLD := Lib.hid LD
  clear LD h hz
  go_enter Tryz.func39, Tryz.ntmps39
  go_wp2_with fail
  refine HC0.out.mono ?_
  rintro e w1 (⟨hk0, q1, d1, rfl, s1, l1, c1, a1⟩ | ⟨hn, rfl, c1⟩)
  case inr =>
    have HP := Lib.hid (c1)
    clear c1
    go_wp2
    exact ⟨rfl, .inr ⟨fun hh => hn hh.1, rfl, HP.out⟩⟩
  have L1 := Lib.hid l1; have C1 : Hid (Chg (fun x => x = bl) w w1) := Lib.hid (c1)
  have LD1 := Lib.hid (HLD.out.chg c1 (fun x hx => by omega))
  have S1 := Lib.hid s1; have A1 := Lib.hid a1
  clear s1 a1
  clear l1 c1
  go_wp2_with fail
  refine (dk_num_any LD1.out L1.out HZ.out hb).mono ?_
  rintro e w2 (⟨hk1, rfl, l1, c1⟩ | ⟨hn, rfl, c1⟩)
  case inr =>
    have HP := Lib.hid (C1.out.trans c1)
    clear c1
    go_wp2
    exact ⟨rfl, .inr ⟨fun hh => hn hh.2.1, rfl, HP.out⟩⟩
  have L2 := Lib.hid l1; have C2 : Hid (Chg (fun x => x = bl) w w2) := Lib.hid (C1.out.trans c1)
  have LD2 := Lib.hid (LD1.out.chg c1 (fun x hx => by omega))
  have S2 := Lib.hid (S1.out.chg c1 (fun a ha e => by have := A1.out a ha; omega))
  clear l1 c1
  go_wp2_with fail
  refine (dk_num_any LD2.out L2.out HZ.out hb).mono ?_
  rintro e w3 (⟨hk2, rfl, l1, c1⟩ | ⟨hn, rfl, c1⟩)
  case inr =>
    have HP := Lib.hid (C2.out.trans c1)
    clear c1
    go_wp2
    exact ⟨rfl, .inr ⟨fun hh => hn hh.2.2, rfl, HP.out⟩⟩
  have L3 := Lib.hid l1; have C3 : Hid (Chg (fun x => x = bl) w w3) := Lib.hid (C2.out.trans c1)
  have LD3 := Lib.hid (LD2.out.chg c1 (fun x hx => by omega))
  have S3 := Lib.hid (S2.out.chg c1 (fun a ha e => by have := A1.out a ha; omega))
  clear l1 c1
  have hzn := C3.out.size
  obtain ⟨W, hW, bW, t0, t1, t2⟩ := bx3 w3 (.slice q1 (numsL (gsW L k)).length d1) (.int .i64 (nV L (k + 1))) (.int .i64 (nV L (k + 2))) 35 3 3
  have HW := Lib.hid hW; have BW := Lib.hid bW; have T0 := Lib.hid t0; have T1 := Lib.hid t1; have T2 := Lib.hid t2
  clear hW bW t0 t1 t2
  go_wp2
  go_ret
  rw [HW.out]
  have hWz : w3.heap.size + 2 < W.heap.size := (Array.getElem?_eq_some_iff.1 T2.out).1
  refine .inl ⟨⟨hk0, hk1, hk2⟩, _, rfl, ⟨68, _, rfl, (fun args w => by simp [callFunc, Tryz.func68, Tryz.f68, go_sem]), fun w' hb' LD' _ => ?_⟩, L3.out.below BW.out, C3.out.then BW.out⟩
  exact dk_bound1 LD' ((hb'.block _ (by omega)).trans T0.out) (S3.out.below (BW.out.trans (hb'.mono BW.out.size))) ((hb'.block _ (by omega)).trans T1.out) ((hb'.block _ (by omega)).trans T2.out)
set_option maxRecDepth 100000 in
set_option maxHeartbeats 3200000 in
theorem read_rate {w : World} (LD : Laid w) {bd bl k : Nat} {L : List ByteArray} (h : LineS w bl L k) (hz : ∀ j, (gsW L j).size ≤ 900000) (hb : 8 ≤ bl) :
    Calls Tryz.prog 39 #[.pointer (some ⟨bd, 0, none⟩), .string ⟨#[114, 97, 116, 101]⟩, .pointer (some ⟨bl, 0, none⟩)] w (ReadAny w bl L (k + 3) (lAt L k ∧ nAt L (k + 1) ∧ nAt L (k + 2)) (fun _ => True) fun w' => OutPost w' (oneOut (rateVE (numsL (gsW L k)) (nV L (k + 1)) (nV L (k + 2))))) := by
  have hmf := mf
  have hlt := h.lt
  have HZ := Lib.hid hz
  have HC0 := Lib.hid (dk_nums_any LD h hz hb)
  have HLD := Lib.hid LD
  clear LD h hz
  go_enter Tryz.func39, Tryz.ntmps39
  go_wp2_with fail
  refine HC0.out.mono ?_
  rintro e w1 (⟨hk0, q1, d1, rfl, s1, l1, c1, a1⟩ | ⟨hn, rfl, c1⟩)
  case inr =>
    have HP := Lib.hid (c1)
    clear c1
    go_wp2
    exact ⟨rfl, .inr ⟨fun hh => hn hh.1, rfl, HP.out⟩⟩
  have L1 := Lib.hid l1; have C1 : Hid (Chg (fun x => x = bl) w w1) := Lib.hid (c1)
  have LD1 := Lib.hid (HLD.out.chg c1 (fun x hx => by omega))
  have S1 := Lib.hid s1; have A1 := Lib.hid a1
  clear s1 a1
  clear l1 c1
  go_wp2_with fail
  refine (dk_num_any LD1.out L1.out HZ.out hb).mono ?_
  rintro e w2 (⟨hk1, rfl, l1, c1⟩ | ⟨hn, rfl, c1⟩)
  case inr =>
    have HP := Lib.hid (C1.out.trans c1)
    clear c1
    go_wp2
    exact ⟨rfl, .inr ⟨fun hh => hn hh.2.1, rfl, HP.out⟩⟩
  have L2 := Lib.hid l1; have C2 : Hid (Chg (fun x => x = bl) w w2) := Lib.hid (C1.out.trans c1)
  have LD2 := Lib.hid (LD1.out.chg c1 (fun x hx => by omega))
  have S2 := Lib.hid (S1.out.chg c1 (fun a ha e => by have := A1.out a ha; omega))
  clear l1 c1
  go_wp2_with fail
  refine (dk_num_any LD2.out L2.out HZ.out hb).mono ?_
  rintro e w3 (⟨hk2, rfl, l1, c1⟩ | ⟨hn, rfl, c1⟩)
  case inr =>
    have HP := Lib.hid (C2.out.trans c1)
    clear c1
    go_wp2
    exact ⟨rfl, .inr ⟨fun hh => hn hh.2.2, rfl, HP.out⟩⟩
  have L3 := Lib.hid l1; have C3 : Hid (Chg (fun x => x = bl) w w3) := Lib.hid (C2.out.trans c1)
  have LD3 := Lib.hid (LD2.out.chg c1 (fun x hx => by omega))
  have S3 := Lib.hid (S2.out.chg c1 (fun a ha e => by have := A1.out a ha; omega))
  clear l1 c1
  have hzn := C3.out.size
  obtain ⟨W, hW, bW, t0, t1, t2⟩ := bx3 w3 (.slice q1 (numsL (gsW L k)).length d1) (.int .i64 (nV L (k + 1))) (.int .i64 (nV L (k + 2))) 35 3 3
  have HW := Lib.hid hW; have BW := Lib.hid bW; have T0 := Lib.hid t0; have T1 := Lib.hid t1; have T2 := Lib.hid t2
  clear hW bW t0 t1 t2
  go_wp2
  go_ret
  rw [HW.out]
  have hWz : w3.heap.size + 2 < W.heap.size := (Array.getElem?_eq_some_iff.1 T2.out).1
  refine .inl ⟨⟨hk0, hk1, hk2⟩, _, rfl, ⟨70, _, rfl, (fun args w => by simp [callFunc, Tryz.func70, Tryz.f70, go_sem]), fun w' hb' LD' _ => ?_⟩, L3.out.below BW.out, C3.out.then BW.out⟩
  exact dk_rate1 LD' ((hb'.block _ (by omega)).trans T0.out) (S3.out.below (BW.out.trans (hb'.mono BW.out.size))) ((hb'.block _ (by omega)).trans T1.out) ((hb'.block _ (by omega)).trans T2.out)
end Go.Proofs.YtgbccpfehcjhbaaGreatDoor

/- The desk's line world: what it does, how it is read (P77). Conditions: what each theorem says. -/
namespace Go.Proofs.YtgbccpfehcjhbaaGreatDoor
open Go Go.RowKit
set_option linter.unusedVariables false
set_option linter.unusedSimpArgs false

def newOk (n r u : Int) : Prop := 1 ≤ n ∧ n ≤ 8 ∧ 0 ≤ r ∧ r ≤ 1000 ∧ 1 ≤ u ∧ u ≤ 1000
instance (n r u : Int) : Decidable (newOk n r u) := by unfold newOk; infer_instance
/-- a new world -/
def newDS (n r u : Int) : DS := { rate := r.toNat, unit := u, L := tab n.toNat fun _ => (0, 0, true), turn := 0 }
def worldOut (n r u : Int) : Out := if newOk n r u then .ok [111, 107] else .err 1
def worldDS (n r u : Int) (s : DS) : DS := if newOk n r u then newDS n r u else s
theorem newDS_good {n r u : Int} (h : newOk n r u) : (newDS n r u).Good := by
  obtain ⟨h1, h2, h3, h4, h5, h6⟩ := h
  have hl : (newDS n r u).L.length = n.toNat := tab_length _ _
  refine ⟨by rw [hl]; omega, by rw [hl]; show 0 < _; omega, ?_, by unfold newDS; simp only; omega, by unfold newDS; simp only; omega⟩
  intro k hk
  rw [hl] at hk
  unfold newDS
  simp only
  rw [ge_tab hk]
  exact ⟨Int.le_refl _, .inr ⟨rfl, rfl⟩, rfl, by decide⟩
theorem not_newOk {n r u : Int} (h : ¬ newOk n r u) : n < 1 ∨ (1 ≤ n ∧ 8 < n) ∨ (1 ≤ n ∧ n ≤ 8 ∧ r < 0) ∨ (1 ≤ n ∧ n ≤ 8 ∧ 0 ≤ r ∧ 1000 < r) ∨ (1 ≤ n ∧ n ≤ 8 ∧ 0 ≤ r ∧ r ≤ 1000 ∧ u < 1) ∨ (1 ≤ n ∧ n ≤ 8 ∧ 0 ≤ r ∧ r ≤ 1000 ∧ 1 ≤ u ∧ 1000 < u) := by
  unfold newOk at h; omega
set_option maxRecDepth 100000 in
set_option maxHeartbeats 1600000 in
theorem dk_world1 {w : World} (LD : Laid w) {ba bb bc bx bd g h : Nat} {n r u : Int} {s : DS} (D : DeskAt w bd g h s) (h1 : w.heap[ba]? = some (.cells #[.int .i64 n] 3 (0, 0))) (h2 : w.heap[bb]? = some (.cells #[.int .i64 r] 3 (0, 0))) (h3 : w.heap[bc]? = some (.cells #[.int .i64 u] 3 (0, 0))) (h4 : w.heap[bx]? = some (.cells #[.pointer (some ⟨bd, 0, none⟩)] 51 (0, 0))) :
    Calls Tryz.prog 107 #[.pointer (some ⟨ba, 0, none⟩), .pointer (some ⟨bb, 0, none⟩), .pointer (some ⟨bc, 0, none⟩), .pointer (some ⟨bx, 0, none⟩)] w (DeskPost w bd g h (worldOut n r u) (worldDS n r u s)) := by
  have c1 : w.cell? ⟨ba, 0, none⟩ = some (.int .i64 n) := blk_cell h1 0
  have c2 : w.cell? ⟨bb, 0, none⟩ = some (.int .i64 r) := blk_cell h2 0
  have c3 : w.cell? ⟨bc, 0, none⟩ = some (.int .i64 u) := blk_cell h3 0
  have c4 : w.cell? ⟨bx, 0, none⟩ = some (.pointer (some ⟨bd, 0, none⟩)) := blk_cell h4 0
  have H4 := Lib.hid h4
  have hbx := (Array.getElem?_eq_some_iff.1 h4).1
  have HD := Lib.hid D
  have hbd := (Array.getElem?_eq_some_iff.1 D.box).1
  have h8 := LD.sz
  by_cases hk : newOk n r u
  · have HO : Hid (worldOut n r u = .ok [111, 107]) := Lib.hid (by unfold worldOut; rw [if_pos hk])
    have HS : Hid (worldDS n r u s = newDS n r u) := Lib.hid (by unfold worldDS; rw [if_pos hk])
    have HG := Lib.hid (newDS_good hk)
    have hk2 := hk
    obtain ⟨k1, k2, k3, k4, k5, k6⟩ := hk2
    obtain ⟨m, rfl⟩ := Int.eq_ofNat_of_zero_le (show 0 ≤ n by omega)
    have HC := Lib.hid (world_New (w := w) (n := m) (by omega) (by omega) k3 k4 k5 k6)
    clear h1 h2 h3 h4 D LD hk
    go_enter Tryz.func107, Tryz.ntmps107
    go_wp2_with fail
    refine HC.out.mono ?_; rintro e w1 ⟨g', h', rfl, hw1, b1⟩
    have HW1 := Lib.hid hw1; have HB1 := Lib.hid b1
    have hgB := hw1.bg
    have hsz1 := b1.size
    have d1 : w1.cell? ⟨bx, 0, none⟩ = some (.pointer (some ⟨bd, 0, none⟩)) := blk_cell ((b1.block _ hbx).trans H4.out) 0
    have DB := Lib.hid ((b1.block _ hbd).trans HD.out.box)
    have f1 : w1.frozen? ⟨bd, 0, none⟩ = false := blk_free DB.out 0
    have d2 : w1.cell? ⟨bd, 0, none⟩ = some (.pointer (some ⟨g, 0, none⟩)) := blk_cell DB.out 0
    have hhB := hw1.cells.2.2.2.2.2.2.2.1
    clear hw1 b1 HC
    go_wp2_with fail
    refine dk_done.mono ?_; rintro e w2 ⟨rfl, rfl⟩
    have hC : Chg (dkS bd g h) w (w1.setCell ⟨bd, 0, none⟩ (.pointer (some ⟨g', 0, none⟩))) := (Chg.of HB1.out).set _ (.inr (.inl rfl))
    have hne1 : g' ≠ bd := by omega
    have hne2 : h' ≠ bd := by omega
    have HF : Hid (DeskAt (w1.setCell ⟨bd, 0, none⟩ (.pointer (some ⟨g', 0, none⟩))) bd g' h' (newDS (m : Int) r u)) := by
      refine Lib.hid ⟨HG.out, by have h9 := blk_set (j := 0) (v := .pointer (some ⟨g', 0, none⟩)) DB.out; simpa using h9, ?_, HD.out.lo, by omega, by omega⟩
      have hl : (newDS (m : Int) r u).L.length = m := by show (tab _ _).length = _; rw [tab_length]; omega
      rw [hl]
      have hw := HW1.out
      have e1 : (newDS (m : Int) r u).L = tab m fun _ => (0, 0, true) := by unfold newDS; simp
      rw [e1]
      have hr : (((newDS (m : Int) r u).rate : Nat) : Int) = r := by show ((r.toNat : Nat) : Int) = r; omega
      have hu : (newDS (m : Int) r u).unit = u := rfl
      rw [hr, hu]
      have hw2 : WorldAt w1 85 8 g' h' r u m (tab m fun _ => (0, 0, true)) 0 := ⟨hw.box, hw.own.base h8, Nat.le_trans h8 hw.bg, hw.ne⟩
      have hc : Chg (fun x => x = bd) w1 (w1.setCell ⟨bd, 0, none⟩ (.pointer (some ⟨g', 0, none⟩))) := (Chg.refl _ w1).set _ (.inr rfl)
      obtain ⟨_, _, _, _, _, hg1, hh1, _, _⟩ := hw.cells
      refine ⟨(hc.same g' hg1 hne1).trans hw2.box, ?_, hw2.bg, hw2.ne⟩
      have ho := hw2.own
      refine ⟨⟨ho.1.1, ?_⟩, ho.2⟩
      rcases ho.1.2 with h5 | ⟨g2, cap, cur, hv, hg2, hh2, rr⟩
      · exact .inl h5
      · refine .inr ⟨g2, cap, cur, hv, hg2, ?_, rr⟩
        simp only [Value.slice.injEq, Option.some.injEq, Addr.mk.injEq, and_true, true_and] at hv
        obtain ⟨rfl, _⟩ := hv
        exact (hc.same h' hh1 hne2).trans hh2
    have HCC := Lib.hid hC
    clear hC
    go_wp2
    go_ret
    exact ⟨by rw [HO.out]; rfl, g', h', by rw [HS.out]; exact HF.out, HCC.out, .inr ⟨hgB, hhB⟩⟩
  · have HO : Hid (worldOut n r u = .err 1) := Lib.hid (by unfold worldOut; rw [if_neg hk])
    have HS : Hid (worldDS n r u s = s) := Lib.hid (by unfold worldDS; rw [if_neg hk])
    have HC := Lib.hid (world_New_bad (w := w) (not_newOk hk))
    clear h1 h2 h3 h4 D LD hk
    go_enter Tryz.func107, Tryz.ntmps107
    go_wp2_with fail
    refine HC.out.mono ?_; rintro e w1 ⟨rfl, rfl⟩
    go_wp2_with fail
    refine (dk_done_bad (by omega)).mono ?_; rintro e w2 ⟨rfl, b2⟩
    have HF := Lib.hid (HD.out.below b2)
    clear HC
    go_wp2
    exact ⟨rfl, by rw [HO.out]; rfl, g, h, by rw [HS.out]; exact HF.out, Chg.of b2, .inl ⟨rfl, rfl⟩⟩
set_option maxRecDepth 100000 in
set_option maxHeartbeats 3200000 in
theorem change_world {w : World} (LD : Laid w) {bd g hh bl k : Nat} {s : DS} {L : List ByteArray} (h : LineS w bl L k) (hz : ∀ j, (gsW L j).size ≤ 900000) (hb : 8 ≤ bl) :
    Calls Tryz.prog 72 #[.pointer (some ⟨bd, 0, none⟩), .string ⟨#[119, 111, 114, 108, 100]⟩, .pointer (some ⟨bl, 0, none⟩)] w (ReadAny w bl L (k + 3) (nAt L k ∧ nAt L (k + 1) ∧ nAt L (k + 2)) (fun w' => DeskAt w' bd g hh s) fun w' => DeskPost w' bd g hh (worldOut (nV L k) (nV L (k + 1)) (nV L (k + 2))) (worldDS (nV L k) (nV L (k + 1)) (nV L (k + 2)) s)) := by
  have hmf := mf
  have HX := Lib.hid ((Below.refl w.heap.size w).alloc (Nat.le_refl _) (.cells #[.pointer (some ⟨bd, 0, none⟩)] 51))
  have TX := Lib.hid (blk_new w #[.pointer (some ⟨bd, 0, none⟩)] 51)
  have hlt := h.lt
  have HZ := Lib.hid hz
  have HLD := Lib.hid (LD.below HX.out)
  have HC0 := Lib.hid (dk_num_any HLD.out (h.below HX.out) hz hb)
  have hX0 := HX.out.size
  have hxz : w.heap.size < (w.alloc (.cells #[.pointer (some ⟨bd, 0, none⟩)] 51)).heap.size := (Array.getElem?_eq_some_iff.1 TX.out).1
  clear LD h hz
  go_enter Tryz.func72, Tryz.ntmps72
  go_wp2_with fail
  generalize w.alloc (.cells #[.pointer (some ⟨bd, 0, none⟩)] 51) = W0 at *
  refine HC0.out.mono ?_
  rintro e w1 (⟨hk0, rfl, l1, c1⟩ | ⟨hn, rfl, c1⟩)
  case inr =>
    have HP : Hid (Chg (fun x => x = bl) w w1) := Lib.hid ((Chg.of HX.out).trans c1)
    clear c1
    go_wp2
    exact ⟨rfl, .inr ⟨fun hh => hn hh.1, rfl, HP.out⟩⟩
  have L1 := Lib.hid l1; have C1 : Hid (Chg (fun x => x = bl) w w1) := Lib.hid ((Chg.of HX.out).trans c1)
  have LD1 := Lib.hid (HLD.out.chg c1 (fun x hx => by omega))
  have TX1 := Lib.hid ((c1.same w.heap.size (by have := hX0; omega) (by omega)).trans TX.out)
  have hxz1 : w.heap.size < w1.heap.size := (Array.getElem?_eq_some_iff.1 TX1.out).1
  clear l1 c1
  go_wp2_with fail
  refine (dk_num_any LD1.out L1.out HZ.out hb).mono ?_
  rintro e w2 (⟨hk1, rfl, l1, c1⟩ | ⟨hn, rfl, c1⟩)
  case inr =>
    have HP : Hid (Chg (fun x => x = bl) w w2) := Lib.hid (C1.out.trans c1)
    clear c1
    go_wp2
    exact ⟨rfl, .inr ⟨fun hh => hn hh.2.1, rfl, HP.out⟩⟩
  have L2 := Lib.hid l1; have C2 : Hid (Chg (fun x => x = bl) w w2) := Lib.hid (C1.out.trans c1)
  have LD2 := Lib.hid (LD1.out.chg c1 (fun x hx => by omega))
  have TX2 := Lib.hid ((c1.same w.heap.size (by have := C1.out.size; omega) (by omega)).trans TX1.out)
  have hxz2 : w.heap.size < w2.heap.size := (Array.getElem?_eq_some_iff.1 TX2.out).1
  clear l1 c1
  go_wp2_with fail
  refine (dk_num_any LD2.out L2.out HZ.out hb).mono ?_
  rintro e w3 (⟨hk2, rfl, l1, c1⟩ | ⟨hn, rfl, c1⟩)
  case inr =>
    have HP : Hid (Chg (fun x => x = bl) w w3) := Lib.hid (C2.out.trans c1)
    clear c1
    go_wp2
    exact ⟨rfl, .inr ⟨fun hh => hn hh.2.2, rfl, HP.out⟩⟩
  have L3 := Lib.hid l1; have C3 : Hid (Chg (fun x => x = bl) w w3) := Lib.hid (C2.out.trans c1)
  have LD3 := Lib.hid (LD2.out.chg c1 (fun x hx => by omega))
  have TX3 := Lib.hid ((c1.same w.heap.size (by have := C2.out.size; omega) (by omega)).trans TX2.out)
  have hxz3 : w.heap.size < w3.heap.size := (Array.getElem?_eq_some_iff.1 TX3.out).1
  clear l1 c1
  obtain ⟨W, hW, bW, t0, t1, t2⟩ := bx3 w3 (.int .i64 (nV L k)) (.int .i64 (nV L (k + 1))) (.int .i64 (nV L (k + 2))) 3 3 3
  have HW := Lib.hid hW; have BW := Lib.hid bW; have T0 := Lib.hid t0; have T1 := Lib.hid t1; have T2 := Lib.hid t2
  clear hW bW t0 t1 t2
  go_wp2
  go_ret
  rw [HW.out]
  have hWz : w3.heap.size + 2 < W.heap.size := (Array.getElem?_eq_some_iff.1 T2.out).1
  refine .inl ⟨⟨hk0, hk1, hk2⟩, _, rfl, ⟨107, _, rfl, (fun args w => by simp [callFunc, Tryz.func107, Tryz.f107, go_sem]), fun w' hb' LD' D' => ?_⟩, L3.out.below BW.out, C3.out.then BW.out⟩
  exact dk_world1 LD' D' ((hb'.block _ (by omega)).trans T0.out) ((hb'.block _ (by omega)).trans T1.out) ((hb'.block _ (by omega)).trans T2.out) ((hb'.block _ (by omega)).trans ((BW.out.block _ (by omega)).trans TX3.out))
set_option maxRecDepth 100000 in
set_option maxHeartbeats 1600000 in
theorem read_world {w : World} (LD : Laid w) {bd g hh bl k : Nat} {s : DS} {L : List ByteArray} (h : LineS w bl L k) (hz : ∀ j, (gsW L j).size ≤ 900000) (hb : 8 ≤ bl) :
    Calls Tryz.prog 39 #[.pointer (some ⟨bd, 0, none⟩), .string ⟨#[119, 111, 114, 108, 100]⟩, .pointer (some ⟨bl, 0, none⟩)] w (ReadAny w bl L (k + 3) (nAt L k ∧ nAt L (k + 1) ∧ nAt L (k + 2)) (fun w' => DeskAt w' bd g hh s) fun w' => DeskPost w' bd g hh (worldOut (nV L k) (nV L (k + 1)) (nV L (k + 2))) (worldDS (nV L k) (nV L (k + 1)) (nV L (k + 2)) s)) := by
  have HC := Lib.hid (change_world (bd := bd) (g := g) (hh := hh) (s := s) LD h hz hb)
  clear LD h hz
  go_enter Tryz.func39, Tryz.ntmps39
  go_wp2_with fail
  refine HC.out.mono ?_
  rintro e w1 (⟨hk, v, rfl, hP⟩ | ⟨hn, rfl, c1⟩)
  · have HP := Lib.hid hP
    clear hP
    go_wp2
    go_ret
    exact .inl ⟨hk, v, rfl, HP.out⟩
  · have HP := Lib.hid c1
    clear c1
    go_wp2
    exact ⟨rfl, .inr ⟨hn, rfl, HP.out⟩⟩
end Go.Proofs.YtgbccpfehcjhbaaGreatDoor
