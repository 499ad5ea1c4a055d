/- The walk of headlaw.PointMoves: it returns true and changes nothing that was there. No conditions. -/
import Derived.Test.YtclbcbeakefhmaaMoves
import Derived.Test.YtclbcbeakefhmaaTold
namespace Go.Proofs.Ytclbcbeakefhmaa
open Go Go.RowKit

theorem FitOf.wrong (Y : List Int) {er : Int} (h0 : er ≠ 0) : FitOf er Y [] er := .inl ⟨h0, rfl, rfl⟩

set_option maxHeartbeats 1600000 in
theorem pointMoves_yy {w : World} {p : Option Addr} {n c : Nat} {xs : List Int} {d : Nat} {u : Int} (hu0 : 0 ≤ u) (hu1 : u ≤ 1000000) (h : SI w p n c xs) (hc0 : curveErr xs = 0) :
    Calls Try.prog 10 #[.slice p n c, .int .i64 d, .int .i64 u] w fun e w' => e = .returned (.bool true) ∧ Below w.heap.size w w' := by
  have hx := curve_of hc0 h.1
  have hn61 := hx.le
  have hpos := hx.pos
  have HC := Lib.hid hc0; have HX := Lib.hid hx; clear hc0 hx
  have hl := h.1
  have HL := Lib.hid hl; clear hl
  have d1 : decide ((d : Int) < 0) = false := by simp
  have u1 : decide (u < 0) = false := by simp; omega
  have u2 : decide (1000000 < u) = false := by simp; omega
  go_enter Try.func10, Try.ntmps10
  go_wp2_with fail
  refine (point_Late_ok h HX.out HC.out).mono ?_; rintro e w1 ⟨p1, n1, c1, L1, e1, rfl, ho1, hb1, hF1⟩
  have o1 := ho1.si
  have HF1 := Lib.hid hF1
  clear ho1 hF1
  go_wp2_with fail
  refine (point_Up_ok (h.below hb1) HX.out HC.out hu0 hu1).mono ?_; rintro e w2 ⟨p2, n2, c2, L2, e2, rfl, ho2, hb12, hF2⟩
  have hb2 := hb1.trans (hb12.mono hb1.size)
  have o2 := ho2.si
  have HF2 := Lib.hid hF2
  have o1' := o1.below hb12
  clear o1
  clear ho2 hF2 hb12 hb1
  have hN := h.below hb2
  obtain ⟨b, off, hp, hlt, hcell⟩ := hN.cells hpos
  subst hp
  go_wp2_with fail
  refine (ref_Curve hN HC.out).mono ?_; rintro e w' ⟨rfl, rfl⟩
  go_wp2_with fail
  refine (ref_Curve hN HC.out).mono ?_; rintro e w' ⟨rfl, rfl⟩
  clear hN h
  go_wp2
  go_loopw [13, 14, 51] (fun v l i wr => ∃ (k : Nat) (q1 q2 : Option Addr) (a1 a2 : Nat), k ≤ n ∧ i = .int .i64 k ∧ v = .slice q1 k a1 ∧ l = .slice q2 k a2 ∧ OwnI wr w2.heap.size q1 k a1 (tab k (fun t => if d ≤ t then gi xs (t - d) else 0)) ∧ OwnI wr w2.heap.size q2 k a2 (tab k (fun t => gi xs t + u)) ∧ Sep q1 q2 ∧ Below w2.heap.size w2 wr) (fun _ _ i _ => n - (intOf i).toNat)
  case atStart => exact ⟨0, none, none, 0, 0, by omega, rfl, rfl, rfl, OwnI.nil _ _, OwnI.nil _ _, Sep.none_left, Below.refl _ _⟩
  case round =>
    obtain ⟨k, q1, q2, a1, a2, hk, rfl, rfl, rfl, r1, r2, r3, hb⟩ := hrel
    have hsz := hb.size
    by_cases hkn : k < n
    · by_cases hdk : d ≤ k
      · have c1 : wr.cell? ⟨b, off + (k - d), none⟩ = some (.int .i64 (gi xs (k - d))) := (bdeep hb hlt _).trans (hcell _ (by omega))
        have hz : Hid (tab (k + 1) (fun t => if d ≤ t then gi xs (t - d) else 0) = tab k (fun t => if d ≤ t then gi xs (t - d) else 0) ++ [gi xs (k - d)]) := Lib.hid (by rw [tab_succ, if_pos hdk])
        have c2 : wr.cell? ⟨b, off + k, none⟩ = some (.int .i64 (gi xs k)) := (bdeep hb hlt _).trans (hcell _ hkn)
        have b2 := HX.out.bd k hkn
        have hz2 := Lib.hid (tab_succ k (fun t => gi xs t + u))
        go_wp2_with (first | (at_builtin; refine wpL_push_int Try.tyInts rfl (s := .tmp 65) rfl (B := w2.heap.size) (W0 := w2) rfl rfl r1 hb (by omega) hsz ?_; intro p5 c5 w5 ho5 hb5 hg5 hp5; have r2' := r2.keep hg5 r3; have s2 := Sep.symm (Sep.push r3 r2 hp5); have hsz5 := hb5.size; have c2' := (bdeep hb5 hlt (off + k)).trans (hcell k hkn); clear r1 r2 hp5 hg5) | (at_builtin; refine wpL_push_int Try.tyInts rfl (s := .tmp 71) rfl (B := w2.heap.size) (W0 := w2) rfl rfl r2' hb5 (by omega) hsz5 ?_; intro p6 c6 w6 ho6 hb6 hg6 hp6))
        have ho5' := ho5.keep hg6 s2
        have s3 := Sep.symm (Sep.push s2 ho5 hp6)
        go_roundw
        case rel => exact ⟨k + 1, _, _, _, _, by omega, by go_num, rfl, rfl, by rw [hz.out]; exact ho5', by rw [hz2.out]; exact ho6, s3, hb6⟩
        case measure => simp [intOf]; omega
      · have hz : Hid (tab (k + 1) (fun t => if d ≤ t then gi xs (t - d) else 0) = tab k (fun t => if d ≤ t then gi xs (t - d) else 0) ++ [0]) := Lib.hid (by rw [tab_succ, if_neg hdk])
        have c2 : wr.cell? ⟨b, off + k, none⟩ = some (.int .i64 (gi xs k)) := (bdeep hb hlt _).trans (hcell _ hkn)
        have b2 := HX.out.bd k hkn
        have hz2 := Lib.hid (tab_succ k (fun t => gi xs t + u))
        go_wp2_with (first | (at_builtin; refine wpL_push_int Try.tyInts rfl (s := .tmp 65) rfl (B := w2.heap.size) (W0 := w2) rfl rfl r1 hb (by omega) hsz ?_; intro p5 c5 w5 ho5 hb5 hg5 hp5; have r2' := r2.keep hg5 r3; have s2 := Sep.symm (Sep.push r3 r2 hp5); have hsz5 := hb5.size; have c2' := (bdeep hb5 hlt (off + k)).trans (hcell k hkn); clear r1 r2 hp5 hg5) | (at_builtin; refine wpL_push_int Try.tyInts rfl (s := .tmp 71) rfl (B := w2.heap.size) (W0 := w2) rfl rfl r2' hb5 (by omega) hsz5 ?_; intro p6 c6 w6 ho6 hb6 hg6 hp6))
        have ho5' := ho5.keep hg6 s2
        have s3 := Sep.symm (Sep.push s2 ho5 hp6)
        go_roundw
        case rel => exact ⟨k + 1, _, _, _, _, by omega, by go_num, rfl, rfl, by rw [hz.out]; exact ho5', by rw [hz2.out]; exact ho6, s3, hb6⟩
        case measure => simp [intOf]; omega
    · obtain rfl : n = k := by omega
      have k1 := o1'.below hb
      have m1 : SI wr q1 n a1 (lateL xs d) := by unfold lateL; rw [HL.out]; exact r1.si
      have k2 := o2.below hb
      have m2 : SI wr q2 n a2 (upL xs u) := by unfold upL; rw [HL.out]; exact r2.si
      have hb3 := hb2.trans (hb.mono hb2.size)
      clear r1 r2 r3
      go_wp2_with fail
      refine (told_yes k1 m1 HF1.out).mono ?_; rintro e w7 ⟨rfl, hb7⟩
      have hb8 := hb3.trans (hb7.mono hb3.size)
      go_wp2_with fail
      refine (told_yes (k2.below hb7) (m2.below hb7) HF2.out).mono ?_; rintro e w9 ⟨rfl, hb9⟩
      go_wp2
      go_ret
      exact ⟨rfl, hb8.trans (hb9.mono hb8.size)⟩

set_option maxHeartbeats 1600000 in
theorem pointMoves_yn {w : World} {p : Option Addr} {n c : Nat} {xs : List Int} {d : Nat} {u : Int} (hu : u < 0 ∨ 1000000 < u) (h : SI w p n c xs) (hc0 : curveErr xs = 0) :
    Calls Try.prog 10 #[.slice p n c, .int .i64 d, .int .i64 u] w fun e w' => e = .returned (.bool true) ∧ Below w.heap.size w w' := by
  have hx := curve_of hc0 h.1
  have hn61 := hx.le
  have hpos := hx.pos
  have HC := Lib.hid hc0; have HX := Lib.hid hx; clear hc0 hx
  have hl := h.1
  have HL := Lib.hid hl; clear hl
  have d1 : decide ((d : Int) < 0) = false := by simp
  have HUE : Hid (upErr xs u = 1) := Lib.hid (by unfold upErr; rw [if_neg (by simp [HC.out]), if_pos hu])
  rcases (show u < 0 ∨ (0 ≤ u ∧ 1000000 < u) by omega) with hu1 | ⟨hu0, hu1⟩
  all_goals
    clear hu
    go_enter Try.func10, Try.ntmps10
    go_wp2_with fail
    refine (point_Late_ok h HX.out HC.out).mono ?_; rintro e w1 ⟨p1, n1, c1, L1, e1, rfl, ho1, hb1, hF1⟩
    have o1 := ho1.si
    have HF1 := Lib.hid hF1
    clear ho1 hF1
    go_wp2_with fail
    refine (point_Up_bad (h.below hb1) HUE.out (by omega)).mono ?_; rintro e w' ⟨rfl, rfl⟩
    have hb2 := hb1
    clear hb1
    have o1' := o1
    clear o1
    have hN := h.below hb2
    obtain ⟨b, off, hp, hlt, hcell⟩ := hN.cells hpos
    subst hp
    go_wp2_with fail
    refine (ref_Curve hN HC.out).mono ?_; rintro e w' ⟨rfl, rfl⟩
    go_wp2_with fail
    refine (ref_Curve hN HC.out).mono ?_; rintro e w' ⟨rfl, rfl⟩
    clear hN h
    go_wp2
    go_loopw [13, 14, 51] (fun v l i wr => ∃ (k : Nat) (q1 q2 : Option Addr) (a1 a2 : Nat), k ≤ n ∧ i = .int .i64 k ∧ v = .slice q1 k a1 ∧ l = .slice none 0 0 ∧ OwnI wr w1.heap.size q1 k a1 (tab k (fun t => if d ≤ t then gi xs (t - d) else 0)) ∧ True ∧ True ∧ Below w1.heap.size w1 wr) (fun _ _ i _ => n - (intOf i).toNat)
    case atStart => exact ⟨0, none, none, 0, 0, by omega, rfl, rfl, rfl, OwnI.nil _ _, trivial, trivial, Below.refl _ _⟩
    case round =>
      obtain ⟨k, q1, q2, a1, a2, hk, rfl, rfl, rfl, r1, r2, r3, hb⟩ := hrel
      have hsz := hb.size
      by_cases hkn : k < n
      · by_cases hdk : d ≤ k
        · have c1 : wr.cell? ⟨b, off + (k - d), none⟩ = some (.int .i64 (gi xs (k - d))) := (bdeep hb hlt _).trans (hcell _ (by omega))
          have hz : Hid (tab (k + 1) (fun t => if d ≤ t then gi xs (t - d) else 0) = tab k (fun t => if d ≤ t then gi xs (t - d) else 0) ++ [gi xs (k - d)]) := Lib.hid (by rw [tab_succ, if_pos hdk])
          go_wp2_with (at_builtin; refine wpL_push_int Try.tyInts rfl rfl (B := w1.heap.size) (W0 := w1) rfl rfl r1 hb (by omega) hsz ?_; intro p5 c5 w5 ho5 hb5 hg5 hp5)
          go_roundw
          case rel => exact ⟨k + 1, _, none, _, 0, by omega, by go_num, rfl, rfl, by rw [hz.out]; exact ho5, trivial, trivial, hb5⟩
          case measure => simp [intOf]; omega
        · have hz : Hid (tab (k + 1) (fun t => if d ≤ t then gi xs (t - d) else 0) = tab k (fun t => if d ≤ t then gi xs (t - d) else 0) ++ [0]) := Lib.hid (by rw [tab_succ, if_neg hdk])
          go_wp2_with (at_builtin; refine wpL_push_int Try.tyInts rfl rfl (B := w1.heap.size) (W0 := w1) rfl rfl r1 hb (by omega) hsz ?_; intro p5 c5 w5 ho5 hb5 hg5 hp5)
          go_roundw
          case rel => exact ⟨k + 1, _, none, _, 0, by omega, by go_num, rfl, rfl, by rw [hz.out]; exact ho5, trivial, trivial, hb5⟩
          case measure => simp [intOf]; omega
      · obtain rfl : n = k := by omega
        have k1 := o1'.below hb
        have m1 : SI wr q1 n a1 (lateL xs d) := by unfold lateL; rw [HL.out]; exact r1.si
        have hb3 := hb2.trans (hb.mono hb2.size)
        clear r1 r2 r3
        go_wp2_with fail
        refine (told_yes k1 m1 HF1.out).mono ?_; rintro e w7 ⟨rfl, hb7⟩
        have hb8 := hb3.trans (hb7.mono hb3.size)
        go_wp2_with fail
        refine (told_yes (SI.nil0 _) (SI.nil0 _) (FitOf.wrong _ (by omega))).mono ?_; rintro e w9 ⟨rfl, hb9⟩
        go_wp2
        go_ret
        exact ⟨rfl, hb8.trans (hb9.mono hb8.size)⟩

set_option maxHeartbeats 1600000 in
theorem pointMoves_ny {w : World} {p : Option Addr} {n c : Nat} {xs : List Int} {d : Int} (hd : d < 0) {u : Int} (hu0 : 0 ≤ u) (hu1 : u ≤ 1000000) (h : SI w p n c xs) (hc0 : curveErr xs = 0) :
    Calls Try.prog 10 #[.slice p n c, .int .i64 d, .int .i64 u] w fun e w' => e = .returned (.bool true) ∧ Below w.heap.size w w' := by
  have hx := curve_of hc0 h.1
  have hn61 := hx.le
  have hpos := hx.pos
  have HC := Lib.hid hc0; have HX := Lib.hid hx; clear hc0 hx
  have hl := h.1
  have HL := Lib.hid hl; clear hl
  have d1 : decide (d < 0) = true := by simp; omega
  have HLE : Hid (lateErr xs d = 1) := Lib.hid (by unfold lateErr; rw [if_neg (by simp [HC.out]), if_pos hd])
  have u1 : decide (u < 0) = false := by simp; omega
  have u2 : decide (1000000 < u) = false := by simp; omega
  go_enter Try.func10, Try.ntmps10
  go_wp2_with fail
  refine (point_Late_bad h HLE.out (by omega)).mono ?_; rintro e w' ⟨rfl, rfl⟩
  have hb1 := Below.refl w.heap.size w
  go_wp2_with fail
  refine (point_Up_ok (h.below hb1) HX.out HC.out hu0 hu1).mono ?_; rintro e w2 ⟨p2, n2, c2, L2, e2, rfl, ho2, hb12, hF2⟩
  have hb2 := hb1.trans (hb12.mono hb1.size)
  have o2 := ho2.si
  have HF2 := Lib.hid hF2
  clear ho2 hF2 hb12 hb1
  have hN := h.below hb2
  obtain ⟨b, off, hp, hlt, hcell⟩ := hN.cells hpos
  subst hp
  go_wp2_with fail
  refine (ref_Curve hN HC.out).mono ?_; rintro e w' ⟨rfl, rfl⟩
  go_wp2_with fail
  refine (ref_Curve hN HC.out).mono ?_; rintro e w' ⟨rfl, rfl⟩
  clear hN h
  go_wp2
  go_loopw [13, 14, 51] (fun v l i wr => ∃ (k : Nat) (q1 q2 : Option Addr) (a1 a2 : Nat), k ≤ n ∧ i = .int .i64 k ∧ v = .slice none 0 0 ∧ l = .slice q2 k a2 ∧ True ∧ OwnI wr w2.heap.size q2 k a2 (tab k (fun t => gi xs t + u)) ∧ True ∧ Below w2.heap.size w2 wr) (fun _ _ i _ => n - (intOf i).toNat)
  case atStart => exact ⟨0, none, none, 0, 0, by omega, rfl, rfl, rfl, trivial, OwnI.nil _ _, trivial, Below.refl _ _⟩
  case round =>
    obtain ⟨k, q1, q2, a1, a2, hk, rfl, rfl, rfl, r1, r2, r3, hb⟩ := hrel
    have hsz := hb.size
    by_cases hkn : k < n
    · have c2 : wr.cell? ⟨b, off + k, none⟩ = some (.int .i64 (gi xs k)) := (bdeep hb hlt _).trans (hcell _ hkn)
      have b2 := HX.out.bd k hkn
      have hz2 := Lib.hid (tab_succ k (fun t => gi xs t + u))
      go_wp2_with (at_builtin; refine wpL_push_int Try.tyInts rfl rfl (B := w2.heap.size) (W0 := w2) rfl rfl r2 hb (by omega) hsz ?_; intro p5 c5 w5 ho5 hb5 hg5 hp5)
      go_roundw
      case rel => exact ⟨k + 1, none, _, 0, _, by omega, by go_num, rfl, rfl, trivial, by rw [hz2.out]; exact ho5, trivial, hb5⟩
      case measure => simp [intOf]; omega
    · obtain rfl : n = k := by omega
      have k2 := o2.below hb
      have m2 : SI wr q2 n a2 (upL xs u) := by unfold upL; rw [HL.out]; exact r2.si
      have hb3 := hb2.trans (hb.mono hb2.size)
      clear r1 r2 r3
      go_wp2_with fail
      refine (told_yes (SI.nil0 _) (SI.nil0 _) (FitOf.wrong _ (by omega))).mono ?_; rintro e w7 ⟨rfl, hb7⟩
      have hb8 := hb3.trans (hb7.mono hb3.size)
      go_wp2_with fail
      refine (told_yes (k2.below hb7) (m2.below hb7) HF2.out).mono ?_; rintro e w9 ⟨rfl, hb9⟩
      go_wp2
      go_ret
      exact ⟨rfl, hb8.trans (hb9.mono hb8.size)⟩

set_option maxHeartbeats 1600000 in
theorem pointMoves_nn {w : World} {p : Option Addr} {n c : Nat} {xs : List Int} {d : Int} (hd : d < 0) {u : Int} (hu : u < 0 ∨ 1000000 < u) (h : SI w p n c xs) (hc0 : curveErr xs = 0) :
    Calls Try.prog 10 #[.slice p n c, .int .i64 d, .int .i64 u] w fun e w' => e = .returned (.bool true) ∧ Below w.heap.size w w' := by
  have hx := curve_of hc0 h.1
  have hn61 := hx.le
  have hpos := hx.pos
  have HC := Lib.hid hc0; have HX := Lib.hid hx; clear hc0 hx
  have hl := h.1
  have HL := Lib.hid hl; clear hl
  have d1 : decide (d < 0) = true := by simp; omega
  have HLE : Hid (lateErr xs d = 1) := Lib.hid (by unfold lateErr; rw [if_neg (by simp [HC.out]), if_pos hd])
  have HUE : Hid (upErr xs u = 1) := Lib.hid (by unfold upErr; rw [if_neg (by simp [HC.out]), if_pos hu])
  rcases (show u < 0 ∨ (0 ≤ u ∧ 1000000 < u) by omega) with hu1 | ⟨hu0, hu1⟩
  all_goals
    clear hu
    go_enter Try.func10, Try.ntmps10
    go_wp2_with fail
    refine (point_Late_bad h HLE.out (by omega)).mono ?_; rintro e w' ⟨rfl, rfl⟩
    have hb1 := Below.refl w.heap.size w
    go_wp2_with fail
    refine (point_Up_bad (h.below hb1) HUE.out (by omega)).mono ?_; rintro e w' ⟨rfl, rfl⟩
    have hb2 := hb1
    clear hb1
    have hN := h.below hb2
    obtain ⟨b, off, hp, hlt, hcell⟩ := hN.cells hpos
    subst hp
    go_wp2_with fail
    refine (ref_Curve hN HC.out).mono ?_; rintro e w' ⟨rfl, rfl⟩
    go_wp2_with fail
    refine (ref_Curve hN HC.out).mono ?_; rintro e w' ⟨rfl, rfl⟩
    clear hN h
    go_wp2
    go_loopw [13, 14, 51] (fun v l i wr => ∃ (k : Nat) (q1 q2 : Option Addr) (a1 a2 : Nat), k ≤ n ∧ i = .int .i64 k ∧ v = .slice none 0 0 ∧ l = .slice none 0 0 ∧ True ∧ True ∧ True ∧ Below w.heap.size w wr) (fun _ _ i _ => n - (intOf i).toNat)
    case atStart => exact ⟨0, none, none, 0, 0, by omega, rfl, rfl, rfl, trivial, trivial, trivial, Below.refl _ _⟩
    case round =>
      obtain ⟨k, q1, q2, a1, a2, hk, rfl, rfl, rfl, r1, r2, r3, hb⟩ := hrel
      have hsz := hb.size
      by_cases hkn : k < n
      · go_wp2
        go_roundw
        case rel => exact ⟨k + 1, none, none, 0, 0, by omega, by go_num, rfl, rfl, trivial, trivial, trivial, hb⟩
        case measure => simp [intOf]; omega
      · obtain rfl : n = k := by omega
        have hb3 := hb2.trans (hb.mono hb2.size)
        clear r1 r2 r3
        go_wp2_with fail
        refine (told_yes (SI.nil0 _) (SI.nil0 _) (FitOf.wrong _ (by omega))).mono ?_; rintro e w7 ⟨rfl, hb7⟩
        have hb8 := hb3.trans (hb7.mono hb3.size)
        go_wp2_with fail
        refine (told_yes (SI.nil0 _) (SI.nil0 _) (FitOf.wrong _ (by omega))).mono ?_; rintro e w9 ⟨rfl, hb9⟩
        go_wp2
        go_ret
        exact ⟨rfl, hb8.trans (hb9.mono hb8.size)⟩

set_option maxHeartbeats 1600000 in
theorem pointMoves_wrong {w : World} {p : Option Addr} {n c : Nat} {xs : List Int} {d u : Int} (h : SI w p n c xs) (hc0 : curveErr xs ≠ 0) :
    Calls Try.prog 10 #[.slice p n c, .int .i64 d, .int .i64 u] w fun e w' => e = .returned (.bool true) ∧ Below w.heap.size w w' := by
  have hl1 : lateErr xs d = curveErr xs := by unfold lateErr; rw [if_pos hc0]
  have hu1 : upErr xs u = curveErr xs := by unfold upErr; rw [if_pos hc0]
  obtain ⟨er, he⟩ : ∃ er, curveErr xs = er := ⟨_, rfl⟩
  rw [he] at hc0 hl1 hu1
  have HC := Lib.hid he; have HLE := Lib.hid hl1; have HUE := Lib.hid hu1; clear he hl1 hu1
  have hbf := bne_false_of hc0
  have hm := h.2.1
  go_enter Try.func10, Try.ntmps10
  go_wp2_with fail
  refine (point_Late_bad h HLE.out hc0).mono ?_; rintro e w' ⟨rfl, rfl⟩
  go_wp2_with fail
  refine (point_Up_bad h HUE.out hc0).mono ?_; rintro e w' ⟨rfl, rfl⟩
  go_wp2_with fail
  refine (ref_Curve h HC.out).mono ?_; rintro e w' ⟨rfl, rfl⟩
  go_wp2_with fail
  refine (ref_Curve h HC.out).mono ?_; rintro e w' ⟨rfl, rfl⟩
  go_wp2
  go_loop [13, 14, 51] (fun v l i => ∃ k : Nat, k ≤ n ∧ i = .int .i64 k ∧ v = .slice none 0 0 ∧ l = .slice none 0 0) (fun _ _ i => n - (intOf i).toNat)
  case atStart => exact ⟨0, by omega, rfl, rfl, rfl⟩
  case round =>
    obtain ⟨k, hk, rfl, rfl, rfl⟩ := hrel
    by_cases hkn : k < n
    · go_wp2
      go_round
      case rel => exact ⟨k + 1, by omega, by go_num, rfl, rfl⟩
      case measure => simp [intOf]; omega
    · obtain rfl : n = k := by omega
      go_wp2_with fail
      refine (told_yes (SI.nil0 _) (SI.nil0 _) (FitOf.wrong _ hc0)).mono ?_; rintro e w7 ⟨rfl, hb7⟩
      go_wp2_with fail
      refine (told_yes (SI.nil0 _) (SI.nil0 _) (FitOf.wrong _ hc0)).mono ?_; rintro e w9 ⟨rfl, hb9⟩
      go_wp2
      go_ret
      exact ⟨rfl, hb7.trans (hb9.mono hb7.size)⟩

theorem pointMoves_walk {w : World} {p : Option Addr} {n c : Nat} {xs : List Int} {d u : Int} (h : SI w p n c xs) (_hd : -9223372036854775808 ≤ d ∧ d ≤ 9223372036854775807) (_hu : -9223372036854775808 ≤ u ∧ u ≤ 9223372036854775807) :
    Calls Try.prog 10 #[.slice p n c, .int .i64 d, .int .i64 u] w fun e w' => e = .returned (.bool true) ∧ Below w.heap.size w w' := by
  by_cases hc : curveErr xs = 0
  · by_cases hd : d < 0
    · by_cases hu : u < 0 ∨ 1000000 < u
      · exact pointMoves_nn hd hu h hc
      · exact pointMoves_ny hd (by omega) (by omega) h hc
    · obtain ⟨D, rfl⟩ := Int.eq_ofNat_of_zero_le (show 0 ≤ d by omega)
      by_cases hu : u < 0 ∨ 1000000 < u
      · exact pointMoves_yn hu h hc
      · exact pointMoves_yy (by omega) (by omega) h hc
  · exact pointMoves_wrong h hc
end Go.Proofs.Ytclbcbeakefhmaa
