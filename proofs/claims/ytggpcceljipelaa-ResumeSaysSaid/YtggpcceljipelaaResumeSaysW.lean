/- The walk of headlaw.ResumeSays: it returns true and changes nothing that was there. No conditions. -/
import Derived.Test.YtggpcceljipelaaResume
import Derived.Test.YtggpcceljipelaaEqual
namespace Go.Proofs.Ytggpcceljipelaa
open Go Go.RowKit

set_option maxRecDepth 100000 in
set_option maxHeartbeats 1600000 in
theorem resumeSays_arg {w : World} {s u r : Int} {p : Option Addr} {n c : Nat} {k : Int} (h : ¬ okRes s u r) :
    Calls Try.prog 10 #[.int .i64 s, .int .i64 u, .int .i64 r, .slice p n c, .int .i64 k] w fun e w' => e = .returned (.bool true) ∧ Below w.heap.size w w' := by
  have HK := Lib.hid h
  rcases not_res h with h1 | ⟨h1, h2⟩ | ⟨h1, h2, h3⟩ | ⟨h1, h2, h3, h4⟩ | ⟨h1, h2, h3, h4, h5⟩ | ⟨h1, h2, h3, h4, h5, h6⟩
  all_goals
    clear h
    try have g8 : decide (r ≤ 10000) = false := by simp; omega
    go_enter Try.func10, Try.ntmps10
    go_wp2_with fail
    refine (resume_Run_bad HK.out).mono ?_; rintro e w' ⟨rfl, rfl⟩
    go_wp2_with fail
    refine (resume_Bound (nv := 0) (ev := 1) (.inl ⟨HK.out, rfl, rfl⟩)).mono ?_; rintro e w' ⟨rfl, rfl⟩
    go_wp2_with fail
    refine (slices_Equal (SI.nil0 _) (SI.nil0 _) (r := true) (by simp)).mono ?_; rintro e w1 ⟨rfl, hb1⟩
    go_wp2
    go_ret
    exact ⟨rfl, hb1⟩

/-- the second half, by cases: what Bound answers, and the facts that the walk wants -/
theorem bound_ways {s u r k : Int} (hk : okRes s u r) : (BoundOf s u r k 0 1 ∧ k < 0) ∨ (BoundOf s u r k 0 1 ∧ 0 ≤ k ∧ 200 < k) ∨ (BoundOf s u r k 0 0 ∧ 0 ≤ k ∧ k ≤ 200 ∧ s = 0) ∨ (BoundOf s u r k 0 5 ∧ 0 ≤ k ∧ k ≤ 200 ∧ 0 < s ∧ r = 0) ∨
    ∃ q, BoundOf s u r k q 0 ∧ 0 ≤ k ∧ k ≤ 200 ∧ 0 < s ∧ 0 < r ∧ (q - 1) * r < s + k * (u - 1) ∧ s + k * (u - 1) ≤ q * r ∧ 0 ≤ q ∧ q ≤ 201000000 := by
  by_cases h1 : k < 0
  · exact .inl ⟨.inr (.inl ⟨hk, .inl h1, rfl, rfl⟩), h1⟩
  · by_cases h2 : 200 < k
    · exact .inr (.inl ⟨.inr (.inl ⟨hk, .inr h2, rfl, rfl⟩), by omega, h2⟩)
    · obtain ⟨g1, g2, g3, g4, g5, g6⟩ := id hk
      by_cases h3 : s = 0
      · exact .inr (.inr (.inl ⟨.inr (.inr (.inl ⟨hk, by omega, by omega, h3, rfl, rfl⟩)), by omega, by omega, h3⟩))
      · by_cases h4 : r = 0
        · exact .inr (.inr (.inr (.inl ⟨.inr (.inr (.inr (.inl ⟨hk, by omega, by omega, by omega, h4, rfl, rfl⟩))), by omega, by omega, by omega, h4⟩)))
        · have hn := need_bd (c := k) g3 g4 (by omega) (by omega)
          have hu := up_le (a := s + k * (u - 1)) (b := r) (by omega)
          have hb := up_bd (a := s + k * (u - 1)) (b := r) (by omega) (by omega)
          exact .inr (.inr (.inr (.inr ⟨_, .inr (.inr (.inr (.inr ⟨hk, by omega, by omega, by omega, by omega, rfl, rfl⟩))), by omega, by omega, by omega, by omega, hu.1, hu.2, hb.1, by omega⟩)))

/-- the same, in one -/
theorem bound_two {s u r k : Int} (hk : okRes s u r) : ∃ nv ev, BoundOf s u r k nv ev ∧ (((k < 0 ∨ 200 < k) ∧ nv = 0 ∧ ev = 1) ∨ (0 ≤ k ∧ k ≤ 200 ∧ s = 0 ∧ nv = 0 ∧ ev = 0) ∨ (0 ≤ k ∧ k ≤ 200 ∧ 0 < s ∧ r = 0 ∧ nv = 0 ∧ ev = 5) ∨
    (0 ≤ k ∧ k ≤ 200 ∧ 0 < s ∧ 0 < r ∧ (nv - 1) * r < s + k * (u - 1) ∧ s + k * (u - 1) ≤ nv * r ∧ 0 ≤ nv ∧ nv ≤ 201000000 ∧ ev = 0)) := by
  rcases bound_ways (k := k) hk with ⟨hB, k1⟩ | ⟨hB, k1, k2⟩ | ⟨hB, k1, k2, k3⟩ | ⟨hB, k1, k2, k3, k4⟩ | ⟨q, hB, k1, k2, k3, k4, k5, k6, k7, k8⟩
  · exact ⟨_, _, hB, .inl ⟨.inl k1, rfl, rfl⟩⟩
  · exact ⟨_, _, hB, .inl ⟨.inr k2, rfl, rfl⟩⟩
  · exact ⟨_, _, hB, .inr (.inl ⟨k1, k2, k3, rfl, rfl⟩)⟩
  · exact ⟨_, _, hB, .inr (.inr (.inl ⟨k1, k2, k3, k4, rfl, rfl⟩))⟩
  · exact ⟨_, _, hB, .inr (.inr (.inr ⟨k1, k2, k3, k4, k5, k6, k7, by omega, rfl⟩))⟩

theorem mul_low {q r N : Int} (h : N ≤ q * r) (hr : 0 ≤ r) (hr2 : r ≤ 10000) (h0 : (q - 1) * r < N) (hN : N ≤ 201000000) (hN0 : 0 < N) : -10000 ≤ (q - 1) * r ∧ (q - 1) * r ≤ 201000000 ∧ 0 ≤ q * r ∧ q * r ≤ 201010000 := by
  rw [Int.sub_mul, Int.one_mul] at *
  omega

set_option maxRecDepth 100000 in
set_option maxHeartbeats 3200000 in
theorem resumeSays_large {w : World} {s u r : Int} {p : Option Addr} {n c : Nat} {k : Int} (hk : okRes s u r) (hn : 200 < n) (hm : n ≤ 9223372036854775807) :
    Calls Try.prog 10 #[.int .i64 s, .int .i64 u, .int .i64 r, .slice p n c, .int .i64 k] w fun e w' => e = .returned (.bool true) ∧ Below w.heap.size w w' := by
  have HK := Lib.hid hk
  have hb1 : decide ((200 : Int) < (n : Int)) = true := by simp; omega
  have g8 : decide (r ≤ 10000) = true := by simp; exact hk.2.2.2.2.2
  obtain ⟨h1, h2, h3, h4, h5, h6⟩ := id hk
  rcases bound_ways (k := k) hk with ⟨hB, k1⟩ | ⟨hB, k1, k2⟩ | ⟨hB, k1, k2, rfl⟩ | ⟨hB, k1, k2, k3, rfl⟩ | ⟨q, hB, k1, k2, k3, k4, k5, k6, k7, k8⟩
  all_goals
    have HB := Lib.hid hB
    clear hB hk
    try have hz : (s == 0) = false := by simp; omega
    try have hnd := need_bd h3 h4 k1 k2
    try have hz1 : ((s + k * (u - 1)) == 0) = false := by simp; omega
    try have hr0 : (r == 0) = false := by simp; omega
    try have hml := mul_low k6 h5 h6 k5 (by omega) (by omega)
    go_enter Try.func10, Try.ntmps10
    go_wp2_with fail
    refine (resume_Run_large HK.out hn hm).mono ?_; rintro e w' ⟨rfl, rfl⟩
    go_wp2_with fail
    refine (resume_Bound HB.out).mono ?_; rintro e w' ⟨rfl, rfl⟩
    go_wp2_with fail
    refine (slices_Equal (SI.nil0 _) (SI.nil0 _) (r := true) (by simp)).mono ?_; rintro e w1 ⟨rfl, hb1'⟩
    go_wp2
    go_ret
    exact ⟨rfl, hb1'⟩

set_option maxRecDepth 100000 in
set_option maxHeartbeats 6400000 in
theorem resumeSays_ok {w : World} {s u r : Int} {p : Option Addr} {n c : Nat} {cr : List Bool} {k : Int} (h : SB w p n c cr) (hk : okRes s u r) (hn : n ≤ 200) :
    Calls Try.prog 10 #[.int .i64 s, .int .i64 u, .int .i64 r, .slice p n c, .int .i64 k] w fun e w' => e = .returned (.bool true) ∧ Below w.heap.size w w' := by
  have HK := Lib.hid hk
  have hm := h.2.1
  have hb1 : decide ((200 : Int) < (n : Int)) = false := by simp; omega
  have g8 : decide (r ≤ 10000) = true := by simp; exact hk.2.2.2.2.2
  obtain ⟨h1, h2, h3, h4, h5, h6⟩ := id hk
  have hu0 : (u == 0) = false := by simp; omega
  obtain ⟨nv, ev, hB, hW⟩ := bound_two (k := k) hk
  have HB := Lib.hid hB
  have HBW := Lib.hid hW
  clear hB hk hW
  rcases (show k < 0 ∨ (0 ≤ k ∧ 200 < k) ∨ (0 ≤ k ∧ k ≤ 200) by omega) with k1 | ⟨k1, k2⟩ | ⟨k1, k2⟩
  all_goals
    go_enter Try.func10, Try.ntmps10
    go_wp2_with fail
    refine (resume_Run_ok h HK.out hn).mono ?_; rintro e w1 ⟨p1, n1, c1, L1, er1, rfl, ho1, hb1', rfl, rfl⟩
    have hn1 := ho1.len
    rw [tab_length] at hn1
    subst hn1
    have s1 := ho1.si
    have h1' := h.below hb1'
    clear ho1
    go_wp2_with fail
    refine (resume_Bound HB.out).mono ?_; rintro e w' ⟨rfl, rfl⟩
    go_wp2
    go_loopw [18, 19, 20, 85] (fun v a b i wr => ∃ (j : Nat) (wh pa : Int) (q : Option Addr) (d : Nat), j ≤ n ∧ i = .int .i64 j ∧ a = .int .i64 wh ∧ b = .int .i64 pa ∧ Hid (WP s u (gs s u r (gb cr) j) wh pa) ∧ v = .slice q j d ∧ OwnI wr w1.heap.size q j d (tab j fun k => gs s u r (gb cr) (k + 1)) ∧ Below w1.heap.size w1 wr) (fun _ _ _ i _ => n - (intOf i).toNat)
    case atStart => exact ⟨0, 0, 0, none, 0, Nat.zero_le _, rfl, rfl, rfl, Lib.hid ⟨by simp [gs], by omega, by omega, by omega, 0, by simp⟩, rfl, OwnI.nil _ _, Below.refl _ _⟩
    case round =>
      obtain ⟨j, wh, pa, qq, d, hj, rfl, rfl, rfl, HW, rfl, ho, hb⟩ := hrel
      have hsz := hb.size
      by_cases hjn : j < n
      · obtain ⟨b, off, rfl, hlt, hc⟩ := h1'.cells (by omega)
        have e1 : wr.cell? ⟨b, off + j, none⟩ = some (.bool (gb cr j)) := (bdeep hb hlt _).trans (hc _ hjn)
        have HST := Lib.hid (show gs s u r (gb cr) (j + 1) = gsStep s u r (gs s u r (gb cr) j) (gb cr j) from rfl)
        have HTT := Lib.hid (tab_succ j fun k => gs s u r (gb cr) (k + 1))
        obtain ⟨w1', w2', w3', w4', _⟩ := HW.out
        generalize hg : gs s u r (gb cr) j = g at *
        have HG := Lib.hid hg
        clear hc h h1' s1 hg
        have HSUM := Lib.hid (wp_sum (r := r) HW.out)
        have HGB := Lib.hid w1'
        clear w1'
        by_cases hlt' : s - wh < pa + r
        · have hp1 : part1 s r wh pa = s - wh := by unfold part1; omega
          have HKP := Lib.hid (wp_keep (c := gb cr j) HW.out h5 (by have := HSUM.out; rw [hp1] at this; omega))
          rw [hp1] at HKP
          have HSU2 : Hid (wh + (s - wh) = gsStep s u r g (gb cr j)) := Lib.hid HKP.out.1
          clear hp1
          cases hcr : gb cr j
          all_goals
            rw [hcr] at e1
            rw [hcr] at HKP HSU2 HST
            clear hcr
            by_cases hmod : (s - wh) % u = 0
            · have hm1 : ((s - wh) % u == 0) = true := by simp [hmod]
              have HWW := Lib.hid (wp_whole HKP.out hmod)
              clear hmod
              go_wp2_with (at_builtin; refine wpL_push_int Try.tyInts rfl rfl (B := w1.heap.size) (W0 := w1) (by first | rfl | simp [Act.eval]) (by first | rfl | simp [Act.eval]) ho hb (by omega) hsz ?_; intro p' c' w3 ho1 hb3 hg1 _)
              all_goals
                go_roundw
                case rel => exact ⟨j + 1, _, _, _, _, by omega, by go_num, rfl, rfl, (by rw [HST.out]; exact Lib.hid HWW.out), rfl, by rw [HTT.out, HST.out, ← HSU2.out]; exact ho1.cast (by first | rfl | (congr 2; omega)), hb3⟩
                case measure => simp [intOf]; omega
            · have hm1 : ((s - wh) % u == 0) = false := by simp [hmod]
              clear hmod
              go_wp2_with (at_builtin; refine wpL_push_int Try.tyInts rfl rfl (B := w1.heap.size) (W0 := w1) (by first | rfl | simp [Act.eval]) (by first | rfl | simp [Act.eval]) ho hb (by omega) hsz ?_; intro p' c' w3 ho1 hb3 hg1 _)
              all_goals
                go_roundw
                case rel => exact ⟨j + 1, _, _, _, _, by omega, by go_num, rfl, rfl, (by rw [HST.out]; exact Lib.hid HKP.out), rfl, by rw [HTT.out, HST.out, ← HSU2.out]; exact ho1.cast (by first | rfl | (congr 2; omega)), hb3⟩
                case measure => simp [intOf]; omega
        have hp1 : part1 s r wh pa = pa + r := by unfold part1; omega
        by_cases heq : wh + (pa + r) = s
        · have HKP := Lib.hid (wp_keep (c := gb cr j) HW.out h5 (by have := HSUM.out; rw [hp1] at this; omega))
          rw [hp1] at HKP
          have HSU2 : Hid (wh + (pa + r) = gsStep s u r g (gb cr j)) := Lib.hid HKP.out.1
          have hge : ¬ wh + (pa + r) < s := by omega
          clear hp1 heq
          cases hcr : gb cr j
          all_goals
            rw [hcr] at e1
            rw [hcr] at HKP HSU2 HST
            clear hcr
            by_cases hmod : (pa + r) % u = 0
            · have hm1 : ((pa + r) % u == 0) = true := by simp [hmod]
              have HWW := Lib.hid (wp_whole HKP.out hmod)
              clear hmod
              go_wp2_with (at_builtin; refine wpL_push_int Try.tyInts rfl rfl (B := w1.heap.size) (W0 := w1) (by first | rfl | simp [Act.eval]) (by first | rfl | simp [Act.eval]) ho hb (by omega) hsz ?_; intro p' c' w3 ho1 hb3 hg1 _)
              all_goals
                go_roundw
                case rel => exact ⟨j + 1, _, _, _, _, by omega, by go_num, rfl, rfl, (by rw [HST.out]; exact Lib.hid HWW.out), rfl, by rw [HTT.out, HST.out, ← HSU2.out]; exact ho1.cast (by first | rfl | (congr 2; omega)), hb3⟩
                case measure => simp [intOf]; omega
            · have hm1 : ((pa + r) % u == 0) = false := by simp [hmod]
              clear hmod
              go_wp2_with (at_builtin; refine wpL_push_int Try.tyInts rfl rfl (B := w1.heap.size) (W0 := w1) (by first | rfl | simp [Act.eval]) (by first | rfl | simp [Act.eval]) ho hb (by omega) hsz ?_; intro p' c' w3 ho1 hb3 hg1 _)
              all_goals
                go_roundw
                case rel => exact ⟨j + 1, _, _, _, _, by omega, by go_num, rfl, rfl, (by rw [HST.out]; exact Lib.hid HKP.out), rfl, by rw [HTT.out, HST.out, ← HSU2.out]; exact ho1.cast (by first | rfl | (congr 2; omega)), hb3⟩
                case measure => simp [intOf]; omega
        have hlt2 : wh + (pa + r) < s := by omega
        clear heq
        cases hcr : gb cr j
        · have HKP := Lib.hid (wp_keep (r := r) (c := false) HW.out h5 (by simp))
          rw [hp1] at HKP
          have HSU2 : Hid (wh + (pa + r) = gsStep s u r g false) := Lib.hid HKP.out.1
          rw [hcr] at e1 HST
          clear hcr hp1
          by_cases hmod : (pa + r) % u = 0
          · have hm1 : ((pa + r) % u == 0) = true := by simp [hmod]
            have HWW := Lib.hid (wp_whole HKP.out hmod)
            clear hmod
            go_wp2_with (at_builtin; refine wpL_push_int Try.tyInts rfl rfl (B := w1.heap.size) (W0 := w1) (by first | rfl | simp [Act.eval]) (by first | rfl | simp [Act.eval]) ho hb (by omega) hsz ?_; intro p' c' w3 ho1 hb3 hg1 _)
            all_goals
              go_roundw
              case rel => exact ⟨j + 1, _, _, _, _, by omega, by go_num, rfl, rfl, (by rw [HST.out]; exact Lib.hid HWW.out), rfl, by rw [HTT.out, HST.out, ← HSU2.out]; exact ho1.cast (by first | rfl | (congr 2; omega)), hb3⟩
              case measure => simp [intOf]; omega
          · have hm1 : ((pa + r) % u == 0) = false := by simp [hmod]
            clear hmod
            go_wp2_with (at_builtin; refine wpL_push_int Try.tyInts rfl rfl (B := w1.heap.size) (W0 := w1) (by first | rfl | simp [Act.eval]) (by first | rfl | simp [Act.eval]) ho hb (by omega) hsz ?_; intro p' c' w3 ho1 hb3 hg1 _)
            all_goals
              go_roundw
              case rel => exact ⟨j + 1, _, _, _, _, by omega, by go_num, rfl, rfl, (by rw [HST.out]; exact Lib.hid HKP.out), rfl, by rw [HTT.out, HST.out, ← HSU2.out]; exact ho1.cast (by first | rfl | (congr 2; omega)), hb3⟩
              case measure => simp [intOf]; omega
        · have HKP := Lib.hid (wp_crash (r := r) (c := true) HW.out h3 h5 ⟨rfl, by have := HSUM.out; rw [hp1] at this; omega⟩)
          rw [hp1] at HKP
          have HWW := Lib.hid (wp_whole HKP.out (Int.mul_emod_left _ _))
          have HSU2 : Hid (wh + (pa + r) / u * u = gsStep s u r g true) := Lib.hid HKP.out.1
          have z1 : ((pa + r) / u * u % u == 0) = true := by simp
          have z2 := HKP.out.2.1
          have z3 := HKP.out.2.2.2.1
          rw [hcr] at e1 HST
          clear hcr hp1
          go_wp2_with (at_builtin; refine wpL_push_int Try.tyInts rfl rfl (B := w1.heap.size) (W0 := w1) (by first | rfl | simp [Act.eval]) (by first | rfl | simp [Act.eval]) ho hb (by omega) hsz ?_; intro p' c' w3 ho1 hb3 hg1 _)
          all_goals
            go_roundw
            case rel => exact ⟨j + 1, _, _, _, _, by omega, by go_num, rfl, rfl, (by rw [HST.out]; exact Lib.hid HWW.out), rfl, by rw [HTT.out, HST.out, ← HSU2.out]; exact ho1.cast (by first | rfl | (congr 2; omega)), hb3⟩
            case measure => simp [intOf]; omega
      · obtain rfl : n = j := by omega
        have hb2 := hb1'.trans (hb.mono hb1'.size)
        rcases HBW.out with ⟨d1, rfl, rfl⟩ | ⟨d1, d2, d3, rfl, rfl⟩ | ⟨d1, d2, k3, d4, rfl, rfl⟩ | ⟨d1, d2, k3, k4, k5, k6, k7, k8, rfl⟩
        all_goals
          try (exfalso; omega)
        all_goals
          try have hz : (s == 0) = false := by simp; omega
          try have hz : (s == 0) = true := by simp; omega
          try have hz3 : ¬ 0 < s := by omega
          try have hnd := need_bd h3 h4 k1 k2
          try have hz1 : ((s + k * (u - 1)) == 0) = false := by simp; omega
          try have hr0 : (r == 0) = false := by simp; omega
          try have hr0 : (r == 0) = true := by simp; omega
          try have hml := mul_low k6 h5 h6 k5 (by omega) (by omega)
          try (have D3 := Lib.hid d3; clear d3)
          try (have D4 := Lib.hid d4; clear d4)
          go_wp2_with fail
          refine (slices_Equal (s1.below hb) ho.si (r := true) (by simp)).mono ?_; rintro e w4 ⟨rfl, hb34⟩
          have hb4 := hb2.trans (hb34.mono hb2.size)
          go_wp2
          go_ret
          exact ⟨rfl, hb4⟩

theorem resumeSays_walk {w : World} {s u r : Int} (_ : -9223372036854775808 ≤ s ∧ s ≤ 9223372036854775807) (_ : -9223372036854775808 ≤ u ∧ u ≤ 9223372036854775807) (_ : -9223372036854775808 ≤ r ∧ r ≤ 9223372036854775807) {p : Option Addr} {n c : Nat} {cr : List Bool} (h : SB w p n c cr) {k : Int} (_ : -9223372036854775808 ≤ k ∧ k ≤ 9223372036854775807) :
    Calls Try.prog 10 #[.int .i64 s, .int .i64 u, .int .i64 r, .slice p n c, .int .i64 k] w fun e w' => e = .returned (.bool true) ∧ Below w.heap.size w w' := by
  have hm := h.2.1
  by_cases hk : okRes s u r
  · by_cases hn : n ≤ 200
    · exact resumeSays_ok h hk hn
    · exact resumeSays_large hk (by omega) (by omega)
  · exact resumeSays_arg hk
end Go.Proofs.Ytggpcceljipelaa
