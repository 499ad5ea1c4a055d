/- The contracts of resume.Run and resume.Bound (P70, P71). No conditions beyond what each theorem says. -/
import Derived.Test.YtggpcceljipelaaWindow
import Derived.Test.YtggpcceljipelaaResumeLaw
namespace Go.Proofs.Ytggpcceljipelaa
open Go Go.RowKit

def okRes (s u r : Int) : Prop := 0 ≤ s ∧ s ≤ 1000000 ∧ 1 ≤ u ∧ u ≤ 1000000 ∧ 0 ≤ r ∧ r ≤ 10000
theorem not_res {s u r : Int} (h : ¬ okRes s u r) : s < 0 ∨ (0 ≤ s ∧ 1000000 < s) ∨ (0 ≤ s ∧ s ≤ 1000000 ∧ u < 1) ∨ (0 ≤ s ∧ s ≤ 1000000 ∧ 1 ≤ u ∧ 1000000 < u) ∨
    (0 ≤ s ∧ s ≤ 1000000 ∧ 1 ≤ u ∧ u ≤ 1000000 ∧ r < 0) ∨ (0 ≤ s ∧ s ≤ 1000000 ∧ 1 ≤ u ∧ u ≤ 1000000 ∧ 0 ≤ r ∧ 10000 < r) := by unfold okRes at h; omega

set_option maxHeartbeats 1000000 in
theorem resume_look_bad {w : World} {s u r : Int} (h : ¬ okRes s u r) :
    Calls Try.prog 78 #[.int .i64 s, .int .i64 u, .int .i64 r] w fun e w' => e = .returned (.int .i64 1) ∧ w = w' := by
  rcases not_res h with h1 | ⟨h1, h2⟩ | ⟨h1, h2, h3⟩ | ⟨h1, h2, h3, h4⟩ | ⟨h1, h2, h3, h4, h5⟩ | ⟨h1, h2, h3, h4, h5, h6⟩
  all_goals
    clear h
    go_enter Try.func78, Try.ntmps78
    go_wp2
    go_ret
    exact ⟨rfl, rfl⟩
set_option maxHeartbeats 400000 in
theorem resume_look_ok {w : World} {s u r : Int} (h : okRes s u r) :
    Calls Try.prog 78 #[.int .i64 s, .int .i64 u, .int .i64 r] w fun e w' => e = .returned (.int .i64 0) ∧ w = w' := by
  obtain ⟨h1, h2, h3, h4, h5, h6⟩ := h
  go_enter Try.func78, Try.ntmps78
  go_wp2
  go_ret
  exact ⟨rfl, rfl⟩

set_option maxHeartbeats 400000 in
theorem resume_Run_bad {w : World} {s u r : Int} {p : Option Addr} {n c : Nat} (h : ¬ okRes s u r) :
    Calls Try.prog 47 #[.int .i64 s, .int .i64 u, .int .i64 r, .slice p n c] w fun e w' => e = .returned (.tuple #[.slice none 0 0, .int .i64 1]) ∧ w = w' := by
  go_enter Try.func47, Try.ntmps47
  go_wp2_with fail
  refine (resume_look_bad h).mono ?_; rintro e w' ⟨rfl, rfl⟩
  go_wp2
  go_ret2
  exact ⟨rfl, rfl⟩
set_option maxHeartbeats 400000 in
theorem resume_Run_large {w : World} {s u r : Int} {p : Option Addr} {n c : Nat} (h : okRes s u r) (hn : 200 < n) (hm : n ≤ 9223372036854775807) :
    Calls Try.prog 47 #[.int .i64 s, .int .i64 u, .int .i64 r, .slice p n c] w fun e w' => e = .returned (.tuple #[.slice none 0 0, .int .i64 2]) ∧ w = w' := by
  have hb1 : decide ((200 : Int) < (n : Int)) = true := by simp; omega
  go_enter Try.func47, Try.ntmps47
  go_wp2_with fail
  refine (resume_look_ok h).mono ?_; rintro e w' ⟨rfl, rfl⟩
  go_wp2
  go_ret2
  exact ⟨rfl, rfl⟩

set_option maxHeartbeats 1600000 in
theorem resume_Run_ok {w : World} {s u r : Int} {p : Option Addr} {n c : Nat} {cr : List Bool} (h : SB w p n c cr) (hk : okRes s u r) (hn : n ≤ 200) :
    Calls Try.prog 47 #[.int .i64 s, .int .i64 u, .int .i64 r, .slice p n c] w (RetL w fun L er => er = 0 ∧ L = tab n fun k => gs s u r (gb cr) (k + 1)) := by
  have hm := h.2.1
  have HK := Lib.hid hk
  obtain ⟨h1, h2, h3, h4, h5, h6⟩ := hk
  have hb1 : decide ((200 : Int) < (n : Int)) = false := by simp; omega
  have hu0 : (u == 0) = false := by simp; omega
  go_enter Try.func47, Try.ntmps47
  go_wp2_with fail
  refine (resume_look_ok HK.out).mono ?_; rintro e w' ⟨rfl, rfl⟩
  go_wp2
  go_loopw [11, 12, 27] (fun v g i wr => ∃ (k : Nat) (q : Option Addr) (d : Nat), k ≤ n ∧ i = .int .i64 k ∧ g = .int .i64 (gs s u r (gb cr) k) ∧ v = .slice q k d ∧ OwnI wr w.heap.size q k d (tab k fun k => gs s u r (gb cr) (k + 1)) ∧ Below w.heap.size w wr) (fun _ _ i _ => n - (intOf i).toNat)
  case atStart => exact ⟨0, _, _, Nat.zero_le _, rfl, rfl, rfl, OwnI.nil _ _, Below.refl _ _⟩
  case round =>
    obtain ⟨k, q, d, hk, rfl, rfl, rfl, ho, hb⟩ := hrel
    have hsz := hb.size
    by_cases hkn : k < n
    · obtain ⟨b, off, rfl, hlt, hc⟩ := h.cells (by omega)
      have c1 : wr.cell? ⟨b, off + k, none⟩ = some (.bool (gb cr k)) := (bdeep hb hlt _).trans (hc _ hkn)
      have b1 := gs_bd (cr := gb cr) h1 h3 h5 k
      have HST := Lib.hid (show gs s u r (gb cr) (k + 1) = gsStep s u r (gs s u r (gb cr) k) (gb cr k) from rfl)
      have HTT := Lib.hid (tab_succ k fun k => gs s u r (gb cr) (k + 1))
      generalize gs s u r (gb cr) k = g at *
      clear hc h
      by_cases hfull : s ≤ g + r
      · have HN : Hid (gs s u r (gb cr) (k + 1) = s) := Lib.hid (by rw [HST.out]; unfold gsStep; rw [if_neg (by omega)]; omega)
        cases hcr : gb cr k
        all_goals
          rw [hcr] at c1
          clear hcr
          go_wp2_with (at_builtin; refine wpL_push_int Try.tyInts rfl rfl (B := w.heap.size) (W0 := w) (by first | rfl | simp [Act.eval]) (by first | rfl | simp [Act.eval]) ho hb (by omega) hsz ?_; intro p' c' w3 ho1 hb3 hg1 _)
          all_goals
            go_roundw
            case rel => exact ⟨k + 1, _, _, by omega, by go_num, by rw [HN.out]; try first | rfl | (congr 1; omega), rfl, by rw [HTT.out, HN.out]; exact ho1.cast (by first | rfl | (congr 2; omega)), hb3⟩
            case measure => simp [intOf]; omega
      · cases hcr : gb cr k
        · have HN : Hid (gs s u r (gb cr) (k + 1) = g + r) := Lib.hid (by rw [HST.out]; unfold gsStep; rw [hcr, if_neg (by simp)]; omega)
          rw [hcr] at c1
          clear hcr
          go_wp2_with (at_builtin; refine wpL_push_int Try.tyInts rfl rfl (B := w.heap.size) (W0 := w) (by first | rfl | simp [Act.eval]) (by first | rfl | simp [Act.eval]) ho hb (by omega) hsz ?_; intro p' c' w3 ho1 hb3 hg1 _)
          all_goals
            go_roundw
            case rel => exact ⟨k + 1, _, _, by omega, by go_num, by rw [HN.out]; try first | rfl | (congr 1; omega), rfl, by rw [HTT.out, HN.out]; exact ho1.cast (by first | rfl | (congr 2; omega)), hb3⟩
            case measure => simp [intOf]; omega
        · have HN : Hid (gs s u r (gb cr) (k + 1) = g + r - (g + r) % u) := Lib.hid (by rw [HST.out]; unfold gsStep; rw [hcr, show min s (g + r) = g + r by omega, if_pos ⟨rfl, by omega⟩])
          rw [hcr] at c1
          clear hcr
          have e0 := Int.emod_nonneg (g + r) (show u ≠ 0 by omega)
          have e1 := Int.emod_lt_of_pos (g + r) (show 0 < u by omega)
          have e2 : (g + r) % u ≤ g + r := emod_le (by omega) h3
          have e3 : 0 ≤ g + r := by omega
          go_wp2_with (at_builtin; refine wpL_push_int Try.tyInts rfl rfl (B := w.heap.size) (W0 := w) (by first | rfl | simp [Act.eval]) (by first | rfl | simp [Act.eval]) ho hb (by omega) hsz ?_; intro p' c' w3 ho1 hb3 hg1 _)
          all_goals
            go_roundw
            case rel => exact ⟨k + 1, _, _, by omega, by go_num, by rw [HN.out]; try first | rfl | (congr 1; omega), rfl, by rw [HTT.out, HN.out]; exact ho1.cast (by first | rfl | (congr 2; omega)), hb3⟩
            case measure => simp [intOf]; omega
    · obtain rfl : n = k := by omega
      go_wp2
      go_ret2
      exact ⟨_, _, _, _, _, rfl, ho, hb, rfl, rfl⟩

/-- what Bound answers -/
def BoundOf (s u r c nv ev : Int) : Prop :=
  (¬ okRes s u r ∧ nv = 0 ∧ ev = 1) ∨ (okRes s u r ∧ (c < 0 ∨ 200 < c) ∧ nv = 0 ∧ ev = 1) ∨ (okRes s u r ∧ 0 ≤ c ∧ c ≤ 200 ∧ s = 0 ∧ nv = 0 ∧ ev = 0) ∨
  (okRes s u r ∧ 0 ≤ c ∧ c ≤ 200 ∧ 0 < s ∧ r = 0 ∧ nv = 0 ∧ ev = 5) ∨ (okRes s u r ∧ 0 ≤ c ∧ c ≤ 200 ∧ 0 < s ∧ 0 < r ∧ nv = (s + c * (u - 1) + r - 1) / r ∧ ev = 0)
theorem need_bd {u c : Int} (h1 : 1 ≤ u) (h2 : u ≤ 1000000) (h3 : 0 ≤ c) (h4 : c ≤ 200) : 0 ≤ c * (u - 1) ∧ c * (u - 1) ≤ 200000000 := by
  refine ⟨Int.mul_nonneg h3 (by omega), ?_⟩
  have := Int.mul_le_mul h4 (show u - 1 ≤ 1000000 by omega) (by omega) (by omega)
  omega

set_option maxHeartbeats 1600000 in
theorem resume_Bound {w : World} {s u r c nv ev : Int} (h : BoundOf s u r c nv ev) :
    Calls Try.prog 48 #[.int .i64 s, .int .i64 u, .int .i64 r, .int .i64 c] w fun e w' => e = .returned (.tuple #[.int .i64 nv, .int .i64 ev]) ∧ w = w' := by
  rcases h with ⟨hk, rfl, rfl⟩ | ⟨hk, hc, rfl, rfl⟩ | ⟨hk, c0, c1, rfl, rfl, rfl⟩ | ⟨hk, c0, c1, hs, rfl, rfl, rfl⟩ | ⟨hk, c0, c1, hs, hr, rfl, rfl⟩
  · go_enter Try.func48, Try.ntmps48
    go_wp2_with fail
    refine (resume_look_bad hk).mono ?_; rintro e w' ⟨rfl, rfl⟩
    go_wp2
    go_ret2
    exact ⟨rfl, rfl⟩
  · rcases (show c < 0 ∨ (0 ≤ c ∧ 200 < c) by omega) with d1 | ⟨d1, d2⟩
    all_goals
      clear hc
      go_enter Try.func48, Try.ntmps48
      go_wp2_with fail
      refine (resume_look_ok hk).mono ?_; rintro e w' ⟨rfl, rfl⟩
      go_wp2
      go_ret2
      exact ⟨rfl, rfl⟩
  · go_enter Try.func48, Try.ntmps48
    go_wp2_with fail
    refine (resume_look_ok hk).mono ?_; rintro e w' ⟨rfl, rfl⟩
    go_wp2
    go_ret2
    exact ⟨rfl, rfl⟩
  · have HK := Lib.hid hk
    obtain ⟨h1, h2, h3, h4, h5, h6⟩ := hk
    have hn := need_bd h3 h4 c0 c1
    have hz : ((s + c * (u - 1)) == 0) = false := by simp; omega
    go_enter Try.func48, Try.ntmps48
    go_wp2_with fail
    refine (resume_look_ok HK.out).mono ?_; rintro e w' ⟨rfl, rfl⟩
    go_wp2
    go_ret2
    exact ⟨rfl, rfl⟩
  · have HK := Lib.hid hk
    obtain ⟨h1, h2, h3, h4, h5, h6⟩ := hk
    have hn := need_bd h3 h4 c0 c1
    have hz : ((s + c * (u - 1)) == 0) = false := by simp; omega
    have hr0 : (r == 0) = false := by simp; omega
    have hp : 0 ≤ s + c * (u - 1) + r - 1 := by omega
    go_enter Try.func48, Try.ntmps48
    go_wp2_with fail
    refine (resume_look_ok HK.out).mono ?_; rintro e w' ⟨rfl, rfl⟩
    go_wp2
    go_ret2
    exact ⟨rfl, rfl⟩
end Go.Proofs.Ytggpcceljipelaa
