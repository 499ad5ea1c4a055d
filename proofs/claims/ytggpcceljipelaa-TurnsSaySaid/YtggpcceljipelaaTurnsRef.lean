/- The contracts of headref.Flows and headref.Count (P38, P39). No conditions beyond what each theorem says. -/
import Derived.Test.YtggpcceljipelaaTurnsCheck
import Derived.Deep.QuietTactic
import Derived.BigQuiet
import Derived.IntWalk
namespace Go.Proofs.Ytggpcceljipelaa
open Go Go.RowKit
set_option linter.unusedVariables false
set_option linter.unusedSimpArgs false

theorem within_f {w : World} {x : Int} {r : Bool} (h : decide (1 ≤ x ∧ x ≤ 1000) = r) :
    Calls Try.prog 69 #[.int .i64 x, .int .i64 1, .int .i64 1000] w fun e w' => e = .returned (.bool r) ∧ w = w' := by
  by_cases h1 : 1 ≤ x
  · by_cases h2 : x ≤ 1000
    · obtain rfl : r = true := by rw [← h]; simp; omega
      have q1 : decide (1 ≤ x) = true := by simp; omega
      have q2 : decide (x ≤ 1000) = true := by simp; omega
      go_enter Try.func69, Try.ntmps69
      go_wp2
      go_ret
      exact ⟨rfl, rfl⟩
    · obtain rfl : r = false := by rw [← h]; simp; omega
      have q1 : decide (1 ≤ x) = true := by simp; omega
      have q2 : decide (x ≤ 1000) = false := by simp; omega
      go_enter Try.func69, Try.ntmps69
      go_wp2
      go_ret
      exact ⟨rfl, rfl⟩
  · obtain rfl : r = false := by rw [← h]; simp; omega
    have q1 : decide (1 ≤ x) = false := by simp; omega
    go_enter Try.func69, Try.ntmps69
    go_wp2
    go_ret
    exact ⟨rfl, rfl⟩
theorem flows_bad {w : World} {x : Int} : Calls Try.prog 84 #[.int .i64 x] w fun e w' => e = .returned (.bool (badSz x)) ∧ w = w' := by
  have h : decide (1 ≤ x ∧ x ≤ 1000) = !badSz x := by
    unfold badSz
    by_cases h1 : x < 1 ∨ 1000 < x
    · rw [decide_eq_true h1, decide_eq_false (by omega)]; rfl
    · rw [decide_eq_false h1, decide_eq_true (by omega)]; rfl
  generalize badSz x = bb at *
  have HC := Lib.hid (within_f (w := w) h)
  clear h
  cases bb
  all_goals
    go_enter Try.func84, Try.ntmps84
    go_wp2_with fail
    refine HC.out.mono ?_; rintro e w' ⟨rfl, rfl⟩
    go_wp2
    go_ret
    exact ⟨rfl, rfl⟩

set_option maxHeartbeats 1600000 in
theorem ref_Flows {w : World} {p : Option Addr} {n c : Nat} {Q : Nat → Int} {F : Nat → Sl} (h : SF w p n c Q F) {er : Int} (he : flowsErr n Q F = er) :
    Calls Try.prog 64 #[.slice p n c] w fun e w' => e = .returned (.int .i64 er) ∧ Below w.heap.size w w' := by
  have hm := h.cap
  have HE := Lib.hid he
  clear he
  by_cases h8 : 8 < n
  · obtain rfl : er = 2 := by rw [← HE.out]; unfold flowsErr; rw [if_pos h8]
    go_enter Try.func64, Try.ntmps64
    go_wp2
    go_ret
    exact ⟨rfl, Below.refl _ _⟩
  · have HS : Hid (flScan Q F n = er) := Lib.hid (by have := HE.out; unfold flowsErr at this; rwa [if_neg h8] at this)
    go_enter Try.func64, Try.ntmps64
    go_wp2
    go_loopw [10] (fun iv wr => ∃ k : Nat, k ≤ n ∧ iv = .int .i64 k ∧ Hid (flScan Q F k = 0) ∧ Below w.heap.size w wr) (fun iv _ => n - (intOf iv).toNat)
    case atStart => exact ⟨0, Nat.zero_le _, rfl, Lib.hid rfl, Below.refl _ _⟩
    case round =>
      obtain ⟨k, hk, rfl, HK, hb⟩ := hrel
      have hsz := hb.size
      by_cases hkn : k < n
      · obtain ⟨b, off, rfl, hlt, hc⟩ := (h.below hb).cells (by omega)
        obtain ⟨c0, c1⟩ := hc k hkn
        have hsi := (h.below hb).si k hkn
        obtain ⟨⟨pa, la, ca, xs⟩, hF⟩ : ∃ f, F k = f := ⟨_, rfl⟩
        have HST := Lib.hid (fun (e : Int) (h : okFl (Q k) xs = e) (he : e ≠ 0) => (show e = er by rw [← HS.out]; exact (flScan_stop HK.out (by rw [hF]; exact h) he hkn).symm))
        have HNX := Lib.hid (fun (h : okFl (Q k) xs = 0) => show flScan Q F (k + 1) = 0 by rw [flScan, if_pos HK.out, hF]; exact h)
        rw [hF] at c1 hsi
        simp only at c1 hsi
        have hmx := hsi.2.1
        have hxl := Lib.hid hsi.len
        obtain ⟨q, hq⟩ : ∃ q, Q k = q := ⟨_, rfl⟩
        rw [hq] at c0 HST HNX
        have hbA := hb.alloc hsz (.cells #[.int .i64 q, .slice pa la ca] 103)
        have hsA := hsi.below ((Below.refl _ wr).alloc (Nat.le_refl _) (.cells #[.int .i64 q, .slice pa la ca] 103))
        have HBX := Lib.hid (blk_new wr #[.int .i64 q, .slice pa la ca] 103)
        clear hc hF hq hsi
        by_cases hq1 : q < 1 ∨ 1000 < q
        · obtain rfl : er = 1 := (HST.out 1 (by unfold okFl; rw [if_pos hq1]) (by omega)).symm
          have HW := Lib.hid (fun w => within_f (w := w) (show decide (1 ≤ q ∧ q ≤ 1000) = false from decide_eq_false (by omega)))
          clear hq1
          go_wp2_with fail
          refine (HW.out _).mono ?_; rintro e w' ⟨rfl, rfl⟩
          go_wp2
          go_ret
          exact ⟨rfl, hbA⟩
        · have g1 : 1 ≤ q ∧ q ≤ 1000 := by omega
          have HW := Lib.hid (fun w => within_f (w := w) (show decide (1 ≤ q ∧ q ≤ 1000) = true from decide_eq_true g1))
          by_cases hl : 60 < la
          · obtain rfl : er = 2 := (HST.out 2 (by unfold okFl; rw [if_neg hq1, if_pos (by rw [hxl.out]; exact hl)]) (by omega)).symm
            clear hq1
            go_wp2_with fail
            refine (HW.out _).mono ?_; rintro e w' ⟨rfl, rfl⟩
            go_wp2
            go_ret
            exact ⟨rfl, hbA⟩
          · have HOK := Lib.hid (show okFl q xs = if ∃ i, i < xs.length ∧ badSz (gi xs i) = true then 1 else 0 by unfold okFl; rw [if_neg hq1, if_neg (by rw [hxl.out]; exact hl)])
            obtain ⟨i, hi⟩ := firstP_exists (fun i => badSz (gi xs i)) la
            obtain ⟨bd, hbd⟩ : ∃ bd, decide (i < la) = bd := ⟨_, rfl⟩
            have HC := Lib.hid (slices_ContainsFunc hsA hi (F := 84) (cap := #[]) (fun args w => by simp [callFunc, Try.func84, Try.f84, go_sem]) (fun w' k hk hb => (flows_bad).mono (fun e w'' h => ⟨h.1, by rw [← h.2]; exact hb⟩)))
            rw [hbd] at HC
            have HI := Lib.hid hi
            have HBD := Lib.hid hbd
            clear hq1 hi hbd
            cases bd with
            | true =>
              have hin : i < la := of_decide_eq_true HBD.out
              obtain rfl : er = 1 := (HST.out 1 (by rw [HOK.out, if_pos ⟨i, by rw [hxl.out]; exact hin, HI.out.2.2 hin⟩]) (by omega)).symm
              go_wp2_with fail
              refine (HW.out _).mono ?_; rintro e w' ⟨rfl, rfl⟩
              go_wp2_with fail
              refine HC.out.mono ?_; rintro e w1 ⟨rfl, b1⟩
              have hb1 := hbA.trans (b1.mono hbA.size)
              go_wp2
              go_ret
              exact ⟨rfl, hb1⟩
            | false =>
              have hin : ¬ i < la := of_decide_eq_false HBD.out
              have HN := Lib.hid (HNX.out (by
                rw [HOK.out, if_neg]
                rintro ⟨j, hj, hj2⟩
                rw [hxl.out] at hj
                have := HI.out.2.1 j (by omega)
                simp only at this
                rw [this] at hj2; cases hj2))
              go_wp2_with fail
              refine (HW.out _).mono ?_; rintro e w' ⟨rfl, rfl⟩
              go_wp2_with fail
              refine HC.out.mono ?_; rintro e w1 ⟨rfl, b1⟩
              have hb1 := hbA.trans (b1.mono hbA.size)
              go_wp2
              go_roundw
              case rel => exact ⟨k + 1, by omega, by go_num, HN, hb1⟩
              case measure => simp [intOf]; omega
      · obtain rfl : n = k := by omega
        obtain rfl : er = 0 := by rw [← HS.out]; exact HK.out
        go_wp2
        go_ret
        exact ⟨rfl, hb⟩

set_option maxHeartbeats 1600000 in
theorem ref_Count {w : World} {q b : Int} {p : Option Addr} {n c r m : Nat} {xs : List Int} (h : SI w p n c xs) (hok : OkSz xs) (hq : 1 ≤ q ∧ q ≤ 1000) (hr : r ≤ 1000000) (hb : (r : Int) * q = b) (hm : IsC b xs m) :
    Calls Try.prog 68 #[.agg #[.int .i64 q, .slice p n c], .int .i64 (r : Int)] w fun e w' => e = .returned (.int .i64 (m : Int)) ∧ Below w.heap.size w w' := by
  have hmx := h.2.1
  have hl := h.len
  have h60 := hok.1
  rw [hl] at h60
  have hb0 : 0 ≤ b := by rw [← hb]; exact Int.mul_nonneg (by omega) (by omega)
  have hb1 : b ≤ 1000000 * 1000 := by rw [← hb]; exact Int.mul_le_mul (by omega) (by omega) (by omega) (by omega)
  have hwr : IntKind.i64.wrap ((r : Int) * q) = b := by rw [hb]; exact IntWalk.i64_in _ (by omega)
  have HB := Lib.hid hb; have HM := Lib.hid hm; have HL := Lib.hid hl; have HOK := Lib.hid hok
  have hbA := (Below.refl w.heap.size w).alloc (Nat.le_refl _) (.cells #[.int .i64 q, .slice p n c] 103)
  have hsA := h.below hbA
  have HBX := Lib.hid (blk_new w #[.int .i64 q, .slice p n c] 103)
  clear hb hm hl hok h
  go_enter Try.func68, Try.ntmps68
  go_wp2
  generalize w.alloc (.cells #[.int .i64 q, .slice p n c] 103) = W at *
  have x0 : W.cell? ⟨w.heap.size, 0, none⟩ = some (.int .i64 q) := blk_cell HBX.out 0
  have x1 : W.cell? ⟨w.heap.size, 1, none⟩ = some (.slice p n c) := blk_cell HBX.out 1
  go_loopw [5, 6] (fun sv iv wr => ∃ k : Nat, k ≤ n ∧ iv = .int .i64 k ∧ sv = .int .i64 (pre xs k) ∧ Hid (pre xs k ≤ b) ∧ ∃ s, wr = W.drewN s) (fun _ iv _ => n - (intOf iv).toNat)
  case atStart => exact ⟨0, Nat.zero_le _, rfl, rfl, Lib.hid hb0, 0, rfl⟩
  case round =>
    obtain ⟨k, hk, rfl, rfl, HK, s, rfl⟩ := hrel
    have hp := pre_bound HOK.out (n := k) (by rw [HL.out]; exact hk)
    by_cases hkn : k < n
    · obtain ⟨xb, xo, rfl, hlt, hc⟩ := hsA.cells (by omega)
      have y0 := hc k hkn
      have hz := HOK.out.2 k (by rw [HL.out]; exact hkn)
      have HP1 : Hid (pre xs (k + 1) = pre xs k + gi xs k) := Lib.hid rfl
      have HD := Lib.hid (fun (h : ¬ pre xs (k + 1) ≤ b) => isC_one HOK.out (show IsC b xs k from ⟨by rw [HL.out]; omega, HK.out, fun _ => by omega⟩) HM.out)
      clear hc
      obtain ⟨pk, hpk⟩ : ∃ pk, pre xs k = pk := ⟨_, rfl⟩
      rw [hpk] at HP1 hp HK ⊢
      generalize gi xs k = v at *
      have HPK := Lib.hid hpk
      clear hpk
      by_cases hle : pk + v ≤ b
      · go_wp2
        go_quiet (fail)
        go_wp2
        go_roundw
        case rel => exact ⟨k + 1, by omega, by go_num, by rw [HP1.out], Lib.hid (by rw [HP1.out]; exact hle), ⟨_, rfl⟩⟩
        case measure => simp [intOf]; omega
      · obtain rfl : k = m := HD.out (by rw [HP1.out]; exact hle)
        go_wp2
        go_quiet (fail)
        go_wp2
        go_ret
        exact ⟨rfl, below_drewN (below_drewN hbA _) _⟩
    · obtain rfl : n = k := by omega
      obtain rfl : n = m := isC_one HOK.out (show IsC b xs n from ⟨by rw [HL.out]; omega, HK.out, fun h => by rw [HL.out] at h; omega⟩) HM.out
      go_wp2
      go_quiet (fail)
      go_wp2
      go_ret
      exact ⟨rfl, below_drewN (below_drewN hbA _) _⟩
end Go.Proofs.Ytggpcceljipelaa
