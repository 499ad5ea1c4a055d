/- The contracts of turns.Check and headref.Flows (P38). No conditions. -/
import Derived.Test.YtggpcceljipelaaTurnsLaw
import Derived.Test.YtggpcceljipelaaOpenF
import Derived.Test.YtggpcceljipelaaIndexFunc
namespace Go.Proofs.Ytggpcceljipelaa
open Go Go.RowKit
set_option linter.unusedVariables false
set_option linter.unusedSimpArgs false

def badSz (x : Int) : Bool := decide (x < 1 ∨ 1000 < x)
/-- P38, of one flow -/
noncomputable def okFl (q : Int) (xs : List Int) : Int := if q < 1 ∨ 1000 < q then 1 else if 60 < xs.length then 2 else if ∃ i, i < xs.length ∧ badSz (gi xs i) = true then 1 else 0
noncomputable def flScan (Q : Nat → Int) (F : Nat → Sl) : Nat → Int
  | 0 => 0
  | k + 1 => if flScan Q F k = 0 then okFl (Q k) (F k).2.2.2 else flScan Q F k
noncomputable def flowsErr (n : Nat) (Q : Nat → Int) (F : Nat → Sl) : Int := if 8 < n then 2 else flScan Q F n
theorem flScan_stop {Q : Nat → Int} {F : Nat → Sl} {k e : _} (h0 : flScan Q F k = 0) (h : okFl (Q k) (F k).2.2.2 = e) (he : e ≠ 0) : ∀ {n : Nat}, k < n → flScan Q F n = e
  | 0, hk => by omega
  | n + 1, hk => by
    rcases Nat.lt_succ_iff_lt_or_eq.1 hk with h1 | rfl
    · have := flScan_stop h0 h he h1
      rw [flScan, this, if_neg he]
    · rw [flScan, if_pos h0, h]
theorem flScan_ok {Q : Nat → Int} {F : Nat → Sl} : ∀ {n : Nat}, flScan Q F n = 0 → ∀ k, k < n → okFl (Q k) (F k).2.2.2 = 0
  | 0, _, k, hk => by omega
  | n + 1, h, k, hk => by
    rw [flScan] at h
    by_cases h1 : flScan Q F n = 0
    · rw [if_pos h1] at h
      rcases Nat.lt_succ_iff_lt_or_eq.1 hk with h2 | rfl
      · exact flScan_ok h1 k h2
      · exact h
    · rw [if_neg h1] at h; exact absurd h h1
theorem okFl_zero {q : Int} {xs : List Int} (h : okFl q xs = 0) : (1 ≤ q ∧ q ≤ 1000) ∧ OkSz xs := by
  unfold okFl at h
  split at h
  · cases h
  · split at h
    · cases h
    · split at h
      · cases h
      · rename_i h1 h2 h3
        refine ⟨by omega, by omega, fun i hi => ?_⟩
        have : ¬ badSz (gi xs i) = true := fun h => h3 ⟨i, hi, h⟩
        unfold badSz at this
        simp at this
        omega
theorem flows_ok {n : Nat} {Q : Nat → Int} {F : Nat → Sl} (h : flowsErr n Q F = 0) : n ≤ 8 ∧ ∀ k, k < n → (1 ≤ Q k ∧ Q k ≤ 1000) ∧ OkSz (F k).2.2.2 := by
  unfold flowsErr at h
  split at h
  · cases h
  · exact ⟨by omega, fun k hk => okFl_zero (flScan_ok h k hk)⟩

set_option maxHeartbeats 1600000 in
theorem turns_Check {w : World} {p : Option Addr} {n c : Nat} {Q : Nat → Int} {F : Nat → Sl} (h : SF w p n c Q F) {er : Int} (he : flowsErr n Q F = er) :
    Calls Try.prog 65 #[.slice p n c] w fun e w' => e = .returned (.int .i64 er) ∧ Below w.heap.size w w' := by
  have hm := h.cap
  have HE := Lib.hid he
  clear he
  by_cases h8 : 8 < n
  · obtain rfl : er = 2 := by rw [← HE.out]; unfold flowsErr; rw [if_pos h8]
    go_enter Try.func65, Try.ntmps65
    go_wp2
    go_ret
    exact ⟨rfl, Below.refl _ _⟩
  · have HS : Hid (flScan Q F n = er) := Lib.hid (by have := HE.out; unfold flowsErr at this; rwa [if_neg h8] at this)
    go_enter Try.func65, Try.ntmps65
    go_wp2
    go_loopw [12] (fun iv wr => ∃ k : Nat, k ≤ n ∧ iv = .int .i64 k ∧ Hid (flScan Q F k = 0) ∧ Below w.heap.size w wr) (fun iv _ => n - (intOf iv).toNat)
    case atStart => exact ⟨0, Nat.zero_le _, rfl, Lib.hid rfl, Below.refl _ _⟩
    case round =>
      obtain ⟨k, hk, rfl, HK, hb⟩ := hrel
      have hsz := hb.size
      by_cases hkn : k < n
      · obtain ⟨b, off, rfl, hlt, hc⟩ := (h.below hb).cells (by omega)
        obtain ⟨c0, c1⟩ := hc k hkn
        have hsi := (h.below hb).si k hkn
        obtain ⟨⟨pa, la, ca, xs⟩, hF⟩ : ∃ f, F k = f := ⟨_, rfl⟩
        have HST := Lib.hid (fun (e : Int) (h : okFl (Q k) xs = e) (he : e ≠ 0) => (show e = er by rw [← HS.out]; exact (flScan_stop HK.out (by rw [hF]; exact h) he hkn).symm))
        have HNX := Lib.hid (fun (h : okFl (Q k) xs = 0) => show flScan Q F (k + 1) = 0 by rw [flScan, if_pos HK.out, hF]; exact h)
        rw [hF] at c1 hsi
        simp only at c1 hsi
        have hmx := hsi.2.1
        have hxl := Lib.hid hsi.len
        obtain ⟨q, hq⟩ : ∃ q, Q k = q := ⟨_, rfl⟩
        rw [hq] at c0 HST HNX
        have hbA := hb.alloc hsz (.cells #[.int .i64 q, .slice pa la ca] 103)
        have hsA := hsi.below ((Below.refl _ wr).alloc (Nat.le_refl _) (.cells #[.int .i64 q, .slice pa la ca] 103))
        clear hc hF hq hsi
        by_cases hq1 : q < 1 ∨ 1000 < q
        · obtain rfl : er = 1 := (HST.out 1 (by unfold okFl; rw [if_pos hq1]) (by omega)).symm
          rcases (show q < 1 ∨ (1 ≤ q ∧ 1000 < q) by omega) with g1 | ⟨g1, g2⟩
          all_goals
            clear hq1
            go_wp2
            go_ret
            exact ⟨rfl, hbA⟩
        · have g1 : 1 ≤ q ∧ q ≤ 1000 := by omega
          by_cases hl : 60 < la
          · obtain rfl : er = 2 := (HST.out 2 (by unfold okFl; rw [if_neg hq1, if_pos (by rw [hxl.out]; exact hl)]) (by omega)).symm
            clear hq1
            go_wp2
            go_ret
            exact ⟨rfl, hbA⟩
          · have HOK := Lib.hid (show okFl q xs = if ∃ i, i < xs.length ∧ badSz (gi xs i) = true then 1 else 0 by unfold okFl; rw [if_neg hq1, if_neg (by rw [hxl.out]; exact hl)])
            clear hq1
            go_wp2
            go_loopw [31] (fun iv wv => ∃ i : Nat, i ≤ la ∧ iv = .int .i64 i ∧ Hid (∀ j, j < i → badSz (gi xs j) = false) ∧ wv = wr.alloc (.cells #[.int .i64 q, .slice pa la ca] 103)) (fun iv _ => la - (intOf iv).toNat)
            case atStart => exact ⟨0, Nat.zero_le _, rfl, Lib.hid (fun j hj => by omega), rfl⟩
            case round =>
              obtain ⟨i, hi, rfl, HJ, rfl⟩ := hrel
              by_cases hil : i < la
              · obtain ⟨xb, xo, rfl, hxlt, hxc⟩ := hsA.cells (by omega)
                have x0 := hxc i hil
                obtain ⟨v, hv⟩ : ∃ v, gi xs i = v := ⟨_, rfl⟩
                rw [hv] at x0
                have HV := Lib.hid hv
                clear hxc hv
                by_cases hbad : v < 1 ∨ 1000 < v
                · obtain rfl : er = 1 := (HST.out 1 (by rw [HOK.out, if_pos ⟨i, by rw [hxl.out]; exact hil, by rw [HV.out]; unfold badSz; exact decide_eq_true hbad⟩]) (by omega)).symm
                  rcases (show v < 1 ∨ (1 ≤ v ∧ 1000 < v) by omega) with g1 | ⟨g1, g2⟩
                  all_goals
                    clear hbad
                    go_wp2
                    go_ret
                    exact ⟨rfl, hbA⟩
                · have g2 : 1 ≤ v ∧ v ≤ 1000 := by omega
                  have HB := Lib.hid (show badSz (gi xs i) = false by rw [HV.out]; unfold badSz; exact decide_eq_false hbad)
                  clear hbad
                  go_wp2
                  go_roundw
                  case rel => exact ⟨i + 1, by omega, by go_num, Lib.hid (fun j hj => by rcases Nat.lt_succ_iff_lt_or_eq.1 hj with h | rfl; exact HJ.out j h; exact HB.out), trivial⟩
                  case measure => simp [intOf]; omega
              · obtain rfl : la = i := by omega
                have HN := Lib.hid (HNX.out (by rw [HOK.out, if_neg]; rintro ⟨j, hj, hj2⟩; rw [hxl.out] at hj; rw [HJ.out j hj] at hj2; cases hj2))
                go_wp2
                go_roundw
                case rel => exact ⟨k + 1, by omega, by go_num, HN, hbA⟩
                case measure => simp [intOf]; omega
      · obtain rfl : n = k := by omega
        obtain rfl : er = 0 := by rw [← HS.out]; exact HK.out
        go_wp2
        go_ret
        exact ⟨rfl, hb⟩
end Go.Proofs.Ytggpcceljipelaa
