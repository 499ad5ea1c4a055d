/- The contracts of headref.Dec, headref.Numbers: numbers as texts. Conditions: the numbers are bounded. -/
import Derived.Test.YtgbccpfehcjhbaaGreatDoorDkTold
import Derived.IntWalk
namespace Go.Proofs.YtgbccpfehcjhbaaGreatDoor
open Go Go.RowKit
set_option linter.unusedVariables false
set_option linter.unusedSimpArgs false

theorem dec_digit {w : World} {n : Nat} (h : n < 10) :
    Calls Tryz.prog 17 #[.int .i64 (n : Int)] w fun e w' => e = .returned (.string (str (Lib.decDigits n))) ∧ w = w' := by
  rw [Lib.decDigits_one h]
  rcases (show n = 0 ∨ n = 1 ∨ n = 2 ∨ n = 3 ∨ n = 4 ∨ n = 5 ∨ n = 6 ∨ n = 7 ∨ n = 8 ∨ n = 9 by omega) with rfl | rfl | rfl | rfl | rfl | rfl | rfl | rfl | rfl | rfl <;>
  · go_enter Tryz.func17, Tryz.ntmps17
    go_wp2_with fail
    go_ret
    exact ⟨rfl, rfl⟩
theorem dec_nat : ∀ (k : Nat) (n : Nat) (w : World), k ≤ 17 → n < 10 ^ (k + 1) →
    Calls Tryz.prog 17 #[.int .i64 (n : Int)] w fun e w' => e = .returned (.string (str (Lib.decDigits n))) ∧ w = w' := by
  intro k
  induction k with
  | zero => intro n w _ h; exact dec_digit (by simpa using h)
  | succ k ih =>
    intro n w hk h
    by_cases h9 : n < 10
    · exact dec_digit h9
    · have hpk : (10 : Nat) ^ (k + 1) ≤ 10 ^ 17 := Nat.pow_le_pow_right (by omega) (by omega)
      have hlt : n / 10 < 10 ^ (k + 1) := by rw [Nat.pow_succ] at h; omega
      have HI := Lib.hid (ih (n / 10) w (by omega) hlt)
      have HD := Lib.hid (dec_digit (w := w) (n := n % 10) (by omega))
      have HE : Hid (Lib.decDigits n = Lib.decDigits (n / 10) ++ Lib.decDigits (n % 10)) := Lib.hid (by
        rw [Lib.decDigits_one (show n % 10 < 10 by omega)]
        conv => lhs; rw [Lib.decDigits, dif_neg h9])
      have h1 := nDigits_le k (n / 10) hlt
      have h2 := nDigits_le 0 (n % 10) (by omega)
      rw [← Lib.decDigits_length, ← str_size] at h1 h2
      have e1 : Int.tdiv (n : Int) 10 = ((n / 10 : Nat) : Int) := by rw [Int.tdiv_eq_ediv_of_nonneg (by omega)]; simp
      have e2 : Int.tmod (n : Int) 10 = ((n % 10 : Nat) : Int) := by rw [Int.tmod_eq_emod_of_nonneg (by omega)]; simp
      have b1 : n / 10 < 1000000000000000000 := by
        have : (10 : Nat) ^ 17 = 100000000000000000 := by decide
        omega
      have e3 : IntKind.i64.wrap ((n / 10 : Nat) : Int) = ((n / 10 : Nat) : Int) := IntWalk.i64_in _ (by omega)
      have e4 : IntKind.i64.wrap ((n % 10 : Nat) : Int) = ((n % 10 : Nat) : Int) := IntWalk.i64_in _ (by omega)
      obtain ⟨a, ha⟩ : ∃ a, n / 10 = a := ⟨_, rfl⟩
      obtain ⟨b, hb⟩ : ∃ b, n % 10 = b := ⟨_, rfl⟩
      rw [ha, hb] at HE
      rw [ha] at HI h1 e1 e3; rw [hb] at HD h2 e2 e4
      clear ih ha hb hpk h b1
      have g1 : ¬ (n : Int) < 10 := by omega
      have g2 : ¬ (n : Int) < 0 := by omega
      rw [HE.out]
      generalize hA : str (Lib.decDigits a) = A at *
      generalize hB : str (Lib.decDigits b) = B at *
      have g3 : ¬ 9223372036854775807 < A.size + B.size := by omega
      go_enter Tryz.func17, Tryz.ntmps17
      go_wp2_with fail
      refine HI.out.mono ?_; rintro e w' ⟨rfl, rfl⟩
      go_wp2_with fail
      refine HD.out.mono ?_; rintro e w' ⟨rfl, rfl⟩
      go_wp2_with fail
      go_ret
      exact ⟨by rw [← hA, ← hB]; rfl, rfl⟩
theorem dec_any {w : World} {n : Int} (h0 : 0 ≤ n) (h1 : n ≤ 1000000000000) :
    Calls Tryz.prog 17 #[.int .i64 n] w fun e w' => e = .returned (.string (str (Lib.itoa n))) ∧ w = w' := by
  obtain ⟨m, rfl⟩ := Int.eq_ofNat_of_zero_le h0
  have h := dec_nat 13 m w (by omega) (by have : (10 : Nat) ^ (13 + 1) = 100000000000000 := by decide
                                          omega)
  rw [show Lib.itoa ((m : Nat) : Int) = Lib.decDigits m by unfold Lib.itoa; rw [if_neg (by omega)]; rfl]
  exact h
theorem dec_minus {w : World} :
    Calls Tryz.prog 17 #[.int .i64 (-1)] w fun e w' => e = .returned (.string (str (Lib.itoa (-1)))) ∧ w = w' := by
  have HD := Lib.hid (dec_digit (w := w) (n := 1) (by omega))
  have HI : Hid (Lib.itoa (-1) = [45] ++ Lib.decDigits 1) := Lib.hid (by unfold Lib.itoa; rfl)
  rw [Lib.decDigits_one (by omega)] at HD HI
  rw [HI.out]
  go_enter Tryz.func17, Tryz.ntmps17
  go_wp2_with fail
  refine HD.out.mono ?_; rintro e w' ⟨rfl, rfl⟩
  go_wp2_with fail
  go_ret
  exact ⟨rfl, rfl⟩
theorem join_push (x : Bytes) : ∀ (L : List Bytes), L ≠ [] → Lib.join (L ++ [x]) [44] = Lib.join L [44] ++ ([44] ++ x)
  | [], h => absurd rfl h
  | a :: r, _ => by
    rw [List.cons_append, Lib.join_cons, Lib.join_cons]
    unfold Lib.joinTail
    rw [List.map_append, List.flatten_append, List.append_assoc]
    simp
/-- numbers with commas between -/
def numsS (Y : List Int) : Bytes := Lib.join (Y.map Lib.itoa) [44]
theorem numsS_take {Y : List Int} {i : Nat} (h : i < Y.length) : numsS (Y.take (i + 1)) = numsS (Y.take i) ++ ((if 0 < i then [44] else []) ++ Lib.itoa (gi Y i)) := by
  unfold numsS
  rw [List.take_succ_eq_append_getElem h, ← gi_get h, List.map_append, List.map_cons, List.map_nil]
  by_cases h0 : 0 < i
  · rw [if_pos h0]
    have hne : (Y.take i).map Lib.itoa ≠ [] := by
      intro e
      have := congrArg List.length e
      rw [List.length_map, List.length_take, List.length_nil] at this
      omega
    rw [join_push _ _ hne]
  · obtain rfl : i = 0 := by omega
    simp [Lib.join_nil, Lib.join_one]
theorem numsS_len {Y : List Int} (hn : Y.length ≤ 1000) (hb : ∀ x ∈ Y, -1000000000000 ≤ x ∧ x ≤ 1000000000000) : (numsS Y).length ≤ 15000 := okS_len hn hb
set_option maxHeartbeats 1600000 in
theorem ref_Numbers {w : World} {p : Option Addr} {n c : Nat} {Y : List Int} (h : SI w p n c Y) (hn : n ≤ 1000) (hb : ∀ x ∈ Y, 0 ≤ x ∧ x ≤ 1000000000000) :
    Calls Tryz.prog 12 #[.slice p n c] w fun e w' => e = .returned (.string (str (numsS Y))) ∧ w = w' := by
  have hcap := h.2.1
  have HX := Lib.hid h
  have HB := Lib.hid hb
  have HYL := Lib.hid h.len
  have HLT : Hid (∀ i, i ≤ n → (numsS (Y.take i)).length ≤ 15000) := Lib.hid (fun i hi => numsS_len (by rw [List.length_take, HYL.out]; omega) (fun x hx => by
    have := hb x (List.mem_of_mem_take hx)
    omega))
  clear h hb
  go_enter Tryz.func12, Tryz.ntmps12
  go_wp2
  go_loopw [3, 8] (fun ov iv wv => ∃ i : Nat, i ≤ n ∧ ov = .string (str (numsS (Y.take i))) ∧ iv = .int .i64 (i : Int) ∧ w = wv) (fun _ iv _ => n - (intOf iv).toNat)
  case atStart => exact ⟨0, Nat.zero_le _, rfl, rfl, rfl⟩
  case round =>
    obtain ⟨i, hi, rfl, rfl, rfl⟩ := hrel
    by_cases hiN : i < n
    · obtain ⟨pb, po, rfl, hplt, hpc⟩ := HX.out.cells (by omega)
      have c0 := hpc i hiN
      have hyb := HB.out (gi Y i) (by rw [gi_get (by rw [HYL.out]; exact hiN)]; exact List.getElem_mem _)
      have HNX := Lib.hid (numsS_take (Y := Y) (i := i) (by rw [HYL.out]; exact hiN))
      have hl1 := HLT.out i hi
      have hl2 := itoa_len (n := gi Y i) (by omega) (by omega)
      rw [← str_size] at hl1 hl2
      obtain ⟨y, hy⟩ : ∃ y, gi Y i = y := ⟨_, rfl⟩
      rw [hy] at c0 hyb HNX hl2
      have HC := Lib.hid (dec_any (w := w) (n := y) hyb.1 hyb.2)
      clear hpc hy hplt
      generalize hA : str (numsS (Y.take i)) = A at *
      generalize hB : str (Lib.itoa y) = B at *
      have g1 : ¬ 9223372036854775807 < A.size + 1 := by omega
      have g2 : ¬ 9223372036854775807 < A.size + 1 + B.size := by omega
      have g3 : ¬ 9223372036854775807 < A.size + B.size := by omega
      by_cases hi0 : 0 < i
      · have g4 : (0 : Int) < (i : Int) := by omega
        go_wp2_with fail
        refine HC.out.mono ?_; rintro e w' ⟨rfl, rfl⟩
        go_wp2_with fail
        go_roundw
        case rel => exact ⟨i + 1, hiN, by rw [HNX.out, if_pos hi0, ← hA, ← hB, ← List.append_assoc]; rfl, by go_num, by first | rfl | trivial⟩
        case measure => simp [intOf]; omega
      · obtain rfl : i = 0 := by omega
        rw [Nat.add_zero] at c0
        go_wp2_with fail
        refine HC.out.mono ?_; rintro e w' ⟨rfl, rfl⟩
        go_wp2_with fail
        go_roundw
        case rel => exact ⟨1, hiN, by rw [HNX.out, if_neg (by omega), ← hA, ← hB]; rfl, by go_num, by first | rfl | trivial⟩
        case measure => simp [intOf]; omega
    · obtain rfl : n = i := by omega
      have HE : Hid (Y.take n = Y) := Lib.hid (by rw [← HYL.out, List.take_length])
      rw [HE.out]
      go_wp2_with fail
      go_ret
      exact ⟨rfl, rfl⟩
end Go.Proofs.YtgbccpfehcjhbaaGreatDoor
