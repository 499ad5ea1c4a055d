/- The contracts of share.Check, share.Done and headref.Shared (P68, P69). No conditions beyond what each theorem says. -/
import Derived.Test.YtggpcceljipelaaWindow
import Derived.Test.YtggpcceljipelaaShareLaw
import Derived.Test.YtggpcceljipelaaIndexFunc
namespace Go.Proofs.Ytggpcceljipelaa
open Go Go.RowKit

def okS (xs : List Int) : Prop := ∀ j, j < xs.length → 0 ≤ gi xs j ∧ gi xs j ≤ 1000
instance (xs : List Int) : Decidable (okS xs) := by unfold okS; infer_instance
/-- P68 -/
def shareErr (xs : List Int) (r : Int) : Int := if xs.length > 8 then 2 else if ¬ okS xs then 1 else if r < 1 ∨ 10000 < r then 1 else 0
theorem share_ok {xs : List Int} {r : Int} (h : shareErr xs r = 0) : xs.length ≤ 8 ∧ okS xs ∧ 1 ≤ r ∧ r ≤ 10000 := by
  unfold shareErr at h
  by_cases h1 : xs.length > 8
  · rw [if_pos h1] at h; omega
  · rw [if_neg h1] at h
    by_cases h2 : okS xs
    · rw [if_neg (by simpa using h2)] at h
      by_cases h3 : r < 1 ∨ 10000 < r
      · rw [if_pos h3] at h; omega
      · exact ⟨by omega, h2, by omega⟩
    · rw [if_pos h2] at h; omega
theorem share_bad {xs : List Int} {r : Int} {j : Nat} (h8 : ¬ xs.length > 8) (hj : j < xs.length) (h : gi xs j < 0 ∨ 1000 < gi xs j) : shareErr xs r = 1 := by
  unfold shareErr
  rw [if_neg h8, if_pos]
  intro hn
  have := hn j hj
  omega
theorem share_end {xs : List Int} {r : Int} (h8 : ¬ xs.length > 8) (h : okS xs) : shareErr xs r = if r < 1 ∨ 10000 < r then 1 else 0 := by
  unfold shareErr
  rw [if_neg h8, if_neg (by simpa using h)]

set_option maxHeartbeats 400000 in
theorem share_Check {w : World} {p : Option Addr} {n c : Nat} {xs : List Int} {r : Int} (h : SI w p n c xs) {er : Int} (he : shareErr xs r = er) :
    Calls Try.prog 52 #[.slice p n c, .int .i64 r] w fun e w' => e = .returned (.int .i64 er) ∧ w = w' := by
  have hl := h.1
  have hm := h.2.1
  have HE := Lib.hid he; clear he
  have HL := Lib.hid hl; clear hl
  by_cases h8 : 8 < n
  · have hb1 : decide ((8 : Int) < (n : Int)) = true := by simp; omega
    go_enter Try.func52, Try.ntmps52
    go_wp2
    go_ret
    exact ⟨ret_int (by rw [← HE.out]; unfold shareErr; rw [HL.out, if_pos h8]), rfl⟩
  have hb1 : decide ((8 : Int) < (n : Int)) = false := by simp; omega
  have H8 := Lib.hid (show ¬ xs.length > 8 by rw [HL.out]; exact h8)
  go_enter Try.func52, Try.ntmps52
  go_wp2
  go_loop [12] (fun i => ∃ k : Nat, k ≤ n ∧ i = .int .i64 k ∧ Hid (∀ j, j < k → 0 ≤ gi xs j ∧ gi xs j ≤ 1000)) (fun i => n - (intOf i).toNat)
  case atStart => exact ⟨0, Nat.zero_le _, rfl, Lib.hid fun j hj => by omega⟩
  case round =>
    obtain ⟨k, hk, rfl, H⟩ := hrel
    by_cases hkn : k < n
    · obtain ⟨b, off, rfl, hlt, hc⟩ := h.cells (by omega)
      have hcell := hc k hkn
      clear hc h
      by_cases h1 : gi xs k < 0
      · go_wp2
        go_ret
        exact ⟨ret_int (by rw [← HE.out, share_bad H8.out (j := k) (by rw [HL.out]; exact hkn) (by omega)]), rfl⟩
      · by_cases h2 : 1000 < gi xs k
        · go_wp2
          go_ret
          exact ⟨ret_int (by rw [← HE.out, share_bad H8.out (j := k) (by rw [HL.out]; exact hkn) (by omega)]), rfl⟩
        · go_wp2
          go_round
          case rel => exact ⟨k + 1, by omega, by go_num, Lib.hid fun j hj => by rcases Nat.lt_succ_iff_lt_or_eq.1 hj with h | rfl; exact H.out j h; omega⟩
          case measure => simp [intOf]; omega
    · obtain rfl : n = k := by omega
      have HX := Lib.hid (share_end (r := r) H8.out (fun j hj => H.out j (by rw [HL.out] at hj; exact hj)))
      rcases (show r < 1 ∨ (1 ≤ r ∧ 10000 < r) ∨ (1 ≤ r ∧ r ≤ 10000) by omega) with h1 | ⟨h1, h2⟩ | ⟨h1, h2⟩
      all_goals
        go_wp2
        go_ret
        exact ⟨ret_int (by rw [← HE.out, HX.out]; first | rw [if_pos (by omega)] | rw [if_neg (by omega)]), rfl⟩

set_option maxHeartbeats 400000 in
theorem share_Done_bad {w : World} {p : Option Addr} {n c : Nat} {xs : List Int} {r : Int} (h : SI w p n c xs) {er : Int} (he : shareErr xs r = er) (h0 : er ≠ 0) :
    Calls Try.prog 49 #[.slice p n c, .int .i64 r] w fun e w' => e = .returned (.tuple #[.slice none 0 0, .int .i64 er]) ∧ w = w' := by
  have hb : (er == 0) = false := by simp [h0]
  have HE := Lib.hid he; clear he
  go_enter Try.func49, Try.ntmps49
  go_wp2_with fail
  refine (share_Check h HE.out).mono ?_; rintro e w' ⟨rfl, rfl⟩
  go_wp2
  go_ret2
  exact ⟨rfl, rfl⟩

set_option maxHeartbeats 1600000 in
theorem share_Done_ok {w : World} {p : Option Addr} {n c : Nat} {xs : List Int} {r : Int} (h : SI w p n c xs) (he : shareErr xs r = 0) :
    Calls Try.prog 49 #[.slice p n c, .int .i64 r] w (RetL w fun L er => er = 0 ∧ L = tab n (finS (gi xs) n r)) := by
  obtain ⟨h8, hok, hr1, hr2⟩ := share_ok he
  have hl := h.1
  have hm := h.2.1
  have hbd : ∀ j, j < n → 0 ≤ gi xs j ∧ gi xs j ≤ 1000 := by rw [← hl]; exact hok
  rw [hl] at h8
  have HE := Lib.hid he; have HL := Lib.hid hl; have HBD := Lib.hid hbd
  clear he hl hok hbd
  go_enter Try.func49, Try.ntmps49
  go_wp2_with fail
  refine (share_Check h HE.out).mono ?_; rintro e w' ⟨rfl, rfl⟩
  go_wp2
  go_loopw [7, 21] (fun v i wr => ∃ (k : Nat) (q : Option Addr) (d : Nat), k ≤ n ∧ i = .int .i64 k ∧ v = .slice q k d ∧ OwnI wr w.heap.size q k d (tab k (finS (gi xs) n r)) ∧ Below w.heap.size w wr) (fun _ i _ => n - (intOf i).toNat)
  case atStart => exact ⟨0, _, _, Nat.zero_le _, rfl, rfl, OwnI.nil _ _, Below.refl _ _⟩
  case round =>
    obtain ⟨k, q, d, hk, rfl, rfl, ho, hb⟩ := hrel
    have hsz := hb.size
    by_cases hkn : k < n
    · obtain ⟨b, off, rfl, hlt, hc⟩ := h.cells (by omega)
      have c1 : wr.cell? ⟨b, off + k, none⟩ = some (.int .i64 (gi xs k)) := (bdeep hb hlt _).trans (hc _ hkn)
      have b1 := HBD.out k hkn
      have HC := Lib.hid (fun j (hj : j < n) => show wr.cell? ⟨b, off + j, none⟩ = some (.int .i64 (gi xs j)) from (bdeep hb hlt _).trans (hc _ hj))
      clear hc h
      go_wp2
      go_loop [10, 29] (fun s i => ∃ u : Nat, u ≤ n ∧ i = .int .i64 u ∧ s = .int .i64 (gi xs k + sumT (termS (gi xs) k) u)) (fun _ i => n - (intOf i).toNat)
      case atStart => exact ⟨0, by omega, rfl, by simp [sumT]⟩
      case round =>
        obtain ⟨u, hu, rfl, rfl⟩ := hrel
        have hsb := sumT_bd (termS_bd HBD.out hkn) u hu
        by_cases hun : u < n
        · have c2 := HC.out u hun
          have b2 := HBD.out u hun
          have HS := Lib.hid (sumT_succ (termS (gi xs) k) u)
          generalize sumT (termS (gi xs) k) u = su at *
          rcases Nat.lt_trichotomy u k with e | e | e
          · have HT := Lib.hid (show termS (gi xs) k u = min (gi xs u) (gi xs k) by unfold termS; rw [if_pos e])
            have e1 : (u : Int) < (k : Int) := by omega
            go_wp2
            all_goals
              go_round
              case rel => exact ⟨u + 1, by omega, by go_num, by rw [HS.out, HT.out]; first | rfl | (congr 1; omega)⟩
              case measure => simp [intOf]; omega
          · subst e
            have HT := Lib.hid (show termS (gi xs) u u = 0 by unfold termS; rw [if_neg (by omega), if_neg (by omega)])
            go_wp2
            all_goals
              go_round
              case rel => exact ⟨u + 1, by omega, by go_num, by rw [HS.out, HT.out]; first | rfl | (congr 1; omega)⟩
              case measure => simp [intOf]; omega
          · have HT := Lib.hid (show termS (gi xs) k u = min (gi xs u) (max 0 (gi xs k - 1)) by unfold termS; rw [if_neg (by omega), if_pos e])
            have e1 : ¬ (u : Int) < (k : Int) := by omega
            have e2 : (k : Int) < (u : Int) := by omega
            go_wp2
            all_goals
              go_round
              case rel => exact ⟨u + 1, by omega, by go_num, by rw [HS.out, HT.out]; first | rfl | (congr 1; omega)⟩
              case measure => simp [intOf]; omega
        · obtain rfl : n = u := by omega
          have HF := Lib.hid (finS_sum (m := gi xs) (r := r) hkn (fun j hj => (HBD.out j hj).1) hr1)
          have HT := Lib.hid (tab_succ k (finS (gi xs) n r))
          generalize sumT (termS (gi xs) k) n = su at *
          have hr0 : (r == 0) = false := by simp; omega
          have hge : 0 ≤ gi xs k + su + r - 1 := by omega
          go_wp2_with (at_builtin; refine wpL_push_int Try.tyInts rfl rfl (B := w.heap.size) (W0 := w) (by first | rfl | simp [Act.eval]) (by first | rfl | simp [Act.eval]) ho hb (by omega) hsz ?_; intro p' c' w3 ho1 hb3 hg1 _)
          go_roundw
          case rel => exact ⟨k + 1, _, _, by omega, by go_num, rfl, by rw [HT.out, ← HF.out]; exact ho1, hb3⟩
          case measure => simp [intOf]; omega
    · obtain rfl : n = k := by omega
      go_wp2
      go_ret2
      exact ⟨_, _, _, _, _, rfl, ho, hb, rfl, rfl⟩
end Go.Proofs.Ytggpcceljipelaa
