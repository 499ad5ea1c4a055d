/- The contracts of retry.Waits, retry.When, the law's wait, and slices.Index and slices.Contains at []bool (P57, P58). No conditions beyond what each theorem says. -/
import Derived.Test.YtggpcceljipelaaWindow
import Derived.Test.YtggpcceljipelaaRetryLaw
namespace Go.Proofs.Ytggpcceljipelaa
open Go Go.RowKit

def sliceLen : Value → Nat
  | .slice _ n _ => n
  | _ => 0
def okW (f m : Int) : Prop := 1 ≤ f ∧ f ≤ m ∧ m ≤ 1000000
theorem not_okW {f m : Int} (h : ¬ okW f m) : f < 1 ∨ (1 ≤ f ∧ m < f) ∨ (1 ≤ f ∧ f ≤ m ∧ 1000000 < m) := by unfold okW at h; omega

set_option maxHeartbeats 400000 in
theorem retry_look_bad {w : World} {f m : Int} (h : ¬ okW f m) :
    Calls Try.prog 76 #[.int .i64 f, .int .i64 m] w fun e w' => e = .returned (.int .i64 1) ∧ w = w' := by
  rcases not_okW h with h1 | ⟨h1, h2⟩ | ⟨h1, h2, h3⟩
  all_goals
    clear h
    go_enter Try.func76, Try.ntmps76
    go_wp2
    go_ret
    exact ⟨rfl, rfl⟩
set_option maxHeartbeats 400000 in
theorem retry_look_ok {w : World} {f m : Int} (h : okW f m) :
    Calls Try.prog 76 #[.int .i64 f, .int .i64 m] w fun e w' => e = .returned (.int .i64 0) ∧ w = w' := by
  obtain ⟨h1, h2, h3⟩ := h
  go_enter Try.func76, Try.ntmps76
  go_wp2
  go_ret
  exact ⟨rfl, rfl⟩

set_option maxHeartbeats 400000 in
theorem retry_Waits_bad {w : World} {f m n : Int} (h : ¬ okW f m) :
    Calls Try.prog 33 #[.int .i64 f, .int .i64 m, .int .i64 n] w fun e w' => e = .returned (.tuple #[.slice none 0 0, .int .i64 1]) ∧ w = w' := by
  go_enter Try.func33, Try.ntmps33
  go_wp2_with fail
  refine (retry_look_bad h).mono ?_; rintro e w' ⟨rfl, rfl⟩
  go_wp2
  go_ret2
  exact ⟨rfl, rfl⟩
set_option maxHeartbeats 400000 in
theorem retry_Waits_arg {w : World} {f m n : Int} (h : okW f m) (hn : n < 0 ∨ 40 < n) :
    Calls Try.prog 33 #[.int .i64 f, .int .i64 m, .int .i64 n] w fun e w' => e = .returned (.tuple #[.slice none 0 0, .int .i64 1]) ∧ w = w' := by
  rcases (show n < 0 ∨ (0 ≤ n ∧ 40 < n) by omega) with h1 | ⟨h1, h2⟩
  all_goals
    clear hn
    go_enter Try.func33, Try.ntmps33
    go_wp2_with fail
    refine (retry_look_ok h).mono ?_; rintro e w' ⟨rfl, rfl⟩
    go_wp2
    go_ret2
    exact ⟨rfl, rfl⟩

set_option maxHeartbeats 1000000 in
theorem retry_Waits_ok {w : World} {f m : Int} {n : Nat} (h : okW f m) (hn : n ≤ 40) :
    Calls Try.prog 33 #[.int .i64 f, .int .i64 m, .int .i64 n] w (RetL w fun L er => er = 0 ∧ L = tab n (wv f m)) := by
  have HK := Lib.hid h
  obtain ⟨h1, h2, h3⟩ := h
  have g1 : decide ((40 : Int) < (n : Int)) = false := by simp; omega
  go_enter Try.func33, Try.ntmps33
  go_wp2_with fail
  refine (retry_look_ok HK.out).mono ?_; rintro e w' ⟨rfl, rfl⟩
  go_wp2
  go_loopw [9, 10] (fun v s wr => ∃ (k : Nat) (q : Option Addr) (d : Nat), k ≤ n ∧ v = .slice q k d ∧ s = .int .i64 (wv f m k) ∧ OwnI wr w.heap.size q k d (tab k (wv f m)) ∧ Below w.heap.size w wr) (fun v _ _ => n - sliceLen v)
  case atStart => exact ⟨0, none, 0, by omega, rfl, rfl, OwnI.nil _ _, Below.refl _ _⟩
  case round =>
    obtain ⟨k, q, d, hk, rfl, rfl, ho, hb⟩ := hrel
    have hsz := hb.size
    by_cases hkn : k < n
    · have hwb := wv_bd h1 h2 k
      have HST := Lib.hid (show wv f m (k + 1) = min m (2 * wv f m k) from rfl)
      have HT := Lib.hid (tab_succ k (wv f m))
      generalize wv f m k = wk at *
      have g2 : (k : Int) < (n : Int) := by omega
      go_wp2_with (at_builtin; refine wpL_push_int Try.tyInts rfl rfl (B := w.heap.size) (W0 := w) (by first | rfl | simp [Act.eval]) (by first | rfl | simp [Act.eval]) ho hb (by omega) hsz ?_; intro p' c' w3 ho1 hb3 hg1 _)
      all_goals
        go_roundw
        case rel => exact ⟨k + 1, _, _, by omega, rfl, by rw [HST.out]; try first | rfl | (congr 1; omega), by rw [HT.out]; exact ho1, hb3⟩
        case measure => simp [sliceLen]; omega
    · obtain rfl : n = k := by omega
      go_wp2
      go_ret2
      exact ⟨_, _, _, _, _, rfl, ho, hb, rfl, rfl⟩

set_option maxHeartbeats 400000 in
theorem retry_When_large {w : World} {f m : Int} {p : Option Addr} {n c : Nat} (hn : 40 < n) (hm : n ≤ 9223372036854775807) :
    Calls Try.prog 34 #[.int .i64 f, .int .i64 m, .slice p n c] w fun e w' => e = .returned (.tuple #[.int .i64 0, .int .i64 2]) ∧ w = w' := by
  have hb1 : decide ((40 : Int) < (n : Int)) = true := by simp; omega
  go_enter Try.func34, Try.ntmps34
  go_wp2
  go_ret2
  exact ⟨rfl, rfl⟩
set_option maxHeartbeats 400000 in
theorem retry_When_bad {w : World} {f m : Int} {p : Option Addr} {n c : Nat} (h : ¬ okW f m) (hn : n ≤ 40) :
    Calls Try.prog 34 #[.int .i64 f, .int .i64 m, .slice p n c] w fun e w' => e = .returned (.tuple #[.int .i64 0, .int .i64 1]) ∧ w = w' := by
  have hb1 : decide ((40 : Int) < (n : Int)) = false := by simp; omega
  go_enter Try.func34, Try.ntmps34
  go_wp2_with fail
  refine (retry_Waits_bad h).mono ?_; rintro e w' ⟨rfl, rfl⟩
  go_wp2
  go_ret2
  exact ⟨rfl, rfl⟩

theorem wsum_bd {f m : Int} (h : okW f m) (k : Nat) (hk : k ≤ 40) : 0 ≤ sumT (wv f m) k ∧ sumT (wv f m) k ≤ 40000000 := by
  have := sumT_bd (a := wv f m) (n := 40) (b := 1000000) (fun j _ => by have := wv_bd h.1 h.2.1 j; have := h.2.2; omega) k hk
  omega

set_option maxHeartbeats 1000000 in
theorem retry_When_ok {w : World} {f m : Int} {p : Option Addr} {n c i : Nat} {ls : List Bool} (g : SB w p n c ls) (h : okW f m) (hn : n ≤ 40) (hi : FirstNo (gb ls) n i) :
    Calls Try.prog 34 #[.int .i64 f, .int .i64 m, .slice p n c] w fun e w' => e = .returned (.tuple #[.int .i64 (if i < n then sumT (wv f m) i else 0), .int .i64 (if i < n then 0 else 5)]) ∧ Below w.heap.size w w' := by
  have hb1 : decide ((40 : Int) < (n : Int)) = false := by simp; omega
  have hin := hi.1
  have HI := Lib.hid hi; have HK := Lib.hid h; clear hi h
  go_enter Try.func34, Try.ntmps34
  go_wp2_with fail
  refine (retry_Waits_ok HK.out hn).mono ?_; rintro e w1 ⟨p1, n1, c1, L1, er1, rfl, ho1, hb1', rfl, rfl⟩
  have hn1 := ho1.len
  rw [tab_length] at hn1
  subst hn1
  have s1 := ho1.si
  have g1 := g.below hb1'
  clear ho1 g
  go_wp2
  go_loop [10, 29] (fun s v => ∃ k : Nat, k ≤ i ∧ v = .int .i64 k ∧ s = .int .i64 (sumT (wv f m) k)) (fun _ v => n - (intOf v).toNat)
  case atStart => exact ⟨0, by omega, rfl, rfl⟩
  case round =>
    obtain ⟨k, hk, rfl, rfl⟩ := hrel
    by_cases hkn : k < n
    · obtain ⟨b, off, rfl, hlt, hc⟩ := g1.cells (by omega)
      obtain ⟨b', off', rfl, hlt', hc'⟩ := s1.cells (by omega)
      have c1 := hc k hkn
      have c2 : w1.cell? ⟨b', off' + k, none⟩ = some (.int .i64 (wv f m k)) := (hc' k hkn).trans (by rw [gi_tab hkn])
      clear hc hc' g1 s1
      by_cases hki : k < i
      · rw [HI.out.2.1 k hki] at c1
        have hwb := wv_bd HK.out.1 HK.out.2.1 k
        have hm6 := HK.out.2.2
        have hsb := wsum_bd HK.out k (by omega)
        have HST := Lib.hid (sumT_succ (wv f m) k)
        generalize wv f m k = wk at *
        generalize sumT (wv f m) k = sk at *
        go_wp2
        go_round
        case rel => exact ⟨k + 1, by omega, by go_num, by rw [HST.out]⟩
        case measure => simp [intOf]; omega
      · obtain rfl : i = k := by omega
        rw [HI.out.2.2 hkn] at c1
        go_wp2
        go_ret2
        exact ⟨by first | rfl | (rw [if_pos hkn, if_pos hkn]), hb1'⟩
    · obtain rfl : i = k := by omega
      go_wp2
      go_ret2
      exact ⟨by first | rfl | (rw [if_neg hkn, if_neg hkn]), hb1'⟩

set_option maxHeartbeats 1000000 in
theorem retrySays1 {w : World} {f m : Int} {a a' i : Nat} (h : okW f m) (hi : i ≤ 40) (h1 : w.cell? ⟨a, 0, none⟩ = some (.int .i64 f)) (h2 : w.cell? ⟨a', 0, none⟩ = some (.int .i64 m)) :
    Calls Try.prog 35 #[.int .i64 i, .pointer (some ⟨a, 0, none⟩), .pointer (some ⟨a', 0, none⟩)] w fun e w' => e = .returned (.int .i64 (wv f m i)) ∧ w = w' := by
  have HK := Lib.hid h
  obtain ⟨k1, k2, k3⟩ := h
  go_enter Try.func35, Try.ntmps35
  go_wp2
  go_loop [5, 8] (fun s v => ∃ k : Nat, k ≤ i ∧ v = .int .i64 k ∧ s = .int .i64 (wv f m k)) (fun _ v => i - (intOf v).toNat)
  case atStart => exact ⟨0, by omega, rfl, rfl⟩
  case round =>
    obtain ⟨k, hk, rfl, rfl⟩ := hrel
    have hwb := wv_bd k1 k2 k
    by_cases hki : k < i
    · by_cases hm : m < 2 * wv f m k
      · have HS := Lib.hid (wv_stay k1 k2 hm i hki)
        have hm' : m < wv f m k * 2 := by omega
        generalize wv f m k = wk at *
        go_wp2
        go_ret
        exact ⟨ret_int (by rw [HS.out]), rfl⟩
      · have HS := Lib.hid (wv_step hm)
        have hm' : ¬ m < wv f m k * 2 := by omega
        generalize wv f m k = wk at *
        go_wp2
        go_round
        case rel => exact ⟨k + 1, by omega, by go_num, by rw [HS.out, Int.mul_comm]⟩
        case measure => simp [intOf]; omega
    · obtain rfl : i = k := by omega
      go_wp2
      go_ret
      exact ⟨rfl, rfl⟩

set_option maxHeartbeats 1000000 in
theorem index_no {w : World} {p : Option Addr} {n c i : Nat} {ls : List Bool} (g : SB w p n c ls) (hi : FirstNo (gb ls) n i) :
    Calls Try.prog 37 #[.slice p n c, .bool false] w fun e w' => e = .returned (.int .i64 (if i < n then i else -1)) ∧ w = w' := by
  have hm := g.2.1
  have HI := Lib.hid hi; have hin := hi.1; clear hi
  go_enter Try.func37, Try.ntmps37
  go_wp2
  go_loop [8] (fun v => ∃ k : Nat, k ≤ i ∧ v = .int .i64 k) (fun v => n - (intOf v).toNat)
  case atStart => exact ⟨0, by omega, rfl⟩
  case round =>
    obtain ⟨k, hk, rfl⟩ := hrel
    by_cases hkn : k < n
    · obtain ⟨b, off, rfl, hlt, hc⟩ := g.cells (by omega)
      have c1 := hc k hkn
      clear hc g
      by_cases hki : k < i
      · rw [HI.out.2.1 k hki] at c1
        go_wp2
        go_round
        case rel => exact ⟨k + 1, by omega, by go_num⟩
        case measure => simp [intOf]; omega
      · obtain rfl : i = k := by omega
        rw [HI.out.2.2 hkn] at c1
        go_wp2
        go_ret
        exact ⟨by first | rfl | (rw [if_pos hkn]), rfl⟩
    · obtain rfl : i = k := by omega
      go_wp2
      go_ret
      exact ⟨by first | rfl | (rw [if_neg hkn]), rfl⟩
set_option maxHeartbeats 1000000 in
theorem contains_no {w : World} {p : Option Addr} {n c i : Nat} {ls : List Bool} (g : SB w p n c ls) (hi : FirstNo (gb ls) n i) {q : Bool} (hq : q = decide (i < n)) :
    Calls Try.prog 36 #[.slice p n c, .bool false] w fun e w' => e = .returned (.bool q) ∧ w = w' := by
  have HQ := Lib.hid hq; clear hq
  by_cases hin : i < n
  · go_enter Try.func36, Try.ntmps36
    go_wp2_with fail
    refine (index_no g hi).mono ?_; rintro e w' ⟨rfl, rfl⟩
    rw [if_pos hin]
    go_wp2
    go_ret
    exact ⟨ret_bool (by rw [HQ.out]; simp [hin]), rfl⟩
  · go_enter Try.func36, Try.ntmps36
    go_wp2_with fail
    refine (index_no g hi).mono ?_; rintro e w' ⟨rfl, rfl⟩
    rw [if_neg hin]
    go_wp2
    go_ret
    exact ⟨ret_bool (by rw [HQ.out]; simp [hin]), rfl⟩
end Go.Proofs.Ytggpcceljipelaa
