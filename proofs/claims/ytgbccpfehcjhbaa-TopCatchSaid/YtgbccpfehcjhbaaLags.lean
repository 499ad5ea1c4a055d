/- The contracts of catch.Lag, catch.Done and headref.Lag (P63, P64). Conditions: how long the lists are, and how large their numbers. -/
import Derived.Test.YtgbccpfehcjhbaaWaits
import Derived.Test.YtgbccpfehcjhbaaCatch
namespace Go.Proofs.Ytgbccpfehcjhbaa
open Go Go.RowKit

def lagErr (xs : List Int) (r l : Int) : Int := if traceErr xs ≠ 0 then traceErr xs else if badRL r l then 1 else 0
theorem lag_ok {xs : List Int} {r l : Int} (h : lagErr xs r l = 0) : traceErr xs = 0 ∧ ¬ badRL r l := by
  unfold lagErr at h
  by_cases h1 : traceErr xs = 0
  · rw [if_neg (by simp [h1])] at h
    by_cases h2 : badRL r l
    · rw [if_pos h2] at h; omega
    · exact ⟨h1, h2⟩
  · rw [if_pos h1] at h; omega
def lagL (xs : List Int) (r l : Int) : List Int := tab (xs.length + 1) (lq (gi xs) r l)

set_option maxHeartbeats 400000 in
theorem catch_Lag_bad {w : World} {p : Option Addr} {n c : Nat} {xs : List Int} {r l : Int} (h : SI w p n c xs) {er : Int} (he : lagErr xs r l = er) (h0 : er ≠ 0) :
    Calls Try.prog 21 #[.slice p n c, .int .i64 r, .int .i64 l] w fun e w' => e = .returned (.tuple #[.slice none 0 0, .int .i64 er]) ∧ w = w' := by
  obtain ⟨et, ht⟩ : ∃ et, traceErr xs = et := ⟨_, rfl⟩
  by_cases h1 : et = 0
  · subst h1
    have hb : badRL r l := by
      apply Classical.byContradiction
      intro hb
      unfold lagErr at he
      rw [if_neg (by simp [ht]), if_neg hb] at he
      exact h0 he.symm
    obtain rfl : 1 = er := by rw [← he]; unfold lagErr; rw [if_neg (by simp [ht]), if_pos hb]
    have HT := Lib.hid ht; have HB := Lib.hid hb; clear ht he hb h0
    go_enter Try.func21, Try.ntmps21
    go_wp2_with fail
    refine (trace_Check h HT.out).mono ?_; rintro e w' ⟨rfl, rfl⟩
    go_wp2_with fail
    refine (catch_look_bad HB.out).mono ?_; rintro e w' ⟨rfl, rfl⟩
    go_wp2
    go_ret2
    exact ⟨rfl, rfl⟩
  · obtain rfl : et = er := by rw [← he]; unfold lagErr; rw [if_pos (by rw [ht]; exact h1), ht]
    have hb := bne_false_of h0
    have HT := Lib.hid ht; clear ht he h1
    go_enter Try.func21, Try.ntmps21
    go_wp2_with fail
    refine (trace_Check h HT.out).mono ?_; rintro e w' ⟨rfl, rfl⟩
    go_wp2
    go_ret2
    exact ⟨rfl, rfl⟩

set_option maxHeartbeats 1000000 in
theorem catch_Lag_ok {w : World} {p : Option Addr} {n c : Nat} {xs : List Int} {r l : Int} (h : SI w p n c xs) (he : lagErr xs r l = 0) :
    Calls Try.prog 21 #[.slice p n c, .int .i64 r, .int .i64 l] w (RetL w fun L er => er = 0 ∧ L = lagL xs r l) := by
  obtain ⟨ht, hnb⟩ := lag_ok he
  obtain ⟨r0, r1, l0, l1⟩ := not_badRL hnb
  obtain ⟨h60, hok⟩ := trace_ok ht
  have hl := h.1
  have hm := h.2.1
  have hbd : ∀ j, j < n → 0 ≤ gi xs j ∧ gi xs j ≤ 10000 := by rw [← hl]; exact hok
  rw [hl] at h60
  have HQ := Lib.hid (fun k (hk : k ≤ n) => lq_bd (r := r) (l := l) (c := 1000000) r0 (by omega) ⟨l0, l1⟩ hbd k hk)
  have HT := Lib.hid ht; have HL := Lib.hid hl; have HB := Lib.hid hnb; have HBD := Lib.hid hbd
  clear ht hl hnb hbd he hok
  go_enter Try.func21, Try.ntmps21
  go_wp2_with fail
  refine (trace_Check h HT.out).mono ?_; rintro e w' ⟨rfl, rfl⟩
  go_wp2_with fail
  refine (catch_look_ok HB.out).mono ?_; rintro e w' ⟨rfl, rfl⟩
  go_wp2
  go_loopw [2, 10, 28] (fun s v i wr => ∃ (k : Nat) (q : Option Addr) (d : Nat), k ≤ n ∧ i = .int .i64 k ∧ s = .int .i64 (lq (gi xs) r l k) ∧ v = .slice q (k + 1) d ∧ OwnI wr w.heap.size q (k + 1) d (tab (k + 1) (lq (gi xs) r l)) ∧ Below w.heap.size w wr) (fun _ _ i _ => n - (intOf i).toNat)
  case atStart => exact ⟨0, _, _, Nat.zero_le _, rfl, rfl, rfl, OwnI.lit1 w (Nat.le_refl _) l, (Below.refl _ _).alloc (Nat.le_refl _) _⟩
  case round =>
    obtain ⟨k, q, d, hk, rfl, rfl, rfl, ho, hb⟩ := hrel
    have hsz := hb.size
    by_cases hkn : k < n
    · obtain ⟨b, off, rfl, hlt, hc⟩ := h.cells (by omega)
      have c1 : wr.cell? ⟨b, off + k, none⟩ = some (.int .i64 (gi xs k)) := (bdeep hb hlt _).trans (hc _ hkn)
      have b1 := HBD.out k hkn
      have b2 := HQ.out k hk
      have HST := Lib.hid (show lq (gi xs) r l (k + 1) = max 0 (lq (gi xs) r l k + gi xs k - r) from rfl)
      have HT1 := Lib.hid (tab_succ (k + 1) (lq (gi xs) r l))
      generalize hqk : lq (gi xs) r l k = qk at *
      have HQK := Lib.hid hqk; clear hqk
      clear hc h
      by_cases hle : 0 ≤ qk + gi xs k - r
      all_goals
        go_wp2_with (at_builtin; refine wpL_push_int Try.tyInts rfl rfl (B := w.heap.size) (W0 := w) (by first | rfl | simp [Act.eval]) (by first | rfl | simp [Act.eval]) ho hb (by omega) hsz ?_; intro p' c' w3 ho1 hb3 hg1 _)
        all_goals
          go_roundw
          case rel => exact ⟨k + 1, _, _, by omega, by go_num, by rw [HST.out]; first | rfl | (congr 1; omega), rfl, by rw [HT1.out, HST.out]; exact ho1.cast (by congr 2; omega), hb3⟩
          case measure => simp [intOf]; omega
    · obtain rfl : n = k := by omega
      go_wp2
      go_ret2
      exact ⟨_, _, _, _, _, rfl, ho, hb, rfl, by unfold lagL; rw [HL.out]⟩

def zeroP (xs : List Int) (r l : Int) (t : Nat) : Bool := lq (gi xs) r l t == 0

set_option maxHeartbeats 400000 in
theorem catch_Done_bad {w : World} {p : Option Addr} {n c : Nat} {xs : List Int} {r l : Int} (h : SI w p n c xs) {er : Int} (he : lagErr xs r l = er) (h0 : er ≠ 0) :
    Calls Try.prog 10 #[.slice p n c, .int .i64 r, .int .i64 l] w fun e w' => e = .returned (.tuple #[.int .i64 0, .int .i64 er]) ∧ w = w' := by
  have hb := bne_false_of h0
  go_enter Try.func10, Try.ntmps10
  go_wp2_with fail
  refine (catch_Lag_bad h he h0).mono ?_; rintro e w' ⟨rfl, rfl⟩
  go_wp2
  go_ret2
  exact ⟨rfl, rfl⟩

set_option maxHeartbeats 1000000 in
theorem catch_Done_ok {w : World} {p : Option Addr} {n c : Nat} {xs : List Int} {r l : Int} {i : Nat} (h : SI w p n c xs) (he : lagErr xs r l = 0) (hi : FirstP (zeroP xs r l) (n + 1) i) :
    Calls Try.prog 10 #[.slice p n c, .int .i64 r, .int .i64 l] w fun e w' => e = .returned (.tuple #[.int .i64 (if i < n + 1 then i else 0), .int .i64 (if i < n + 1 then 0 else 5)]) ∧ Below w.heap.size w w' := by
  have hl := h.1
  have h60 := (trace_ok (lag_ok he).1).1
  rw [hl] at h60
  have HL := Lib.hid hl; have HE := Lib.hid he; have HI := Lib.hid hi; have hin := hi.1; clear hl he hi
  go_enter Try.func10, Try.ntmps10
  go_wp2_with fail
  refine (catch_Lag_ok h HE.out).mono ?_; rintro e w1 ⟨q, m, d, L2, er, rfl, ho, hb1, rfl, rfl⟩
  have hlen := ho.len
  unfold lagL at hlen ho
  rw [tab_length] at hlen
  rw [HL.out] at hlen ho
  subst hlen
  obtain ⟨g, rfl⟩ := ho.addr (by omega)
  have hgl := ho.blk.2
  have HC := Lib.hid (fun (j : Nat) (hj : j < n + 1) => show w1.cell? ⟨g, j, none⟩ = some (.int .i64 (lq (gi xs) r l j)) from ((ho.at hj).trans (by rw [gi_tab hj])))
  clear ho h
  go_wp2
  go_loop [24] (fun v => ∃ k : Nat, k ≤ i ∧ v = .int .i64 k) (fun v => n + 1 - (intOf v).toNat)
  case atStart => exact ⟨0, by omega, rfl⟩
  case round =>
    obtain ⟨k, hk, rfl⟩ := hrel
    by_cases hkn : k < n + 1
    · have c1 := HC.out k hkn
      have g1 : (k : Int) < ((n + 1 : Nat) : Int) := by omega
      by_cases hki : k < i
      · have hz : (lq (gi xs) r l k == 0) = false := HI.out.2.1 k hki
        go_wp2
        go_round
        case rel => exact ⟨k + 1, by omega, by go_num⟩
        case measure => simp [intOf]; omega
      · obtain rfl : i = k := by omega
        have hz : (lq (gi xs) r l i == 0) = true := HI.out.2.2 hkn
        go_wp2
        go_ret2
        exact ⟨by first | rfl | (rw [if_pos hkn, if_pos hkn]), hb1⟩
    · obtain rfl : i = k := by omega
      have g1 : ¬ (i : Int) < ((n + 1 : Nat) : Int) := by omega
      go_wp2
      go_ret2
      exact ⟨by first | rfl | (rw [if_neg hkn, if_neg hkn]), hb1⟩

theorem net_lag (a : Nat → Int) (r : Int) (k u : Nat) : net a r k - net a r (u + 1) = sumT a k - sumT a (u + 1) - r * ((k : Int) - ((u : Int) + 1)) := by
  unfold net
  rw [Int.mul_sub, Int.natCast_succ]; omega

end Go.Proofs.Ytgbccpfehcjhbaa
