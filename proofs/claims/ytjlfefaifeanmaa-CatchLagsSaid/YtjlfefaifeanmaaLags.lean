/- The contracts of catch.Lag, catch.Done and headref.Lag (P63, P64). Conditions: how long the lists are, and how large their numbers. -/
import Derived.Test.YtjlfefaifeanmaaWaits
import Derived.Test.YtjlfefaifeanmaaCatch
namespace Go.Proofs.Ytjlfefaifeanmaa
open Go Go.RowKit

def lagErr (xs : List Int) (r l : Int) : Int := if traceErr xs ≠ 0 then traceErr xs else if badRL r l then 1 else 0
theorem lag_ok {xs : List Int} {r l : Int} (h : lagErr xs r l = 0) : traceErr xs = 0 ∧ ¬ badRL r l := by
  unfold lagErr at h
  by_cases h1 : traceErr xs = 0
  · rw [if_neg (by simp [h1])] at h
    by_cases h2 : badRL r l
    · rw [if_pos h2] at h; omega
    · exact ⟨h1, h2⟩
  · rw [if_pos h1] at h; omega
def lagL (xs : List Int) (r l : Int) : List Int := tab (xs.length + 1) (lq (gi xs) r l)

set_option maxHeartbeats 400000 in
theorem catch_Lag_bad {w : World} {p : Option Addr} {n c : Nat} {xs : List Int} {r l : Int} (h : SI w p n c xs) {er : Int} (he : lagErr xs r l = er) (h0 : er ≠ 0) :
    Calls Try.prog 42 #[.slice p n c, .int .i64 r, .int .i64 l] w fun e w' => e = .returned (.tuple #[.slice none 0 0, .int .i64 er]) ∧ w = w' := by
  obtain ⟨et, ht⟩ : ∃ et, traceErr xs = et := ⟨_, rfl⟩
  by_cases h1 : et = 0
  · subst h1
    have hb : badRL r l := by
      apply Classical.byContradiction
      intro hb
      unfold lagErr at he
      rw [if_neg (by simp [ht]), if_neg hb] at he
      exact h0 he.symm
    obtain rfl : 1 = er := by rw [← he]; unfold lagErr; rw [if_neg (by simp [ht]), if_pos hb]
    have HT := Lib.hid ht; have HB := Lib.hid hb; clear ht he hb h0
    go_enter Try.func42, Try.ntmps42
    go_wp2_with fail
    refine (trace_Check h HT.out).mono ?_; rintro e w' ⟨rfl, rfl⟩
    go_wp2_with fail
    refine (catch_look_bad HB.out).mono ?_; rintro e w' ⟨rfl, rfl⟩
    go_wp2
    go_ret2
    exact ⟨rfl, rfl⟩
  · obtain rfl : et = er := by rw [← he]; unfold lagErr; rw [if_pos (by rw [ht]; exact h1), ht]
    have hb := bne_false_of h0
    have HT := Lib.hid ht; clear ht he h1
    go_enter Try.func42, Try.ntmps42
    go_wp2_with fail
    refine (trace_Check h HT.out).mono ?_; rintro e w' ⟨rfl, rfl⟩
    go_wp2
    go_ret2
    exact ⟨rfl, rfl⟩

set_option maxHeartbeats 1000000 in
theorem catch_Lag_ok {w : World} {p : Option Addr} {n c : Nat} {xs : List Int} {r l : Int} (h : SI w p n c xs) (he : lagErr xs r l = 0) :
    Calls Try.prog 42 #[.slice p n c, .int .i64 r, .int .i64 l] w (RetL w fun L er => er = 0 ∧ L = lagL xs r l) := by
  obtain ⟨ht, hnb⟩ := lag_ok he
  obtain ⟨r0, r1, l0, l1⟩ := not_badRL hnb
  obtain ⟨h60, hok⟩ := trace_ok ht
  have hl := h.1
  have hm := h.2.1
  have hbd : ∀ j, j < n → 0 ≤ gi xs j ∧ gi xs j ≤ 10000 := by rw [← hl]; exact hok
  rw [hl] at h60
  have HQ := Lib.hid (fun k (hk : k ≤ n) => lq_bd (r := r) (l := l) (c := 1000000) r0 (by omega) ⟨l0, l1⟩ hbd k hk)
  have HT := Lib.hid ht; have HL := Lib.hid hl; have HB := Lib.hid hnb; have HBD := Lib.hid hbd
  clear ht hl hnb hbd he hok
  go_enter Try.func42, Try.ntmps42
  go_wp2_with fail
  refine (trace_Check h HT.out).mono ?_; rintro e w' ⟨rfl, rfl⟩
  go_wp2_with fail
  refine (catch_look_ok HB.out).mono ?_; rintro e w' ⟨rfl, rfl⟩
  go_wp2
  go_loopw [2, 10, 28] (fun s v i wr => ∃ (k : Nat) (q : Option Addr) (d : Nat), k ≤ n ∧ i = .int .i64 k ∧ s = .int .i64 (lq (gi xs) r l k) ∧ v = .slice q (k + 1) d ∧ OwnI wr w.heap.size q (k + 1) d (tab (k + 1) (lq (gi xs) r l)) ∧ Below w.heap.size w wr) (fun _ _ i _ => n - (intOf i).toNat)
  case atStart => exact ⟨0, _, _, Nat.zero_le _, rfl, rfl, rfl, OwnI.lit1 w (Nat.le_refl _) l, (Below.refl _ _).alloc (Nat.le_refl _) _⟩
  case round =>
    obtain ⟨k, q, d, hk, rfl, rfl, rfl, ho, hb⟩ := hrel
    have hsz := hb.size
    by_cases hkn : k < n
    · obtain ⟨b, off, rfl, hlt, hc⟩ := h.cells (by omega)
      have c1 : wr.cell? ⟨b, off + k, none⟩ = some (.int .i64 (gi xs k)) := (bdeep hb hlt _).trans (hc _ hkn)
      have b1 := HBD.out k hkn
      have b2 := HQ.out k hk
      have HST := Lib.hid (show lq (gi xs) r l (k + 1) = max 0 (lq (gi xs) r l k + gi xs k - r) from rfl)
      have HT1 := Lib.hid (tab_succ (k + 1) (lq (gi xs) r l))
      generalize hqk : lq (gi xs) r l k = qk at *
      have HQK := Lib.hid hqk; clear hqk
      clear hc h
      by_cases hle : 0 ≤ qk + gi xs k - r
      all_goals
        go_wp2_with (at_builtin; refine wpL_push_int Try.tyInts rfl rfl (B := w.heap.size) (W0 := w) (by first | rfl | simp [Act.eval]) (by first | rfl | simp [Act.eval]) ho hb (by omega) hsz ?_; intro p' c' w3 ho1 hb3 hg1 _)
        all_goals
          go_roundw
          case rel => exact ⟨k + 1, _, _, by omega, by go_num, by rw [HST.out]; first | rfl | (congr 1; omega), rfl, by rw [HT1.out, HST.out]; exact ho1.cast (by congr 2; omega), hb3⟩
          case measure => simp [intOf]; omega
    · obtain rfl : n = k := by omega
      go_wp2
      go_ret2
      exact ⟨_, _, _, _, _, rfl, ho, hb, rfl, by unfold lagL; rw [HL.out]⟩

def zeroP (xs : List Int) (r l : Int) (t : Nat) : Bool := lq (gi xs) r l t == 0

set_option maxHeartbeats 400000 in
theorem catch_Done_bad {w : World} {p : Option Addr} {n c : Nat} {xs : List Int} {r l : Int} (h : SI w p n c xs) {er : Int} (he : lagErr xs r l = er) (h0 : er ≠ 0) :
    Calls Try.prog 43 #[.slice p n c, .int .i64 r, .int .i64 l] w fun e w' => e = .returned (.tuple #[.int .i64 0, .int .i64 er]) ∧ w = w' := by
  have hb := bne_false_of h0
  go_enter Try.func43, Try.ntmps43
  go_wp2_with fail
  refine (catch_Lag_bad h he h0).mono ?_; rintro e w' ⟨rfl, rfl⟩
  go_wp2
  go_ret2
  exact ⟨rfl, rfl⟩

set_option maxHeartbeats 1000000 in
theorem catch_Done_ok {w : World} {p : Option Addr} {n c : Nat} {xs : List Int} {r l : Int} {i : Nat} (h : SI w p n c xs) (he : lagErr xs r l = 0) (hi : FirstP (zeroP xs r l) (n + 1) i) :
    Calls Try.prog 43 #[.slice p n c, .int .i64 r, .int .i64 l] w fun e w' => e = .returned (.tuple #[.int .i64 (if i < n + 1 then i else 0), .int .i64 (if i < n + 1 then 0 else 5)]) ∧ Below w.heap.size w w' := by
  have hl := h.1
  have h60 := (trace_ok (lag_ok he).1).1
  rw [hl] at h60
  have HL := Lib.hid hl; have HE := Lib.hid he; have HI := Lib.hid hi; have hin := hi.1; clear hl he hi
  go_enter Try.func43, Try.ntmps43
  go_wp2_with fail
  refine (catch_Lag_ok h HE.out).mono ?_; rintro e w1 ⟨q, m, d, L2, er, rfl, ho, hb1, rfl, rfl⟩
  have hlen := ho.len
  unfold lagL at hlen ho
  rw [tab_length] at hlen
  rw [HL.out] at hlen ho
  subst hlen
  obtain ⟨g, rfl⟩ := ho.addr (by omega)
  have hgl := ho.blk.2
  have HC := Lib.hid (fun (j : Nat) (hj : j < n + 1) => show w1.cell? ⟨g, j, none⟩ = some (.int .i64 (lq (gi xs) r l j)) from ((ho.at hj).trans (by rw [gi_tab hj])))
  clear ho h
  go_wp2
  go_loop [24] (fun v => ∃ k : Nat, k ≤ i ∧ v = .int .i64 k) (fun v => n + 1 - (intOf v).toNat)
  case atStart => exact ⟨0, by omega, rfl⟩
  case round =>
    obtain ⟨k, hk, rfl⟩ := hrel
    by_cases hkn : k < n + 1
    · have c1 := HC.out k hkn
      have g1 : (k : Int) < ((n + 1 : Nat) : Int) := by omega
      by_cases hki : k < i
      · have hz : (lq (gi xs) r l k == 0) = false := HI.out.2.1 k hki
        go_wp2
        go_round
        case rel => exact ⟨k + 1, by omega, by go_num⟩
        case measure => simp [intOf]; omega
      · obtain rfl : i = k := by omega
        have hz : (lq (gi xs) r l i == 0) = true := HI.out.2.2 hkn
        go_wp2
        go_ret2
        exact ⟨by first | rfl | (rw [if_pos hkn, if_pos hkn]), hb1⟩
    · obtain rfl : i = k := by omega
      have g1 : ¬ (i : Int) < ((n + 1 : Nat) : Int) := by omega
      go_wp2
      go_ret2
      exact ⟨by first | rfl | (rw [if_neg hkn, if_neg hkn]), hb1⟩

set_option maxHeartbeats 1000000 in
theorem slices_Index {w : World} {p : Option Addr} {n c : Nat} {xs : List Int} (h : SI w p n c xs) {v : Int} {i : Nat} (hi : FirstP (fun k => gi xs k == v) n i) :
    Calls Try.prog 46 #[.slice p n c, .int .i64 v] w fun e w' => e = .returned (.int .i64 (if i < n then i else -1)) ∧ Below w.heap.size w w' := by
  have hm := h.2.1
  have HI := Lib.hid hi; have hin := hi.1; clear hi
  go_enter Try.func46, Try.ntmps46
  go_wp2
  go_loop [8] (fun v => ∃ k : Nat, k ≤ i ∧ v = .int .i64 k) (fun v => n - (intOf v).toNat)
  case atStart => exact ⟨0, by omega, rfl⟩
  case round =>
    obtain ⟨k, hk, rfl⟩ := hrel
    by_cases hkn : k < n
    · obtain ⟨b, off, rfl, hlt, hc⟩ := h.cells (by omega)
      have c1 := hc k hkn
      clear hc h
      by_cases hki : k < i
      · have hz : (gi xs k == v) = false := HI.out.2.1 k hki
        have hz2 : (v == gi xs k) = false := by rw [BEq.comm]; exact hz
        go_wp2
        go_round
        case rel => exact ⟨k + 1, by omega, by go_num⟩
        case measure => simp [intOf]; omega
      · obtain rfl : i = k := by omega
        have hz : (gi xs i == v) = true := HI.out.2.2 hkn
        have hz2 : (v == gi xs i) = true := by rw [BEq.comm]; exact hz
        go_wp2
        go_ret
        exact ⟨by first | rfl | (rw [if_pos hkn]), Below.refl _ _⟩
    · obtain rfl : i = k := by omega
      go_wp2
      go_ret
      exact ⟨by first | rfl | (rw [if_neg hkn]), Below.refl _ _⟩

theorem net_lag (a : Nat → Int) (r : Int) (k u : Nat) : net a r k - net a r (u + 1) = sumT a k - sumT a (u + 1) - r * ((k : Int) - ((u : Int) + 1)) := by
  unfold net
  rw [Int.mul_sub, Int.natCast_succ]; omega

set_option maxHeartbeats 1600000 in
theorem ref_Lag {w : World} {p : Option Addr} {n c : Nat} {xs : List Int} {r l : Int} (h : SI w p n c xs) (hn : n ≤ 1000) (hbd : ∀ j, j < n → 0 ≤ gi xs j ∧ gi xs j ≤ 1000000) (hr0 : 0 ≤ r) (hr1 : r ≤ 10000) (hl0 : 0 ≤ l) (hl1 : l ≤ 1000000) :
    Calls Try.prog 45 #[.slice p n c, .int .i64 r, .int .i64 l] w (RetS w (lagL xs r l)) := by
  have hl := h.1
  have hm := h.2.1
  have HL := Lib.hid hl; clear hl
  have HS := Lib.hid (fun k (hk : k ≤ n) => sumT_bd hbd k hk)
  go_enter Try.func45, Try.ntmps45
  go_wp2_with fail
  refine (ref_Added h hn hbd).mono ?_; rintro e w1 ⟨q, m, d, rfl, ho, hb1⟩
  have hlen := ho.len
  unfold addL at hlen ho
  rw [tab_length] at hlen
  rw [HL.out] at hlen ho
  subst hlen
  obtain ⟨g, rfl⟩ := ho.addr (by omega)
  have hgl := ho.blk.2
  have HC := Lib.hid (fun (w' : World) (hb : Below w1.heap.size w1 w') (j : Nat) (hj : j < n + 1) => show w'.cell? ⟨g, j, none⟩ = some (.int .i64 (sumT (gi xs) j)) from (bdeep hb hgl _).trans ((ho.at hj).trans (by rw [gi_tab hj])))
  clear ho h hbd
  go_wp2
  go_loopw [8, 16] (fun v i wr => ∃ (k : Nat) (q : Option Addr) (d : Nat), k ≤ n + 1 ∧ i = .int .i64 k ∧ v = .slice q k d ∧ OwnI wr w1.heap.size q k d (tab k (lq (gi xs) r l)) ∧ Below w1.heap.size w1 wr) (fun _ i _ => n + 1 - (intOf i).toNat)
  case atStart => exact ⟨0, none, 0, by omega, rfl, rfl, OwnI.nil _ _, Below.refl _ _⟩
  case round =>
    obtain ⟨k, q, d', hk, rfl, rfl, ho, hb⟩ := hrel
    have hsz := hb.size
    by_cases hkn : k < n + 1
    · have g1 : (k : Int) < ((n + 1 : Nat) : Int) := by omega
      have c0 := HC.out _ hb k hkn
      have a0 := HS.out k (by omega)
      have a00 := prod_bd (k := k) hr0 hr1 (by omega)
      have f0 : ∀ s, s ≤ k → 0 ≤ sumT (gi xs) s ∧ sumT (gi xs) s ≤ 1000000000 := fun s hs => by have := HS.out s (by omega); omega
      have f1 : ∀ u, u < k → 0 ≤ r * ((k : Int) - ((u : Int) + 1)) ∧ r * ((k : Int) - ((u : Int) + 1)) ≤ 10010000 := fun u hs => by
        refine ⟨Int.mul_nonneg hr0 (by omega), ?_⟩
        have := Int.mul_le_mul hr1 (show (k : Int) - ((u : Int) + 1) ≤ 1001 by omega) (by omega) (by omega)
        omega
      have F0 := Lib.hid f0; have F1 := Lib.hid f1
      have HW := Lib.hid (lq_lag (gi xs) r l hl0 k)
      have HT := Lib.hid (tab_succ k (lq (gi xs) r l))
      have HN := Lib.hid (show net (gi xs) r k = sumT (gi xs) k - r * (k : Int) from rfl)
      have hmb : ∀ u, u ≤ k → 0 ≤ mxf (max 0 (l + net (gi xs) r k)) (fun s => net (gi xs) r k - net (gi xs) r (s + 1)) u ∧ mxf (max 0 (l + net (gi xs) r k)) (fun s => net (gi xs) r k - net (gi xs) r (s + 1)) u ≤ 3000000000 := by
        intro u hu
        have h1 := F0.out k (Nat.le_refl k)
        refine ⟨Int.le_trans (Int.le_max_left 0 _) (mxf_ge).1, mxf_le (by rw [HN.out]; omega) fun s hs => ?_⟩
        rw [net_lag]
        have a2 := F0.out (s + 1) (by omega)
        have a3 := F1.out s (by omega)
        omega
      have HMB := Lib.hid hmb
      have HST := Lib.hid (fun u => show mxf (max 0 (l + net (gi xs) r k)) (fun s => net (gi xs) r k - net (gi xs) r (s + 1)) (u + 1) = max (mxf (max 0 (l + net (gi xs) r k)) (fun s => net (gi xs) r k - net (gi xs) r (s + 1)) u) (sumT (gi xs) k - sumT (gi xs) (u + 1) - r * ((k : Int) - ((u : Int) + 1))) by rw [mxf_succ, net_lag])
      clear f0 f1 hmb
      have HSTART := Lib.hid (show mxf (max 0 (l + net (gi xs) r k)) (fun s => net (gi xs) r k - net (gi xs) r (s + 1)) 0 = max 0 (l + sumT (gi xs) k - r * (k : Int)) by show max 0 (l + net (gi xs) r k) = _; rw [HN.out]; omega)
      generalize hmm : mxf (max 0 (l + net (gi xs) r k)) (fun s => net (gi xs) r k - net (gi xs) r (s + 1)) = MM at *
      have HMM := Lib.hid hmm; clear hmm
      go_wp2
      all_goals
        go_loopw [10, 11] (fun v s ws => ∃ u : Nat, u ≤ k ∧ s = .int .i64 ((u : Int) + 1) ∧ v = .int .i64 (MM u) ∧ OwnI ws w1.heap.size q k d' (tab k (lq (gi xs) r l)) ∧ Below w1.heap.size w1 ws) (fun _ s _ => k + 1 - (intOf s).toNat)
        case atStart => exact ⟨0, by omega, rfl, by rw [HSTART.out]; first | rfl | (congr 1; omega), ho, hb⟩
        case round =>
          clear ho hb hsz c0
          obtain ⟨u, hu, rfl, rfl, ho2, hb2⟩ := hrel
          have hsz2 := hb2.size
          have hmb := HMB.out u hu
          by_cases huk : u < k
          · have c1 := HC.out _ hb2 k (by omega)
            have c2 := HC.out _ hb2 (u + 1) (by omega)
            have a1 := F0.out k (Nat.le_refl _)
            have a2 := F0.out (u + 1) huk
            have a3 := F1.out u huk
            have HST2 := Lib.hid (HST.out u)
            generalize MM u = mu at *
            generalize sumT (gi xs) k = s1 at *
            generalize sumT (gi xs) (u + 1) = s2 at *
            have q1 : IntKind.i64.wrap ((k : Int) - ((u : Int) + 1)) = (k : Int) - ((u : Int) + 1) := IntWalk.i64_in _ (by omega)
            have q2 : IntKind.i64.wrap (s1 - s2) = s1 - s2 := IntWalk.i64_in _ (by omega)
            have q3 : IntKind.i64.wrap (r * ((k : Int) - ((u : Int) + 1))) = r * ((k : Int) - ((u : Int) + 1)) := IntWalk.i64_in _ (by omega)
            have q4 : IntKind.i64.wrap (s1 - s2 - r * ((k : Int) - ((u : Int) + 1))) = s1 - s2 - r * ((k : Int) - ((u : Int) + 1)) := IntWalk.i64_in _ (by omega)
            have q5 : 0 ≤ (u : Int) + 1 := by omega
            have q6 : ((u : Int) + 1).toNat = u + 1 := by omega
            have q7 : (u : Int) + 1 ≤ (k : Int) := by omega
            have HO2 := Lib.hid ho2; have HB2 := Lib.hid hb2
            clear hb2 ho2
            go_wp2
            go_quiet (fail)
            clear q1 q2 q3 q4 q5 q6
            go_wp2
            all_goals
              go_roundw
              case rel => exact ⟨u + 1, by omega, by go_num, by rw [HST2.out]; first | rfl | (congr 1; omega), by exact OwnI.drewN HO2.out _, below_drewN HB2.out _⟩
              case measure => simp [intOf]; omega
          · obtain rfl : u = k := by omega
            have HMU : Hid (MM u = lq (gi xs) r l u) := Lib.hid HW.out
            rw [HMU.out] at hmb ⊢
            generalize lq (gi xs) r l u = mu at *
            have q7 : ¬ (u : Int) + 1 ≤ (u : Int) := by omega
            go_wp2_with (at_builtin; refine wpL_push_int Try.tyInts rfl rfl (B := w1.heap.size) (W0 := w1) (by first | rfl | simp [Act.eval]) (by first | rfl | simp [Act.eval]) (by exact ho2) (by exact hb2) (by omega) (by exact hsz2) ?_; intro p' c' w3 ho1 hb3 hg1 _)
            go_roundw
            case rel => exact ⟨u + 1, _, _, by omega, by go_num, rfl, by rw [HT.out]; exact ho1, hb3⟩
            case measure => simp [intOf]; omega
    · obtain rfl : n + 1 = k := by omega
      have g1 : ¬ ((n + 1 : Nat) : Int) < ((n + 1 : Nat) : Int) := by omega
      have hb2 := hb1.trans (hb.mono hb1.size)
      have ho2 := ho.base hb1.size
      go_wp2
      go_ret
      exact ⟨_, _, _, rfl, by unfold lagL; rw [HL.out]; exact ho2, hb2⟩
end Go.Proofs.Ytjlfefaifeanmaa
