/- The contract of headref.Shared (P69): byte by byte. Conditions: the numbers' bounds. -/
import Derived.Test.YtggpcceljipelaaShare
import Derived.Test.YtggpcceljipelaaClone
namespace Go.Proofs.Ytggpcceljipelaa
open Go Go.RowKit

/-- does one of the first i lag behind round R yet -/
def anyG (m : Nat → Int) (R : Int) : Nat → Bool
  | 0 => false
  | i + 1 => anyG m R i || decide (R < m i)
theorem anyG_false {m : Nat → Int} {R : Int} : ∀ {i : Nat}, anyG m R i = false → ∀ j, j < i → m j ≤ R
  | 0, _, j, hj => by omega
  | i + 1, h, j, hj => by
    simp only [anyG, Bool.or_eq_false_iff, decide_eq_false_iff_not] at h
    rcases Nat.lt_succ_iff_lt_or_eq.1 hj with h' | rfl
    · exact anyG_false h.1 j h'
    · omega
theorem cc_mono {m : Nat → Int} {n : Nat} {R : Int} : ∀ {i : Nat}, i ≤ n → cc m n R 0 ≤ cc m n R i ∧ (anyG m R i = true → cc m n R 0 < cc m n R i)
  | 0, _ => ⟨by omega, fun h => by simp [anyG] at h⟩
  | i + 1, hi => by
    obtain ⟨h1, h2⟩ := cc_mono (m := m) (n := n) (R := R) (i := i) (by omega)
    rw [cc_succ (by omega)]
    refine ⟨by split <;> omega, fun h => ?_⟩
    simp only [anyG, Bool.or_eq_true, decide_eq_true_eq] at h
    rcases h with h | h
    · have := h2 h; split <;> omega
    · rw [if_pos h]; omega
def leftV (m : Nat → Int) (R : Int) (i j : Nat) : Int := if j < i then max 0 (m j - (R + 1)) else max 0 (m j - R)
def outV (m : Nat → Int) (n : Nat) (r R : Int) (i j : Nat) : Int := if j < i then (if m j ≤ R + 1 then finS m n r j else 0) else if m j ≤ R then finS m n r j else 0
theorem leftV_start (m : Nat → Int) (n j : Nat) (h : j < n) (R : Int) : leftV m R n j = leftV m (R + 1) 0 j := by unfold leftV; rw [if_pos h, if_neg (by omega)]
theorem outV_start (m : Nat → Int) (n j : Nat) (h : j < n) (r R : Int) : outV m n r R n j = outV m n r (R + 1) 0 j := by unfold outV; rw [if_pos h, if_neg (by omega : ¬ j < 0)]
theorem leftV_keep {m : Nat → Int} {R : Int} {i j : Nat} (h : m i ≤ R) : leftV m R i j = leftV m R (i + 1) j := by
  unfold leftV
  by_cases e : j = i
  · subst e; rw [if_neg (by omega), if_pos (by omega)]; omega
  · by_cases e2 : j < i
    · rw [if_pos e2, if_pos (show j < i + 1 by omega)]
    · rw [if_neg e2, if_neg (show ¬ j < i + 1 by omega)]
theorem outV_keep {m : Nat → Int} {n : Nat} {r R : Int} {i j : Nat} (h : m i ≤ R ∨ R + 1 < m i) : outV m n r R i j = outV m n r R (i + 1) j := by
  unfold outV
  by_cases e : j = i
  · subst e
    rw [if_neg (by omega : ¬ j < j), if_pos (by omega : j < j + 1)]
    rcases h with h | h
    · rw [if_pos h, if_pos (by omega)]
    · rw [if_neg (by omega), if_neg (by omega)]
  · by_cases e2 : j < i
    · rw [if_pos e2, if_pos (show j < i + 1 by omega)]
    · rw [if_neg e2, if_neg (show ¬ j < i + 1 by omega)]
theorem leftV_set {m : Nat → Int} {R : Int} {i j : Nat} (h : R < m i) : (if j = i then leftV m R i i - 1 else leftV m R i j) = leftV m R (i + 1) j := by
  unfold leftV
  by_cases e : j = i
  · subst e; rw [if_pos rfl, if_neg (by omega), if_pos (by omega)]; omega
  · rw [if_neg e]
    by_cases e2 : j < i
    · rw [if_pos e2, if_pos (show j < i + 1 by omega)]
    · rw [if_neg e2, if_neg (show ¬ j < i + 1 by omega)]
theorem outV_set {m : Nat → Int} {n : Nat} {r R : Int} {i j : Nat} (h : m i = R + 1) (hR : 0 ≤ R) : (if j = i then cc m n R i / r + 1 else outV m n r R i j) = outV m n r R (i + 1) j := by
  unfold outV
  by_cases e : j = i
  · subst e; rw [if_pos rfl, if_pos (by omega : j < j + 1), if_pos (by omega)]
    unfold finS
    rw [if_neg (by omega), show m j - 1 = R by omega]
  · rw [if_neg e]
    by_cases e2 : j < i
    · rw [if_pos e2, if_pos (show j < i + 1 by omega)]
    · rw [if_neg e2, if_neg (show ¬ j < i + 1 by omega)]

set_option maxHeartbeats 2000000 in
theorem ref_Shared {w : World} {p : Option Addr} {n c : Nat} {xs : List Int} {r : Int} (h : SI w p n c xs) (h8 : n ≤ 8) (hbd : ∀ j, j < n → 0 ≤ gi xs j ∧ gi xs j ≤ 1000) (hr1 : 1 ≤ r) (hr2 : r ≤ 10000) :
    Calls Try.prog 53 #[.slice p n c, .int .i64 r] w (RetC w (tab n (finS (gi xs) n r))) := by
  have hl := h.1
  have hm := h.2.1
  have HL := Lib.hid hl; have HBD := Lib.hid hbd
  clear hl hbd
  have hr0 : (r == 0) = false := by simp; omega
  go_enter Try.func53, Try.ntmps53
  go_wp2_with fail
  refine (slices_Clone h (by omega)).mono ?_; rintro e w1 ⟨p5, n5, c5, rfl, ho5, hb1⟩
  obtain rfl : n = n5 := by rw [← ho5.len]; exact HL.out.symm
  have hs1 := hb1.size
  go_wp2_with (at_make; refine wpL_make_int Try.tyInts rfl rfl (B := w.heap.size) (W0 := w) n rfl rfl rfl rfl hb1 (by omega) hs1 ?_; intro g6 w2 hg hown hb2 hb12)
  have ho5b := ho5.below hb12
  have hsep : ∀ g, p5 = some ⟨g, 0, none⟩ → g ≠ g6 := by
    rintro g rfl e
    have := ho5.blk.2
    omega
  have HSEP := Lib.hid hsep
  have ht0 : xs = tab n (leftV (gi xs) 0 0) := by
    have := tab_gi xs
    rw [HL.out] at this
    exact this.symm.trans (tab_congr fun j hj => by
      have := HBD.out j hj
      unfold leftV; rw [if_neg (by omega)]; omega)
  have hg6 : w.heap.size ≤ g6 := by omega
  have ho5c := ho5b.cast ht0
  have ho6 := hown.to (z' := outV (gi xs) n r 0 0) fun j hj => by
    have := HBD.out j hj
    unfold outV finS
    rw [if_neg (by omega)]
    by_cases e : gi xs j ≤ 0
    · rw [if_pos e, if_pos (by omega)]
    · rw [if_neg e]
  have hcz := cc_zero (fun j hj => (HBD.out j hj).1)
  clear ho5b ho5 ht0 hown hsep h
  go_wp2
  go_loopw [7] (fun v wr => ∃ R : Nat, v = .int .i64 (cc (gi xs) n (R : Int) 0) ∧ OwnI wr w.heap.size p5 n c5 (tab n (leftV (gi xs) (R : Int) 0)) ∧ OwnI wr w.heap.size (some ⟨g6, 0, none⟩) n n (tab n (outV (gi xs) n r (R : Int) 0)) ∧ Below w.heap.size w wr) (fun v _ => 8001 - (intOf v).toNat)
  case atStart => exact ⟨0, by rw [show ((0 : Nat) : Int) = 0 from rfl, hcz], ho5c, ho6, hb2⟩
  case round =>
    obtain ⟨R, rfl, ho5, ho6', hb⟩ := hrel
    clear ho5c ho6 hcz hb2
    go_wp2
    go_loopw [7, 8, 17] (fun v s i wr => ∃ k : Nat, k ≤ n ∧ i = .int .i64 k ∧ v = .int .i64 (cc (gi xs) n (R : Int) k) ∧ s = .bool (anyG (gi xs) (R : Int) k) ∧ OwnI wr w.heap.size p5 n c5 (tab n (leftV (gi xs) (R : Int) k)) ∧ OwnI wr w.heap.size (some ⟨g6, 0, none⟩) n n (tab n (outV (gi xs) n r (R : Int) k)) ∧ Below w.heap.size w wr) (fun _ _ i _ => n - (intOf i).toNat)
    case atStart => exact ⟨0, by omega, rfl, rfl, rfl, ho5, ho6', hb⟩
    case round =>
      clear ho5 ho6' hb
      obtain ⟨k, hk, rfl, rfl, rfl, ho5, ho6, hb⟩ := hrel
      have hccb := cc_bd (R := (R : Int)) (i := k) HBD.out (by omega)
      by_cases hkn : k < n
      · obtain ⟨g5, rfl⟩ := ho5.addr (by omega)
        have hne := HSEP.out g5 rfl
        have hne' : ¬ g6 = g5 := fun e => hne e.symm
        have hg5 := ho5.blk.1
        have c5 := ho5.at hkn
        rw [gi_tab hkn] at c5
        have c6 := ho6.at hkn
        have f5 := ho5.free k
        have f6 := ho6.free k
        have hmk := HBD.out k hkn
        have HCS := Lib.hid (cc_succ (m := gi xs) (n := n) (R := (R : Int)) hkn)
        have HAS := Lib.hid (show anyG (gi xs) (R : Int) (k + 1) = (anyG (gi xs) (R : Int) k || decide ((R : Int) < gi xs k)) from rfl)
        have HLV := Lib.hid (show leftV (gi xs) (R : Int) k k = max 0 (gi xs k - (R : Int)) by unfold leftV; rw [if_neg (by omega)])
        by_cases hle : gi xs k ≤ (R : Int)
        · rw [HLV.out, show max 0 (gi xs k - (R : Int)) = 0 by omega] at c5
          go_wp2
          go_roundw
          case rel => exact ⟨k + 1, by omega, by go_num, by rw [HCS.out, if_neg (by omega)]; simp, by rw [HAS.out]; simp; omega, ho5.to fun j _ => leftV_keep hle, ho6.to fun j _ => outV_keep (.inl hle), hb⟩
          case measure => simp [intOf]; omega
        · rw [HLV.out, show max 0 (gi xs k - (R : Int)) = gi xs k - (R : Int) by omega] at c5
          have z1 : ((gi xs k - (R : Int)) == 0) = false := by simp; omega
          have HA1 : Hid (anyG (gi xs) (R : Int) (k + 1) = true) := Lib.hid (by rw [HAS.out]; simp; omega)
          have hccn : 0 ≤ cc (gi xs) n (R : Int) k := hccb.1
          have ho5s := ho5.put (z' := leftV (gi xs) (R : Int) (k + 1)) k (gi xs k - (R : Int) - 1) fun j _ => by
            have := leftV_set (m := gi xs) (R := (R : Int)) (i := k) (j := j) (by omega)
            rw [HLV.out, show max 0 (gi xs k - (R : Int)) = gi xs k - (R : Int) by omega] at this
            exact this
          have ho6s := ho6.apart (j := k) (v := .int .i64 (gi xs k - (R : Int) - 1)) (Ne.symm hne)
          have hbs := hb.setCell (p := ⟨g5, k, none⟩) hg5 (.int .i64 (gi xs k - (R : Int) - 1))
          have HC1 : Hid (cc (gi xs) n (R : Int) (k + 1) = cc (gi xs) n (R : Int) k + 1) := Lib.hid (by rw [HCS.out, if_pos (by omega)])
          by_cases h1 : gi xs k = (R : Int) + 1
          · have z2 : ((gi xs k - (R : Int) - 1) == 0) = true := by simp; omega
            have HO := Lib.hid (fun j => outV_set (m := gi xs) (n := n) (r := r) (R := (R : Int)) (i := k) (j := j) h1 (by omega))
            clear h1
            have hq : 0 ≤ cc (gi xs) n (R : Int) k / r ∧ cc (gi xs) n (R : Int) k / r ≤ 100000 := ⟨Int.ediv_nonneg hccn (by omega), by have := Int.ediv_le_self r hccn; omega⟩
            go_wp2
            go_roundw
            case rel => exact ⟨k + 1, by omega, by go_num, by rw [HC1.out], by rw [HA1.out], ho5s.apart hne, ho6s.put k _ fun j _ => HO.out j, hbs.setCell hg6 _⟩
            case measure => simp [intOf]; omega
          · have z2 : ((gi xs k - (R : Int) - 1) == 0) = false := by simp; omega
            have HO := Lib.hid (fun j => outV_keep (m := gi xs) (n := n) (r := r) (R := (R : Int)) (i := k) (j := j) (.inr (by omega)))
            clear h1
            go_wp2
            go_roundw
            case rel => exact ⟨k + 1, by omega, by go_num, by rw [HC1.out], by rw [HA1.out], ho5s, ho6s.to fun j _ => HO.out j, hbs⟩
            case measure => simp [intOf]; omega
      · obtain rfl : n = k := by omega
        have hmo := cc_mono (m := gi xs) (n := n) (R := (R : Int)) (Nat.le_refl n)
        have hc0 := cc_bd (R := (R : Int)) (i := 0) HBD.out (by omega)
        have HRD := Lib.hid (cc_round (m := gi xs) (n := n) (R := (R : Int)))
        cases hs : anyG (gi xs) (R : Int) n with
        | true =>
          have hlt := hmo.2 hs
          have HS := Lib.hid hs
          clear hs hmo
          go_wp2
          go_roundw
          case rel => exact ⟨R + 1, by rw [HRD.out]; simp, ho5.to fun j hj => by rw [leftV_start _ _ _ hj]; simp, ho6.to fun j hj => by rw [outV_start _ _ _ hj]; simp, hb⟩
          case measure => simp [intOf]; omega
        | false =>
          have HS := Lib.hid hs
          clear hs hmo
          go_wp2
          go_ret
          refine ⟨_, _, _, rfl, ho6.to fun j hj => ?_, hb⟩
          have := anyG_false HS.out j hj
          unfold outV
          rw [if_pos hj, if_pos (by omega)]
end Go.Proofs.Ytggpcceljipelaa
