/- The contracts of headref.Waits, headref.Goes and line.Busy (P32, P33). Conditions: how long the lists are, and how large their numbers. -/
import Derived.Test.YtjlfefaifeanmaaLine
namespace Go.Proofs.Ytjlfefaifeanmaa
open Go Go.RowKit

theorem net_diff (a : Nat → Int) (r : Int) (k u : Nat) : net a r (k + 1) - net a r u = sumT a (k + 1) - sumT a u - r * ((k : Int) + 1 - (u : Int)) := by
  unfold net
  rw [Int.mul_sub, Int.natCast_succ]; omega

set_option maxHeartbeats 1600000 in
theorem ref_Waits {w : World} {p : Option Addr} {n c : Nat} {xs : List Int} {r : Int} (h : SI w p n c xs) (hn : n ≤ 1000) (hbd : ∀ j, j < n → 0 ≤ gi xs j ∧ gi xs j ≤ 1000000) (hr0 : 0 ≤ r) (hr1 : r ≤ 10000) :
    Calls Try.prog 52 #[.slice p n c, .int .i64 r] w (RetS w (waitL xs r)) := by
  have hl := h.1
  have hm := h.2.1
  have HL := Lib.hid hl; clear hl
  have HS := Lib.hid (fun k (hk : k ≤ n) => sumT_bd hbd k hk)
  go_enter Try.func52, Try.ntmps52
  go_wp2_with fail
  refine (ref_Added h hn hbd).mono ?_; rintro e w1 ⟨q, m, d, rfl, ho, hb1⟩
  have hlen := ho.len
  unfold addL at hlen ho
  rw [tab_length] at hlen
  rw [HL.out] at hlen ho
  subst hlen
  obtain ⟨g, rfl⟩ := ho.addr (by omega)
  have hgl := ho.blk.2
  have HC := Lib.hid (fun (w' : World) (hb : Below w1.heap.size w1 w') (j : Nat) (hj : j < n + 1) => show w'.cell? ⟨g, j, none⟩ = some (.int .i64 (sumT (gi xs) j)) from (bdeep hb hgl _).trans ((ho.at hj).trans (by rw [gi_tab hj])))
  clear ho h hbd
  go_wp2
  go_loopw [6, 7] (fun v i wr => ∃ (k : Nat) (q : Option Addr) (d : Nat), k ≤ n ∧ i = .int .i64 ((k : Int) + 1) ∧ v = .slice q k d ∧ OwnI wr w1.heap.size q k d (tab k fun k => lq (gi xs) r 0 (k + 1)) ∧ Below w1.heap.size w1 wr) (fun _ i _ => n + 1 - (intOf i).toNat)
  case atStart => exact ⟨0, none, 0, by omega, rfl, rfl, OwnI.nil _ _, Below.refl _ _⟩
  case round =>
    obtain ⟨k, q, d', hk, rfl, rfl, ho, hb⟩ := hrel
    have hsz := hb.size
    by_cases hkn : k < n
    · have g1 : (k : Int) + 1 < ((n + 1 : Nat) : Int) := by omega
      go_wp2
      go_loopw [8, 9] (fun v s ws => ∃ u : Nat, u ≤ k + 2 ∧ s = .int .i64 u ∧ v = .int .i64 (mxf 0 (fun s => net (gi xs) r (k + 1) - net (gi xs) r s) u) ∧ OwnI ws w1.heap.size q k d' (tab k fun k => lq (gi xs) r 0 (k + 1)) ∧ Below w1.heap.size w1 ws) (fun _ s _ => k + 2 - (intOf s).toNat)
      case atStart => exact ⟨0, by omega, rfl, rfl, ho, hb⟩
      case round =>
        clear ho hb hsz
        obtain ⟨u, hu, rfl, rfl, ho2, hb2⟩ := hrel
        have hsz2 := hb2.size
        have f0 : ∀ s, s ≤ k + 1 → 0 ≤ sumT (gi xs) s ∧ sumT (gi xs) s ≤ 1000000000 := fun s hs => by have := HS.out s (by omega); omega
        have f1 : ∀ s, s ≤ k + 1 → 0 ≤ r * ((k : Int) + 1 - (s : Int)) ∧ r * ((k : Int) + 1 - (s : Int)) ≤ 10000000 := fun s hs => by
          refine ⟨Int.mul_nonneg hr0 (by omega), ?_⟩
          have := Int.mul_le_mul hr1 (show (k : Int) + 1 - (s : Int) ≤ 1000 by omega) (by omega) (by omega)
          omega
        have hmx := mxf_bd (s := 0) (e := fun s => net (gi xs) r (k + 1) - net (gi xs) r s) (m := u) (a := 0) (b := 1000000000) (by omega)
        have hmb : 0 ≤ mxf 0 (fun s => net (gi xs) r (k + 1) - net (gi xs) r s) u ∧ mxf 0 (fun s => net (gi xs) r (k + 1) - net (gi xs) r s) u ≤ 1000000000 := by
          refine ⟨(mxf_ge).1, mxf_le (by omega) fun s hs => ?_⟩
          rw [net_diff]
          have a1 := f0 (k + 1) (Nat.le_refl _)
          have a2 := f0 s (by omega)
          have a3 := f1 s (by omega)
          omega
        clear hmx
        by_cases huk : u ≤ k + 1
        · have c1 := HC.out _ hb2 (k + 1) (by omega)
          have c2 := HC.out _ hb2 u (by omega)
          have a1 := f0 (k + 1) (Nat.le_refl _)
          have a2 := f0 u huk
          have a3 := f1 u huk
          have HST := Lib.hid (show mxf 0 (fun s => net (gi xs) r (k + 1) - net (gi xs) r s) (u + 1) = max (mxf 0 (fun s => net (gi xs) r (k + 1) - net (gi xs) r s) u) (sumT (gi xs) (k + 1) - sumT (gi xs) u - r * ((k : Int) + 1 - (u : Int))) by rw [mxf_succ, net_diff])
          generalize mxf 0 (fun s => net (gi xs) r (k + 1) - net (gi xs) r s) u = mu at *
          generalize sumT (gi xs) (k + 1) = s1 at *
          generalize sumT (gi xs) u = s2 at *
          have q1 : IntKind.i64.wrap ((k : Int) + 1 - (u : Int)) = (k : Int) + 1 - (u : Int) := IntWalk.i64_in _ (by omega)
          have q2 : IntKind.i64.wrap (s1 - s2) = s1 - s2 := IntWalk.i64_in _ (by omega)
          have q3 : IntKind.i64.wrap (r * ((k : Int) + 1 - (u : Int))) = r * ((k : Int) + 1 - (u : Int)) := IntWalk.i64_in _ (by omega)
          have q4 : IntKind.i64.wrap (s1 - s2 - r * ((k : Int) + 1 - (u : Int))) = s1 - s2 - r * ((k : Int) + 1 - (u : Int)) := IntWalk.i64_in _ (by omega)
          have q5 : 0 ≤ (k : Int) + 1 := by omega
          have q6 : ((k : Int) + 1).toNat = k + 1 := by omega
          have q7 : (u : Int) ≤ (k : Int) + 1 := by omega
          have HO2 := Lib.hid ho2; have HB2 := Lib.hid hb2
          clear f0 f1 hb2 ho2
          go_wp2
          go_quiet (fail)
          clear q1 q2 q3 q4 q5 q6
          go_wp2
          all_goals
            go_roundw
            case rel => exact ⟨u + 1, by omega, by go_num, by rw [HST.out]; first | rfl | (congr 1; omega), by exact OwnI.drewN HO2.out _, below_drewN HB2.out _⟩
            case measure => simp [intOf]; omega
        · obtain rfl : u = k + 2 := by omega
          have HW := Lib.hid (lq_wait (gi xs) r (k + 1))
          have HT := Lib.hid (tab_succ k fun k => lq (gi xs) r 0 (k + 1))
          rw [HW.out] at hmb ⊢
          generalize lq (gi xs) r 0 (k + 1) = mu at *
          have q7 : ¬ ((k + 2 : Nat) : Int) ≤ (k : Int) + 1 := by omega
          clear f0 f1
          go_wp2_with (at_builtin; refine wpL_push_int Try.tyInts rfl rfl (B := w1.heap.size) (W0 := w1) (by first | rfl | simp [Act.eval]) (by first | rfl | simp [Act.eval]) (by exact ho2) (by exact hb2) (by omega) (by exact hsz2) ?_; intro p' c' w3 ho1 hb3 hg1 _)
          go_roundw
          case rel => exact ⟨k + 1, _, _, by omega, by go_num, rfl, by rw [HT.out]; exact ho1, hb3⟩
          case measure => simp [intOf]; omega
    · obtain rfl : n = k := by omega
      have g1 : ¬ (n : Int) + 1 < ((n + 1 : Nat) : Int) := by omega
      have hb2 := hb1.trans (hb.mono hb1.size)
      have ho2 := ho.base hb1.size
      go_wp2
      go_ret
      exact ⟨_, _, _, rfl, by unfold waitL; rw [HL.out]; exact ho2, hb2⟩
end Go.Proofs.Ytjlfefaifeanmaa
