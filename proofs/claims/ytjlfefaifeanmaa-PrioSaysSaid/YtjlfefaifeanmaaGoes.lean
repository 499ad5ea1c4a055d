/- The contracts of headref.Goes and line.Busy (P32, P33). Conditions: how long the lists are, and how large their numbers. -/
import Derived.Test.YtjlfefaifeanmaaWaits
namespace Go.Proofs.Ytjlfefaifeanmaa
open Go Go.RowKit

set_option maxHeartbeats 1000000 in
theorem ref_Goes {w : World} {p : Option Addr} {n c : Nat} {xs : List Int} {r : Int} (h : SI w p n c xs) (hn : n ≤ 1000) (hbd : ∀ j, j < n → 0 ≤ gi xs j ∧ gi xs j ≤ 1000000) (hr0 : 0 ≤ r) (hr1 : r ≤ 10000) :
    Calls Try.prog 53 #[.slice p n c, .int .i64 r] w (RetS w (goesL xs r)) := by
  have hl := h.1
  have hm := h.2.1
  have HL := Lib.hid hl; clear hl
  have HQ := Lib.hid (fun k (hk : k ≤ n) => lq_bd (r := r) (l := 0) (c := 0) hr0 (by omega) (by omega) hbd k hk)
  go_enter Try.func53, Try.ntmps53
  go_wp2_with fail
  refine (ref_Waits h hn hbd hr0 hr1).mono ?_; rintro e w1 ⟨q, m, d, rfl, ho, hb1⟩
  have hlen := ho.len
  unfold waitL at hlen ho
  rw [tab_length] at hlen
  rw [HL.out] at hlen ho
  subst hlen
  have hs := ho.si
  clear ho
  go_wp2
  go_loopw [5, 6, 13] (fun v s i wr => ∃ (k : Nat) (q : Option Addr) (d : Nat), k ≤ n ∧ i = .int .i64 k ∧ v = .slice q k d ∧ s = .int .i64 (lq (gi xs) r 0 k) ∧ OwnI wr w1.heap.size q k d (tab k fun k => lq (gi xs) r 0 k + gi xs k - lq (gi xs) r 0 (k + 1)) ∧ Below w1.heap.size w1 wr) (fun _ _ i _ => n - (intOf i).toNat)
  case atStart => exact ⟨0, none, 0, by omega, rfl, rfl, rfl, OwnI.nil _ _, Below.refl _ _⟩
  case round =>
    obtain ⟨k, q', d', hk, rfl, rfl, rfl, ho, hb⟩ := hrel
    have hsz := hb.size
    by_cases hkn : k < n
    · have h1 := h.below hb1
      obtain ⟨b, off, rfl, hlt, hc⟩ := h1.cells (by omega)
      obtain ⟨b', off', rfl, hlt', hc'⟩ := hs.cells (by omega)
      have c1 : wr.cell? ⟨b, off + k, none⟩ = some (.int .i64 (gi xs k)) := (bdeep hb hlt _).trans (hc _ hkn)
      have c2 : wr.cell? ⟨b', off' + k, none⟩ = some (.int .i64 (lq (gi xs) r 0 (k + 1))) := (bdeep hb hlt' _).trans ((hc' _ hkn).trans (by rw [gi_tab hkn]))
      have b1 := hbd k hkn
      have b2 := HQ.out k hk
      have b3 := HQ.out (k + 1) hkn
      have HT := Lib.hid (tab_succ k fun k => lq (gi xs) r 0 k + gi xs k - lq (gi xs) r 0 (k + 1))
      generalize hq2 : lq (gi xs) r 0 (k + 1) = q2 at *
      have HQ2 := Lib.hid hq2; clear hq2
      generalize lq (gi xs) r 0 k = q1 at *
      clear hc hc' h h1 hs hbd
      go_wp2_with (at_builtin; refine wpL_push_int Try.tyInts rfl rfl (B := w1.heap.size) (W0 := w1) (by first | rfl | simp [Act.eval]) (by first | rfl | simp [Act.eval]) ho hb (by omega) hsz ?_; intro p' c' w3 ho1 hb3 hg1 _)
      go_roundw
      case rel => exact ⟨k + 1, _, _, by omega, by go_num, rfl, by rw [HQ2.out], by rw [HT.out]; exact ho1, hb3⟩
      case measure => simp [intOf]; omega
    · obtain rfl : n = k := by omega
      have hb2 := hb1.trans (hb.mono hb1.size)
      have ho2 := ho.base hb1.size
      go_wp2
      go_ret
      exact ⟨_, _, _, rfl, by unfold goesL; rw [HL.out]; exact ho2, hb2⟩

set_option maxHeartbeats 400000 in
theorem line_Busy_bad {w : World} {p : Option Addr} {n c : Nat} {xs : List Int} {r : Int} (h : SI w p n c xs) {er : Int} (he : lineErr xs r = er) (h0 : er ≠ 0) :
    Calls Try.prog 51 #[.slice p n c, .int .i64 r] w fun e w' => e = .returned (.tuple #[.int .i64 0, .int .i64 er]) ∧ w = w' := by
  have hb := bne_false_of h0
  go_enter Try.func51, Try.ntmps51
  go_wp2_with fail
  refine (line_Run_bad h he h0).mono ?_; rintro e w' ⟨rfl, rfl⟩
  go_wp2
  go_ret2
  exact ⟨rfl, rfl⟩

/-- the longest time with something left -/
def busyV (xs : List Int) (r : Int) : Nat := bm (fun k => lq (gi xs) r 0 (k + 1)) xs.length

set_option maxHeartbeats 1000000 in
theorem line_Busy_ok {w : World} {p : Option Addr} {n c : Nat} {xs : List Int} {r : Int} (h : SI w p n c xs) (he : lineErr xs r = 0) :
    Calls Try.prog 51 #[.slice p n c, .int .i64 r] w fun e w' => e = .returned (.tuple #[.int .i64 (busyV xs r), .int .i64 0]) ∧ Below w.heap.size w w' := by
  have hl := h.1
  obtain ⟨h60, _⟩ := trace_ok (line_ok he).1
  rw [hl] at h60
  have HL := Lib.hid hl; clear hl
  go_enter Try.func51, Try.ntmps51
  go_wp2_with fail
  refine (line_Run_ok h he).mono ?_; rintro e w1 ⟨p1, n1, c1, L1, q, m, d, L2, er, rfl, ho1, ho, hb1, rfl, rfl, rfl⟩
  have hlen := ho.len
  unfold waitL at hlen ho
  rw [tab_length] at hlen
  rw [HL.out] at hlen ho
  subst hlen
  have hs := ho.si
  clear ho ho1 h he
  go_wp2
  go_loop [9, 10, 25] (fun a b i => ∃ (k : Nat), k ≤ n ∧ i = .int .i64 k ∧ a = .int .i64 (bm (fun k => lq (gi xs) r 0 (k + 1)) k) ∧ b = .int .i64 (be (fun k => lq (gi xs) r 0 (k + 1)) k)) (fun _ _ i => n - (intOf i).toNat)
  case atStart => exact ⟨0, by omega, rfl, rfl, rfl⟩
  case round =>
    obtain ⟨k, hk, rfl, rfl, rfl⟩ := hrel
    by_cases hkn : k < n
    · obtain ⟨b', off', rfl, hlt', hc'⟩ := hs.cells (by omega)
      have c2 : w1.cell? ⟨b', off' + k, none⟩ = some (.int .i64 (lq (gi xs) r 0 (k + 1))) := (hc' _ hkn).trans (by rw [gi_tab hkn])
      have b1 := (be_le (fun k => lq (gi xs) r 0 (k + 1)) k).1
      have b2 := bm_bd (fun k => lq (gi xs) r 0 (k + 1)) k
      have HS1 := Lib.hid (show be (fun k => lq (gi xs) r 0 (k + 1)) (k + 1) = if 0 < lq (gi xs) r 0 (k + 1) then be (fun k => lq (gi xs) r 0 (k + 1)) k + 1 else 0 from rfl)
      have HS2 := Lib.hid (show bm (fun k => lq (gi xs) r 0 (k + 1)) (k + 1) = max (bm (fun k => lq (gi xs) r 0 (k + 1)) k) (be (fun k => lq (gi xs) r 0 (k + 1)) (k + 1)) from rfl)
      generalize be (fun k => lq (gi xs) r 0 (k + 1)) k = e1 at *
      generalize bm (fun k => lq (gi xs) r 0 (k + 1)) k = e2 at *
      generalize lq (gi xs) r 0 (k + 1) = q2 at *
      clear hc' hs
      by_cases hq : 0 < q2
      · go_wp2
        all_goals
          go_round
          case rel => exact ⟨k + 1, by omega, by go_num, by rw [HS2.out, HS1.out, if_pos hq]; first | rfl | (congr 1; omega), by rw [HS1.out, if_pos hq]; first | rfl | (congr 1; omega)⟩
          case measure => simp [intOf]; omega
      · go_wp2
        all_goals
          go_round
          case rel => exact ⟨k + 1, by omega, by go_num, by rw [HS2.out, HS1.out, if_neg hq]; first | rfl | (congr 1; omega), by rw [HS1.out, if_neg hq]; first | rfl | (congr 1; omega)⟩
          case measure => simp [intOf]; omega
    · obtain rfl : n = k := by omega
      go_wp2
      go_ret2
      exact ⟨ret2_int (by unfold busyV; rw [HL.out]), hb1⟩
end Go.Proofs.Ytjlfefaifeanmaa
