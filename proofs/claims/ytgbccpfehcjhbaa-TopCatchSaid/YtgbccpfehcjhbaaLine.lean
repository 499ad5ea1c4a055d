/- The contracts of line.Run, line.Busy, headlaw.rated, headref.Waits and headref.Goes (P32, P33). Conditions: how long the lists are, and how large their numbers. -/
import Derived.Test.YtgbccpfehcjhbaaAdded
import Derived.Deep.QuietTactic
import Derived.BigQuiet
import Derived.IntWalk
namespace Go.Proofs.Ytgbccpfehcjhbaa
open Go Go.RowKit

def lineErr (xs : List Int) (r : Int) : Int := if traceErr xs ≠ 0 then traceErr xs else if r < 0 ∨ 10000 < r then 1 else 0
theorem line_ok {xs : List Int} {r : Int} (h : lineErr xs r = 0) : traceErr xs = 0 ∧ 0 ≤ r ∧ r ≤ 10000 := by
  unfold lineErr at h
  by_cases h1 : traceErr xs = 0
  · rw [if_neg (by simp [h1])] at h
    by_cases h2 : r < 0 ∨ 10000 < r
    · rw [if_pos h2] at h; omega
    · omega
  · rw [if_pos h1] at h; omega
def waitL (xs : List Int) (r : Int) : List Int := tab xs.length fun k => lq (gi xs) r 0 (k + 1)
def goesL (xs : List Int) (r : Int) : List Int := tab xs.length fun k => lq (gi xs) r 0 k + gi xs k - lq (gi xs) r 0 (k + 1)

/-- two new lists, and an error -/
def RetLL (w : World) (F : List Int → List Int → Int → Prop) (e : Ending) (w' : World) : Prop :=
  ∃ p n c L p2 n2 c2 L2 er, e = .returned (.tuple #[.slice p n c, .slice p2 n2 c2, .int .i64 er]) ∧ OwnI w' w.heap.size p n c L ∧ OwnI w' w.heap.size p2 n2 c2 L2 ∧ Below w.heap.size w w' ∧ F L L2 er

set_option maxHeartbeats 400000 in
theorem line_look {w : World} {p : Option Addr} {n c : Nat} {xs : List Int} {r : Int} (h : SI w p n c xs) {er : Int} (he : lineErr xs r = er) :
    Calls Try.prog 28 #[.slice p n c, .int .i64 r] w fun e w' => e = .returned (.int .i64 er) ∧ w = w' := by
  obtain ⟨et, ht⟩ : ∃ et, traceErr xs = et := ⟨_, rfl⟩
  have HT := Lib.hid ht; have HE := Lib.hid he; clear ht he
  by_cases h0 : et = 0
  · subst h0
    rcases (show r < 0 ∨ (0 ≤ r ∧ 10000 < r) ∨ (0 ≤ r ∧ r ≤ 10000) by omega) with h1 | ⟨h1, h2⟩ | ⟨h1, h2⟩
    all_goals
      go_enter Try.func28, Try.ntmps28
      go_wp2_with fail
      refine (trace_Check h HT.out).mono ?_; rintro e w' ⟨rfl, rfl⟩
      go_wp2
      go_ret
      exact ⟨ret_int (by rw [← HE.out]; unfold lineErr; rw [HT.out, if_neg (by simp)]; first | rw [if_pos (by omega)] | rw [if_neg (by omega)]), rfl⟩
  · have hb := bne_false_of h0
    go_enter Try.func28, Try.ntmps28
    go_wp2_with fail
    refine (trace_Check h HT.out).mono ?_; rintro e w' ⟨rfl, rfl⟩
    go_wp2
    go_ret
    exact ⟨ret_int (by rw [← HE.out]; unfold lineErr; rw [HT.out, if_pos h0]), rfl⟩

set_option maxHeartbeats 400000 in
theorem line_Run_bad {w : World} {p : Option Addr} {n c : Nat} {xs : List Int} {r : Int} (h : SI w p n c xs) {er : Int} (he : lineErr xs r = er) (h0 : er ≠ 0) :
    Calls Try.prog 22 #[.slice p n c, .int .i64 r] w fun e w' => e = .returned (.tuple #[.slice none 0 0, .slice none 0 0, .int .i64 er]) ∧ w = w' := by
  have hb := bne_false_of h0
  have HE := Lib.hid he; clear he
  go_enter Try.func22, Try.ntmps22
  go_wp2_with fail
  refine (line_look h HE.out).mono ?_; rintro e w' ⟨rfl, rfl⟩
  go_wp2
  go_ret3
  exact ⟨rfl, rfl⟩

set_option maxHeartbeats 1600000 in
theorem line_Run_ok {w : World} {p : Option Addr} {n c : Nat} {xs : List Int} {r : Int} (h : SI w p n c xs) (he : lineErr xs r = 0) :
    Calls Try.prog 22 #[.slice p n c, .int .i64 r] w (RetLL w fun L L2 er => er = 0 ∧ L = goesL xs r ∧ L2 = waitL xs r) := by
  have hl := h.1
  have hm := h.2.1
  obtain ⟨ht, hr0, hr1⟩ := line_ok he
  obtain ⟨h60, hok⟩ := trace_ok ht
  have hbd : ∀ j, j < n → 0 ≤ gi xs j ∧ gi xs j ≤ 10000 := by rw [← hl]; exact hok
  rw [hl] at h60
  have HE := Lib.hid he; have HL := Lib.hid hl
  have HQ := Lib.hid (fun k (hk : k ≤ n) => lq_bd (r := r) (l := 0) (c := 0) hr0 (by omega) (by omega) hbd k hk)
  clear he hl ht hok
  go_enter Try.func22, Try.ntmps22
  go_wp2_with fail
  refine (line_look h HE.out).mono ?_; rintro e w' ⟨rfl, rfl⟩
  go_wp2
  go_loopw [8, 9, 10, 22] (fun v l q i wr => ∃ (k : Nat) (q1 q2 : Option Addr) (a1 a2 : Nat), k ≤ n ∧ i = .int .i64 k ∧ v = .slice q1 k a1 ∧ l = .slice q2 k a2 ∧ q = .int .i64 (lq (gi xs) r 0 k) ∧ OwnI wr w.heap.size q1 k a1 (tab k fun k => lq (gi xs) r 0 k + gi xs k - lq (gi xs) r 0 (k + 1)) ∧ OwnI wr w.heap.size q2 k a2 (tab k fun k => lq (gi xs) r 0 (k + 1)) ∧ Sep q1 q2 ∧ Below w.heap.size w wr) (fun _ _ _ i _ => n - (intOf i).toNat)
  case atStart => exact ⟨0, none, none, 0, 0, by omega, rfl, rfl, rfl, rfl, OwnI.nil _ _, OwnI.nil _ _, Sep.none_left, Below.refl _ _⟩
  case round =>
    obtain ⟨k, q1, q2, a1, a2, hk, rfl, rfl, rfl, rfl, r1, r2, r3, hb⟩ := hrel
    have hsz := hb.size
    by_cases hkn : k < n
    · obtain ⟨b, off, rfl, hlt, hc⟩ := h.cells (by omega)
      have c1 : wr.cell? ⟨b, off + k, none⟩ = some (.int .i64 (gi xs k)) := (bdeep hb hlt _).trans (hc _ hkn)
      have b1 := hbd k hkn
      have b2 := HQ.out k hk
      have HST := Lib.hid (show lq (gi xs) r 0 (k + 1) = max 0 (lq (gi xs) r 0 k + gi xs k - r) from rfl)
      have HT1 := Lib.hid (tab_succ k fun k => lq (gi xs) r 0 k + gi xs k - lq (gi xs) r 0 (k + 1))
      have HT2 := Lib.hid (tab_succ k fun k => lq (gi xs) r 0 (k + 1))
      generalize hqk : lq (gi xs) r 0 k = qk at *
      have HQK := Lib.hid hqk; clear hqk
      clear hc h hbd
      by_cases hle : qk + gi xs k ≤ r
      all_goals
        go_wp2_with (first | (at_builtin; refine wpL_push_int Try.tyInts rfl (s := .tmp 35) rfl (B := w.heap.size) (W0 := w) (by first | rfl | simp [Act.eval]) (by first | rfl | simp [Act.eval]) r1 hb (by omega) hsz ?_; intro p5 c5 w5 ho5 hb5 hg5 hp5; have r2' := r2.keep hg5 r3; have s2 := Sep.symm (Sep.push r3 r2 hp5); have hsz5 := hb5.size; clear r1 r2 hp5 hg5) | (at_builtin; refine wpL_push_int Try.tyInts rfl (s := .tmp 39) rfl (B := w.heap.size) (W0 := w) (by first | rfl | simp [Act.eval]) (by first | rfl | simp [Act.eval]) r2' hb5 (by omega) hsz5 ?_; intro p6 c6 w6 ho6 hb6 hg6 hp6))
        all_goals
          have ho5' := ho5.keep hg6 s2
          have s3 := Sep.symm (Sep.push s2 ho5 hp6)
          go_roundw
          case rel => exact ⟨k + 1, _, _, _, _, by omega, by go_num, rfl, rfl, by rw [HST.out]; first | rfl | (congr 1; omega), by rw [HT1.out, HST.out]; exact ho5'.cast (by congr 2; omega), by rw [HT2.out, HST.out]; exact ho6.cast (by congr 2; omega), s3, hb6⟩
          case measure => simp [intOf]; omega
    · obtain rfl : n = k := by omega
      go_wp2
      go_ret3
      exact ⟨_, _, _, _, _, _, _, _, _, rfl, r1, r2, hb, rfl, by unfold goesL; rw [HL.out], by unfold waitL; rw [HL.out]⟩
end Go.Proofs.Ytgbccpfehcjhbaa
