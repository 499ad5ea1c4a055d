/- The contracts of trace.Sum and trace.Slots (P21, P22). No conditions beyond what each theorem says. -/
import Derived.Test.YtjlfefaifeanmaaAdded
import Derived.Deep.QuietTactic
import Derived.BigQuiet
import Derived.Deep.RegionLaw
import Derived.BigRegion
import Derived.IntWalk
namespace Go.Proofs.Ytjlfefaifeanmaa
open Go Go.RowKit

set_option maxHeartbeats 400000 in
theorem trace_Sum_bad {w : World} {p : Option Addr} {n c : Nat} {xs : List Int} (h : SI w p n c xs) {er : Int} (he : traceErr xs = er) (h0 : er ≠ 0) :
    Calls Try.prog 27 #[.slice p n c] w fun e w' => e = .returned (.tuple #[.slice none 0 0, .int .i64 er]) ∧ w = w' := by
  have hb := bne_false_of h0
  go_enter Try.func27, Try.ntmps27
  go_wp2_with fail
  refine (trace_Check h he).mono ?_; rintro e w' ⟨rfl, rfl⟩
  go_wp2
  go_ret2
  exact ⟨rfl, rfl⟩
set_option maxHeartbeats 400000 in
theorem trace_Sum_ok {w : World} {p : Option Addr} {n c : Nat} {xs : List Int} (h : SI w p n c xs) (he : traceErr xs = 0) :
    Calls Try.prog 27 #[.slice p n c] w (RetL w fun L er => er = 0 ∧ L = addL xs) := by
  obtain ⟨h60, hok⟩ := trace_ok he
  have hbd : ∀ j, j < n → 0 ≤ gi xs j ∧ gi xs j ≤ 1000000 := by rw [← h.1]; intro j hj; have := hok j hj; omega
  rw [h.1] at h60
  have HE := Lib.hid he; have HBD := Lib.hid hbd; clear he hok hbd
  go_enter Try.func27, Try.ntmps27
  go_wp2_with fail
  refine (trace_Check h HE.out).mono ?_; rintro e w' ⟨rfl, rfl⟩
  go_wp2_with fail
  refine (trace_Added h (by omega) HBD.out).mono ?_; rintro e w1 ⟨p1, n1, c1, rfl, ho1, hb1⟩
  go_wp2
  go_ret2
  exact ⟨_, _, _, _, _, rfl, ho1, hb1, rfl, rfl⟩

/-- too much in the k-th slot -/
def bigS (xs : List Int) (k : Nat) : Bool := decide (10000 < gi xs (k + 1) - gi xs k)
theorem bigS_true {xs : List Int} {k : Nat} : bigS xs k = true ↔ 10000 < gi xs (k + 1) - gi xs k := by simp [bigS]
theorem bigS_false {xs : List Int} {k : Nat} : bigS xs k = false ↔ ¬ 10000 < gi xs (k + 1) - gi xs k := by simp [bigS]
def slotsL (xs : List Int) : List Int := tab (xs.length - 1) fun k => gi xs (k + 1) - gi xs k

set_option maxHeartbeats 400000 in
theorem trace_Slots_bad {w : World} {p : Option Addr} {n c : Nat} {xs : List Int} (h : SI w p n c xs) {er : Int} (he : curveErr xs = er) (h0 : er ≠ 0) :
    Calls Try.prog 32 #[.slice p n c] w fun e w' => e = .returned (.tuple #[.slice none 0 0, .int .i64 er]) ∧ w = w' := by
  have hb := bne_false_of h0
  go_enter Try.func32, Try.ntmps32
  go_wp2_with fail
  refine (curve_Check h he).mono ?_; rintro e w' ⟨rfl, rfl⟩
  go_wp2
  go_ret2
  exact ⟨rfl, rfl⟩
set_option maxHeartbeats 400000 in
theorem trace_Slots_form {w : World} {p : Option Addr} {n c : Nat} {xs : List Int} (h : SI w p n c xs) (he : curveErr xs = 0) (h0 : gi xs 0 ≠ 0) :
    Calls Try.prog 32 #[.slice p n c] w fun e w' => e = .returned (.tuple #[.slice none 0 0, .int .i64 3]) ∧ w = w' := by
  have hx := curve_of he h.1
  have hpos := hx.pos
  have hz : (gi xs 0 == 0) = false := by simp [h0]
  have HE := Lib.hid he; clear he hx h0
  obtain ⟨b, off, rfl, hlt, hc⟩ := h.cells hpos
  have c0 : w.cell? ⟨b, off, none⟩ = some (.int .i64 (gi xs 0)) := hc 0 hpos
  clear hc
  go_enter Try.func32, Try.ntmps32
  go_wp2_with fail
  refine (curve_Check h HE.out).mono ?_; rintro e w' ⟨rfl, rfl⟩
  go_wp2
  go_ret2
  exact ⟨rfl, rfl⟩

/-- what Slots answers of a right curve that begins at nought -/
def SlotsOf (xs : List Int) (n i : Nat) (L : List Int) (er : Int) : Prop := (i < n - 1 ∧ er = 2 ∧ L = []) ∨ (¬ i < n - 1 ∧ er = 0 ∧ L = slotsL xs)

set_option maxHeartbeats 1600000 in
theorem trace_Slots_ok {w : World} {p : Option Addr} {n c i : Nat} {xs : List Int} (h : SI w p n c xs) (he : curveErr xs = 0) (h0 : gi xs 0 = 0) (hi : FirstP (bigS xs) (n - 1) i) :
    Calls Try.prog 32 #[.slice p n c] w (RetL w (SlotsOf xs n i)) := by
  have hx := curve_of he h.1
  have hpos := hx.pos
  have hn61 := hx.le
  have hm := h.2.1
  have hl := h.1
  have hz : (gi xs 0 == 0) = true := by simp [h0]
  have hz2 : (gi xs 0 != 0) = false := by simp [h0]
  have hi0 := hi.1
  have HE := Lib.hid he; have HX := Lib.hid hx; have HI := Lib.hid hi; have HL := Lib.hid hl; clear he hx h0 hi hl
  obtain ⟨b, off, rfl, hlt, hc⟩ := h.cells hpos
  have HC := Lib.hid hc; clear hc
  have c0 : w.cell? ⟨b, off, none⟩ = some (.int .i64 (gi xs 0)) := HC.out 0 hpos
  go_enter Try.func32, Try.ntmps32
  go_wp2_with fail
  refine (curve_Check h HE.out).mono ?_; rintro e w' ⟨rfl, rfl⟩
  clear h
  go_wp2
  clear c0
  go_loopw [5, 6] (fun v t wr => ∃ (k : Nat) (q : Option Addr) (d : Nat), k ≤ i ∧ t = .int .i64 ((k : Int) + 1) ∧ v = .slice q k d ∧ OwnI wr w.heap.size q k d (tab k fun k => gi xs (k + 1) - gi xs k) ∧ Below w.heap.size w wr) (fun _ t _ => n - (intOf t).toNat)
  case atStart => exact ⟨0, none, 0, by omega, rfl, rfl, OwnI.nil _ _, Below.refl _ _⟩
  case round =>
    obtain ⟨k, q, d, hk, rfl, rfl, ho, hb⟩ := hrel
    have hsz := hb.size
    by_cases hkn : k + 1 < n
    · have c1 : wr.cell? ⟨b, off + (k + 1), none⟩ = some (.int .i64 (gi xs (k + 1))) := (bdeep hb hlt _).trans (HC.out (k + 1) hkn)
      have c2 : wr.cell? ⟨b, off + k, none⟩ = some (.int .i64 (gi xs k)) := (bdeep hb hlt _).trans (HC.out k (by omega))
      have b1 := HX.out.bd (k + 1) hkn
      have b2 := HX.out.bd k (by omega)
      have q1 : IntKind.i64.wrap (gi xs (k + 1) - gi xs k) = gi xs (k + 1) - gi xs k := IntWalk.i64_in _ (by omega)
      have q2 : IntKind.i64.wrap ((k : Int) + 1 - 1) = (k : Int) := by rw [IntWalk.i64_in _ (by omega)]; omega
      have q6 : IntKind.i64.wrap (k : Int) = (k : Int) := IntWalk.i64_in _ (by omega)
      have q3 : ((k : Int) + 1).toNat = k + 1 := by omega
      have q7 : k < n := by omega
      have q4 : 0 ≤ (k : Int) + 1 := by omega
      have q5 : (k : Int) + 1 < (n : Int) := by omega
      have HO := Lib.hid ho; have HB := Lib.hid hb; clear ho hb
      by_cases hbig : 10000 < gi xs (k + 1) - gi xs k
      · have z1 : decide (10000 < gi xs (k + 1) - gi xs k) = true := by simp; exact hbig
        have hki : i = k := by
          apply Classical.byContradiction
          intro hne
          have := HI.out.2.1 k (by omega)
          rw [bigS_false] at this
          exact this hbig
        subst hki
        go_wp2
        go_quiet (fail)
        clear q1 q2 q3 q4
        go_wp2
        go_ret2
        exact ⟨_, _, _, [], _, rfl, OwnI.nil _ _, below_drewN HB.out _, .inl ⟨by omega, rfl, rfl⟩⟩
      · have z1 : decide (10000 < gi xs (k + 1) - gi xs k) = false := by simp; omega
        have hki : k < i := by
          apply Nat.lt_of_le_of_ne hk
          rintro rfl
          have := HI.out.2.2 (by omega)
          rw [bigS_true] at this
          exact hbig this
        have HT := Lib.hid (tab_succ k fun k => gi xs (k + 1) - gi xs k)
        go_wp2
        go_region
        all_goals
          go_wp2
          go_region_law (refine step_push_int Try.tyInts rfl rfl (B := w.heap.size) (W0 := w) rfl rfl (by exact HO.out.1.alloc _) (by exact ((HB.out.drew).alloc HB.out.size _).drew) (by exact blk_new _ _ _) (by omega) (by simp; exact Nat.le_succ_of_le HB.out.size) ?_; intro p2 c2 w2 ho2 hb2)
          all_goals
            clear q1 q2 q3 q4 q6
            go_wp2
            go_roundw
            case rel => exact ⟨k + 1, _, _, by omega, by go_num, rfl, by rw [HT.out]; exact ho2, hb2⟩
            case measure => simp [intOf]; omega
    · have hkn2 : ¬ (k : Int) + 1 < (n : Int) := by omega
      obtain rfl : k = n - 1 := by have := hi0; omega
      have hin : ¬ i < n - 1 := by omega
      go_wp2
      go_ret2
      exact ⟨_, _, _, _, _, rfl, ho, hb, .inr ⟨hin, rfl, by unfold slotsL; rw [HL.out]⟩⟩
end Go.Proofs.Ytjlfefaifeanmaa
