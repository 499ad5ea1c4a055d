/- The contracts of package piece and of the reference's Whole, Pieces, Stage, SameStage (P51 to P54). No conditions beyond what each theorem says. -/
import Derived.Test.YtggpcceljipelaaRows
import Derived.Test.YtggpcceljipelaaRetry
import Derived.Test.YtggpcceljipelaaTaken
import Derived.Test.YtggpcceljipelaaEqual
import Derived.IntWalk
import Derived.RegionTactic
import Derived.BigRegion
import Derived.Deep.RegionLaw
import Derived.Deep.QuietTactic
import Derived.BigQuiet
namespace Go.Proofs.Ytggpcceljipelaa
open Go Go.RowKit

def mny (s u : Int) : Int := (s + u - 1) / u
def wErr (s u : Int) : Int := if s < 0 ∨ 1000000 < s ∨ u < 1 ∨ 1000000 < u then 1 else if 200 < mny s u then 2 else 0
def okPc (s u : Int) : Prop := 0 ≤ s ∧ s ≤ 1000000 ∧ 1 ≤ u ∧ u ≤ 1000000
theorem not_okPc {s u : Int} (h : ¬ okPc s u) : s < 0 ∨ (0 ≤ s ∧ 1000000 < s) ∨ (0 ≤ s ∧ s ≤ 1000000 ∧ u < 1) ∨ (0 ≤ s ∧ s ≤ 1000000 ∧ 1 ≤ u ∧ 1000000 < u) := by unfold okPc at h; omega
theorem wErr_bad {s u : Int} (h : ¬ okPc s u) : wErr s u = 1 := by unfold okPc at h; unfold wErr; rw [if_pos (by omega)]
theorem wErr_ok {s u : Int} (h : okPc s u) : wErr s u = if 200 < mny s u then 2 else 0 := by unfold okPc at h; unfold wErr; rw [if_neg (by omega)]
theorem wErr_zero {s u : Int} (h : wErr s u = 0) : okPc s u ∧ mny s u ≤ 200 := by
  by_cases ho : okPc s u
  · rw [wErr_ok ho] at h
    split at h <;> exact ⟨ho, by omega⟩
  · rw [wErr_bad ho] at h; omega
theorem mny_lt {s u : Int} (h : okPc s u) (i : Int) : i < mny s u ↔ i * u < s := by
  obtain ⟨a, b, c, d⟩ := h
  unfold mny
  rw [show i < (s + u - 1) / u ↔ i + 1 ≤ (s + u - 1) / u by omega, Int.le_ediv_iff_mul_le (by omega), Int.add_mul, Int.one_mul]
  omega
theorem mny_nonneg {s u : Int} (h : okPc s u) : 0 ≤ mny s u := by
  obtain ⟨a, b, c, d⟩ := h
  exact Int.ediv_nonneg (by omega) (by omega)
theorem mny_le {s u : Int} (h : okPc s u) : mny s u ≤ 2000000 := by
  obtain ⟨a, b, c, d⟩ := h
  unfold mny
  exact Int.le_trans (Int.ediv_le_self _ (by omega)) (by omega)
theorem mny_200 {s u : Int} (h : okPc s u) : 200 < mny s u ↔ 200 * u < s := mny_lt h 200
/-- how many pieces -/
def mN (s u : Int) : Nat := (mny s u).toNat
theorem mN_cast {s u : Int} (h : okPc s u) : ((mN s u : Nat) : Int) = mny s u := by unfold mN; rw [Int.toNat_of_nonneg (mny_nonneg h)]
/-- the size of piece i -/
def pcV (s u : Int) (i : Nat) : Int := min u (s - (i : Int) * u)
theorem pc_lt {s u : Int} (h : okPc s u) {i : Nat} (hi : i < mN s u) : (i : Int) * u < s := by
  rw [← mny_lt h, ← mN_cast h]; omega
theorem pc_ge {s u : Int} (h : okPc s u) {i : Nat} (hi : ¬ i < mN s u) : s ≤ (i : Int) * u := by
  have := mny_lt h (i : Int)
  rw [← mN_cast h] at this
  omega

theorem piece_many {w : World} {s u : Int} (h : okPc s u) :
    Calls Try.prog 74 #[.int .i64 s, .int .i64 u] w fun e w' => e = .returned (.int .i64 (mny s u)) ∧ w = w' := by
  obtain ⟨a, b, c, d⟩ := h
  have h0 : (u == 0) = false := by simp; omega
  have h1 : 0 ≤ s + u - 1 := by omega
  go_enter Try.func74, Try.ntmps74
  go_wp2
  go_ret
  exact ⟨rfl, rfl⟩
theorem piece_look {w : World} {s u er : Int} (he : wErr s u = er) :
    Calls Try.prog 73 #[.int .i64 s, .int .i64 u] w fun e w' => e = .returned (.int .i64 er) ∧ w = w' := by
  by_cases ho : okPc s u
  · rw [wErr_ok ho] at he
    have HO := Lib.hid ho
    obtain ⟨a, b, c, d⟩ := ho
    by_cases h2 : 200 < mny s u
    · rw [if_pos h2] at he
      subst he
      go_enter Try.func73, Try.ntmps73
      go_wp2_with fail
      refine (piece_many HO.out).mono ?_; rintro e w' ⟨rfl, rfl⟩
      go_wp2
      go_ret
      exact ⟨rfl, rfl⟩
    · rw [if_neg h2] at he
      subst he
      go_enter Try.func73, Try.ntmps73
      go_wp2_with fail
      refine (piece_many HO.out).mono ?_; rintro e w' ⟨rfl, rfl⟩
      go_wp2
      go_ret
      exact ⟨rfl, rfl⟩
  · rw [wErr_bad ho] at he
    subst he
    rcases not_okPc ho with h | ⟨h1, h2⟩ | ⟨h1, h2, h3⟩ | ⟨h1, h2, h3, h4⟩
    all_goals (clear ho; go_enter Try.func73, Try.ntmps73; go_wp2; go_ret; exact ⟨rfl, rfl⟩)
theorem iu_bd {s u : Int} (h : okPc s u) {i : Nat} (hi : i ≤ 200) : 0 ≤ (i : Int) * u ∧ (i : Int) * u ≤ 200000000 := by
  obtain ⟨a, b, c, d⟩ := h
  refine ⟨Int.mul_nonneg (by omega) (by omega), ?_⟩
  have h1 : (i : Int) * u ≤ 200 * u := Int.mul_le_mul_of_nonneg_right (by omega) (by omega)
  omega
theorem piece_one {w : World} {s u : Int} {i : Nat} (h : okPc s u) (hi : i ≤ 200) :
    Calls Try.prog 75 #[.int .i64 s, .int .i64 u, .int .i64 i] w fun e w' => e = .returned (.int .i64 (pcV s u i)) ∧ w = w' := by
  have hb := iu_bd h hi
  obtain ⟨a, b, c, d⟩ := h
  go_enter Try.func75, Try.ntmps75
  go_wp2
  all_goals
    go_ret
    exact ⟨ret_int (by unfold pcV; omega), rfl⟩
set_option maxHeartbeats 400000 in
theorem piece_Sizes_bad {w : World} {s u er : Int} (he : wErr s u = er) (h0 : er ≠ 0) :
    Calls Try.prog 26 #[.int .i64 s, .int .i64 u] w fun e w' => e = .returned (.tuple #[.slice none 0 0, .int .i64 er]) ∧ w = w' := by
  have hb : (er == 0) = false := by simp [h0]
  go_enter Try.func26, Try.ntmps26
  go_wp2_with fail
  refine (piece_look he).mono ?_; rintro e w' ⟨rfl, rfl⟩
  go_wp2
  go_ret2
  exact ⟨rfl, rfl⟩
theorem Try.tyIntsPc : SliceTy Try.prog 29 3 (.int .i64 0) 1 8 := ⟨Try.underlying29, by kernel_rfl⟩
theorem Try.tyBoolsPc : SliceTy Try.prog 42 4 (.bool false) 1 1 := ⟨Try.underlying42, by kernel_rfl⟩
set_option maxHeartbeats 1000000 in
theorem piece_Sizes_ok {w : World} {s u : Int} {m : Nat} (he : wErr s u = 0) (hm : mN s u = m) :
    Calls Try.prog 26 #[.int .i64 s, .int .i64 u] w (RetL w fun L er => er = 0 ∧ L = tab m (pcV s u)) := by
  obtain ⟨ho, h200⟩ := wErr_zero he
  have hmc := mN_cast ho
  rw [hm] at hmc
  have HO := Lib.hid ho; have HE := Lib.hid he; have HM := Lib.hid hmc
  have hm200 : m ≤ 200 := by omega
  clear he hm hmc h200 ho
  go_enter Try.func26, Try.ntmps26
  go_wp2_with fail
  refine (piece_look HE.out).mono ?_; rintro e w' ⟨rfl, rfl⟩
  go_wp2_with fail
  refine (piece_many HO.out).mono ?_; rintro e w' ⟨rfl, rfl⟩
  rw [← HM.out]
  go_wp2
  go_loopw [7, 8, 18] (fun v _ i wr => ∃ (k : Nat) (p : Option Addr) (c : Nat), k ≤ m ∧ i = .int .i64 k ∧ v = .slice p k c ∧ OwnI wr w.heap.size p k c (tab k (pcV s u)) ∧ Below w.heap.size w wr) (fun _ _ i _ => m - (intOf i).toNat)
  case atStart => exact ⟨0, _, _, by omega, rfl, rfl, OwnI.nil _ _, Below.refl _ _⟩
  case round =>
    obtain ⟨k, p, c, hk, rfl, rfl, ho, hb⟩ := hrel
    have hsz := hb.size
    by_cases hkn : k < m
    · go_wp2_with fail
      refine (piece_one HO.out (i := k) (by omega)).mono ?_; rintro e w' ⟨rfl, rfl⟩
      go_wp2_with (at_builtin; refine wpL_push_int Try.tyIntsPc rfl rfl (B := w.heap.size) (W0 := w) (by first | rfl | simp [Act.eval]) (by first | rfl | simp [Act.eval]) ho hb (by omega) hsz ?_; intro p' c' w1 ho1 hb1 hg1 _)
      go_roundw
      case rel => exact ⟨k + 1, _, _, by omega, by go_num, rfl, by rw [tab_succ]; exact ho1, hb1⟩
      case measure => simp [intOf]; omega
    · obtain rfl : m = k := by omega
      go_wp2
      go_ret2
      exact ⟨_, _, _, _, _, rfl, ho, hb, rfl, rfl⟩

abbrev aggG (s u : Int) (p : Option Addr) (n c : Nat) : Value := .agg #[.int .i64 s, .int .i64 u, .slice p n c]
abbrev boxG (s u : Int) (p : Option Addr) (n c : Nat) : Obj := .cells #[.int .i64 s, .int .i64 u, .slice p n c] 44

theorem boxG_cells {w : World} {g : Nat} {s u : Int} {p : Option Addr} {n c : Nat} (h : w.heap[g]? = some (.cells #[.int .i64 s, .int .i64 u, .slice p n c] 44 (0, 0))) :
    (w.cell? ⟨g, 0, none⟩ = some (.int .i64 s) ∧ w.cell? ⟨g, 1, none⟩ = some (.int .i64 u) ∧ w.cell? ⟨g, 2, none⟩ = some (.slice p n c)) ∧ w.frozen? ⟨g, 0, none⟩ = false ∧ w.frozen? ⟨g, 1, none⟩ = false ∧ w.frozen? ⟨g, 2, none⟩ = false := blk3 h

set_option maxHeartbeats 1000000 in
theorem piece_New_bad {w : World} {s u er : Int} (he : wErr s u = er) (h0 : er ≠ 0) :
    Calls Try.prog 27 #[.int .i64 s, .int .i64 u] w fun e w' => e = .returned (.tuple #[aggG 0 0 none 0 0, .int .i64 er]) ∧ Below w.heap.size w w' := by
  have hb : (er == 0) = false := by simp [h0]
  have hbel := (Below.refl w.heap.size w).alloc (Nat.le_refl _) (boxG 0 0 none 0 0)
  have hblk := boxG_cells (blk_new w #[.int .i64 0, .int .i64 0, .slice none 0 0] 44)
  have hsz : (w.alloc (boxG 0 0 none 0 0)).heap.size = w.heap.size + 1 := by simp
  go_enter Try.func27, Try.ntmps27
  go_wp2_with fail
  generalize w.alloc (boxG 0 0 none 0 0) = W at *
  refine (piece_look he).mono ?_; rintro e w' ⟨rfl, rfl⟩
  obtain ⟨⟨k0, k1, k2⟩, f0, f1, f2⟩ := hblk
  go_wp2
  refine bodyPost_ret (v := .tuple #[aggG 0 0 none 0 0, .int .i64 er]) (by simp [results, Try.results27, go_sem, k0, k1, k2]) rfl ⟨rfl, ?_⟩
  exact ((hbel.setCell (Nat.le_refl _) _).setCell (Nat.le_refl _) _).setCell (Nat.le_refl _) _
set_option maxRecDepth 100000 in
set_option maxHeartbeats 1000000 in
theorem piece_New_ok {w : World} {s u : Int} {m : Nat} (he : wErr s u = 0) (hm : mN s u = m) :
    Calls Try.prog 27 #[.int .i64 s, .int .i64 u] w fun e w' => ∃ p c, e = .returned (.tuple #[aggG s u p m c, .int .i64 0]) ∧ SB w' p m c (tab m fun _ => false) ∧ Below w.heap.size w w' := by
  obtain ⟨ho, h200⟩ := wErr_zero he
  have hmc := mN_cast ho
  rw [hm] at hmc
  have HO := Lib.hid ho; have HE := Lib.hid he; have HM := Lib.hid hmc
  have hm200 : m ≤ 200 := by omega
  clear he hm hmc h200 ho
  have hbel := (Below.refl w.heap.size w).alloc (Nat.le_refl _) (boxG 0 0 none 0 0)
  have hblk := Lib.hid (blk_new w #[.int .i64 0, .int .i64 0, .slice none 0 0] 44)
  have hsz : (w.alloc (boxG 0 0 none 0 0)).heap.size = w.heap.size + 1 := by simp
  go_enter Try.func27, Try.ntmps27
  go_wp2_with fail
  generalize w.alloc (boxG 0 0 none 0 0) = W at *
  refine (piece_look HE.out).mono ?_; rintro e w' ⟨rfl, rfl⟩
  go_wp2_with fail
  refine (piece_many HO.out).mono ?_; rintro e w' ⟨rfl, rfl⟩
  rw [← HM.out]
  go_wp2_with (at_make; refine wpL_make_bool Try.tyBoolsPc rfl rfl (B := w.heap.size + 1) (W0 := W) m rfl rfl rfl rfl (hsz ▸ Below.refl _ _) (by omega) (by omega) ?_; intro g w1 hg hown hbel1 hb0; obtain ⟨⟨k0, k1, k2⟩, f0, f1, f2⟩ := boxG_cells (blk_below hblk.out hb0))
  have hg1 := hown.blk
  have hsb := hown.sb
  have hsz1 := hb0.size
  have hbe := hbel.trans (hb0.mono (by omega))
  have hfar : ∀ x y z : Value, SB (((w1.setCell ⟨w.heap.size, 0, none⟩ x).setCell ⟨w.heap.size, 1, none⟩ y).setCell ⟨w.heap.size, 2, none⟩ z) (some ⟨g, 0, none⟩) m m (tab m fun _ => false) := fun x y z =>
    (OwnB.apart (OwnB.apart (OwnB.apart hown (Nat.lt_succ_self _)) (Nat.lt_succ_self _)) (Nat.lt_succ_self _)).sb
  refine bodyPost_ret (v := .tuple #[aggG s u (some ⟨g, 0, none⟩) m m, .int .i64 0]) (by simp [results, Try.results27, go_sem, k0, k1, k2]) rfl ?_
  refine ⟨_, _, rfl, hfar _ _ _, ?_⟩
  exact ((hbe.setCell (Nat.le_refl _) _).setCell (Nat.le_refl _) _).setCell (Nat.le_refl _) _

/-- what is wrong with a stage of n pieces -/
def sErr (s u : Int) (n : Nat) : Int := if wErr s u ≠ 0 then wErr s u else if (n : Int) = mny s u then 0 else 4
theorem sErr_ok {s u : Int} {n : Nat} (h : sErr s u n = 0) : wErr s u = 0 ∧ (n : Int) = mny s u := by
  unfold sErr at h
  split at h
  · rename_i h0; exact absurd h h0
  · split at h
    · rename_i h1 h2; exact ⟨by omega, h2⟩
    · omega
set_option maxHeartbeats 1000000 in
theorem piece_Check {w : World} {s u er : Int} {p : Option Addr} {n c : Nat} (_ : n ≤ c ∧ c ≤ 9223372036854775807) (he : sErr s u n = er) :
    Calls Try.prog 28 #[aggG s u p n c] w fun e w' => e = .returned (.int .i64 er) ∧ Below w.heap.size w w' := by
  have hbel := (Below.refl w.heap.size w).alloc (Nat.le_refl _) (boxG s u p n c)
  have hblk := boxG_cells (blk_new w #[.int .i64 s, .int .i64 u, .slice p n c] 44)
  obtain ⟨⟨k0, k1, k2⟩, _⟩ := hblk
  unfold sErr at he
  by_cases h0 : wErr s u = 0
  · rw [if_neg (by simp [h0])] at he
    obtain ⟨ho, h200⟩ := wErr_zero h0
    have HO := Lib.hid ho; have H0 := Lib.hid h0
    have hmn := mny_nonneg ho
    clear ho h0
    by_cases hq : (n : Int) = mny s u
    · rw [if_pos hq] at he
      subst he
      have hd : ((n : Int) == mny s u) = true := by simp [hq]
      have HQ := Lib.hid hq; clear hq
      go_enter Try.func28, Try.ntmps28
      go_wp2_with fail
      generalize w.alloc (boxG s u p n c) = W at *
      refine (piece_look H0.out).mono ?_; rintro e w' ⟨rfl, rfl⟩
      go_wp2
      go_quiet ((refine (Calls.quiet_of_same ((piece_many HO.out).mono fun e w' h => ⟨h.1, h.2.symm⟩))))
      go_wp2
      go_ret
      exact ⟨rfl, below_drewN hbel _⟩
    · rw [if_neg hq] at he
      subst he
      have hd : ((n : Int) == mny s u) = false := by simp [hq]
      clear hq
      go_enter Try.func28, Try.ntmps28
      go_wp2_with fail
      generalize w.alloc (boxG s u p n c) = W at *
      refine (piece_look H0.out).mono ?_; rintro e w' ⟨rfl, rfl⟩
      go_wp2
      go_quiet ((refine (Calls.quiet_of_same ((piece_many HO.out).mono fun e w' h => ⟨h.1, h.2.symm⟩))))
      go_wp2
      go_ret
      exact ⟨rfl, below_drewN hbel _⟩
  · rw [if_pos h0] at he
    have hz : (er == 0) = false := by rw [← he]; simp [h0]
    clear h0
    go_enter Try.func28, Try.ntmps28
    go_wp2_with fail
    generalize w.alloc (boxG s u p n c) = W at *
    refine (piece_look he).mono ?_; rintro e w' ⟨rfl, rfl⟩
    go_wp2
    go_ret
    exact ⟨rfl, hbel⟩

theorem ref_within {w : World} {x a b : Int} {r : Bool} (h : decide (a ≤ x ∧ x ≤ b) = r) :
    Calls Try.prog 69 #[.int .i64 x, .int .i64 a, .int .i64 b] w fun e w' => e = .returned (.bool r) ∧ w = w' := by
  by_cases h1 : a ≤ x
  · by_cases h2 : x ≤ b
    · obtain rfl : r = true := by rw [← h]; simp; omega
      have q1 : decide (a ≤ x) = true := by simp; omega
      have q2 : decide (x ≤ b) = true := by simp; omega
      go_enter Try.func69, Try.ntmps69
      go_wp2
      go_ret
      exact ⟨rfl, rfl⟩
    · obtain rfl : r = false := by rw [← h]; simp; omega
      have q1 : decide (a ≤ x) = true := by simp; omega
      have q2 : decide (x ≤ b) = false := by simp; omega
      go_enter Try.func69, Try.ntmps69
      go_wp2
      go_ret
      exact ⟨rfl, rfl⟩
  · obtain rfl : r = false := by rw [← h]; simp; omega
    have q1 : decide (a ≤ x) = false := by simp; omega
    go_enter Try.func69, Try.ntmps69
    go_wp2
    go_ret
    exact ⟨rfl, rfl⟩
set_option maxHeartbeats 1000000 in
theorem ref_Whole {w : World} {s u er : Int} (hs : -9223372036854775808 ≤ s ∧ s ≤ 9223372036854775807) (hu : -9223372036854775808 ≤ u ∧ u ≤ 9223372036854775807) (he : wErr s u = er) :
    Calls Try.prog 30 #[.int .i64 s, .int .i64 u] w fun e w' => e = .returned (.int .i64 er) ∧ w = w' := by
  by_cases ho : okPc s u
  · rw [wErr_ok ho] at he
    have h20 := mny_200 ho
    obtain ⟨a, b, c, d⟩ := ho
    by_cases h2 : 200 * u < s
    · rw [if_pos (h20.2 h2)] at he
      subst he
      clear h20
      go_enter Try.func30, Try.ntmps30
      go_wp2_with fail
      refine (ref_within (r := true) (by simp; omega)).mono ?_; rintro e w' ⟨rfl, rfl⟩
      go_wp2_with fail
      refine (ref_within (r := true) (by simp; omega)).mono ?_; rintro e w' ⟨rfl, rfl⟩
      go_wp2
      go_ret
      exact ⟨rfl, rfl⟩
    · rw [if_neg (fun h => h2 (h20.1 h))] at he
      subst he
      clear h20
      go_enter Try.func30, Try.ntmps30
      go_wp2_with fail
      refine (ref_within (r := true) (by simp; omega)).mono ?_; rintro e w' ⟨rfl, rfl⟩
      go_wp2_with fail
      refine (ref_within (r := true) (by simp; omega)).mono ?_; rintro e w' ⟨rfl, rfl⟩
      go_wp2
      go_ret
      exact ⟨rfl, rfl⟩
  · rw [wErr_bad ho] at he
    subst he
    by_cases h1 : 0 ≤ s ∧ s ≤ 1000000
    · have h2 : ¬ (1 ≤ u ∧ u ≤ 1000000) := by unfold okPc at ho; omega
      clear ho
      go_enter Try.func30, Try.ntmps30
      go_wp2_with fail
      refine (ref_within (r := true) (by simp; omega)).mono ?_; rintro e w' ⟨rfl, rfl⟩
      go_wp2_with fail
      refine (ref_within (r := false) (by simp; omega)).mono ?_; rintro e w' ⟨rfl, rfl⟩
      go_wp2
      go_ret
      exact ⟨rfl, rfl⟩
    · clear ho
      go_enter Try.func30, Try.ntmps30
      go_wp2_with fail
      refine (ref_within (r := false) (by simp; omega)).mono ?_; rintro e w' ⟨rfl, rfl⟩
      go_wp2
      go_ret
      exact ⟨rfl, rfl⟩
theorem max_step {s u x : Int} : max 0 (s - x) - min (max 0 (s - x)) u = if s - x ≤ 0 then max 0 (s - x) - min (max 0 (s - x)) u else max 0 (s - x - u) := by
  split <;> omega
set_option maxHeartbeats 1000000 in
theorem ref_Pieces {w : World} {s u : Int} {m : Nat} (ho : okPc s u) (h200 : mny s u ≤ 200) (hm : mN s u = m) :
    Calls Try.prog 32 #[.int .i64 s, .int .i64 u] w fun e w' => ∃ p c, e = .returned (.slice p m c) ∧ OwnI w' w.heap.size p m c (tab m (pcV s u)) ∧ Below w.heap.size w w' := by
  have hmc := mN_cast ho
  rw [hm] at hmc
  have HO := Lib.hid ho
  have hm200 : m ≤ 200 := by omega
  have HLT := Lib.hid (fun (i : Nat) (hi : i < m) => pc_lt ho (i := i) (by rw [hm]; exact hi))
  have HGE := Lib.hid (fun (i : Nat) (hi : ¬ i < m) => pc_ge ho (i := i) (by rw [hm]; exact hi))
  obtain ⟨a, b, c, d⟩ := ho
  clear hm hmc h200
  go_enter Try.func32, Try.ntmps32
  go_wp2
  go_loopw [0, 5] (fun sv v wr => ∃ (k : Nat) (p : Option Addr) (c : Nat), k ≤ m ∧ sv = .int .i64 (max 0 (s - (k : Int) * u)) ∧ v = .slice p k c ∧ OwnI wr w.heap.size p k c (tab k (pcV s u)) ∧ Below w.heap.size w wr) (fun sv _ _ => (intOf sv).toNat)
  case atStart => exact ⟨0, _, _, by omega, by congr 1; simp; omega, rfl, OwnI.nil _ _, Below.refl _ _⟩
  case round =>
    obtain ⟨k, p, c, hk, rfl, rfl, ho, hb⟩ := hrel
    have hsz := hb.size
    have hku := iu_bd HO.out (i := k) (by omega)
    have hsu : ((k + 1 : Nat) : Int) * u = (k : Int) * u + u := by rw [Int.natCast_succ, Int.add_mul, Int.one_mul]
    by_cases hkn : k < m
    · have hlt := HLT.out k hkn
      have HP := Lib.hid (show pcV s u k = min u (s - (k : Int) * u) from rfl)
      have HSU := Lib.hid hsu; clear hsu
      rw [show max 0 (s - (k : Int) * u) = s - (k : Int) * u by omega]
      generalize (k : Int) * u = ku at *
      go_wp2_with (at_builtin; refine wpL_push_int Try.tyIntsPc rfl rfl (B := w.heap.size) (W0 := w) (by first | rfl | simp [Act.eval]) (by first | rfl | simp [Act.eval]) ho hb (by omega) hsz ?_; intro p' c' w1 ho1 hb1 hg1 _)
      go_roundw
      case rel => exact ⟨k + 1, _, _, by omega, by rw [HSU.out]; congr 1; split <;> omega, rfl, by rw [tab_succ, HP.out]; exact ho1.cast (congrArg (fun x => tab k (pcV s u) ++ [x]) (by split <;> omega)), hb1⟩
      case measure => simp [intOf]; split <;> omega
    · obtain rfl : m = k := by omega
      have hge := HGE.out m (by omega)
      rw [show max 0 (s - (m : Int) * u) = 0 by omega]
      go_wp2
      go_ret
      exact ⟨_, _, rfl, ho, hb⟩
set_option maxHeartbeats 1600000 in
theorem ref_Stage {w : World} {s u er : Int} {p : Option Addr} {n c : Nat} (_ : n ≤ c ∧ c ≤ 9223372036854775807) (hs : -9223372036854775808 ≤ s ∧ s ≤ 9223372036854775807) (hu : -9223372036854775808 ≤ u ∧ u ≤ 9223372036854775807) (he : sErr s u n = er) :
    Calls Try.prog 29 #[aggG s u p n c] w fun e w' => e = .returned (.int .i64 er) ∧ Below w.heap.size w w' := by
  have hbel := (Below.refl w.heap.size w).alloc (Nat.le_refl _) (boxG s u p n c)
  have hblk := Lib.hid (blk_new w #[.int .i64 s, .int .i64 u, .slice p n c] 44)
  have hlt : w.heap.size < (w.alloc (boxG s u p n c)).heap.size := by simp
  obtain ⟨⟨k0, k1, k2⟩, _⟩ := boxG_cells hblk.out
  unfold sErr at he
  by_cases h0 : wErr s u = 0
  · rw [if_neg (by simp [h0])] at he
    obtain ⟨ho, h200⟩ := wErr_zero h0
    have HO := Lib.hid ho; have H0 := Lib.hid h0; have H2 := Lib.hid h200
    have hmc := mN_cast ho
    obtain ⟨m, hm⟩ : ∃ m, mN s u = m := ⟨_, rfl⟩
    rw [hm] at hmc
    have HM := Lib.hid hm
    clear ho h0 h200 hm
    by_cases hq : (n : Int) = mny s u
    · rw [if_pos hq] at he
      subst he
      obtain rfl : n = m := by omega
      clear hmc hq
      go_enter Try.func29, Try.ntmps29
      go_wp2_with fail
      generalize w.alloc (boxG s u p n c) = W at *
      refine (ref_Whole hs hu H0.out).mono ?_; rintro e w' ⟨rfl, rfl⟩
      go_wp2
      go_region_law (go_simp; refine (ref_Pieces HO.out H2.out HM.out).mono ?_; rintro e w2 ⟨q, d, rfl, _, hb2⟩; have hb2' : Below W.heap.size W w2 := (by first | exact hb2 | exact (Below.drew (Below.refl _ W)).trans hb2); obtain ⟨⟨k0', k1', k2'⟩, _⟩ := boxG_cells (blk_below hblk.out hb2'))
      all_goals
        have hb3 := hbel.trans (hb2'.mono hbel.size)
        go_wp2
        go_ret
        exact ⟨rfl, hb3⟩
    · rw [if_neg hq] at he
      subst he
      have hq1 : ¬ (n : Int) = (m : Int) := by omega
      have hq2 : ((n : Int) == (m : Int)) = false := by simp; omega
      have hq3 : ¬ n = m := by omega
      clear hmc hq
      go_enter Try.func29, Try.ntmps29
      go_wp2_with fail
      generalize w.alloc (boxG s u p n c) = W at *
      refine (ref_Whole hs hu H0.out).mono ?_; rintro e w' ⟨rfl, rfl⟩
      go_wp2
      go_region_law (go_simp; refine (ref_Pieces HO.out H2.out HM.out).mono ?_; rintro e w2 ⟨q, d, rfl, _, hb2⟩; have hb2' : Below W.heap.size W w2 := (by first | exact hb2 | exact (Below.drew (Below.refl _ W)).trans hb2); obtain ⟨⟨k0', k1', k2'⟩, _⟩ := boxG_cells (blk_below hblk.out hb2'))
      all_goals
        have hb3 := hbel.trans (hb2'.mono hbel.size)
        go_wp2
        go_ret
        exact ⟨rfl, hb3⟩
  · rw [if_pos h0] at he
    have hz : (er == 0) = false := by rw [← he]; simp [h0]
    clear h0
    go_enter Try.func29, Try.ntmps29
    go_wp2_with fail
    generalize w.alloc (boxG s u p n c) = W at *
    refine (ref_Whole hs hu he).mono ?_; rintro e w' ⟨rfl, rfl⟩
    go_wp2
    go_ret
    exact ⟨rfl, hbel⟩
set_option maxHeartbeats 1600000 in
theorem ref_SameStage {w : World} {s u s' u' : Int} {p q : Option Addr} {n c m d : Nat} {xs ys : List Bool} (h : SB w p n c xs) (g : SB w q m d ys) {r : Bool} (hr : decide (s = s' ∧ u = u' ∧ xs = ys) = r) :
    Calls Try.prog 31 #[aggG s u p n c, aggG s' u' q m d] w fun e w' => e = .returned (.bool r) ∧ Below w.heap.size w w' := by
  have hbel := ((Below.refl w.heap.size w).alloc (Nat.le_refl _) (boxG s u p n c)).alloc (by simp) (boxG s' u' q m d)
  have hblk := blk_alloc (o' := boxG s' u' q m d) (blk_new w #[.int .i64 s, .int .i64 u, .slice p n c] 44)
  have hblk2 := blk_new (w.alloc (boxG s u p n c)) #[.int .i64 s', .int .i64 u', .slice q m d] 44
  rw [show (w.alloc (.cells #[.int .i64 s, .int .i64 u, .slice p n c] 44)).heap.size = w.heap.size + 1 by simp] at hblk2
  have h1 := h.below hbel; have g1 := g.below hbel
  obtain ⟨⟨k0, k1, k2⟩, _⟩ := boxG_cells hblk
  obtain ⟨⟨l0, l1, l2⟩, _⟩ := boxG_cells hblk2
  by_cases hs : s = s'
  · by_cases hu : u = u'
    · subst hs; subst hu
      go_enter Try.func31, Try.ntmps31
      go_wp2_with fail
      generalize (w.alloc (boxG s u p n c)).alloc (boxG s u q m d) = W at *
      refine (slices_EqualB h1 g1 (r := r) (by simpa using hr)).mono ?_; rintro e w2 ⟨rfl, hb2⟩
      have hb3 := hbel.trans (hb2.mono hbel.size)
      go_wp2
      go_ret
      exact ⟨rfl, hb3⟩
    · obtain rfl : r = false := by rw [← hr]; simp [hu]
      subst hs
      have hd : (u == u') = false := by simp [hu]
      clear hr
      go_enter Try.func31, Try.ntmps31
      go_wp2
      go_ret
      exact ⟨rfl, hbel⟩
  · obtain rfl : r = false := by rw [← hr]; simp [hs]
    have hd : (s == s') = false := by simp [hs]
    clear hr
    go_enter Try.func31, Try.ntmps31
    go_wp2
    go_ret
    exact ⟨rfl, hbel⟩
end Go.Proofs.Ytggpcceljipelaa
