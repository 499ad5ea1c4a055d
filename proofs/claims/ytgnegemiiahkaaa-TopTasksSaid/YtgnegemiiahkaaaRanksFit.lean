/- The contracts of ranks.Response, ranks.Fits and headref.Response (P48). No conditions beyond what each theorem says. -/
import Derived.Test.YtgnegemiiahkaaaRanks
namespace Go.Proofs.Ytgnegemiiahkaaa
open Go Go.RowKit

/-- i fits -/
def FitI (xs : List (Int × Int × Int)) (i : Nat) : Prop := ∃ r, RespOf (t0 xs) (t1 xs) i (t2 xs i) (some r)
theorem respR_yes {xs : List (Int × Int × Int)} {i : Nat} {r : Int} (h : RespR xs i r) (hr : ¬ t2 xs i < r) : FitI xs i ∧ RespOf (t0 xs) (t1 xs) i (t2 xs i) (some r) := by
  have := h.2.2
  rw [if_neg hr] at this
  exact ⟨⟨r, this⟩, this⟩
theorem respR_no {xs : List (Int × Int × Int)} {i : Nat} {r : Int} (h : RespR xs i r) (hr : t2 xs i < r) : ¬ FitI xs i ∧ RespOf (t0 xs) (t1 xs) i (t2 xs i) none := by
  have := h.2.2
  rw [if_pos hr] at this
  refine ⟨?_, this⟩
  rintro ⟨s, hs⟩
  have := resp_one this hs
  cases this
def allF (f : Nat → Bool) : Nat → Bool
  | 0 => true
  | k + 1 => allF f k && f k
theorem allF_true {f : Nat → Bool} : ∀ {n : Nat}, (∀ j, j < n → f j = true) → allF f n = true
  | 0, _ => rfl
  | n + 1, h => by simp only [allF]; rw [allF_true fun j hj => h j (by omega), h n (by omega)]; rfl
theorem allF_false {f : Nat → Bool} {i : Nat} : ∀ {n : Nat}, i < n → f i = false → allF f n = false
  | 0, h, _ => by omega
  | n + 1, h, hf => by
    simp only [allF]
    rcases Nat.lt_succ_iff_lt_or_eq.1 h with h' | rfl
    · rw [allF_false h' hf]; rfl
    · rw [hf]; simp
theorem fb_exists (xs : List (Int × Int × Int)) : ∃ fb : Nat → Bool, ∀ i, fb i = true ↔ FitI xs i := by
  have : ∀ i, ∃ q : Bool, q = true ↔ FitI xs i := fun i => by
    by_cases h : FitI xs i
    · exact ⟨true, by simp [h]⟩
    · exact ⟨false, by simp [h]⟩
  exact ⟨fun i => Classical.choose (this i), fun i => Classical.choose_spec (this i)⟩

/-- what Response answers -/
def RespA (xs : List (Int × Int × Int)) (i : Nat) (v e : Int) : Prop := (RespOf (t0 xs) (t1 xs) i (t2 xs i) none ∧ v = 0 ∧ e = 8) ∨ (RespOf (t0 xs) (t1 xs) i (t2 xs i) (some v) ∧ e = 0)
def RetRA (w : World) (xs : List (Int × Int × Int)) (i : Nat) (e : Ending) (w' : World) : Prop := ∃ v er : Int, e = .returned (.tuple #[.int .i64 v, .int .i64 er]) ∧ RespA xs i v er ∧ Below w.heap.size w w'

set_option maxHeartbeats 1000000 in
theorem ranks_Fits_bad {w : World} {p : Option Addr} {n c : Nat} {xs : List (Int × Int × Int)} (h : S3 w p n c xs) {er : Int} (he : tasksErr xs = er) (h0 : er ≠ 0) :
    Calls Try.prog 54 #[.slice p n c] w fun e w' => e = .returned (.tuple #[.bool false, .int .i64 er]) ∧ Below w.heap.size w w' := by
  have hb : (er == 0) = false := by simp [h0]
  go_enter Try.func54, Try.ntmps54
  go_wp2_with fail
  refine (ranks_Check h he).mono ?_; rintro e w1 ⟨rfl, hb1⟩
  go_wp2
  go_ret2
  exact ⟨rfl, hb1⟩

set_option maxHeartbeats 2000000 in
theorem ranks_Fits_ok {w : World} {p : Option Addr} {n c : Nat} {xs : List (Int × Int × Int)} (h : S3 w p n c xs) (he : tasksErr xs = 0) {fb : Nat → Bool} (hfb : ∀ i, fb i = true ↔ FitI xs i) :
    Calls Try.prog 54 #[.slice p n c] w fun e w' => e = .returned (.tuple #[.bool (allF fb n), .int .i64 0]) ∧ Below w.heap.size w w' := by
  have hm := h.2.1
  have hl := h.1
  obtain ⟨h5, hok⟩ := tasks_ok he
  have hok' : ∀ j, j < n → okTask (t0 xs j) (t1 xs j) (t2 xs j) := by rw [← hl]; exact hok
  rw [hl] at h5
  have HE := Lib.hid he; have HOK := Lib.hid hok'; have HFB := Lib.hid hfb
  clear he hok hok' hl hfb
  go_enter Try.func54, Try.ntmps54
  go_wp2_with fail
  refine (ranks_Check h HE.out).mono ?_; rintro e w1 ⟨rfl, hb1⟩
  have h1 := h.below hb1
  clear h
  go_wp2
  go_loopw [13] (fun i wr => ∃ k : Nat, k ≤ n ∧ i = .int .i64 k ∧ Hid (∀ j, j < k → fb j = true) ∧ Below w1.heap.size w1 wr) (fun i _ => n - (intOf i).toNat)
  case atStart => exact ⟨0, by omega, rfl, Lib.hid (fun j hj => by omega), Below.refl _ _⟩
  case round =>
    obtain ⟨k, hk, rfl, H, hb⟩ := hrel
    by_cases hkn : k < n
    · have hk1 := h1.below hb
      obtain ⟨b, off, rfl, hlt, hc⟩ := hk1.cells (by omega)
      have c2 := (hc k hkn).2.2
      have HK1 := Lib.hid hk1
      have HBB := Lib.hid (hb1.trans (hb.mono hb1.size))
      have HB0 := Lib.hid hb
      clear hc hk1 h1 hb
      go_wp2
      go_region_law (go_simp; refine (ranks_response (w := _) (by first | exact HK1.out | exact S3.below HK1.out (Below.drew (Below.refl _ _))) HOK.out (by omega) hkn).mono ?_; rintro e w2 ⟨r, rfl, hR, hb2⟩; have c2' : w2.cell? ⟨b, off + k * 3 + 2, none⟩ = some (.int .i64 (t2 xs k)) := (bdeep hb2 (by exact hlt) _).trans (by exact c2); have HR := Lib.hid hR; clear hR)
      all_goals
        have hb3 := (Below.drew HB0.out).trans (hb2.mono HB0.out.size)
        have hb4 := hb1.trans (hb3.mono hb1.size)
        clear hb2
        by_cases hr : t2 xs k < r
        · have hno : ¬ FitI xs k := (respR_no HR.out hr).1
          have hfk : fb k = false := by
            cases hq : fb k with
            | false => rfl
            | true => exact absurd ((HFB.out k).1 hq) hno
          have HFK := Lib.hid (allF_false hkn hfk)
          clear hno hfk
          go_wp2
          go_ret2
          exact ⟨ret2_bool HFK.out.symm, hb4⟩
        · have HY := Lib.hid ((HFB.out k).2 (respR_yes HR.out hr).1)
          go_wp2
          go_roundw
          case rel => exact ⟨k + 1, by omega, by go_num, Lib.hid (fun j hj => by rcases Nat.lt_succ_iff_lt_or_eq.1 hj with h | rfl; exact H.out j h; exact HY.out), hb3⟩
          case measure => simp [intOf]; omega
    · obtain rfl : n = k := by omega
      have hb2 := hb1.trans (hb.mono hb1.size)
      go_wp2
      go_ret2
      exact ⟨ret2_bool (allF_true H.out).symm, hb2⟩

/-- the reference's answer: the response, or -1 -/
def RetRef (w : World) (xs : List (Int × Int × Int)) (i : Nat) (e : Ending) (w' : World) : Prop := ∃ r : Int, e = .returned (.int .i64 r) ∧ ((r = -1 ∧ RespOf (t0 xs) (t1 xs) i (t2 xs i) none) ∨ RespOf (t0 xs) (t1 xs) i (t2 xs i) (some r)) ∧ Below w.heap.size w w'

end Go.Proofs.Ytgnegemiiahkaaa
