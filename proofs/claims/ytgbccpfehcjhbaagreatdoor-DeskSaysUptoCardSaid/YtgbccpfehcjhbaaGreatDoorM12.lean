/- The contracts of trace.Env, trace.Fits and headref.Smooth (P23, P24). No conditions beyond what each theorem says. -/
import Derived.Test.YtgbccpfehcjhbaaGreatDoorM09
import Derived.Deep.QuietTactic
import Derived.BigQuiet
import Derived.IntWalk
import Derived.Test.YtgbccpfehcjhbaaGreatDoorM08
import Derived.RegionTactic
import Derived.BigRegion
import Derived.Deep.RegionLaw
namespace Go.Proofs.YtgbccpfehcjhbaaGreatDoor
open Go Go.RowKit

/-- P24 -/
def FitsC (xs ys : List Int) (n : Nat) : Prop := ∀ t s, s ≤ t → t < n → gi xs t - gi xs s ≤ gi ys (t - s)
theorem fitsC_bool (xs ys : List Int) (n : Nat) : ∃ q : Bool, q = true ↔ FitsC xs ys n := by
  by_cases h : FitsC xs ys n
  · exact ⟨true, by simp [h]⟩
  · exact ⟨false, by simp [h]⟩
theorem both_self {xs : List Int} : bothErr xs xs = curveErr xs := by
  unfold bothErr
  by_cases h : curveErr xs = 0
  · rw [if_neg (by simp [h]), if_neg (by simp [h]), if_pos rfl, h]
  · rw [if_pos h]

end Go.Proofs.YtgbccpfehcjhbaaGreatDoor

/- The contracts of curve.Le, headref.Le, curve.Cut (P4, P5). No conditions. -/
namespace Go.Proofs.YtgbccpfehcjhbaaGreatDoor
open Go Go.RowKit

/-- nowhere, of the first n, is the one above the other -/
def LeN (n : Nat) (xs ys : List Int) : Prop := ∀ j, j < n → gi xs j ≤ gi ys j

theorem SI.drewN {w : World} {p : Option Addr} {n c : Nat} {xs : List Int} (h : SI w p n c xs) (k : Nat) : SI (w.drewN k) p n c xs := h

theorem Tryz.tyIntsLe : SliceTy Tryz.prog 35 3 (.int .i64 0) 1 8 := ⟨Tryz.underlying35, by kernel_rfl⟩

def cutErr (xs : List Int) (k : Int) : Int := if curveErr xs ≠ 0 then curveErr xs else if k < 0 ∨ (xs.length : Int) ≤ k then 1 else 0

theorem cutErr_bad {xs : List Int} {k : Int} (h : curveErr xs ≠ 0) : cutErr xs k = curveErr xs := by unfold cutErr; rw [if_pos h]
theorem cutErr_arg {xs : List Int} {k : Int} (h : curveErr xs = 0) (hk : k < 0 ∨ (xs.length : Int) ≤ k) : cutErr xs k = 1 := by unfold cutErr; rw [if_neg (by simp [h]), if_pos hk]
end Go.Proofs.YtgbccpfehcjhbaaGreatDoor

/- The contracts of bound.Back, bound.by, bound.Delay and headref.Delay (P25, P26). No conditions. -/
namespace Go.Proofs.YtgbccpfehcjhbaaGreatDoor
open Go Go.RowKit

/-- P25: the greatest difference, at least 0 -/
def backV (xs ys : List Int) : Int := mxf 0 (fun t => gi xs t - gi ys t) xs.length

set_option maxHeartbeats 400000 in
theorem bound_Back_ok {w : World} {p q : Option Addr} {n c d : Nat} {xs ys : List Int} (h : SI w p n c xs) (g : SI w q n d ys) (hx : Curve xs n) (hy : Curve ys n) (he : bothErr xs ys = 0) :
    Calls Tryz.prog 16 #[.slice p n c, .slice q n d] w fun e w' => e = .returned (.tuple #[.int .i64 (backV xs ys), .int .i64 0]) ∧ Below w.heap.size w w' := by
  obtain ⟨hl, hpos, h61, hbd, _⟩ := hx
  obtain ⟨_, _, _, gbd, _⟩ := hy
  have HE := Lib.hid he; clear he
  have HL := Lib.hid hl; clear hl
  obtain ⟨b, off, hp, hlt, hc⟩ := h.cells hpos
  obtain ⟨b', off', hq, hlt', hc'⟩ := g.cells hpos
  subst hp
  subst hq
  go_enter Tryz.func16, Tryz.ntmps16
  go_wp2_with fail
  refine (curve_Both h g HE.out).mono ?_; rintro e w' ⟨rfl, rfl⟩
  clear h g
  go_wp2
  go_loopw [7, 17] (fun v i wr => ∃ (k : Nat) (x : Int), k ≤ n ∧ i = .int .i64 k ∧ v = .int .i64 x ∧ Hid (x = mxf 0 (fun t => gi xs t - gi ys t) k) ∧ (0 ≤ x ∧ x ≤ 1000000) ∧ ∃ s, wr = w.drewN s) (fun _ i _ => n - (intOf i).toNat)
  case atStart => exact ⟨0, 0, by omega, rfl, rfl, Lib.hid rfl, by omega, 0, rfl⟩
  case round =>
    obtain ⟨k, x, hk, rfl, rfl, HX, hxb, s, rfl⟩ := hrel
    by_cases hkn : k < n
    · have c1 := hc k hkn
      have c2 := hc' k hkn
      have b1 := hbd k hkn
      have b2 := gbd k hkn
      have hst : Hid (mxf 0 (fun t => gi xs t - gi ys t) (k + 1) = max x (gi xs k - gi ys k)) := Lib.hid (by rw [HX.out]; rfl)
      clear hc hc'
      go_wp2
      go_quiet (fail)
      go_wp2
      all_goals
        go_roundw
        case rel => exact ⟨k + 1, _, by omega, by go_num, rfl, Lib.hid (by rw [hst.out]; omega), by omega, s + nq, by simp⟩
        case measure => simp [intOf]; omega
    · obtain rfl : n = k := by omega
      go_wp2
      go_ret2
      exact ⟨ret2_int (by unfold backV; rw [HX.out, HL.out]), below_drewN (Below.refl _ _) _⟩

/-- is what comes there d later, as far as can be seen? -/
def ByP (n d : Nat) (xs ys : List Int) : Prop := ∀ t, t + d < n → gi xs t ≤ gi ys (t + d)

set_option maxHeartbeats 400000 in
theorem bound_by {w : World} {p q : Option Addr} {n c d m : Nat} {xs ys : List Int} (h : SI w p n c xs) (g : SI w q n d ys) (hmn : m ≤ n) {r : Bool} (hr : r = true ↔ ByP n m xs ys) :
    Calls Tryz.prog 97 #[.slice p n c, .slice q n d, .int .i64 m] w fun e w' => e = .returned (.bool r) ∧ ∃ k, w' = w.drewN k := by
  have hm := h.2.1
  have gm := g.2.1
  have HR := Lib.hid hr; clear hr
  go_enter Tryz.func97, Tryz.ntmps97
  go_wp2
  go_loopw [12] (fun i wr => ∃ k : Nat, k ≤ n - m ∧ i = .int .i64 k ∧ (∃ s, wr = w.drewN s) ∧ Hid (∀ t, t < k → gi xs t ≤ gi ys (t + m))) (fun i _ => n - (intOf i).toNat)
  case atStart => exact ⟨0, Nat.zero_le _, rfl, ⟨0, rfl⟩, Lib.hid fun j hj => by omega⟩
  case round =>
    obtain ⟨k, hk, rfl, ⟨s, rfl⟩, H⟩ := hrel
    by_cases hkn : k < n - m
    · obtain ⟨b, off, rfl, hlt, hc⟩ := h.cells (by omega)
      obtain ⟨b', off', rfl, hlt', hc'⟩ := g.cells (by omega)
      have c1 := hc k (by omega)
      have c2 := hc' (k + m) (by omega)
      clear hc hc' h g
      by_cases hle : gi xs k ≤ gi ys (k + m)
      · have hd : decide (gi ys (k + m) < gi xs k) = false := by simp; omega
        have HLE := Lib.hid hle; clear hle
        go_wp2
        go_quiet (fail)
        go_wp2
        go_roundw
        case rel => exact ⟨k + 1, by omega, by go_num, ⟨s + nq, by simp⟩, Lib.hid fun j hj => by rcases Nat.lt_succ_iff_lt_or_eq.1 hj with h | rfl; exact H.out j h; exact HLE.out⟩
        case measure => simp [intOf]; omega
      · have hd : decide (gi ys (k + m) < gi xs k) = true := by simp; omega
        have HLE := Lib.hid hle; clear hle
        go_wp2
        go_quiet (fail)
        go_wp2
        go_ret
        refine ⟨ret_bool ?_, s + nq, by simp⟩
        cases r with
        | false => rfl
        | true => exact absurd (HR.out.1 rfl k (by omega)) (by have := HLE.out; omega)
    · obtain rfl : k = n - m := by omega
      go_wp2
      go_ret
      exact ⟨ret_bool (HR.out.2 fun t ht => H.out t (by omega)).symm, _, rfl⟩

/-- what P26 answers: the first time from which it is so, or that there is none -/
def DelayOf (n : Nat) (xs ys : List Int) (k : Nat) : Prop := k ≤ n ∧ (∀ j, j < k → ¬ ByP n j xs ys) ∧ (k < n → ByP n k xs ys)

theorem exists_bool (P : Prop) : ∃ r : Bool, r = true ↔ P := by
  by_cases h : P
  · exact ⟨true, by simp [h]⟩
  · exact ⟨false, by simp [h]⟩
theorem delay_exists (n : Nat) (xs ys : List Int) : ∃ k, DelayOf n xs ys k := by
  suffices h : ∀ m, m ≤ n → (∃ k, DelayOf n xs ys k) ∨ ∀ j, j < m → ¬ ByP n j xs ys by
    rcases h n (Nat.le_refl _) with h | h
    · exact h
    · exact ⟨n, Nat.le_refl _, h, fun e => absurd e (Nat.lt_irrefl _)⟩
  intro m
  induction m with
  | zero => intro _; exact .inr fun j hj => by omega
  | succ m ih =>
    intro hm
    rcases ih (by omega) with h | h
    · exact .inl h
    · by_cases hb : ByP n m xs ys
      · exact .inl ⟨m, by omega, h, fun _ => hb⟩
      · exact .inr fun j hj => by rcases Nat.lt_succ_iff_lt_or_eq.1 hj with h' | rfl; exact h j h'; exact hb

set_option maxHeartbeats 400000 in
theorem bound_Delay_ok {w : World} {p q : Option Addr} {n c d k : Nat} {xs ys : List Int} (h : SI w p n c xs) (g : SI w q n d ys) (he : bothErr xs ys = 0) (hk : DelayOf n xs ys k) :
    Calls Tryz.prog 57 #[.slice p n c, .slice q n d] w fun e w' => e = .returned (.tuple #[.int .i64 (if k < n then k else 0), .int .i64 (if k < n then 0 else 5)]) ∧ Below w.heap.size w w' := by
  have hm := h.2.1
  have gm := g.2.1
  obtain ⟨hk0, hk1, hk2⟩ := hk
  have HE := Lib.hid he; have HK1 := Lib.hid hk1; have HK2 := Lib.hid hk2
  clear he hk1 hk2
  go_enter Tryz.func57, Tryz.ntmps57
  go_wp2_with fail
  refine (curve_Both h g HE.out).mono ?_; rintro e w' ⟨rfl, rfl⟩
  go_wp2
  go_loopw [16] (fun i wr => ∃ j : Nat, j ≤ k ∧ i = .int .i64 j ∧ ∃ s, wr = w.drewN s) (fun i _ => n - (intOf i).toNat)
  case atStart => exact ⟨0, Nat.zero_le _, rfl, 0, rfl⟩
  case round =>
    obtain ⟨j, hj, rfl, s, rfl⟩ := hrel
    by_cases hjn : j < n
    · by_cases hjk : j < k
      · go_wp2_with fail
        refine (bound_by (h.drewN s) (g.drewN s) (m := j) (by omega) (r := false) ?_).mono ?_
        · simp [HK1.out j hjk]
        rintro e w' ⟨rfl, s', rfl⟩
        go_wp2
        go_roundw
        case rel => exact ⟨j + 1, by omega, by go_num, s + s', by simp⟩
        case measure => simp [intOf]; omega
      · obtain rfl : j = k := by omega
        have HB := HK2.out hjn
        go_wp2_with fail
        refine (bound_by (h.drewN s) (g.drewN s) (m := j) (by omega) (r := true) ?_).mono ?_
        · simp [HB]
        rintro e w' ⟨rfl, s', rfl⟩
        clear HB
        go_wp2
        go_ret2
        exact ⟨by first | rfl | simp [hjn], below_drewN (Below.refl _ _) _⟩
    · obtain rfl : n = j := by omega
      obtain rfl : n = k := by omega
      go_wp2
      go_ret2
      exact ⟨by first | rfl | simp, below_drewN (Below.refl _ _) _⟩

theorem leN_by {n d : Nat} {xs ys : List Int} (hd : d ≤ n) : LeN (n - d) (xs.take (n - d)) (ys.drop d) ↔ ByP n d xs ys := by
  constructor
  · intro h t ht
    have := h t (by omega)
    rw [gi_take (by omega), gi_drop, Nat.add_comm d t] at this
    exact this
  · intro h t ht
    have := h t (by omega)
    rw [gi_take ht, gi_drop, Nat.add_comm d t]
    exact this

end Go.Proofs.YtgbccpfehcjhbaaGreatDoor
