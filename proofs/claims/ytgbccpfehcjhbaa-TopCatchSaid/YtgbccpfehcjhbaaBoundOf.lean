/- The contracts of bound.Back, bound.by, bound.Delay and headref.Delay (P25, P26). No conditions. -/
import Derived.Test.YtgbccpfehcjhbaaLeOf
import Derived.RegionTactic
import Derived.BigRegion
import Derived.Deep.RegionLaw
namespace Go.Proofs.Ytgbccpfehcjhbaa
open Go Go.RowKit

/-- P25: the greatest difference, at least 0 -/
def backV (xs ys : List Int) : Int := mxf 0 (fun t => gi xs t - gi ys t) xs.length

set_option maxHeartbeats 400000 in
theorem bound_Back_ok {w : World} {p q : Option Addr} {n c d : Nat} {xs ys : List Int} (h : SI w p n c xs) (g : SI w q n d ys) (hx : Curve xs n) (hy : Curve ys n) (he : bothErr xs ys = 0) :
    Calls Try.prog 14 #[.slice p n c, .slice q n d] w fun e w' => e = .returned (.tuple #[.int .i64 (backV xs ys), .int .i64 0]) ∧ Below w.heap.size w w' := by
  obtain ⟨hl, hpos, h61, hbd, _⟩ := hx
  obtain ⟨_, _, _, gbd, _⟩ := hy
  have HE := Lib.hid he; clear he
  have HL := Lib.hid hl; clear hl
  obtain ⟨b, off, hp, hlt, hc⟩ := h.cells hpos
  obtain ⟨b', off', hq, hlt', hc'⟩ := g.cells hpos
  subst hp
  subst hq
  go_enter Try.func14, Try.ntmps14
  go_wp2_with fail
  refine (curve_Both h g HE.out).mono ?_; rintro e w' ⟨rfl, rfl⟩
  clear h g
  go_wp2
  go_loopw [7, 17] (fun v i wr => ∃ (k : Nat) (x : Int), k ≤ n ∧ i = .int .i64 k ∧ v = .int .i64 x ∧ Hid (x = mxf 0 (fun t => gi xs t - gi ys t) k) ∧ (0 ≤ x ∧ x ≤ 1000000) ∧ ∃ s, wr = w.drewN s) (fun _ i _ => n - (intOf i).toNat)
  case atStart => exact ⟨0, 0, by omega, rfl, rfl, Lib.hid rfl, by omega, 0, rfl⟩
  case round =>
    obtain ⟨k, x, hk, rfl, rfl, HX, hxb, s, rfl⟩ := hrel
    by_cases hkn : k < n
    · have c1 := hc k hkn
      have c2 := hc' k hkn
      have b1 := hbd k hkn
      have b2 := gbd k hkn
      have hst : Hid (mxf 0 (fun t => gi xs t - gi ys t) (k + 1) = max x (gi xs k - gi ys k)) := Lib.hid (by rw [HX.out]; rfl)
      clear hc hc'
      go_wp2
      go_quiet (fail)
      go_wp2
      all_goals
        go_roundw
        case rel => exact ⟨k + 1, _, by omega, by go_num, rfl, Lib.hid (by rw [hst.out]; omega), by omega, s + nq, by simp⟩
        case measure => simp [intOf]; omega
    · obtain rfl : n = k := by omega
      go_wp2
      go_ret2
      exact ⟨ret2_int (by unfold backV; rw [HX.out, HL.out]), below_drewN (Below.refl _ _) _⟩

/-- is what comes there d later, as far as can be seen? -/
def ByP (n d : Nat) (xs ys : List Int) : Prop := ∀ t, t + d < n → gi xs t ≤ gi ys (t + d)

/-- what P26 answers: the first time from which it is so, or that there is none -/
def DelayOf (n : Nat) (xs ys : List Int) (k : Nat) : Prop := k ≤ n ∧ (∀ j, j < k → ¬ ByP n j xs ys) ∧ (k < n → ByP n k xs ys)

theorem exists_bool (P : Prop) : ∃ r : Bool, r = true ↔ P := by
  by_cases h : P
  · exact ⟨true, by simp [h]⟩
  · exact ⟨false, by simp [h]⟩
theorem delay_exists (n : Nat) (xs ys : List Int) : ∃ k, DelayOf n xs ys k := by
  suffices h : ∀ m, m ≤ n → (∃ k, DelayOf n xs ys k) ∨ ∀ j, j < m → ¬ ByP n j xs ys by
    rcases h n (Nat.le_refl _) with h | h
    · exact h
    · exact ⟨n, Nat.le_refl _, h, fun e => absurd e (Nat.lt_irrefl _)⟩
  intro m
  induction m with
  | zero => intro _; exact .inr fun j hj => by omega
  | succ m ih =>
    intro hm
    rcases ih (by omega) with h | h
    · exact .inl h
    · by_cases hb : ByP n m xs ys
      · exact .inl ⟨m, by omega, h, fun _ => hb⟩
      · exact .inr fun j hj => by rcases Nat.lt_succ_iff_lt_or_eq.1 hj with h' | rfl; exact h j h'; exact hb

theorem leN_by {n d : Nat} {xs ys : List Int} (hd : d ≤ n) : LeN (n - d) (xs.take (n - d)) (ys.drop d) ↔ ByP n d xs ys := by
  constructor
  · intro h t ht
    have := h t (by omega)
    rw [gi_take (by omega), gi_drop, Nat.add_comm d t] at this
    exact this
  · intro h t ht
    have := h t (by omega)
    rw [gi_take ht, gi_drop, Nat.add_comm d t]
    exact this

end Go.Proofs.Ytgbccpfehcjhbaa
