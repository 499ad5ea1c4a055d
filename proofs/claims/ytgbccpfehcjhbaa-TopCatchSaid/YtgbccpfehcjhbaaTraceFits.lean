/- The contracts of trace.Env, trace.Fits and headref.Smooth (P23, P24). No conditions beyond what each theorem says. -/
import Derived.Test.YtgbccpfehcjhbaaDeconv
import Derived.Deep.QuietTactic
import Derived.BigQuiet
import Derived.IntWalk
namespace Go.Proofs.Ytgbccpfehcjhbaa
open Go Go.RowKit

/-- P24 -/
def FitsC (xs ys : List Int) (n : Nat) : Prop := ∀ t s, s ≤ t → t < n → gi xs t - gi xs s ≤ gi ys (t - s)
theorem fitsC_bool (xs ys : List Int) (n : Nat) : ∃ q : Bool, q = true ↔ FitsC xs ys n := by
  by_cases h : FitsC xs ys n
  · exact ⟨true, by simp [h]⟩
  · exact ⟨false, by simp [h]⟩
theorem both_self {xs : List Int} : bothErr xs xs = curveErr xs := by
  unfold bothErr
  by_cases h : curveErr xs = 0
  · rw [if_neg (by simp [h]), if_neg (by simp [h]), if_pos rfl, h]
  · rw [if_pos h]

set_option maxHeartbeats 400000 in
theorem trace_Fits_bad {w : World} {p q : Option Addr} {n m c d : Nat} {xs ys : List Int} (h : SI w p n c xs) (g : SI w q m d ys) {er : Int} (he : bothErr xs ys = er) (h0 : er ≠ 0) :
    Calls Try.prog 8 #[.slice p n c, .slice q m d] w fun e w' => e = .returned (.tuple #[.bool false, .int .i64 er]) ∧ w = w' := by
  have hb := bne_false_of h0
  go_enter Try.func8, Try.ntmps8
  go_wp2_with fail
  refine (curve_Both h g he).mono ?_; rintro e w' ⟨rfl, rfl⟩
  go_wp2
  go_ret2
  exact ⟨rfl, rfl⟩

set_option maxHeartbeats 1600000 in
theorem trace_Fits_ok {w : World} {p q : Option Addr} {n c d : Nat} {xs ys : List Int} (h : SI w p n c xs) (g : SI w q n d ys) (he : bothErr xs ys = 0) {r : Bool} (hr : r = true ↔ FitsC xs ys n) :
    Calls Try.prog 8 #[.slice p n c, .slice q n d] w fun e w' => e = .returned (.tuple #[.bool r, .int .i64 0]) ∧ Below w.heap.size w w' := by
  obtain ⟨h1, h2, _⟩ := bothErr_ok he
  have hx := curve_of h1 h.1
  have hn61 := hx.le
  have hpos := hx.pos
  have hm := h.2.1
  have gm := g.2.1
  have HE := Lib.hid he; have HX := Lib.hid hx; have HR := Lib.hid hr
  clear he h1 h2 hx hr
  obtain ⟨b, off, rfl, hlt, hc⟩ := h.cells hpos
  obtain ⟨b', off', rfl, hlt', hc'⟩ := g.cells hpos
  have HC := Lib.hid hc; have HC' := Lib.hid hc'
  clear hc hc'
  go_enter Try.func8, Try.ntmps8
  go_wp2_with fail
  refine (curve_Both h g HE.out).mono ?_; rintro e w' ⟨rfl, rfl⟩
  clear h g
  go_wp2
  go_loopw [17] (fun v wr => ∃ t : Nat, t ≤ n ∧ v = .int .i64 t ∧ Hid (∀ t', t' < t → ∀ s, s ≤ t' → gi xs t' - gi xs s ≤ gi ys (t' - s)) ∧ Below w.heap.size w wr) (fun v _ => n - (intOf v).toNat)
  case atStart => exact ⟨0, by omega, rfl, Lib.hid (fun t ht => by omega), Below.refl _ _⟩
  case round =>
    obtain ⟨t, ht, rfl, HT, hb⟩ := hrel
    by_cases htn : t < n
    · go_wp2
      go_loopw [22] (fun v wr => ∃ s : Nat, s ≤ t + 1 ∧ v = .int .i64 s ∧ Hid (∀ s', s' < s → gi xs t - gi xs s' ≤ gi ys (t - s')) ∧ Below w.heap.size w wr) (fun v _ => t + 1 - (intOf v).toNat)
      case atStart => exact ⟨0, by omega, rfl, Lib.hid (fun t ht => by omega), hb⟩
      case round =>
        clear hb
        obtain ⟨s, hs, rfl, HS, hb⟩ := hrel
        by_cases hst : s ≤ t
        · have c1 : wr.cell? ⟨b, off + t, none⟩ = some (.int .i64 (gi xs t)) := (bdeep hb hlt _).trans (HC.out t htn)
          have c2 : wr.cell? ⟨b, off + s, none⟩ = some (.int .i64 (gi xs s)) := (bdeep hb hlt _).trans (HC.out s (by omega))
          have c3 : wr.cell? ⟨b', off' + (t - s), none⟩ = some (.int .i64 (gi ys (t - s))) := (bdeep hb hlt' _).trans (HC'.out (t - s) (by omega))
          have b1 := HX.out.bd t htn
          have b2 := HX.out.bd s (by omega)
          have q1 : IntKind.i64.wrap (gi xs t - gi xs s) = gi xs t - gi xs s := IntWalk.i64_in _ (by omega)
          have q2 : IntKind.i64.wrap ((t : Int) - (s : Int)) = (t : Int) - (s : Int) := IntWalk.i64_in _ (by omega)
          have q3 : ((t : Int) - (s : Int)).toNat = t - s := by omega
          have q4 : 0 ≤ (t : Int) - (s : Int) := by omega
          have q5 : (t : Int) - (s : Int) < (n : Int) := by omega
          have q6 : (s : Int) < (t : Int) + 1 := by omega
          have HB := Lib.hid hb; clear hb
          by_cases hle : gi xs t - gi xs s ≤ gi ys (t - s)
          · have z1 : decide (gi ys (t - s) < gi xs t - gi xs s) = false := by simp; omega
            go_wp2
            go_quiet (fail)
            clear q1 q2 q3 q4 q5
            go_wp2
            go_roundw
            case rel => exact ⟨s + 1, by omega, by go_num, Lib.hid (fun j hj => by rcases Nat.lt_succ_iff_lt_or_eq.1 hj with h | rfl; exact HS.out j h; exact hle), below_drewN HB.out _⟩
            case measure => simp [intOf]; omega
          · have z1 : decide (gi ys (t - s) < gi xs t - gi xs s) = true := by simp; omega
            have hrf : r = false := by
              cases hh : r with
              | false => rfl
              | true => exact absurd (HR.out.1 hh t s hst htn) hle
            subst hrf
            go_wp2
            go_quiet (fail)
            clear q1 q2 q3 q4 q5
            go_wp2
            go_ret2
            exact ⟨rfl, below_drewN HB.out _⟩
        · obtain rfl : s = t + 1 := by omega
          have q6 : ¬ ((t + 1 : Nat) : Int) < (t : Int) + 1 := by omega
          have HN := Lib.hid (fun s (hs : s ≤ t) => HS.out s (by omega))
          go_wp2
          go_roundw
          case rel => exact ⟨t + 1, by omega, by go_num, Lib.hid (fun j hj => by rcases Nat.lt_succ_iff_lt_or_eq.1 hj with h | rfl; exact HT.out j h; exact HN.out), hb⟩
          case measure => simp [intOf]; omega
    · obtain rfl : n = t := by omega
      have hrt : r = true := HR.out.2 (fun t s hs ht => HT.out t ht s hs)
      subst hrt
      go_wp2
      go_ret2
      exact ⟨rfl, hb⟩

end Go.Proofs.Ytgbccpfehcjhbaa
