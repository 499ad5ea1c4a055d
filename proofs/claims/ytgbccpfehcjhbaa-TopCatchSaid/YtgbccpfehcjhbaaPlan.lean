/- The contracts of plan.look, plan.Rate, plan.Room and headref.Rate (P66, P67). No conditions beyond what each theorem says. -/
import Derived.Test.YtgbccpfehcjhbaaPlanLaw
namespace Go.Proofs.Ytgbccpfehcjhbaa
open Go Go.RowKit

def planErr (xs : List Int) (d : Int) : Int := if curveErr xs ≠ 0 then curveErr xs else if d < 0 ∨ (xs.length : Int) ≤ d then 1 else 0
theorem plan_ok {xs : List Int} {d : Int} (h : planErr xs d = 0) : curveErr xs = 0 ∧ 0 ≤ d ∧ d < xs.length := by
  unfold planErr at h
  by_cases h1 : curveErr xs = 0
  · rw [if_neg (by simp [h1])] at h
    by_cases h2 : d < 0 ∨ (xs.length : Int) ≤ d
    · rw [if_pos h2] at h; omega
    · omega
  · rw [if_pos h1] at h; omega

set_option maxHeartbeats 400000 in
theorem plan_look {w : World} {p : Option Addr} {n c : Nat} {xs : List Int} {d : Int} (h : SI w p n c xs) {er : Int} (he : planErr xs d = er) :
    Calls Try.prog 20 #[.slice p n c, .int .i64 d] w fun e w' => e = .returned (.int .i64 er) ∧ w = w' := by
  obtain ⟨et, ht⟩ : ∃ et, curveErr xs = et := ⟨_, rfl⟩
  have hl := h.1
  have hm := h.2.1
  have HL := Lib.hid hl; clear hl
  have HT := Lib.hid ht; have HE := Lib.hid he; clear ht he
  by_cases h0 : et = 0
  · subst h0
    rcases (show d < 0 ∨ (0 ≤ d ∧ (n : Int) ≤ d) ∨ (0 ≤ d ∧ d < n) by omega) with h1 | ⟨h1, h2⟩ | ⟨h1, h2⟩
    all_goals
      go_enter Try.func20, Try.ntmps20
      go_wp2_with fail
      refine (curve_Check h HT.out).mono ?_; rintro e w' ⟨rfl, rfl⟩
      go_wp2
      go_ret
      exact ⟨ret_int (by rw [← HE.out]; unfold planErr; rw [HT.out, HL.out, if_neg (by simp)]; first | rw [if_pos (by omega)] | rw [if_neg (by omega)]), rfl⟩
  · have hb := bne_false_of h0
    go_enter Try.func20, Try.ntmps20
    go_wp2_with fail
    refine (curve_Check h HT.out).mono ?_; rintro e w' ⟨rfl, rfl⟩
    go_wp2
    go_ret
    exact ⟨ret_int (by rw [← HE.out]; unfold planErr; rw [HT.out, if_pos h0]), rfl⟩

set_option maxHeartbeats 400000 in
theorem plan_Rate_bad {w : World} {p : Option Addr} {n c : Nat} {xs : List Int} {l d : Int} (h : SI w p n c xs) {er : Int} (he : planErr xs d = er) (h0 : er ≠ 0) :
    Calls Try.prog 9 #[.slice p n c, .int .i64 l, .int .i64 d] w fun e w' => e = .returned (.tuple #[.int .i64 0, .int .i64 er]) ∧ w = w' := by
  have hb := bne_false_of h0
  go_enter Try.func9, Try.ntmps9
  go_wp2_with fail
  refine (plan_look h he).mono ?_; rintro e w' ⟨rfl, rfl⟩
  go_wp2
  go_ret2
  exact ⟨rfl, rfl⟩
set_option maxHeartbeats 400000 in
theorem plan_Room_bad {w : World} {p : Option Addr} {n c : Nat} {xs : List Int} {r d : Int} (h : SI w p n c xs) {er : Int} (he : planErr xs d = er) (h0 : er ≠ 0) :
    Calls Try.prog 11 #[.slice p n c, .int .i64 r, .int .i64 d] w fun e w' => e = .returned (.tuple #[.int .i64 0, .int .i64 er]) ∧ w = w' := by
  have hb := bne_false_of h0
  go_enter Try.func11, Try.ntmps11
  go_wp2_with fail
  refine (plan_look h he).mono ?_; rintro e w' ⟨rfl, rfl⟩
  go_wp2
  go_ret2
  exact ⟨rfl, rfl⟩
set_option maxHeartbeats 400000 in
theorem plan_Rate_arg {w : World} {p : Option Addr} {n c : Nat} {xs : List Int} {l d : Int} (h : SI w p n c xs) (he : planErr xs d = 0) (hl : l < 0 ∨ 1000000 < l) :
    Calls Try.prog 9 #[.slice p n c, .int .i64 l, .int .i64 d] w fun e w' => e = .returned (.tuple #[.int .i64 0, .int .i64 1]) ∧ w = w' := by
  rcases (show l < 0 ∨ (0 ≤ l ∧ 1000000 < l) by omega) with h1 | ⟨h1, h2⟩
  all_goals
    clear hl
    go_enter Try.func9, Try.ntmps9
    go_wp2_with fail
    refine (plan_look h he).mono ?_; rintro e w' ⟨rfl, rfl⟩
    go_wp2
    go_ret2
    exact ⟨rfl, rfl⟩
set_option maxHeartbeats 400000 in
theorem plan_Room_arg {w : World} {p : Option Addr} {n c : Nat} {xs : List Int} {r d : Int} (h : SI w p n c xs) (he : planErr xs d = 0) (hl : r < 0 ∨ 10000 < r) :
    Calls Try.prog 11 #[.slice p n c, .int .i64 r, .int .i64 d] w fun e w' => e = .returned (.tuple #[.int .i64 0, .int .i64 1]) ∧ w = w' := by
  rcases (show r < 0 ∨ (0 ≤ r ∧ 10000 < r) by omega) with h1 | ⟨h1, h2⟩
  all_goals
    clear hl
    go_enter Try.func11, Try.ntmps11
    go_wp2_with fail
    refine (plan_look h he).mono ?_; rintro e w' ⟨rfl, rfl⟩
    go_wp2
    go_ret2
    exact ⟨rfl, rfl⟩

set_option maxHeartbeats 1000000 in
theorem plan_Rate_ok {w : World} {p : Option Addr} {n c : Nat} {xs : List Int} {l v e0 : Int} {d : Nat} (h : SI w p n c xs) (he : planErr xs d = 0) (hl0 : 0 ≤ l) (hl1 : l ≤ 1000000) (hv : RateOf (gi xs) l d v e0) :
    Calls Try.prog 9 #[.slice p n c, .int .i64 l, .int .i64 d] w fun e w' => e = .returned (.tuple #[.int .i64 v, .int .i64 e0]) ∧ w = w' := by
  obtain ⟨hc0, _, hd⟩ := plan_ok he
  have hx := curve_of hc0 h.1
  have hn61 := hx.le
  have hpos := hx.pos
  have hm := h.2.1
  have hdn : d < n := by have := h.1; omega
  have HE := Lib.hid he; have HX := Lib.hid hx; have HV := Lib.hid hv
  clear he hx hv hc0 hd
  obtain ⟨b, off, rfl, hlt, hc⟩ := h.cells hpos
  have HC := Lib.hid hc; clear hc
  have c0 : w.cell? ⟨b, off, none⟩ = some (.int .i64 (gi xs 0)) := HC.out 0 hpos
  have b0 := HX.out.bd 0 hpos
  by_cases hz : l + gi xs 0 = 0
  · have hz1 : ((l + gi xs 0) == 0) = true := by simp [hz]
    obtain ⟨rfl, rfl⟩ : v = 0 ∧ e0 = 0 := by rcases HV.out with ⟨_, a, b⟩ | ⟨a, _⟩ | ⟨a, _⟩; exact ⟨a, b⟩; exact absurd hz a; exact absurd hz a
    clear hz
    go_enter Try.func9, Try.ntmps9
    go_wp2_with fail
    refine (plan_look h HE.out).mono ?_; rintro e w' ⟨rfl, rfl⟩
    go_wp2
    go_ret2
    exact ⟨rfl, rfl⟩
  · have hz1 : ((l + gi xs 0) == 0) = false := by simp [hz]
    have HZ := Lib.hid hz; clear hz
    go_enter Try.func9, Try.ntmps9
    go_wp2_with fail
    refine (plan_look h HE.out).mono ?_; rintro e w' ⟨rfl, rfl⟩
    go_wp2
    go_loop [9, 10] (fun s t => ∃ k : Nat, k ≤ d ∧ t = .int .i64 ((k : Int) + 1) ∧ s = .int .i64 (rb (gi xs) l k)) (fun _ t => d + 1 - (intOf t).toNat)
    case atStart => exact ⟨0, by omega, rfl, rfl⟩
    case round =>
      obtain ⟨k, hk, rfl, rfl⟩ := hrel
      have r1 := rb_bd ⟨hl0, hl1⟩ HX.out.bd k (by omega)
      by_cases hkd : k < d
      · have c1 := HC.out (k + 1) (by omega)
        have b1 := HX.out.bd (k + 1) (by omega)
        have r2 := cst_bd (t := k + 1) ⟨hl0, hl1⟩ HX.out.bd (by omega) (by omega)
        have HC2 := Lib.hid (show cst (gi xs) l (k + 1) = (l + gi xs (k + 1) + ((k : Int) + 1) - 1) / ((k : Int) + 1) by unfold cst; rw [Int.natCast_succ])
        have HST := Lib.hid (show rb (gi xs) l (k + 1) = if rb (gi xs) l k < 0 ∨ cst (gi xs) l (k + 1) < rb (gi xs) l k then cst (gi xs) l (k + 1) else rb (gi xs) l k from rfl)
        rw [HC2.out] at r2
        rw [HC2.out] at HST
        obtain ⟨cv, hcv⟩ : ∃ cv, (l + gi xs (k + 1) + ((k : Int) + 1) - 1) / ((k : Int) + 1) = cv := ⟨_, rfl⟩
        have z0 : (((k : Int) + 1) == 0) = false := by simp; omega
        have z1 : 0 ≤ (k : Int) + 1 := by omega
        have z2 : ((k : Int) + 1).toNat = k + 1 := by omega
        have z3 : (k : Int) + 1 ≤ (d : Int) := by omega
        have z4 : (k : Int) + 1 < (n : Int) := by omega
        have z5 : 0 ≤ l + gi xs (k + 1) + ((k : Int) + 1) - 1 := by omega
        generalize rb (gi xs) l k = rk at *
        rw [hcv] at r2 HST
        have HCV := Lib.hid hcv
        clear c0 b0
        rcases (show rk < 0 ∨ (0 ≤ rk ∧ cv < rk) ∨ (0 ≤ rk ∧ rk ≤ cv) by omega) with g1 | ⟨g1, g2⟩ | ⟨g1, g2⟩
        all_goals
          go_wp2
          all_goals
            go_round
            case rel => exact ⟨k + 1, by omega, by go_num, by rw [HST.out]; (first | rw [if_pos (by omega)] | rw [if_neg (by omega)]); try rw [HCV.out]⟩
            case measure => simp [intOf]; omega
      · obtain rfl : d = k := by omega
        have z3 : ¬ (d : Int) + 1 ≤ (d : Int) := by omega
        have HF : Hid ((rb (gi xs) l d < 0 ∨ 10000 < rb (gi xs) l d) ∧ v = 0 ∧ e0 = 5 ∨ (0 ≤ rb (gi xs) l d ∧ rb (gi xs) l d ≤ 10000 ∧ v = rb (gi xs) l d ∧ e0 = 0)) := Lib.hid (by
          rcases HV.out with ⟨a, _⟩ | ⟨_, a⟩ | ⟨_, a⟩
          · exact absurd a HZ.out
          · exact .inl a
          · exact .inr a)
        generalize rb (gi xs) l d = rk at *
        rcases (show rk < 0 ∨ (0 ≤ rk ∧ 10000 < rk) ∨ (0 ≤ rk ∧ rk ≤ 10000) by omega) with g1 | ⟨g1, g2⟩ | ⟨g1, g2⟩
        · obtain ⟨rfl, rfl⟩ : v = 0 ∧ e0 = 5 := by rcases HF.out with ⟨_, a⟩ | ⟨a, _⟩; exact a; omega
          go_wp2
          go_ret2
          exact ⟨rfl, rfl⟩
        · obtain ⟨rfl, rfl⟩ : v = 0 ∧ e0 = 5 := by rcases HF.out with ⟨_, a⟩ | ⟨_, a, _⟩; exact a; omega
          go_wp2
          go_ret2
          exact ⟨rfl, rfl⟩
        · obtain ⟨rfl, rfl⟩ : v = rk ∧ e0 = 0 := by rcases HF.out with ⟨a, _⟩ | ⟨_, _, a⟩; omega; exact a
          go_wp2
          go_ret2
          exact ⟨rfl, rfl⟩

/-- the room, or -1 -/
def roomV (xs : List Int) (r : Int) (d : Nat) : Int := mxf (-1) (fun t => r * (t : Int) - gi xs t) (d + 1)
theorem room_bd {xs : List Int} {r : Int} {n : Nat} (hx : Curve xs n) (hr0 : 0 ≤ r) (hr1 : r ≤ 10000) {k : Nat} (hk : k ≤ n) : -1 ≤ mxf (-1) (fun t => r * (t : Int) - gi xs t) k ∧ mxf (-1) (fun t => r * (t : Int) - gi xs t) k ≤ 10000000 := by
  refine ⟨mxf_ge.1, mxf_le (by omega) fun u hu => ?_⟩
  have := hx.le
  have a := prod_bd (k := u) hr0 hr1 (by omega)
  have b := hx.bd u (by omega)
  omega

set_option maxHeartbeats 1000000 in
theorem plan_Room_ok {w : World} {p : Option Addr} {n c : Nat} {xs : List Int} {r v : Int} {d : Nat} (h : SI w p n c xs) (he : planErr xs d = 0) (hr0 : 0 ≤ r) (hr1 : r ≤ 10000) (hv : roomV xs r d = v) :
    Calls Try.prog 11 #[.slice p n c, .int .i64 r, .int .i64 d] w fun e w' => e = .returned (.tuple #[.int .i64 (if v < 0 then 0 else v), .int .i64 (if v < 0 then 5 else 0)]) ∧ w = w' := by
  obtain ⟨hc0, _, hd⟩ := plan_ok he
  have hx := curve_of hc0 h.1
  have hn61 := hx.le
  have hpos := hx.pos
  have hm := h.2.1
  have hdn : d < n := by have := h.1; omega
  have HE := Lib.hid he; have HX := Lib.hid hx; have HV := Lib.hid hv
  clear he hx hv hc0 hd
  obtain ⟨b, off, rfl, hlt, hc⟩ := h.cells hpos
  have HC := Lib.hid hc; clear hc
  go_enter Try.func11, Try.ntmps11
  go_wp2_with fail
  refine (plan_look h HE.out).mono ?_; rintro e w' ⟨rfl, rfl⟩
  go_wp2
  go_loop [9, 25] (fun s t => ∃ k : Nat, k ≤ d + 1 ∧ t = .int .i64 k ∧ s = .int .i64 (mxf (-1) (fun t => r * (t : Int) - gi xs t) k)) (fun _ t => d + 1 - (intOf t).toNat)
  case atStart => exact ⟨0, by omega, rfl, rfl⟩
  case round =>
    obtain ⟨k, hk, rfl, rfl⟩ := hrel
    have rbd := room_bd (k := k) HX.out hr0 hr1 (by omega)
    by_cases hkd : k ≤ d
    · have c1 := HC.out k (by omega)
      have b1 := HX.out.bd k (by omega)
      have b2 := prod_bd (k := k) hr0 hr1 (by omega)
      have HST := Lib.hid (mxf_succ (-1) (fun t => r * (t : Int) - gi xs t) k)
      generalize mxf (-1) (fun t => r * (t : Int) - gi xs t) k = mk at *
      have z3 : (k : Int) < (d : Int) + 1 := by omega
      clear h
      go_wp2
      all_goals
        go_round
        case rel => exact ⟨k + 1, by omega, by go_num, by rw [HST.out]; try first | rfl | (congr 1; omega)⟩
        case measure => simp [intOf]; omega
    · obtain rfl : k = d + 1 := by omega
      have z3 : ¬ ((d + 1 : Nat) : Int) < (d : Int) + 1 := by omega
      have HVV : Hid (mxf (-1) (fun t => r * (t : Int) - gi xs t) (d + 1) = v) := Lib.hid HV.out
      rw [HVV.out] at rbd ⊢
      by_cases hv0 : v < 0
      all_goals
        go_wp2
        go_ret2
        exact ⟨by first | rfl | (simp [hv0]), rfl⟩


theorem bool_of (P : Prop) : ∃ q : Bool, q = true ↔ P := by
  by_cases h : P
  · exact ⟨true, by simp [h]⟩
  · exact ⟨false, by simp [h]⟩

/-- the reference's answer: the border, or -1 -/
def RetRate (w : World) (L : Nat → Int) (l : Int) (d : Nat) (e : Ending) (w' : World) : Prop := ∃ x : Int, e = .returned (.int .i64 (if 10000 < x then -1 else x)) ∧ BorderR L l d x ∧ Below w.heap.size w w'

end Go.Proofs.Ytgbccpfehcjhbaa
