/- The contracts of plan.look, plan.Rate, plan.Room and headref.Rate (P66, P67). No conditions beyond what each theorem says. -/
import Derived.Test.YtgbccpfehcjhbaaGreatDoorM22
import Derived.Test.YtgbccpfehcjhbaaGreatDoorM07
import Derived.Test.YtgbccpfehcjhbaaGreatDoorM20
import Derived.Test.YtgbccpfehcjhbaaGreatDoorM14
namespace Go.Proofs.YtgbccpfehcjhbaaGreatDoor
open Go Go.RowKit

def planErr (xs : List Int) (d : Int) : Int := if curveErr xs ≠ 0 then curveErr xs else if d < 0 ∨ (xs.length : Int) ≤ d then 1 else 0
theorem plan_ok {xs : List Int} {d : Int} (h : planErr xs d = 0) : curveErr xs = 0 ∧ 0 ≤ d ∧ d < xs.length := by
  unfold planErr at h
  by_cases h1 : curveErr xs = 0
  · rw [if_neg (by simp [h1])] at h
    by_cases h2 : d < 0 ∨ (xs.length : Int) ≤ d
    · rw [if_pos h2] at h; omega
    · omega
  · rw [if_pos h1] at h; omega

set_option maxHeartbeats 400000 in
theorem plan_look {w : World} {p : Option Addr} {n c : Nat} {xs : List Int} {d : Int} (h : SI w p n c xs) {er : Int} (he : planErr xs d = er) :
    Calls Tryz.prog 106 #[.slice p n c, .int .i64 d] w fun e w' => e = .returned (.int .i64 er) ∧ w = w' := by
  obtain ⟨et, ht⟩ : ∃ et, curveErr xs = et := ⟨_, rfl⟩
  have hl := h.1
  have hm := h.2.1
  have HL := Lib.hid hl; clear hl
  have HT := Lib.hid ht; have HE := Lib.hid he; clear ht he
  by_cases h0 : et = 0
  · subst h0
    rcases (show d < 0 ∨ (0 ≤ d ∧ (n : Int) ≤ d) ∨ (0 ≤ d ∧ d < n) by omega) with h1 | ⟨h1, h2⟩ | ⟨h1, h2⟩
    all_goals
      go_enter Tryz.func106, Tryz.ntmps106
      go_wp2_with fail
      refine (curve_Check h HT.out).mono ?_; rintro e w' ⟨rfl, rfl⟩
      go_wp2
      go_ret
      exact ⟨ret_int (by rw [← HE.out]; unfold planErr; rw [HT.out, HL.out, if_neg (by simp)]; first | rw [if_pos (by omega)] | rw [if_neg (by omega)]), rfl⟩
  · have hb := bne_false_of h0
    go_enter Tryz.func106, Tryz.ntmps106
    go_wp2_with fail
    refine (curve_Check h HT.out).mono ?_; rintro e w' ⟨rfl, rfl⟩
    go_wp2
    go_ret
    exact ⟨ret_int (by rw [← HE.out]; unfold planErr; rw [HT.out, if_pos h0]), rfl⟩

set_option maxHeartbeats 400000 in
theorem plan_Rate_bad {w : World} {p : Option Addr} {n c : Nat} {xs : List Int} {l d : Int} (h : SI w p n c xs) {er : Int} (he : planErr xs d = er) (h0 : er ≠ 0) :
    Calls Tryz.prog 71 #[.slice p n c, .int .i64 l, .int .i64 d] w fun e w' => e = .returned (.tuple #[.int .i64 0, .int .i64 er]) ∧ w = w' := by
  have hb := bne_false_of h0
  go_enter Tryz.func71, Tryz.ntmps71
  go_wp2_with fail
  refine (plan_look h he).mono ?_; rintro e w' ⟨rfl, rfl⟩
  go_wp2
  go_ret2
  exact ⟨rfl, rfl⟩
set_option maxHeartbeats 400000 in
theorem plan_Rate_arg {w : World} {p : Option Addr} {n c : Nat} {xs : List Int} {l d : Int} (h : SI w p n c xs) (he : planErr xs d = 0) (hl : l < 0 ∨ 1000000 < l) :
    Calls Tryz.prog 71 #[.slice p n c, .int .i64 l, .int .i64 d] w fun e w' => e = .returned (.tuple #[.int .i64 0, .int .i64 1]) ∧ w = w' := by
  rcases (show l < 0 ∨ (0 ≤ l ∧ 1000000 < l) by omega) with h1 | ⟨h1, h2⟩
  all_goals
    clear hl
    go_enter Tryz.func71, Tryz.ntmps71
    go_wp2_with fail
    refine (plan_look h he).mono ?_; rintro e w' ⟨rfl, rfl⟩
    go_wp2
    go_ret2
    exact ⟨rfl, rfl⟩
set_option maxHeartbeats 1000000 in
theorem plan_Rate_ok {w : World} {p : Option Addr} {n c : Nat} {xs : List Int} {l v e0 : Int} {d : Nat} (h : SI w p n c xs) (he : planErr xs d = 0) (hl0 : 0 ≤ l) (hl1 : l ≤ 1000000) (hv : RateOf (gi xs) l d v e0) :
    Calls Tryz.prog 71 #[.slice p n c, .int .i64 l, .int .i64 d] w fun e w' => e = .returned (.tuple #[.int .i64 v, .int .i64 e0]) ∧ w = w' := by
  obtain ⟨hc0, _, hd⟩ := plan_ok he
  have hx := curve_of hc0 h.1
  have hn61 := hx.le
  have hpos := hx.pos
  have hm := h.2.1
  have hdn : d < n := by have := h.1; omega
  have HE := Lib.hid he; have HX := Lib.hid hx; have HV := Lib.hid hv
  clear he hx hv hc0 hd
  obtain ⟨b, off, rfl, hlt, hc⟩ := h.cells hpos
  have HC := Lib.hid hc; clear hc
  have c0 : w.cell? ⟨b, off, none⟩ = some (.int .i64 (gi xs 0)) := HC.out 0 hpos
  have b0 := HX.out.bd 0 hpos
  by_cases hz : l + gi xs 0 = 0
  · have hz1 : ((l + gi xs 0) == 0) = true := by simp [hz]
    obtain ⟨rfl, rfl⟩ : v = 0 ∧ e0 = 0 := by rcases HV.out with ⟨_, a, b⟩ | ⟨a, _⟩ | ⟨a, _⟩; exact ⟨a, b⟩; exact absurd hz a; exact absurd hz a
    clear hz
    go_enter Tryz.func71, Tryz.ntmps71
    go_wp2_with fail
    refine (plan_look h HE.out).mono ?_; rintro e w' ⟨rfl, rfl⟩
    go_wp2
    go_ret2
    exact ⟨rfl, rfl⟩
  · have hz1 : ((l + gi xs 0) == 0) = false := by simp [hz]
    have HZ := Lib.hid hz; clear hz
    go_enter Tryz.func71, Tryz.ntmps71
    go_wp2_with fail
    refine (plan_look h HE.out).mono ?_; rintro e w' ⟨rfl, rfl⟩
    go_wp2
    go_loop [9, 10] (fun s t => ∃ k : Nat, k ≤ d ∧ t = .int .i64 ((k : Int) + 1) ∧ s = .int .i64 (rb (gi xs) l k)) (fun _ t => d + 1 - (intOf t).toNat)
    case atStart => exact ⟨0, by omega, rfl, rfl⟩
    case round =>
      obtain ⟨k, hk, rfl, rfl⟩ := hrel
      have r1 := rb_bd ⟨hl0, hl1⟩ HX.out.bd k (by omega)
      by_cases hkd : k < d
      · have c1 := HC.out (k + 1) (by omega)
        have b1 := HX.out.bd (k + 1) (by omega)
        have r2 := cst_bd (t := k + 1) ⟨hl0, hl1⟩ HX.out.bd (by omega) (by omega)
        have HC2 := Lib.hid (show cst (gi xs) l (k + 1) = (l + gi xs (k + 1) + ((k : Int) + 1) - 1) / ((k : Int) + 1) by unfold cst; rw [Int.natCast_succ])
        have HST := Lib.hid (show rb (gi xs) l (k + 1) = if rb (gi xs) l k < 0 ∨ cst (gi xs) l (k + 1) < rb (gi xs) l k then cst (gi xs) l (k + 1) else rb (gi xs) l k from rfl)
        rw [HC2.out] at r2
        rw [HC2.out] at HST
        obtain ⟨cv, hcv⟩ : ∃ cv, (l + gi xs (k + 1) + ((k : Int) + 1) - 1) / ((k : Int) + 1) = cv := ⟨_, rfl⟩
        have z0 : (((k : Int) + 1) == 0) = false := by simp; omega
        have z1 : 0 ≤ (k : Int) + 1 := by omega
        have z2 : ((k : Int) + 1).toNat = k + 1 := by omega
        have z3 : (k : Int) + 1 ≤ (d : Int) := by omega
        have z4 : (k : Int) + 1 < (n : Int) := by omega
        have z5 : 0 ≤ l + gi xs (k + 1) + ((k : Int) + 1) - 1 := by omega
        generalize rb (gi xs) l k = rk at *
        rw [hcv] at r2 HST
        have HCV := Lib.hid hcv
        clear c0 b0
        rcases (show rk < 0 ∨ (0 ≤ rk ∧ cv < rk) ∨ (0 ≤ rk ∧ rk ≤ cv) by omega) with g1 | ⟨g1, g2⟩ | ⟨g1, g2⟩
        all_goals
          go_wp2
          all_goals
            go_round
            case rel => exact ⟨k + 1, by omega, by go_num, by rw [HST.out]; (first | rw [if_pos (by omega)] | rw [if_neg (by omega)]); try rw [HCV.out]⟩
            case measure => simp [intOf]; omega
      · obtain rfl : d = k := by omega
        have z3 : ¬ (d : Int) + 1 ≤ (d : Int) := by omega
        have HF : Hid ((rb (gi xs) l d < 0 ∨ 10000 < rb (gi xs) l d) ∧ v = 0 ∧ e0 = 5 ∨ (0 ≤ rb (gi xs) l d ∧ rb (gi xs) l d ≤ 10000 ∧ v = rb (gi xs) l d ∧ e0 = 0)) := Lib.hid (by
          rcases HV.out with ⟨a, _⟩ | ⟨_, a⟩ | ⟨_, a⟩
          · exact absurd a HZ.out
          · exact .inl a
          · exact .inr a)
        generalize rb (gi xs) l d = rk at *
        rcases (show rk < 0 ∨ (0 ≤ rk ∧ 10000 < rk) ∨ (0 ≤ rk ∧ rk ≤ 10000) by omega) with g1 | ⟨g1, g2⟩ | ⟨g1, g2⟩
        · obtain ⟨rfl, rfl⟩ : v = 0 ∧ e0 = 5 := by rcases HF.out with ⟨_, a⟩ | ⟨a, _⟩; exact a; omega
          go_wp2
          go_ret2
          exact ⟨rfl, rfl⟩
        · obtain ⟨rfl, rfl⟩ : v = 0 ∧ e0 = 5 := by rcases HF.out with ⟨_, a⟩ | ⟨_, a, _⟩; exact a; omega
          go_wp2
          go_ret2
          exact ⟨rfl, rfl⟩
        · obtain ⟨rfl, rfl⟩ : v = rk ∧ e0 = 0 := by rcases HF.out with ⟨a, _⟩ | ⟨_, _, a⟩; omega; exact a
          go_wp2
          go_ret2
          exact ⟨rfl, rfl⟩

/-- the room, or -1 -/
def roomV (xs : List Int) (r : Int) (d : Nat) : Int := mxf (-1) (fun t => r * (t : Int) - gi xs t) (d + 1)
theorem room_bd {xs : List Int} {r : Int} {n : Nat} (hx : Curve xs n) (hr0 : 0 ≤ r) (hr1 : r ≤ 10000) {k : Nat} (hk : k ≤ n) : -1 ≤ mxf (-1) (fun t => r * (t : Int) - gi xs t) k ∧ mxf (-1) (fun t => r * (t : Int) - gi xs t) k ≤ 10000000 := by
  refine ⟨mxf_ge.1, mxf_le (by omega) fun u hu => ?_⟩
  have := hx.le
  have a := prod_bd (k := u) hr0 hr1 (by omega)
  have b := hx.bd u (by omega)
  omega

set_option maxHeartbeats 400000 in
theorem ref_Rate1 {w : World} {p : Option Addr} {n c a a' a'' d : Nat} {xs : List Int} {r l : Int} (h : SI w p n c xs) (hx : Curve xs n) (hd : d < n) (hr : 0 ≤ r ∧ r ≤ 100000) (hl : 0 ≤ l ∧ l ≤ 1000000)
    (h1 : w.cell? ⟨a, 0, none⟩ = some (.slice p n c)) (h2 : w.cell? ⟨a', 0, none⟩ = some (.int .i64 l)) (h3 : w.cell? ⟨a'', 0, none⟩ = some (.int .i64 d)) (hb3 : a'' < w.heap.size) {q : Bool} (hq : q = true ↔ OkR (gi xs) l d r) :
    Calls Tryz.prog 135 #[.int .i64 r, .pointer (some ⟨a, 0, none⟩), .pointer (some ⟨a', 0, none⟩), .pointer (some ⟨a'', 0, none⟩)] w fun e w' => e = .returned (.bool q) ∧ Below w.heap.size w w' := by
  obtain ⟨i, hi⟩ := firstP_exists (byP xs r l) n
  have hn61 := hx.le
  have hfo := first_ok hd hi
  have hin := hi.1
  have HX := Lib.hid hx; have HI := Lib.hid hi; have HQ := Lib.hid hq; have HFO := Lib.hid hfo
  clear hx hi hq hfo
  by_cases h5 : i < n
  · by_cases h6 : i ≤ d
    · obtain rfl : q = true := HQ.out.2 (HFO.out.2 h6)
      have g1 : decide ((i : Int) ≤ (d : Int)) = true := by simp; omega
      have g2 : decide (i ≤ d) = true := by simp; omega
      go_enter Tryz.func135, Tryz.ntmps135
      go_wp2_with fail
      refine (ref_By h (by omega) HX.out.bd hr hl HI.out).mono ?_; rintro e w1 ⟨rfl, hb1⟩
      rw [if_pos h5]
      have c3 := (bdeep hb1 hb3 0).trans h3
      go_wp2
      go_ret
      exact ⟨rfl, hb1⟩
    · have hqf : q = false := by
        cases hq : q with
        | false => rfl
        | true => exact absurd (HFO.out.1 (HQ.out.1 hq)) h6
      subst hqf
      have g1 : decide ((i : Int) ≤ (d : Int)) = false := by simp; omega
      have g2 : decide (i ≤ d) = false := by simp; omega
      go_enter Tryz.func135, Tryz.ntmps135
      go_wp2_with fail
      refine (ref_By h (by omega) HX.out.bd hr hl HI.out).mono ?_; rintro e w1 ⟨rfl, hb1⟩
      rw [if_pos h5]
      have c3 := (bdeep hb1 hb3 0).trans h3
      go_wp2
      go_ret
      exact ⟨rfl, hb1⟩
  · have hqf : q = false := by
      cases hq : q with
      | false => rfl
      | true => exact absurd (HFO.out.1 (HQ.out.1 hq)) (by omega)
    subst hqf
    go_enter Tryz.func135, Tryz.ntmps135
    go_wp2_with fail
    refine (ref_By h (by omega) HX.out.bd hr hl HI.out).mono ?_; rintro e w1 ⟨rfl, hb1⟩
    rw [if_neg h5]
    go_wp2
    go_ret
    exact ⟨rfl, hb1⟩

theorem bool_of (P : Prop) : ∃ q : Bool, q = true ↔ P := by
  by_cases h : P
  · exact ⟨true, by simp [h]⟩
  · exact ⟨false, by simp [h]⟩

/-- the reference's answer: the border, or -1 -/
def RetRate (w : World) (L : Nat → Int) (l : Int) (d : Nat) (e : Ending) (w' : World) : Prop := ∃ x : Int, e = .returned (.int .i64 (if 10000 < x then -1 else x)) ∧ BorderR L l d x ∧ Below w.heap.size w w'

set_option maxHeartbeats 1000000 in
theorem ref_Rate {w : World} {p : Option Addr} {n c d : Nat} {xs : List Int} {l : Int} (h : SI w p n c xs) (hx : Curve xs n) (hd : d < n) (hl : 0 ≤ l ∧ l ≤ 1000000) :
    Calls Tryz.prog 119 #[.slice p n c, .int .i64 l, .int .i64 d] w (RetRate w (gi xs) l d) := by
  have hn61 := hx.le
  have HX := Lib.hid hx; clear hx
  obtain ⟨k1, k2, k3, kb, ks⟩ := three_boxes w (.slice p n c) (.int .i64 l) (.int .i64 d) 35 3 3
  go_enter Tryz.func119, Tryz.ntmps119
  go_wp2
  generalize hW : (((w.alloc (.cells #[.slice p n c] 35)).alloc (.cells #[.int .i64 l] 3)).alloc (.cells #[.int .i64 d] 3)) = W at *
  clear hW
  have H := Lib.hid (h.below kb)
  have K1 := Lib.hid k1; have K2 := Lib.hid k2; have K3 := Lib.hid k3
  clear k1 k2 k3 h
  go_loopw [8, 9] (fun a b wr => ∃ x y : Nat, a = .int .i64 x ∧ b = .int .i64 y ∧ x ≤ y ∧ y ≤ 10001 ∧ Hid (∀ c : Int, 0 ≤ c → c < x → ¬ OkR (gi xs) l d c) ∧ Hid (∀ c : Int, y ≤ c → c ≤ 10000 → OkR (gi xs) l d c) ∧ Below W.heap.size W wr) (fun a b _ => (intOf b).toNat - (intOf a).toNat)
  case atStart => exact ⟨0, 10001, rfl, rfl, by omega, by omega, Lib.hid fun c h1 h2 => by omega, Lib.hid fun c h1 h2 => by omega, Below.refl _ _⟩
  case round =>
    obtain ⟨x, y, rfl, rfl, h1, h2, H1, H2, hb⟩ := hrel
    have hsz := hb.size
    by_cases hxy : x < y
    · have hm : ((x : Int) + (y : Int)) / 2 = (((x + y) / 2 : Nat) : Int) := by omega
      have hm1 : x ≤ (x + y) / 2 := by omega
      have hm2 : (x + y) / 2 < y := by omega
      generalize (x + y) / 2 = m at hm hm1 hm2
      have h' := H.out.below hb
      have c1 := (bdeep hb (show w.heap.size < W.heap.size by omega) 0).trans K1.out
      have c2 := (bdeep hb (show w.heap.size + 1 < W.heap.size by omega) 0).trans K2.out
      have c3 := (bdeep hb (show w.heap.size + 2 < W.heap.size by omega) 0).trans K3.out
      have C1 := Lib.hid c1; have C2 := Lib.hid c2; have C3 := Lib.hid c3
      clear c1 c2 c3
      by_cases hq : OkR (gi xs) l d m
      · have HQ := Lib.hid hq; clear hq
        go_wp2_with fail
        refine (ref_Rate1 (q := true) h' HX.out hd ⟨by omega, by omega⟩ hl C1.out C2.out C3.out (by omega) (by simp [HQ.out])).mono ?_; rintro e w1 ⟨rfl, hb1⟩
        clear h'
        have hb2 := hb.trans (hb1.mono hsz)
        go_wp2
        go_roundw
        case rel => exact ⟨x, m, rfl, by first | rfl | rw [hm], by omega, by omega, H1, Lib.hid fun c g1 g2 => okR_mono HQ.out g1, hb2⟩
        case measure => simp [intOf]; omega
      · have HQ := Lib.hid hq; clear hq
        go_wp2_with fail
        refine (ref_Rate1 (q := false) h' HX.out hd ⟨by omega, by omega⟩ hl C1.out C2.out C3.out (by omega) (by simp [HQ.out])).mono ?_; rintro e w1 ⟨rfl, hb1⟩
        clear h'
        have hb2 := hb.trans (hb1.mono hsz)
        go_wp2
        go_roundw
        case rel => exact ⟨m + 1, y, by first | go_num | (rw [hm]; go_num), rfl, by omega, by omega, Lib.hid (fun c g1 g2 g3 => HQ.out (okR_mono g3 (by omega))), H2, hb2⟩
        case measure => simp [intOf]; omega
    · obtain rfl : x = y := by omega
      have hbb := kb.trans (hb.mono kb.size)
      have HB : Hid (BorderR (gi xs) l d x) := Lib.hid ⟨by omega, by omega, H1.out, H2.out⟩
      by_cases hx1 : (10000 : Int) < (x : Int)
      all_goals
        go_wp2
        go_ret
        exact ⟨x, ret_int (by first | rw [if_pos hx1] | rw [if_neg (by omega)]), HB.out, hbb⟩
end Go.Proofs.YtgbccpfehcjhbaaGreatDoor

/- The desk's lines window, bound, rate: what they do (P77). Conditions: what each theorem says. -/
namespace Go.Proofs.YtgbccpfehcjhbaaGreatDoor
open Go Go.RowKit
set_option linter.unusedVariables false
set_option linter.unusedSimpArgs false

/-- what is told of a number and an error -/
def oneOut (r : Int × Int) : Out := if r.2 = 0 then .ok (okS [r.1]) else .err r.2
def RetVE (w : World) (r : Int × Int) (e : Ending) (w' : World) : Prop := e = .returned (.tuple #[.int .i64 r.1, .int .i64 r.2]) ∧ Below w.heap.size w w'
theorem dk_one_out {w : World} (LD : Laid w) {v er : Int} (hb : -1000000000000 ≤ v ∧ v ≤ 1000000000000) :
    Calls Tryz.prog 66 #[.int .i64 v, .int .i64 er] w (OutPost w (oneOut (v, er))) := by
  by_cases h0 : er = 0
  · subst h0
    refine (dk_one LD hb).mono ?_; rintro e w' ⟨rfl, b⟩
    exact ⟨by unfold oneOut; rw [if_pos rfl]; rfl, b⟩
  · refine (dk_one_bad h0).mono ?_; rintro e w' ⟨rfl, b⟩
    exact ⟨by unfold oneOut; rw [if_neg h0]; rfl, b⟩
open Classical in
noncomputable def windowVE (n w t : Int) : Int × Int := if okWin n w t then (doneAt n.toNat w.toNat t.toNat, 0) else (0, 1)
theorem doneAt_bd {n w t : Nat} (hn : n ≤ 200) (ht : t ≤ 200) : 0 ≤ doneAt n w t ∧ doneAt n w t ≤ 200000 := by
  unfold doneAt
  split
  · omega
  · have := sentAt_bd (w := w) ht (show n - 1 ≤ 200 by omega)
    omega
theorem windowVE_bd (n w t : Int) : -1000000000000 ≤ (windowVE n w t).1 ∧ (windowVE n w t).1 ≤ 1000000000000 := by
  unfold windowVE
  split
  · rename_i h
    obtain ⟨h1, h2, h3, h4, h5, h6⟩ := h
    have := doneAt_bd (n := n.toNat) (w := w.toNat) (t := t.toNat) (by omega) (by omega)
    simp only
    omega
  · simp only
    omega
theorem window_VE {W : World} (n w t : Int) : Calls Tryz.prog 67 #[.int .i64 n, .int .i64 w, .int .i64 t] W (RetVE W (windowVE n w t)) := by
  by_cases h : okWin n w t
  · have hh := h
    obtain ⟨h1, h2, h3, h4, h5, h6⟩ := hh
    have e : windowVE n w t = (doneAt n.toNat w.toNat t.toNat, 0) := by unfold windowVE; rw [if_pos h]
    rw [e]
    obtain ⟨n, rfl⟩ := Int.eq_ofNat_of_zero_le h1
    obtain ⟨w, rfl⟩ := Int.eq_ofNat_of_zero_le (show 0 ≤ w by omega)
    obtain ⟨t, rfl⟩ := Int.eq_ofNat_of_zero_le (show 0 ≤ t by omega)
    exact (window_Done_ok (by omega) (by omega) (by omega) (by omega) (by omega)).mono fun e w' h => h
  · have e : windowVE n w t = (0, 1) := by unfold windowVE; rw [if_neg h]
    rw [e]
    refine (window_Done_bad h).mono ?_; rintro e w' ⟨rfl, rfl⟩
    exact ⟨rfl, Below.refl _ _⟩
noncomputable def boundVE (xs : List Int) (r l : Int) : Int × Int := if boundErr xs r l ≠ 0 then (0, boundErr xs r l) else if fstP (byP xs r l) xs.length < xs.length then ((fstP (byP xs r l) xs.length : Nat), 0) else (0, 5)
theorem boundErr_ok {xs : List Int} {r l : Int} (h : boundErr xs r l = 0) : curveErr xs = 0 ∧ ¬ badRL r l := by
  unfold boundErr at h
  split at h
  · rename_i h1; exact absurd h h1
  · rename_i h1
    refine ⟨Classical.not_not.1 h1, fun hb => ?_⟩
    rw [if_pos hb] at h
    omega
theorem boundVE_bd (xs : List Int) (r l : Int) : -1000000000000 ≤ (boundVE xs r l).1 ∧ (boundVE xs r l).1 ≤ 1000000000000 := by
  unfold boundVE
  split
  · simp only
    omega
  · rename_i h
    have hc := (boundErr_ok (Classical.not_not.1 h)).1
    have := (curve_of hc rfl).le
    split <;> simp only <;> omega
theorem bound_VE {w : World} {p : Option Addr} {n c : Nat} {xs : List Int} (r l : Int) (h : SI w p n c xs) : Calls Tryz.prog 69 #[.slice p n c, .int .i64 r, .int .i64 l] w (RetVE w (boundVE xs r l)) := by
  by_cases h0 : boundErr xs r l = 0
  · obtain ⟨hc, hr⟩ := boundErr_ok h0
    refine (catch_Bound_ok h hc hr (fstP_is _ n)).mono ?_; rintro e w' ⟨rfl, rfl⟩
    refine ⟨?_, Below.refl _ _⟩
    by_cases hi : fstP (byP xs r l) n < n
    · rw [show boundVE xs r l = (((fstP (byP xs r l) n : Nat) : Int), 0) by unfold boundVE; rw [if_neg (show ¬ (boundErr xs r l ≠ 0) from fun k => k h0), h.1, if_pos hi], if_pos hi, if_pos hi]
    · rw [show boundVE xs r l = (0, 5) by unfold boundVE; rw [if_neg (show ¬ (boundErr xs r l ≠ 0) from fun k => k h0), h.1, if_neg hi], if_neg hi, if_neg hi]
  · refine (catch_Bound_bad h rfl h0).mono ?_; rintro e w' ⟨rfl, rfl⟩
    exact ⟨by unfold boundVE; rw [if_pos h0], Below.refl _ _⟩
noncomputable def rateVE (xs : List Int) (l d : Int) : Int × Int := if planErr xs d ≠ 0 then (0, planErr xs d) else if l < 0 ∨ 1000000 < l then (0, 1) else (Classical.choose (rateOf_exists (gi xs) l d.toNat), Classical.choose (Classical.choose_spec (rateOf_exists (gi xs) l d.toNat)))
theorem rateVE_of {xs : List Int} {l d : Int} (h : planErr xs d = 0) (hl : 0 ≤ l ∧ l ≤ 1000000) : RateOf (gi xs) l d.toNat (rateVE xs l d).1 (rateVE xs l d).2 := by
  unfold rateVE
  rw [if_neg (by simp [h]), if_neg (by omega)]
  exact Classical.choose_spec (Classical.choose_spec (rateOf_exists (gi xs) l d.toNat))
theorem rateVE_bd (xs : List Int) (l d : Int) : -1000000000000 ≤ (rateVE xs l d).1 ∧ (rateVE xs l d).1 ≤ 1000000000000 := by
  by_cases h : planErr xs d = 0
  · by_cases hl : l < 0 ∨ 1000000 < l
    · unfold rateVE
      rw [if_neg (by simp [h]), if_pos hl]
      simp only
      omega
    · have := rateVE_of h (show 0 ≤ l ∧ l ≤ 1000000 by omega)
      rcases this with ⟨_, h2, _⟩ | ⟨_, _, h2, _⟩ | ⟨_, h2, h3, h4, _⟩ <;> omega
  · unfold rateVE
    rw [if_pos h]
    simp only
    omega
theorem rate_VE {w : World} {p : Option Addr} {n c : Nat} {xs : List Int} (l d : Int) (h : SI w p n c xs) : Calls Tryz.prog 71 #[.slice p n c, .int .i64 l, .int .i64 d] w (RetVE w (rateVE xs l d)) := by
  by_cases h0 : planErr xs d = 0
  · by_cases hl : l < 0 ∨ 1000000 < l
    · refine (plan_Rate_arg h h0 hl).mono ?_; rintro e w' ⟨rfl, rfl⟩
      exact ⟨by unfold rateVE; rw [if_neg (by simp [h0]), if_pos hl], Below.refl _ _⟩
    · have hv := rateVE_of h0 (show 0 ≤ l ∧ l ≤ 1000000 by omega)
      obtain ⟨hc, d0, d1⟩ := plan_ok h0
      obtain ⟨k, rfl⟩ := Int.eq_ofNat_of_zero_le d0
      refine (plan_Rate_ok h h0 (by omega) (by omega) hv).mono ?_
      rintro e w' ⟨rfl, rfl⟩
      exact ⟨rfl, Below.refl _ _⟩
  · refine (plan_Rate_bad h rfl h0).mono ?_; rintro e w' ⟨rfl, rfl⟩
    exact ⟨by unfold rateVE; rw [if_pos h0], Below.refl _ _⟩
set_option maxHeartbeats 800000 in
theorem dk_window1 {w : World} (LD : Laid w) {ba bb bc : Nat} {n r t : Int} (h1 : w.heap[ba]? = some (.cells #[.int .i64 n] 3 (0, 0))) (h2 : w.heap[bb]? = some (.cells #[.int .i64 r] 3 (0, 0))) (h3 : w.heap[bc]? = some (.cells #[.int .i64 t] 3 (0, 0))) :
    Calls Tryz.prog 65 #[.pointer (some ⟨ba, 0, none⟩), .pointer (some ⟨bb, 0, none⟩), .pointer (some ⟨bc, 0, none⟩)] w (OutPost w (oneOut (windowVE n r t))) := by
  have c1 : w.cell? ⟨ba, 0, none⟩ = some (.int .i64 n) := blk_cell h1 0
  have c2 : w.cell? ⟨bb, 0, none⟩ = some (.int .i64 r) := blk_cell h2 0
  have c3 : w.cell? ⟨bc, 0, none⟩ = some (.int .i64 t) := blk_cell h3 0
  have HC := Lib.hid (window_VE (W := w) n r t)
  have HB := Lib.hid (windowVE_bd n r t)
  have HLD := Lib.hid LD
  generalize windowVE n r t = R at *
  obtain ⟨v, er⟩ := R
  clear h1 h2 h3 LD
  go_enter Tryz.func65, Tryz.ntmps65
  go_wp2_with fail
  refine HC.out.mono ?_; rintro e w1 ⟨rfl, b1⟩
  have HT := Lib.hid (dk_one_out (er := er) (HLD.out.below b1) HB.out)
  clear HC
  generalize oneOut (v, er) = O at *
  cases O with
  | ok s =>
    go_wp2_with fail
    refine HT.out.mono ?_
    rintro e w2 ⟨he, b2⟩
    obtain rfl : e = .returned (.string (str s)) := he
    have b12 := b1.trans (b2.mono b1.size)
    go_wp2
    go_ret
    exact ⟨rfl, b12⟩
  | err x =>
    go_wp2_with fail
    refine HT.out.mono ?_
    rintro e w2 ⟨he, b2⟩
    obtain rfl : e = faultE x := he
    have b12 := b1.trans (b2.mono b1.size)
    go_wp2
    exact ⟨rfl, rfl, b12⟩
set_option maxHeartbeats 800000 in
theorem dk_bound1 {w : World} (LD : Laid w) {ba bb bc : Nat} {n c : Nat} {p : Option Addr} {xs : List Int} {r t : Int} (h1 : w.heap[ba]? = some (.cells #[.slice p n c] 35 (0, 0))) (h : SI w p n c xs) (h2 : w.heap[bb]? = some (.cells #[.int .i64 r] 3 (0, 0))) (h3 : w.heap[bc]? = some (.cells #[.int .i64 t] 3 (0, 0))) :
    Calls Tryz.prog 68 #[.pointer (some ⟨ba, 0, none⟩), .pointer (some ⟨bb, 0, none⟩), .pointer (some ⟨bc, 0, none⟩)] w (OutPost w (oneOut (boundVE xs r t))) := by
  have c1 : w.cell? ⟨ba, 0, none⟩ = some (.slice p n c) := blk_cell h1 0
  have c2 : w.cell? ⟨bb, 0, none⟩ = some (.int .i64 r) := blk_cell h2 0
  have c3 : w.cell? ⟨bc, 0, none⟩ = some (.int .i64 t) := blk_cell h3 0
  have HC := Lib.hid (bound_VE r t h)
  have HB := Lib.hid (boundVE_bd xs r t)
  have HLD := Lib.hid LD
  generalize boundVE xs r t = R at *
  obtain ⟨v, er⟩ := R
  clear h1 h2 h3 h LD
  go_enter Tryz.func68, Tryz.ntmps68
  go_wp2_with fail
  refine HC.out.mono ?_; rintro e w1 ⟨rfl, b1⟩
  have HT := Lib.hid (dk_one_out (er := er) (HLD.out.below b1) HB.out)
  clear HC
  generalize oneOut (v, er) = O at *
  cases O with
  | ok s =>
    go_wp2_with fail
    refine HT.out.mono ?_
    rintro e w2 ⟨he, b2⟩
    obtain rfl : e = .returned (.string (str s)) := he
    have b12 := b1.trans (b2.mono b1.size)
    go_wp2
    go_ret
    exact ⟨rfl, b12⟩
  | err x =>
    go_wp2_with fail
    refine HT.out.mono ?_
    rintro e w2 ⟨he, b2⟩
    obtain rfl : e = faultE x := he
    have b12 := b1.trans (b2.mono b1.size)
    go_wp2
    exact ⟨rfl, rfl, b12⟩
set_option maxHeartbeats 800000 in
theorem dk_rate1 {w : World} (LD : Laid w) {ba bb bc : Nat} {n c : Nat} {p : Option Addr} {xs : List Int} {r t : Int} (h1 : w.heap[ba]? = some (.cells #[.slice p n c] 35 (0, 0))) (h : SI w p n c xs) (h2 : w.heap[bb]? = some (.cells #[.int .i64 r] 3 (0, 0))) (h3 : w.heap[bc]? = some (.cells #[.int .i64 t] 3 (0, 0))) :
    Calls Tryz.prog 70 #[.pointer (some ⟨ba, 0, none⟩), .pointer (some ⟨bb, 0, none⟩), .pointer (some ⟨bc, 0, none⟩)] w (OutPost w (oneOut (rateVE xs r t))) := by
  have c1 : w.cell? ⟨ba, 0, none⟩ = some (.slice p n c) := blk_cell h1 0
  have c2 : w.cell? ⟨bb, 0, none⟩ = some (.int .i64 r) := blk_cell h2 0
  have c3 : w.cell? ⟨bc, 0, none⟩ = some (.int .i64 t) := blk_cell h3 0
  have HC := Lib.hid (rate_VE r t h)
  have HB := Lib.hid (rateVE_bd xs r t)
  have HLD := Lib.hid LD
  generalize rateVE xs r t = R at *
  obtain ⟨v, er⟩ := R
  clear h1 h2 h3 h LD
  go_enter Tryz.func70, Tryz.ntmps70
  go_wp2_with fail
  refine HC.out.mono ?_; rintro e w1 ⟨rfl, b1⟩
  have HT := Lib.hid (dk_one_out (er := er) (HLD.out.below b1) HB.out)
  clear HC
  generalize oneOut (v, er) = O at *
  cases O with
  | ok s =>
    go_wp2_with fail
    refine HT.out.mono ?_
    rintro e w2 ⟨he, b2⟩
    obtain rfl : e = .returned (.string (str s)) := he
    have b12 := b1.trans (b2.mono b1.size)
    go_wp2
    go_ret
    exact ⟨rfl, b12⟩
  | err x =>
    go_wp2_with fail
    refine HT.out.mono ?_
    rintro e w2 ⟨he, b2⟩
    obtain rfl : e = faultE x := he
    have b12 := b1.trans (b2.mono b1.size)
    go_wp2
    exact ⟨rfl, rfl, b12⟩
end Go.Proofs.YtgbccpfehcjhbaaGreatDoor
