/- The reference's answers to bound and rate (P77). Conditions: what each theorem says. -/
import Derived.Test.YtgbccpfehcjhbaaGreatDoorM33
import Derived.Test.YtgbccpfehcjhbaaGreatDoorM16
import Derived.Test.YtgbccpfehcjhbaaGreatDoorM36
namespace Go.Proofs.YtgbccpfehcjhbaaGreatDoor
open Go Go.RowKit
set_option linter.unusedVariables false
set_option linter.unusedSimpArgs false

theorem SI.two {w : World} {q : Option Addr} {m d : Nat} {x y : Int} (g : SI w q 2 d [x, y]) : ∃ b o, q = some ⟨b, o, none⟩ ∧ b < w.heap.size ∧ w.cell? ⟨b, o, none⟩ = some (.int .i64 x) ∧ w.cell? ⟨b, o + 1, none⟩ = some (.int .i64 y) := by
  obtain ⟨b, o, rfl, hlt, hc⟩ := g.cells (by omega)
  exact ⟨b, o, rfl, hlt, hc 0 (by omega), hc 1 (by omega)⟩
set_option maxRecDepth 100000 in
set_option maxHeartbeats 3200000 in
theorem more_bound {w : World} {p q : Option Addr} {n c d : Nat} {xs : List Int} {r l : Int} (h : SI w p n c xs) (hc : curveErr xs = 0) (g : SI w q 2 d [r, l]) :
    Calls Tryz.prog 80 #[.string ⟨#[98, 111, 117, 110, 100]⟩, .slice p n c, .slice q 2 d] w (TextPost w (textOf (oneOut (boundVE xs r l)))) := by
  obtain ⟨b, o, rfl, hlt, c0, c1⟩ := SI.two (m := 2) g
  have HX := Lib.hid (curve_of hc h.len)
  have HS := Lib.hid h
  have hn61 := HX.out.le
  by_cases hr : badRL r l
  · have HO : Hid (textOf (oneOut (boundVE xs r l)) = errS 1) := Lib.hid (by
      have : boundErr xs r l = 1 := by unfold boundErr; rw [if_neg (fun k => k hc), if_pos hr]
      unfold boundVE
      rw [this, if_pos (by omega)]
      rfl)
    by_cases h1 : 0 ≤ r ∧ r ≤ 10000
    · have HW1 := Lib.hid (fun w => ref_withinI (w := w) (x := r) (a := 0) (b := 10000) (r := true) (decide_eq_true h1))
      have HW2 := Lib.hid (fun w => ref_withinI (w := w) (x := l) (a := 0) (b := 1000000) (r := false) (decide_eq_false (by unfold badRL at hr; omega)))
      clear h hc g hr h1
      go_enter Tryz.func80, Tryz.ntmps80
      go_wp2_with fail
      refine (HW1.out _).mono ?_; rintro e w' ⟨rfl, rfl⟩
      go_wp2_with fail
      refine (HW2.out _).mono ?_; rintro e w' ⟨rfl, rfl⟩
      go_wp2_with fail
      refine (ref_fault (by omega)).mono ?_; rintro e w' ⟨rfl, rfl⟩
      go_wp2
      go_ret
      exact ⟨by rw [HO.out]; rfl, Below.refl _ _⟩
    · have HW1 := Lib.hid (fun w => ref_withinI (w := w) (x := r) (a := 0) (b := 10000) (r := false) (decide_eq_false h1))
      clear h hc g hr h1
      go_enter Tryz.func80, Tryz.ntmps80
      go_wp2_with fail
      refine (HW1.out _).mono ?_; rintro e w' ⟨rfl, rfl⟩
      go_wp2_with fail
      refine (ref_fault (by omega)).mono ?_; rintro e w' ⟨rfl, rfl⟩
      go_wp2
      go_ret
      exact ⟨by rw [HO.out]; rfl, Below.refl _ _⟩
  · obtain ⟨r0, r1, l0, l1⟩ := not_badRL hr
    have HW1 := Lib.hid (fun w => ref_withinI (w := w) (x := r) (a := 0) (b := 10000) (r := true) (decide_eq_true (by omega)))
    have HW2 := Lib.hid (fun w => ref_withinI (w := w) (x := l) (a := 0) (b := 1000000) (r := true) (decide_eq_true (by omega)))
    have HOO : Hid (boundVE xs r l = if fstP (byP xs r l) n < n then (((fstP (byP xs r l) n : Nat) : Int), 0) else (0, 5)) := Lib.hid (by
      have : boundErr xs r l = 0 := by unfold boundErr; rw [if_neg (fun k => k hc), if_neg hr]
      unfold boundVE
      rw [if_neg (show ¬ boundErr xs r l ≠ 0 from fun k => k this), h.len])
    have HBY := Lib.hid (fun (w' : World) (hs : SI w' p n c xs) => ref_By (r := r) (l := l) hs (by omega) HX.out.bd (by omega) (by omega) (fstP_is (byP xs r l) n))
    have bc0 := BelowOf.cell c0 hlt; have bc1 := BelowOf.cell c1 hlt
    clear h hc g hr
    go_enter Tryz.func80, Tryz.ntmps80
    go_wp2_with fail
    refine (HW1.out _).mono ?_; rintro e w' ⟨rfl, rfl⟩
    go_wp2_with fail
    refine (HW2.out _).mono ?_; rintro e w' ⟨rfl, rfl⟩
    go_wp2
    refine wp_region_quiet_below (by kernel_rfl) (by kernel_rfl) ?_
    repeat (quiet_step (exact calls_below (HBY.out _ (HS.out.below (BelowOf.prop _)))))
    refine wpQuiet_nil ?_
    intro v hq
    have hcur : Below w.heap.size w v := by obtain ⟨q, hq2⟩ := hq; rw [hq2]; exact q.prop
    clear hq bc0 bc1 c0 c1
    by_cases hi : fstP (byP xs r l) n < n
    · have HO : Hid (textOf (oneOut (boundVE xs r l)) = okS [((fstP (byP xs r l) n : Nat) : Int)]) := Lib.hid (by rw [HOO.out, if_pos hi]; rfl)
      rw [if_pos hi]
      obtain ⟨k, hk⟩ : ∃ k, fstP (byP xs r l) n = k := ⟨_, rfl⟩
      rw [hk] at HO hi ⊢
      have HD := Lib.hid (fun w => ref_dec (w := w) (n := (k : Int)) (by omega) (by omega))
      have g0 : (0 : Int) ≤ (k : Int) := by omega
      clear hk
      go_wp2_with fail
      refine (HD.out _).mono ?_
      rintro e w2 ⟨T, rfl, rfl, ht, HE⟩
      have g1 : ¬ 9223372036854775807 < 3 + T.size := by omega
      go_wp2
      go_ret
      exact ⟨by rw [HO.out, HE.out]; rfl, hcur⟩
    · have HO : Hid (textOf (oneOut (boundVE xs r l)) = errS 5) := Lib.hid (by rw [HOO.out, if_neg hi]; rfl)
      rw [if_neg hi]
      go_wp2_with fail
      refine (ref_fault (by omega)).mono ?_; rintro e w' ⟨rfl, rfl⟩
      go_wp2
      go_ret
      exact ⟨by rw [HO.out]; rfl, hcur⟩
theorem rateOf_two {L : Nat → Int} {l v e : Int} {n d : Nat} (hl : 0 ≤ l ∧ l ≤ 1000000) (hL : ∀ j, j < n → 0 ≤ L j ∧ L j ≤ 1000000) (hd : d < n) (hr : RateOf L l d v e) : (e = 0 ∧ 0 ≤ v ∧ v ≤ 10000) ∨ (e ≠ 0 ∧ e = 5) := by
  rcases hr with ⟨_, h2, h3⟩ | ⟨_, _, h2, h3⟩ | ⟨_, h2, h3, h4, h5⟩ <;> omega
theorem rate_def {w : World} {p : Option Addr} {n c d : Nat} {xs : List Int} {l v er : Int} (h : SI w p n c xs) (hx : Curve xs n) (hd : d < n) (hl : 0 ≤ l ∧ l ≤ 1000000) (hr : RateOf (gi xs) l d v er) :
    Calls Tryz.prog 119 #[.slice p n c, .int .i64 l, .int .i64 d] w fun e w' => e = .returned (.int .i64 (if er = 0 then v else -1)) ∧ Below w.heap.size w w' := by
  refine (ref_Rate h hx hd hl).mono ?_
  rintro e w' ⟨x, rfl, hb, hw⟩
  refine ⟨?_, hw⟩
  rcases border_rate hl hx.bd hd hb hr with ⟨h1, h2, h3⟩ | ⟨h1, h2, h3⟩
  · rw [if_pos h1, if_neg (by omega)]
  · rw [if_neg (by omega), if_pos h3, h2]
set_option maxRecDepth 100000 in
set_option maxHeartbeats 3200000 in
theorem more_rate {w : World} {p q : Option Addr} {n c d : Nat} {xs : List Int} {l t : Int} (h : SI w p n c xs) (hc : curveErr xs = 0) (g : SI w q 2 d [l, t]) (hl0 : 0 ≤ l ∧ l < 1000000000) (ht0 : 0 ≤ t ∧ t < 1000000000) :
    Calls Tryz.prog 80 #[.string ⟨#[114, 97, 116, 101]⟩, .slice p n c, .slice q 2 d] w (TextPost w (textOf (oneOut (rateVE xs l t)))) := by
  obtain ⟨b, o, rfl, hlt, c0, c1⟩ := SI.two (m := 2) g
  have HX := Lib.hid (curve_of hc h.len)
  have HS := Lib.hid h
  have hn61 := HX.out.le
  by_cases h1 : (n : Int) ≤ t
  · have HO : Hid (textOf (oneOut (rateVE xs l t)) = errS 1) := Lib.hid (by
      have : planErr xs t = 1 := by unfold planErr; rw [if_neg (fun k => k hc), if_pos (.inr (by rw [h.len]; exact h1))]
      unfold rateVE
      rw [this, if_pos (by omega)]
      rfl)
    have q1 : decide ((n : Int) ≤ t) = true := decide_eq_true h1
    clear h hc g
    go_enter Tryz.func80, Tryz.ntmps80
    go_wp2_with fail
    refine (ref_fault (by omega)).mono ?_; rintro e w' ⟨rfl, rfl⟩
    go_wp2
    go_ret
    exact ⟨by rw [HO.out]; rfl, Below.refl _ _⟩
  · have hpe : planErr xs t = 0 := by unfold planErr; rw [if_neg (fun k => k hc), if_neg (by rw [h.len]; omega)]
    have q1 : decide ((n : Int) ≤ t) = false := decide_eq_false h1
    by_cases h2 : 1000000 < l
    · have HO : Hid (textOf (oneOut (rateVE xs l t)) = errS 1) := Lib.hid (by
        unfold rateVE
        rw [if_neg (show ¬ planErr xs t ≠ 0 from fun k => k hpe), if_pos (.inr h2)]
        rfl)
      have q2 : decide (1000000 < l) = true := decide_eq_true h2
      clear h hc g
      go_enter Tryz.func80, Tryz.ntmps80
      go_wp2_with fail
      refine (ref_fault (by omega)).mono ?_; rintro e w' ⟨rfl, rfl⟩
      go_wp2
      go_ret
      exact ⟨by rw [HO.out]; rfl, Below.refl _ _⟩
    · have q2 : decide (1000000 < l) = false := decide_eq_false h2
      have HRV := Lib.hid (rateVE_of (l := l) hpe (by omega))
      obtain ⟨k, rfl⟩ := Int.eq_ofNat_of_zero_le ht0.1
      have bc0 := BelowOf.cell c0 hlt; have bc1 := BelowOf.cell c1 hlt
      obtain ⟨R, hR⟩ : ∃ R, rateVE xs l (k : Int) = R := ⟨_, rfl⟩
      rw [hR] at HRV ⊢
      obtain ⟨v, er⟩ := R
      have HRT := Lib.hid (fun (w' : World) (hs : SI w' p n c xs) => rate_def hs HX.out (show k < n by omega) (show 0 ≤ l ∧ l ≤ 1000000 by omega) HRV.out)
      clear h hc g hpe hR
      go_enter Tryz.func80, Tryz.ntmps80
      go_wp2
      refine wp_region_quiet_below (by kernel_rfl) (by kernel_rfl) ?_
      repeat (quiet_step (exact calls_below (HRT.out _ (HS.out.below (BelowOf.prop _)))))
      refine wpQuiet_nil ?_
      intro x hq
      have hcur : Below w.heap.size w x := by obtain ⟨q, hq2⟩ := hq; rw [hq2]; exact q.prop
      have hvb := rateOf_two (l := l) (by omega) HX.out.bd (show k < n by omega) HRV.out
      clear hq bc0 bc1 c0 c1
      by_cases he : er = 0
      · have HO : Hid (textOf (oneOut (v, er)) = okS [v]) := Lib.hid (by unfold oneOut; rw [if_pos he]; rfl)
        rw [if_pos he]
        have HD := Lib.hid (fun w => ref_dec (w := w) (n := v) (by omega) (by omega))
        have g0 : ¬ v < 0 := by omega
        go_wp2_with fail
        refine (HD.out _).mono ?_
        rintro e w2 ⟨T, rfl, rfl, ht, HE⟩
        have g1 : ¬ 9223372036854775807 < 3 + T.size := by omega
        go_wp2
        go_ret
        exact ⟨by rw [HO.out, HE.out]; rfl, hcur⟩
      · have HO : Hid (textOf (oneOut (v, er)) = errS 5) := Lib.hid (by unfold oneOut; rw [if_neg he]; show errS er = _; rw [show er = 5 by omega])
        rw [if_neg he]
        go_wp2_with fail
        refine (ref_fault (by omega)).mono ?_; rintro e w' ⟨rfl, rfl⟩
        go_wp2
        go_ret
        exact ⟨by rw [HO.out]; rfl, hcur⟩
end Go.Proofs.YtgbccpfehcjhbaaGreatDoor

/- The reference's answers to close, bound, rate, bucket, window (P77). Conditions: what each theorem says. -/
namespace Go.Proofs.YtgbccpfehcjhbaaGreatDoor
open Go Go.RowKit
set_option linter.unusedVariables false
set_option linter.unusedSimpArgs false

theorem SI.three {w : World} {q : Option Addr} {d : Nat} {x y z : Int} (g : SI w q 3 d [x, y, z]) : ∃ b o, q = some ⟨b, o, none⟩ ∧ b < w.heap.size ∧ w.cell? ⟨b, o, none⟩ = some (.int .i64 x) ∧ w.cell? ⟨b, o + 1, none⟩ = some (.int .i64 y) ∧ w.cell? ⟨b, o + 2, none⟩ = some (.int .i64 z) := by
  obtain ⟨b, o, rfl, hlt, hc⟩ := g.cells (by omega)
  exact ⟨b, o, rfl, hlt, hc 0 (by omega), hc 1 (by omega), hc 2 (by omega)⟩
set_option maxRecDepth 100000 in
set_option maxHeartbeats 3200000 in
theorem reckon_close {w : World} {b n0 d0 cl : Nat} {p0 : Option Addr} {N : Value} {xs : List Int} (c0 : w.cell? ⟨b, 0, none⟩ = some (.slice p0 n0 d0)) (s0 : SI w p0 n0 d0 xs) :
    Calls Tryz.prog 46 #[.string ⟨#[99, 108, 111, 115, 101]⟩, .slice (some ⟨b, 0, none⟩) 1 cl, N] w (TextPost w (textOf (fitOut (curveErr xs) (clsL xs)))) := by
  obtain ⟨er, he⟩ : ∃ er, curveErr xs = er := ⟨_, rfl⟩
  have HC0 := Lib.hid (ref_Curve s0 he)
  have HEE := Lib.hid he
  have hcb := curveErr_bd xs
  rw [he] at hcb
  by_cases h0 : er = 0
  · subst h0
    have HC := Lib.hid (ref_Closure s0 (curve_of he s0.len))
    clear s0 he
    go_enter Tryz.func46, Tryz.ntmps46
    go_wp2_with fail
    refine HC0.out.mono ?_; rintro e w' ⟨rfl, rfl⟩
    go_wp2_with fail
    refine HC.out.mono ?_
    rintro e w1 ⟨p', n', c', rfl, ho, b1⟩
    have HT := Lib.hid (ref_told ho.si (fun _ => told0_close HEE.out))
    clear ho
    go_wp2_with fail
    refine HT.out.mono ?_; rintro e w2 ⟨rfl, rfl⟩
    go_wp2
    go_ret
    exact ⟨by rw [HEE.out]; rfl, b1⟩
  · clear s0 he
    go_enter Tryz.func46, Tryz.ntmps46
    go_wp2_with fail
    refine HC0.out.mono ?_; rintro e w' ⟨rfl, rfl⟩
    go_wp2_with fail
    refine (ref_fault (by omega)).mono ?_; rintro e w2 ⟨rfl, rfl⟩
    go_wp2
    go_ret
    exact ⟨by rw [HEE.out, fitOut_err h0]; rfl, Below.refl _ _⟩
set_option maxRecDepth 100000 in
set_option maxHeartbeats 3200000 in
theorem reckon_bound {w : World} {b n0 d0 cl d : Nat} {p0 q : Option Addr} {xs : List Int} {r l : Int} (c0 : w.cell? ⟨b, 0, none⟩ = some (.slice p0 n0 d0)) (s0 : SI w p0 n0 d0 xs) (g : SI w q 2 d [r, l]) :
    Calls Tryz.prog 46 #[.string ⟨#[98, 111, 117, 110, 100]⟩, .slice (some ⟨b, 0, none⟩) 1 cl, .slice q 2 d] w (TextPost w (textOf (oneOut (boundVE xs r l)))) := by
  obtain ⟨er, he⟩ : ∃ er, curveErr xs = er := ⟨_, rfl⟩
  have HC0 := Lib.hid (ref_Curve s0 he)
  have hcb := curveErr_bd xs
  rw [he] at hcb
  by_cases h0 : er = 0
  · subst h0
    have HC := Lib.hid (more_bound s0 he g)
    clear s0 he g
    go_enter Tryz.func46, Tryz.ntmps46
    go_wp2_with fail
    refine HC0.out.mono ?_; rintro e w' ⟨rfl, rfl⟩
    go_wp2_with fail
    refine HC.out.mono ?_
    rintro e w1 ⟨rfl, b1⟩
    go_wp2
    go_ret
    exact ⟨rfl, b1⟩
  · have HO : Hid (textOf (oneOut (boundVE xs r l)) = errS er) := Lib.hid (by
      have : boundErr xs r l = er := by unfold boundErr; rw [if_pos (by rw [he]; exact h0)]; exact he
      unfold boundVE; rw [this, if_pos h0]; unfold oneOut; rw [if_neg h0]; rfl)
    clear s0 he g
    go_enter Tryz.func46, Tryz.ntmps46
    go_wp2_with fail
    refine HC0.out.mono ?_; rintro e w' ⟨rfl, rfl⟩
    go_wp2_with fail
    refine (ref_fault (by omega)).mono ?_; rintro e w2 ⟨rfl, rfl⟩
    go_wp2
    go_ret
    exact ⟨by rw [HO.out]; rfl, Below.refl _ _⟩
set_option maxRecDepth 100000 in
set_option maxHeartbeats 3200000 in
theorem reckon_rate {w : World} {b n0 d0 cl d : Nat} {p0 q : Option Addr} {xs : List Int} {l t : Int} (c0 : w.cell? ⟨b, 0, none⟩ = some (.slice p0 n0 d0)) (s0 : SI w p0 n0 d0 xs) (g : SI w q 2 d [l, t]) (hl0 : 0 ≤ l ∧ l < 1000000000) (ht0 : 0 ≤ t ∧ t < 1000000000) :
    Calls Tryz.prog 46 #[.string ⟨#[114, 97, 116, 101]⟩, .slice (some ⟨b, 0, none⟩) 1 cl, .slice q 2 d] w (TextPost w (textOf (oneOut (rateVE xs l t)))) := by
  obtain ⟨er, he⟩ : ∃ er, curveErr xs = er := ⟨_, rfl⟩
  have HC0 := Lib.hid (ref_Curve s0 he)
  have hcb := curveErr_bd xs
  rw [he] at hcb
  by_cases h0 : er = 0
  · subst h0
    have HC := Lib.hid (more_rate s0 he g hl0 ht0)
    clear s0 he g
    go_enter Tryz.func46, Tryz.ntmps46
    go_wp2_with fail
    refine HC0.out.mono ?_; rintro e w' ⟨rfl, rfl⟩
    go_wp2_with fail
    refine HC.out.mono ?_
    rintro e w1 ⟨rfl, b1⟩
    go_wp2
    go_ret
    exact ⟨rfl, b1⟩
  · have HO : Hid (textOf (oneOut (rateVE xs l t)) = errS er) := Lib.hid (by
      have : planErr xs t = er := by unfold planErr; rw [if_pos (by rw [he]; exact h0)]; exact he
      unfold rateVE; rw [this, if_pos h0]; unfold oneOut; rw [if_neg h0]; rfl)
    clear s0 he g
    go_enter Tryz.func46, Tryz.ntmps46
    go_wp2_with fail
    refine HC0.out.mono ?_; rintro e w' ⟨rfl, rfl⟩
    go_wp2_with fail
    refine (ref_fault (by omega)).mono ?_; rintro e w2 ⟨rfl, rfl⟩
    go_wp2
    go_ret
    exact ⟨by rw [HO.out]; rfl, Below.refl _ _⟩
theorem bucket_bad {h r m : Int} (hb : h < 0 ∨ 60 < h ∨ r < 0 ∨ 10000 < r ∨ m < 0 ∨ 1000000 < m) : textOf (fitOut (shErr h r (m < 0 ∨ 1000000 < m)) (tab (h.toNat + 1) (bucketV r m))) = errS 1 := by
  rw [shErr_one hb, fitOut_err (by omega)]
  rfl
set_option maxRecDepth 100000 in
set_option maxHeartbeats 3200000 in
theorem reckon_bucket {w : World} {d : Nat} {q : Option Addr} {M : Value} {h r m : Int} (g : SI w q 3 d [h, r, m]) :
    Calls Tryz.prog 46 #[.string ⟨#[98, 117, 99, 107, 101, 116]⟩, M, .slice q 3 d] w (TextPost w (textOf (fitOut (shErr h r (m < 0 ∨ 1000000 < m)) (tab (h.toNat + 1) (bucketV r m))))) := by
  obtain ⟨b, o, rfl, hlt, c0, c1, c2⟩ := SI.three g
  have HW := fun (x a b : Int) (r : Bool) (h : decide (a ≤ x ∧ x ≤ b) = r) (w : World) => ref_withinI (w := w) h
  have HWH := Lib.hid HW
  clear HW
  by_cases k0 : 0 ≤ h ∧ h ≤ 60
  case neg =>
    have HO := Lib.hid (bucket_bad (h := h) (r := r) (m := m) (by omega))
    have HW0 := Lib.hid (HWH.out h 0 60 false (decide_eq_false k0))
    clear HWH k0 g
    go_enter Tryz.func46, Tryz.ntmps46
    go_wp2_with fail
    refine (HW0.out _).mono ?_; rintro e w' ⟨rfl, rfl⟩
    go_wp2_with fail
    refine (ref_fault (by omega)).mono ?_; rintro e w' ⟨rfl, rfl⟩
    go_wp2
    go_ret
    exact ⟨by rw [HO.out]; rfl, Below.refl _ _⟩
  have HW0 := Lib.hid (HWH.out h 0 60 true (decide_eq_true k0))
  by_cases k1 : 0 ≤ r ∧ r ≤ 10000
  case neg =>
    have HO := Lib.hid (bucket_bad (h := h) (r := r) (m := m) (by omega))
    have HW1 := Lib.hid (HWH.out r 0 10000 false (decide_eq_false k1))
    clear HWH k0 k1 g
    go_enter Tryz.func46, Tryz.ntmps46
    go_wp2_with fail
    refine (HW0.out _).mono ?_; rintro e w' ⟨rfl, rfl⟩
    go_wp2_with fail
    refine (HW1.out _).mono ?_; rintro e w' ⟨rfl, rfl⟩
    go_wp2_with fail
    refine (ref_fault (by omega)).mono ?_; rintro e w' ⟨rfl, rfl⟩
    go_wp2
    go_ret
    exact ⟨by rw [HO.out]; rfl, Below.refl _ _⟩
  have HW1 := Lib.hid (HWH.out r 0 10000 true (decide_eq_true k1))
  by_cases k2 : 0 ≤ m ∧ m ≤ 1000000
  case neg =>
    have HO := Lib.hid (bucket_bad (h := h) (r := r) (m := m) (by omega))
    have HW2 := Lib.hid (HWH.out m 0 1000000 false (decide_eq_false k2))
    clear HWH k0 k1 k2 g
    go_enter Tryz.func46, Tryz.ntmps46
    go_wp2_with fail
    refine (HW0.out _).mono ?_; rintro e w' ⟨rfl, rfl⟩
    go_wp2_with fail
    refine (HW1.out _).mono ?_; rintro e w' ⟨rfl, rfl⟩
    go_wp2_with fail
    refine (HW2.out _).mono ?_; rintro e w' ⟨rfl, rfl⟩
    go_wp2_with fail
    refine (ref_fault (by omega)).mono ?_; rintro e w' ⟨rfl, rfl⟩
    go_wp2
    go_ret
    exact ⟨by rw [HO.out]; rfl, Below.refl _ _⟩
  have HW2 := Lib.hid (HWH.out m 0 1000000 true (decide_eq_true k2))
  clear HWH
  have HE : Hid (shErr h r (m < 0 ∨ 1000000 < m) = 0) := Lib.hid (by unfold shErr; rw [if_neg (by omega)])
  obtain ⟨n, rfl⟩ := Int.eq_ofNat_of_zero_le k0.1
  have hn60 : n ≤ 60 := by omega
  have hr := k1; have hm := k2
  clear g k0 k1 k2
  have hz0 : OwnI (w.alloc (.cells #[.int .i64 0] 3)) w.heap.size (some ⟨w.heap.size, 0, none⟩) 1 1 (tab 1 (bucketV r m)) := OwnI.lit1 w (Nat.le_refl _) 0
  have HZ0 := Lib.hid hz0
  have HB0 := Lib.hid ((Below.refl w.heap.size w).alloc (Nat.le_refl _) (.cells #[.int .i64 0] 3))
  clear hz0
  go_enter Tryz.func46, Tryz.ntmps46
  go_wp2_with fail
  refine (HW0.out _).mono ?_; rintro e w' ⟨rfl, rfl⟩
  go_wp2_with fail
  refine (HW1.out _).mono ?_; rintro e w' ⟨rfl, rfl⟩
  go_wp2_with fail
  refine (HW2.out _).mono ?_; rintro e w' ⟨rfl, rfl⟩
  go_wp2
  go_loopw [7, 8] (fun v i wr => ∃ (k : Nat) (p' : Option Addr) (c' : Nat), k ≤ n ∧ i = .int .i64 ((k : Int) + 1) ∧ v = .slice p' (k + 1) c' ∧ OwnI wr w.heap.size p' (k + 1) c' (tab (k + 1) (bucketV r m)) ∧ Below w.heap.size w wr) (fun _ i _ => n + 1 - (intOf i).toNat)
  case atStart => exact ⟨0, _, _, Nat.zero_le _, rfl, rfl, HZ0.out, HB0.out⟩
  case round =>
    obtain ⟨k, p', c', hk, rfl, rfl, ho, hb⟩ := hrel
    have hsz := hb.size
    have d0 := (bdeep hb hlt o).trans c0
    have d1 := (bdeep hb hlt (o + 1)).trans c1
    have d2 := (bdeep hb hlt (o + 2)).trans c2
    clear c0 c1 c2
    by_cases hkn : k < n
    · have q1 : (k : Int) + 1 ≤ (n : Int) := by omega
      have hbd := rt_bd (r := r) (t := (k : Int) + 1) hr.1 hr.2 (by omega) (by omega)
      have q2 : IntKind.i64.wrap (r * ((k : Int) + 1)) = r * ((k : Int) + 1) := IntWalk.i64_in _ (by omega)
      have q3 : IntKind.i64.wrap (m + r * ((k : Int) + 1)) = m + r * ((k : Int) + 1) := IntWalk.i64_in _ (by omega)
      have HV : Hid (tab (k + 2) (bucketV r m) = tab (k + 1) (bucketV r m) ++ [m + r * ((k : Int) + 1)]) := Lib.hid (by
        rw [tab_succ]
        unfold bucketV
        rw [if_neg (by omega)]
        rfl)
      clear hbd
      go_wp2
      go_region_law (refine step_push_int Tryz.tyInts rfl rfl (B := w.heap.size) (W0 := w) rfl rfl (by exact ho.1.alloc _) (by exact (hb.alloc hsz _).drew) (by exact blk_new _ _ _) (by omega) (by simp; exact Nat.le_succ_of_le hsz) ?_; intro p2 c2 w2 ho2 hb2)
      all_goals
        clear q1 q2 q3
        go_wp2
        go_roundw
        case rel => exact ⟨k + 1, _, _, hkn, by go_num, rfl, by rw [HV.out]; exact ho2, hb2⟩
        case measure => simp [intOf]; omega
    · obtain rfl : n = k := by omega
      have q1 : ¬ (n : Int) + 1 ≤ (n : Int) := by omega
      have HT := Lib.hid (ref_told ho.si (fun _ => told0_bucket HE.out))
      clear ho
      go_wp2_with fail
      refine HT.out.mono ?_; rintro e w2 ⟨rfl, rfl⟩
      go_wp2
      go_ret
      exact ⟨by rw [HE.out]; rfl, hb⟩
theorem okS_zero : okS [0] = [111, 107, 32, 48] := by
  unfold okS
  rw [List.map_cons, List.map_nil, Lib.join_one]
  unfold Lib.itoa
  rw [if_neg (by omega)]
  show _ ++ Lib.decDigits 0 = _
  rw [Lib.decDigits_one (by omega)]
  rfl
theorem window_bad {n k t : Int} (hb : n < 0 ∨ 200 < n ∨ k < 1 ∨ 200 < k ∨ t < 1 ∨ 200 < t) : textOf (oneOut (windowVE n k t)) = errS 1 := by
  have : ¬ okWin n k t := by unfold okWin; omega
  unfold windowVE
  rw [if_neg this]
  rfl
set_option maxRecDepth 100000 in
set_option maxHeartbeats 3200000 in
theorem reckon_window {w : World} {d : Nat} {q : Option Addr} {M : Value} {n k t : Int} (g : SI w q 3 d [n, k, t]) :
    Calls Tryz.prog 46 #[.string ⟨#[119, 105, 110, 100, 111, 119]⟩, M, .slice q 3 d] w (TextPost w (textOf (oneOut (windowVE n k t)))) := by
  obtain ⟨b, o, rfl, hlt, c0, c1, c2⟩ := SI.three g
  have HW := fun (x a b : Int) (r : Bool) (h : decide (a ≤ x ∧ x ≤ b) = r) (w : World) => ref_withinI (w := w) h
  have HWH := Lib.hid HW
  clear HW
  by_cases k0 : 0 ≤ n ∧ n ≤ 200
  case neg =>
    have HO := Lib.hid (window_bad (n := n) (k := k) (t := t) (by omega))
    have HW0 := Lib.hid (HWH.out n 0 200 false (decide_eq_false k0))
    clear HWH k0 g
    go_enter Tryz.func46, Tryz.ntmps46
    go_wp2_with fail
    refine (HW0.out _).mono ?_; rintro e w' ⟨rfl, rfl⟩
    go_wp2_with fail
    refine (ref_fault (by omega)).mono ?_; rintro e w' ⟨rfl, rfl⟩
    go_wp2
    go_ret
    exact ⟨by rw [HO.out]; rfl, Below.refl _ _⟩
  have HW0 := Lib.hid (HWH.out n 0 200 true (decide_eq_true k0))
  by_cases k1 : 1 ≤ k ∧ k ≤ 200
  case neg =>
    have HO := Lib.hid (window_bad (n := n) (k := k) (t := t) (by omega))
    have HW1 := Lib.hid (HWH.out k 1 200 false (decide_eq_false k1))
    clear HWH k0 k1 g
    go_enter Tryz.func46, Tryz.ntmps46
    go_wp2_with fail
    refine (HW0.out _).mono ?_; rintro e w' ⟨rfl, rfl⟩
    go_wp2_with fail
    refine (HW1.out _).mono ?_; rintro e w' ⟨rfl, rfl⟩
    go_wp2_with fail
    refine (ref_fault (by omega)).mono ?_; rintro e w' ⟨rfl, rfl⟩
    go_wp2
    go_ret
    exact ⟨by rw [HO.out]; rfl, Below.refl _ _⟩
  have HW1 := Lib.hid (HWH.out k 1 200 true (decide_eq_true k1))
  by_cases k2 : 1 ≤ t ∧ t ≤ 200
  case neg =>
    have HO := Lib.hid (window_bad (n := n) (k := k) (t := t) (by omega))
    have HW2 := Lib.hid (HWH.out t 1 200 false (decide_eq_false k2))
    clear HWH k0 k1 k2 g
    go_enter Tryz.func46, Tryz.ntmps46
    go_wp2_with fail
    refine (HW0.out _).mono ?_; rintro e w' ⟨rfl, rfl⟩
    go_wp2_with fail
    refine (HW1.out _).mono ?_; rintro e w' ⟨rfl, rfl⟩
    go_wp2_with fail
    refine (HW2.out _).mono ?_; rintro e w' ⟨rfl, rfl⟩
    go_wp2_with fail
    refine (ref_fault (by omega)).mono ?_; rintro e w' ⟨rfl, rfl⟩
    go_wp2
    go_ret
    exact ⟨by rw [HO.out]; rfl, Below.refl _ _⟩
  have HW2 := Lib.hid (HWH.out t 1 200 true (decide_eq_true k2))
  clear HWH
  have HE : Hid (windowVE n k t = (doneAt n.toNat k.toNat t.toNat, 0)) := Lib.hid (by unfold windowVE; rw [if_pos (by unfold okWin; omega)])
  obtain ⟨n, rfl⟩ := Int.eq_ofNat_of_zero_le k0.1
  obtain ⟨k, rfl⟩ := Int.eq_ofNat_of_zero_le (show 0 ≤ k by omega)
  obtain ⟨t, rfl⟩ := Int.eq_ofNat_of_zero_le (show 0 ≤ t by omega)
  have hn := k0; have hk := k1; have ht := k2
  clear g k0 k1 k2
  rcases Nat.eq_zero_or_pos n with h0 | h0
  · subst h0
    have HO : Hid (textOf (oneOut (windowVE ((0 : Nat) : Int) (k : Int) (t : Int))) = [111, 107, 32, 48]) := Lib.hid (by rw [HE.out, show doneAt ((0 : Nat) : Int).toNat (k : Int).toNat (t : Int).toNat = 0 by simp [doneAt]]; exact okS_zero)
    go_enter Tryz.func46, Tryz.ntmps46
    go_wp2_with fail
    refine (HW0.out _).mono ?_; rintro e w' ⟨rfl, rfl⟩
    go_wp2_with fail
    refine (HW1.out _).mono ?_; rintro e w' ⟨rfl, rfl⟩
    go_wp2_with fail
    refine (HW2.out _).mono ?_; rintro e w' ⟨rfl, rfl⟩
    go_wp2
    go_ret
    exact ⟨by rw [HO.out]; rfl, Below.refl _ _⟩
  · obtain ⟨j, rfl⟩ : ∃ j, n = j + 1 := ⟨n - 1, by omega⟩
    have HO : Hid (textOf (oneOut (windowVE ((j + 1 : Nat) : Int) (k : Int) (t : Int))) = okS [sentAt k t j + (t : Int)]) := Lib.hid (by rw [HE.out]; unfold doneAt oneOut; simp [textOf])
    have hsb := sentAt_bd (w := k) (t := t) (i := j) (by omega) (by omega)
    have HSE := Lib.hid (fun (W : World) => ref_Sent (W := W) (i := j) (w := k) (t := t) (by omega) (by omega) (by omega) (by omega))
    have HD := Lib.hid (fun w => (dec_any (w := w) (n := sentAt k t j + (t : Int)) (by omega) (by omega)).mono fun e w' ⟨he, hw⟩ => (⟨he, by rw [← hw]; exact Below.refl _ _⟩ : e = _ ∧ Below w.heap.size w w'))
    have hil := itoa_len (n := sentAt k t j + (t : Int)) (by omega) (by omega)
    rw [← str_size] at hil
    have HST : Hid (str (okS [sentAt k t j + (t : Int)]) = ⟨#[111, 107, 32]⟩ ++ str (Lib.itoa (sentAt k t j + (t : Int)))) := Lib.hid (by unfold okS; rw [List.map_cons, List.map_nil, Lib.join_one]; rfl)
    obtain ⟨sv, hsv⟩ : ∃ sv, sentAt k t j = sv := ⟨_, rfl⟩
    rw [hsv] at hsb HSE HD HO hil HST
    have bc0 := BelowOf.cell c0 hlt; have bc1 := BelowOf.cell c1 hlt; have bc2 := BelowOf.cell c2 hlt
    have q1 : ((((j + 1 : Nat) : Int)) == 0) = false := by simp; omega
    have q2 : ¬ (((j + 1 : Nat) : Int)) = 0 := by omega
    have q3 : IntKind.i64.wrap (((j + 1 : Nat) : Int) - 1) = (j : Int) := by rw [show ((j + 1 : Nat) : Int) - 1 = j by omega]; exact IntWalk.i64_in _ (by omega)
    have q5 : IntKind.i64.wrap (j : Int) = (j : Int) := IntWalk.i64_in _ (by omega)
    have q4 : IntKind.i64.wrap (sv + (t : Int)) = sv + (t : Int) := IntWalk.i64_in _ (by omega)
    have g1 : ¬ 9223372036854775807 < 3 + (str (Lib.itoa (sv + (t : Int)))).size := by omega
    clear hsv
    generalize str (Lib.itoa (sv + (t : Int))) = TT at *
    go_enter Tryz.func46, Tryz.ntmps46
    go_wp2_with fail
    refine (HW0.out _).mono ?_; rintro e w' ⟨rfl, rfl⟩
    go_wp2_with fail
    refine (HW1.out _).mono ?_; rintro e w' ⟨rfl, rfl⟩
    go_wp2_with fail
    refine (HW2.out _).mono ?_; rintro e w' ⟨rfl, rfl⟩
    go_wp2
    refine wp_region_quiet_below (by kernel_rfl) (by kernel_rfl) ?_
    repeat (quiet_step (first | (go_at_call 77; exact calls_below (HSE.out _)) | (go_at_call 17; exact calls_below (HD.out _))))
    refine wpQuiet_nil ?_
    intro v hq
    have hcur : Below w.heap.size w v := by obtain ⟨q, hq2⟩ := hq; rw [hq2]; exact q.prop
    clear hq bc0 bc1 bc2
    go_wp2
    go_ret
    exact ⟨by rw [HO.out, HST.out]; rfl, hcur⟩
end Go.Proofs.YtgbccpfehcjhbaaGreatDoor

/- The reference's answers to a line that can be read (P77): world, peers. Conditions: what each theorem says. -/
namespace Go.Proofs.YtgbccpfehcjhbaaGreatDoor
open Go Go.RowKit
set_option linter.unusedVariables false
set_option linter.unusedSimpArgs false

theorem dec_below {w : World} {n : Int} (h0 : 0 ≤ n) (h1 : n ≤ 1000000000000) :
    Calls Tryz.prog 17 #[.int .i64 n] w fun e w' => e = .returned (.string (str (Lib.itoa n))) ∧ Below w.heap.size w w' :=
  (dec_any h0 h1).mono fun e w' ⟨he, hw⟩ => ⟨he, by rw [← hw]; exact Below.refl _ _⟩
theorem ref_put {w w1 : World} {rb g h g' h' : Nat} {s s' : DS} (D : RefAt w rb g h s) (hs : s'.Good) (h8 : 8 ≤ w.heap.size) (b1 : Below w.heap.size w w1) (hw : WorldAt w1 69 w.heap.size g' h' s'.rate s'.unit s'.L.length s'.L s'.turn) :
    RefAt (w1.setCell ⟨rb, 0, none⟩ (.pointer (some ⟨g', 0, none⟩))) rb g' h' s' ∧ Chg (dkS rb g h) w (w1.setCell ⟨rb, 0, none⟩ (.pointer (some ⟨g', 0, none⟩))) ∧ (w.heap.size ≤ g' ∧ w.heap.size ≤ h') := by
  have hrb := (Array.getElem?_eq_some_iff.1 D.box).1
  have hgB := hw.bg
  obtain ⟨_, _, _, _, _, hg1, hh1, hhB, _⟩ := hw.cells
  have hne1 : g' ≠ rb := by omega
  have hne2 : h' ≠ rb := by omega
  have DB := (b1.block _ hrb).trans D.box
  have hw2 : WorldAt w1 69 8 g' h' s'.rate s'.unit s'.L.length s'.L s'.turn := ⟨hw.box, hw.own.base h8, Nat.le_trans h8 hw.bg, hw.ne⟩
  have hc : Chg (fun x => x = rb) w1 (w1.setCell ⟨rb, 0, none⟩ (.pointer (some ⟨g', 0, none⟩))) := (Chg.refl _ w1).set _ (.inr rfl)
  refine ⟨⟨hs, by have h9 := blk_set (j := 0) (v := .pointer (some ⟨g', 0, none⟩)) DB; simpa using h9, ⟨(hc.same g' hg1 hne1).trans hw2.box, ?_, hw2.bg, hw2.ne⟩, D.lo, by omega, by omega⟩, (Chg.of b1).set _ (.inr (.inl rfl)), hgB, hhB⟩
  have ho := hw2.own
  refine ⟨⟨ho.1.1, ?_⟩, ho.2⟩
  rcases ho.1.2 with h5 | ⟨g2, cap, cur, hv, hg2, hh2, rr⟩
  · exact .inl h5
  · refine .inr ⟨g2, cap, cur, hv, hg2, ?_, rr⟩
    simp only [Value.slice.injEq, Option.some.injEq, Addr.mk.injEq, and_true, true_and] at hv
    obtain ⟨rfl, _⟩ := hv
    exact (hc.same h' hh1 hne2).trans hh2
theorem newDS_at {w : World} {T : TypeId} {B g h m : Nat} {r u : Int} (hr : 0 ≤ r) (k : WorldAt w T B g h r u m (tab m fun _ => (0, 0, true)) 0) : WorldAt w T B g h (newDS (m : Int) r u).rate (newDS (m : Int) r u).unit (newDS (m : Int) r u).L.length (newDS (m : Int) r u).L (newDS (m : Int) r u).turn := by
  have hl : (newDS (m : Int) r u).L.length = m := by show (tab _ _).length = _; rw [tab_length]; omega
  rw [hl]
  have e1 : (newDS (m : Int) r u).L = tab m fun _ => (0, 0, true) := by unfold newDS; simp
  rw [e1]
  have hr : (((newDS (m : Int) r u).rate : Nat) : Int) = r := by show ((r.toNat : Nat) : Int) = r; omega
  rw [hr]
  exact k
theorem world_bad {n r u : Int} {s : DS} (h : n < 1 ∨ 8 < n ∨ r < 0 ∨ 1000 < r ∨ u < 1 ∨ 1000 < u) : textOf (worldOut n r u) = errS 1 ∧ worldDS n r u s = s := by
  have : ¬ newOk n r u := by unfold newOk; omega
  unfold worldOut worldDS
  rw [if_neg this, if_neg this]
  exact ⟨rfl, rfl⟩
set_option maxRecDepth 100000 in
set_option maxHeartbeats 3200000 in
theorem done_peers {w : World} {rb g h : Nat} {l n' : Value} {s : DS} (D : RefAt w rb g h s) :
    Calls Tryz.prog 29 #[.pointer (some ⟨rb, 0, none⟩), .string ⟨#[112, 101, 101, 114, 115]⟩, l, n'] w (RefPost w rb g h (peersS s.L) s) := by
  have c3 : w.cell? ⟨rb, 0, none⟩ = some (.pointer (some ⟨g, 0, none⟩)) := blk_cell D.box 0
  have HD := Lib.hid D
  have k2 := D.wat.cells.2.2.1
  have hn8 := D.good.n.2
  have HB := Lib.hid (good_bd D.good.good)
  have HPL := Lib.hid (peersS_len (good_bd D.good.good))
  have HO := Lib.hid D.wat.own
  obtain ⟨L, hL⟩ : ∃ L, s.L = L := ⟨_, rfl⟩
  have HSL := Lib.hid hL
  rw [hL] at hn8 HB HPL HO k2 ⊢
  obtain ⟨n, hn⟩ : ∃ n, L.length = n := ⟨_, rfl⟩
  have HN := Lib.hid hn
  rw [hn] at hn8 HB HPL HO k2
  clear D hL hn
  go_enter Tryz.func29, Tryz.ntmps29
  go_wp2
  go_loopw [11, 99] (fun ov iv wv => ∃ k : Nat, k ≤ n ∧ ov = .string (str (peersS (L.take k))) ∧ iv = .int .i64 (k : Int) ∧ Below w.heap.size w wv) (fun _ iv _ => n - (intOf iv).toNat)
  case atStart => exact ⟨0, Nat.zero_le _, rfl, rfl, Below.refl _ _⟩
  case round =>
    obtain ⟨k, hk, rfl, rfl, hb⟩ := hrel
    have hz := hb.size
    by_cases hkn : k < n
    · have ho := HO.out.below hb
      have hgb := ho.blk
      have e0 := ho.at encP_len hkn (i := 0) (by omega)
      have e1 := ho.at encP_len hkn (i := 1) (by omega)
      have e2 := ho.at encP_len hkn (i := 2) (by omega)
      change wr.cell? ⟨h, k * 3, none⟩ = some (.int .i64 (pl L k)) at e0
      change wr.cell? ⟨h, k * 3 + 1, none⟩ = some (.int .i64 (pp L k)) at e1
      change wr.cell? ⟨h, k * 3 + 2, none⟩ = some (.bool (pd L k)) at e2
      have hbd := HB.out k hkn
      have HNX := Lib.hid (peersS_next (L := L) (k := k) (by rw [HN.out]; exact hkn))
      have hol := HPL.out k (by omega)
      rw [← str_size] at hol
      obtain ⟨a, ha⟩ : ∃ a, pl L k = a := ⟨_, rfl⟩
      obtain ⟨b, hbb⟩ : ∃ b, pp L k = b := ⟨_, rfl⟩
      obtain ⟨f, hf⟩ : ∃ f, pd L k = f := ⟨_, rfl⟩
      rw [ha] at e0 hbd HNX; rw [hbb] at e1 hbd HNX; rw [hf] at e2
      clear ha hbb hf ho
      have hal := itoa_len (n := a) (by omega) (by omega)
      have hbl := itoa_len (n := b) (by omega) (by omega)
      rw [← str_size] at hal hbl
      have hnew := (Below.refl wr.heap.size wr).alloc (Nat.le_refl _) (.cells #[.int .i64 a, .int .i64 b, .bool f] 67)
      have T1 := Lib.hid (blk_new wr #[.int .i64 a, .int .i64 b, .bool f] 67)
      have HBN := Lib.hid (hb.trans (hnew.mono hz))
      clear hnew hb
      go_wp2
      obtain ⟨tb, htb⟩ : ∃ tb, wr.heap.size = tb := ⟨_, rfl⟩
      rw [htb] at T1 ⊢
      generalize wr.alloc (.cells #[.int .i64 a, .int .i64 b, .bool f] 67) = W at *
      have htl : tb < W.heap.size := (Array.getElem?_eq_some_iff.1 T1.out).1
      have t0' : W.cell? ⟨tb, 0, none⟩ = some (.int .i64 a) := blk_cell T1.out 0
      have t1' : W.cell? ⟨tb, 1, none⟩ = some (.int .i64 b) := blk_cell T1.out 1
      have bc0 := BelowOf.cell t0' htl; have bc1 := BelowOf.cell t1' htl
      clear e0 e1 e2
      have s1 : ¬ 9223372036854775807 < 1 + (str (Lib.itoa a)).size := by omega
      have s2 : ¬ 9223372036854775807 < 1 + (str (Lib.itoa a)).size + 1 := by omega
      have s3 : ¬ 9223372036854775807 < 1 + (str (Lib.itoa a)).size + 1 + (str (Lib.itoa b)).size := by omega
      have s4 : ¬ 9223372036854775807 < (str (peersS (L.take k))).size + (1 + (str (Lib.itoa a)).size + 1 + (str (Lib.itoa b)).size) := by omega
      refine wp_region_quiet_below (by kernel_rfl) (by kernel_rfl) ?_
      repeat (quiet_step (exact calls_below (dec_below (by omega) (by omega))))
      refine wpQuiet_nil ?_
      intro v hq
      have hcur : Below W.heap.size W v := by obtain ⟨q, hq2⟩ := hq; rw [hq2]; exact q.prop
      have hbv := HBN.out.trans (hcur.mono (by have := HBN.out.size; omega))
      clear hq bc0 bc1 t0' t1' hcur
      go_wp2
      go_roundw
      case rel => exact ⟨k + 1, hkn, by rw [HNX.out]; rfl, by go_num, hbv⟩
      case measure => simp [intOf]; omega
    · obtain rfl : n = k := by omega
      have HE : Hid (L.take n = L) := Lib.hid (by rw [← HN.out, List.take_length])
      go_wp2
      go_ret
      refine RefPost.pure HD.out ⟨?_, hb⟩
      rw [HE.out]; rfl
set_option maxRecDepth 100000 in
set_option maxHeartbeats 3200000 in
theorem done_world {w : World} {rb g h d : Nat} {q : Option Addr} {l : Value} {n r u : Int} {s : DS} (D : RefAt w rb g h s) (h8 : 8 ≤ w.heap.size) (gn : SI w q 3 d [n, r, u]) :
    Calls Tryz.prog 29 #[.pointer (some ⟨rb, 0, none⟩), .string ⟨#[119, 111, 114, 108, 100]⟩, l, .slice q 3 d] w (RefPost w rb g h (textOf (worldOut n r u)) (worldDS n r u s)) := by
  have c3 : w.cell? ⟨rb, 0, none⟩ = some (.pointer (some ⟨g, 0, none⟩)) := blk_cell D.box 0
  have fr : w.frozen? ⟨rb, 0, none⟩ = false := blk_free D.box 0
  have HD := Lib.hid D
  obtain ⟨b, o, rfl, hlt, c0, c1, c2⟩ := SI.three gn
  have HW := fun (x a b : Int) (r : Bool) (h : decide (a ≤ x ∧ x ≤ b) = r) (w : World) => ref_withinI (w := w) h
  have HWH := Lib.hid HW
  clear HW
  by_cases k0 : 1 ≤ n ∧ n ≤ 8
  case neg =>
    have HO := Lib.hid (world_bad (n := n) (r := r) (u := u) (s := s) (by omega))
    have HW0 := Lib.hid (HWH.out n 1 8 false (decide_eq_false k0))
    clear HWH k0 gn D
    go_enter Tryz.func29, Tryz.ntmps29
    go_wp2_with fail
    refine (HW0.out _).mono ?_; rintro e w' ⟨rfl, rfl⟩
    go_wp2_with fail
    refine (ref_fault (by omega)).mono ?_; rintro e w' ⟨rfl, rfl⟩
    go_wp2
    go_ret
    rw [HO.out.2]
    exact RefPost.pure HD.out ⟨by rw [HO.out.1]; rfl, Below.refl _ _⟩
  have HW0 := Lib.hid (HWH.out n 1 8 true (decide_eq_true k0))
  by_cases k1 : 0 ≤ r ∧ r ≤ 1000
  case neg =>
    have HO := Lib.hid (world_bad (n := n) (r := r) (u := u) (s := s) (by omega))
    have HW1 := Lib.hid (HWH.out r 0 1000 false (decide_eq_false k1))
    clear HWH k0 k1 gn D
    go_enter Tryz.func29, Tryz.ntmps29
    go_wp2_with fail
    refine (HW0.out _).mono ?_; rintro e w' ⟨rfl, rfl⟩
    go_wp2_with fail
    refine (HW1.out _).mono ?_; rintro e w' ⟨rfl, rfl⟩
    go_wp2_with fail
    refine (ref_fault (by omega)).mono ?_; rintro e w' ⟨rfl, rfl⟩
    go_wp2
    go_ret
    rw [HO.out.2]
    exact RefPost.pure HD.out ⟨by rw [HO.out.1]; rfl, Below.refl _ _⟩
  have HW1 := Lib.hid (HWH.out r 0 1000 true (decide_eq_true k1))
  by_cases k2 : 1 ≤ u ∧ u ≤ 1000
  case neg =>
    have HO := Lib.hid (world_bad (n := n) (r := r) (u := u) (s := s) (by omega))
    have HW2 := Lib.hid (HWH.out u 1 1000 false (decide_eq_false k2))
    clear HWH k0 k1 k2 gn D
    go_enter Tryz.func29, Tryz.ntmps29
    go_wp2_with fail
    refine (HW0.out _).mono ?_; rintro e w' ⟨rfl, rfl⟩
    go_wp2_with fail
    refine (HW1.out _).mono ?_; rintro e w' ⟨rfl, rfl⟩
    go_wp2_with fail
    refine (HW2.out _).mono ?_; rintro e w' ⟨rfl, rfl⟩
    go_wp2_with fail
    refine (ref_fault (by omega)).mono ?_; rintro e w' ⟨rfl, rfl⟩
    go_wp2
    go_ret
    rw [HO.out.2]
    exact RefPost.pure HD.out ⟨by rw [HO.out.1]; rfl, Below.refl _ _⟩
  have HW2 := Lib.hid (HWH.out u 1 1000 true (decide_eq_true k2))
  clear HWH
  have hk : newOk n r u := ⟨k0.1, k0.2, k1.1, k1.2, k2.1, k2.2⟩
  have HO : Hid (textOf (worldOut n r u) = [111, 107]) := Lib.hid (by unfold worldOut; rw [if_pos hk]; rfl)
  have HS : Hid (worldDS n r u s = newDS n r u) := Lib.hid (by unfold worldDS; rw [if_pos hk])
  have HG := Lib.hid (newDS_good hk)
  obtain ⟨m, rfl⟩ := Int.eq_ofNat_of_zero_le (show 0 ≤ n by omega)
  have HN := Lib.hid (fun w => ref_NewWorld (w := w) (n := m) (rate := r) (unit := u) (by omega) (by omega))
  have hrb := (Array.getElem?_eq_some_iff.1 D.box).1
  have hr0 := k1.1
  clear k0 k1 k2 gn D hk
  go_enter Tryz.func29, Tryz.ntmps29
  go_wp2_with fail
  refine (HW0.out _).mono ?_; rintro e w' ⟨rfl, rfl⟩
  go_wp2_with fail
  refine (HW1.out _).mono ?_; rintro e w' ⟨rfl, rfl⟩
  go_wp2_with fail
  refine (HW2.out _).mono ?_; rintro e w' ⟨rfl, rfl⟩
  go_wp2
  go_region_law (go_simp; go_at_call 7; refine (HN.out _).mono ?_; rintro e w1 ⟨g', h', rfl, hw1, b1⟩; have DB := Lib.hid ((b1.block _ hrb).trans HD.out.box); have d2 : w1.cell? ⟨rb, 0, none⟩ = some (.pointer (some ⟨g, 0, none⟩)) := blk_cell DB.out 0; have f2 : w1.frozen? ⟨rb, 0, none⟩ = false := blk_free DB.out 0; have HW := Lib.hid hw1; have HB1 := Lib.hid b1; clear hw1 b1)
  all_goals
    have HP := Lib.hid (ref_put HD.out HG.out h8 (w1 := w1) (g' := g') (h' := h') ⟨HB1.out.os, HB1.out.tape, HB1.out.output, HB1.out.size, HB1.out.block⟩ (newDS_at hr0 HW.out))
    clear d2 f2
    go_wp2
    go_ret
    exact ⟨by rw [HO.out]; rfl, g', h', by rw [HS.out]; exact HP.out.1, HP.out.2.1, .inr HP.out.2.2⟩
end Go.Proofs.YtgbccpfehcjhbaaGreatDoor
