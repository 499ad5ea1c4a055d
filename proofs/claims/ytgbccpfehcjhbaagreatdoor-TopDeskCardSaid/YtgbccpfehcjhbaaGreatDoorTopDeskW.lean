/- The walk of headtop.TopDesk: it returns true and changes nothing that was there. Conditions: the library's variables are laid. -/
import Derived.Test.YtgbccpfehcjhbaaGreatDoorDkAsk2
import Derived.Test.YtgbccpfehcjhbaaGreatDoorTopWorldC
namespace Go.Proofs.YtgbccpfehcjhbaaGreatDoor
open Go Go.RowKit
set_option linter.unusedVariables false
set_option linter.unusedSimpArgs false

theorem ask_script {f g : List Int} {n : Int} {A B D : ByteArray} (hA : str (numsS f) = A) (hB : str (numsS g) = B) (hD : str (Lib.itoa n) = D) :
    (⟨#[99, 111, 110, 118, 32]⟩ ++ A ++ ⟨#[32]⟩ ++ B ++ ⟨#[10, 100, 101, 99, 111, 110, 118, 32]⟩ ++ A ++ ⟨#[32]⟩ ++ B ++ ⟨#[10, 98, 97, 99, 107, 32]⟩ ++ A ++ ⟨#[32]⟩ ++ B ++ ⟨#[10, 97, 112, 112, 101, 110, 100, 32]⟩ ++ D ++ ⟨#[10, 116, 105, 99, 107, 10, 112, 101, 101, 114, 115, 10]⟩ : ByteArray) = str (scriptOf (askL f g n)) := by
  rw [← hA, ← hB, ← hD]
  show str [99, 111, 110, 118, 32] ++ str (numsS f) ++ str [32] ++ str (numsS g) ++ str [10, 100, 101, 99, 111, 110, 118, 32] ++ str (numsS f) ++ str [32] ++ str (numsS g) ++ str [10, 98, 97, 99, 107, 32] ++ str (numsS f) ++ str [32] ++ str (numsS g) ++ str [10, 97, 112, 112, 101, 110, 100, 32] ++ str (Lib.itoa n) ++ str [10, 116, 105, 99, 107, 10, 112, 101, 101, 114, 115, 10] = _
  simp only [str_append]
  refine congrArg str ?_
  unfold scriptOf askL
  simp [Lib.join_cons, Lib.joinTail, askW]
theorem say_script {f g : List Int} {n : Int} {X Y K T P : ByteArray} (hX : str (numsS (convL f g)) = X) (hY : str (numsS (dcvL f g)) = Y) (hK : str (Lib.itoa (backV f g)) = K) (hT : str (sayTick n) = T) (hP : str (sayPeers n) = P) :
    (⟨#[111, 107, 32]⟩ ++ X ++ ⟨#[10, 111, 107, 32]⟩ ++ Y ++ ⟨#[10, 111, 107, 32]⟩ ++ K ++ ⟨#[10, 111, 107, 10]⟩ ++ T ++ P : ByteArray) = str (sayAll f g n) := by
  rw [← hX, ← hY, ← hK, ← hT, ← hP]
  show str [111, 107, 32] ++ str (numsS (convL f g)) ++ str [10, 111, 107, 32] ++ str (numsS (dcvL f g)) ++ str [10, 111, 107, 32] ++ str (Lib.itoa (backV f g)) ++ str [10, 111, 107, 10] ++ str (sayTick n) ++ str (sayPeers n) = _
  simp only [str_append]
  rfl

set_option maxRecDepth 100000 in
set_option maxHeartbeats 6400000 in
theorem topDesk_walk {w : World} (LD : Laid w) {p1 p2 : Option Addr} {n1 n2 c1 c2 : Nat} {f g : List Int} {v : Int} (hf0 : SI w p1 n1 c1 f) (hg0 : SI w p2 n2 c2 g) :
    Calls Tryz.prog 4 #[.slice p1 n1 c1, .slice p2 n2 c2, .int .i64 v] w fun e w' => e = .returned (.bool true) ∧ Below w.heap.size w w' := by
  obtain ⟨ef, hef⟩ : ∃ ef, curveErr f = ef := ⟨_, rfl⟩
  obtain ⟨eg, heg⟩ : ∃ eg, curveErr g = eg := ⟨_, rfl⟩
  have HEF := Lib.hid hef; have HEG := Lib.hid heg
  have hn1 := Lib.hid hf0.1; have hn2 := Lib.hid hg0.1
  have m1 := hf0.2.1; have m2 := hg0.2.1
  have HLD := Lib.hid LD
  clear hef heg LD
  by_cases z0 : ¬ ef = 0
  · have hz := bne_false_of z0
    go_enter Tryz.func4, Tryz.ntmps4
    go_wp2_with fail
    refine (top_begun).mono ?_; rintro e v1 ⟨rfl, b1⟩
    have hf1 := hf0.below b1
    go_wp2_with fail
    refine (curve_Check hf1 HEF.out).mono ?_; rintro e w' ⟨rfl, rfl⟩
    go_wp2_with fail
    refine (top_begun).mono ?_; rintro e v2 ⟨rfl, b2⟩
    have hb2 := b1.trans (b2.mono b1.size)
    go_wp2_with fail
    go_ret
    exact ⟨rfl, hb2⟩
  obtain rfl : ef = 0 := Classical.not_not.1 z0
  clear z0
  by_cases z0 : ¬ eg = 0
  · have hz := bne_false_of z0
    go_enter Tryz.func4, Tryz.ntmps4
    go_wp2_with fail
    refine (top_begun).mono ?_; rintro e v1 ⟨rfl, b1⟩
    have hf1 := hf0.below b1
    have hg1 := hg0.below b1
    go_wp2_with fail
    refine (curve_Check hf1 HEF.out).mono ?_; rintro e w' ⟨rfl, rfl⟩
    go_wp2_with fail
    refine (curve_Check hg1 HEG.out).mono ?_; rintro e w' ⟨rfl, rfl⟩
    go_wp2_with fail
    refine (top_begun).mono ?_; rintro e v2 ⟨rfl, b2⟩
    have hb2 := b1.trans (b2.mono b1.size)
    go_wp2_with fail
    go_ret
    exact ⟨rfl, hb2⟩
  obtain rfl : eg = 0 := Classical.not_not.1 z0
  clear z0
  by_cases z0 : ¬ n1 = n2
  · have z1 : ¬ (n1 : Int) = n2 := by omega
    have hz : ((n1 : Int) != n2) = true := by simpa using z1
    have hz2 : ((n1 : Int) == n2) = false := by simpa using z1
    go_enter Tryz.func4, Tryz.ntmps4
    go_wp2_with fail
    refine (top_begun).mono ?_; rintro e v1 ⟨rfl, b1⟩
    have hf1 := hf0.below b1
    have hg1 := hg0.below b1
    go_wp2_with fail
    refine (curve_Check hf1 HEF.out).mono ?_; rintro e w' ⟨rfl, rfl⟩
    go_wp2_with fail
    refine (curve_Check hg1 HEG.out).mono ?_; rintro e w' ⟨rfl, rfl⟩
    go_wp2_with fail
    refine (top_begun).mono ?_; rintro e v2 ⟨rfl, b2⟩
    have hb2 := b1.trans (b2.mono b1.size)
    go_wp2_with fail
    go_ret
    exact ⟨rfl, hb2⟩
  obtain rfl : n1 = n2 := Classical.not_not.1 z0
  clear z0
  have cf := curve_of HEF.out hn1.out
  have cg := curve_of HEG.out hn2.out
  have he : bothErr f g = 0 := by unfold bothErr; rw [HEF.out, HEG.out, hn1.out, hn2.out]; simp
  have CF := Lib.hid cf; have CG := Lib.hid cg; have HE := Lib.hid he
  have hle := cf.le
  have z1 := curve_small cf; have z2 := curve_small cg
  rw [← str_size] at z1 z2
  have HKB := Lib.hid (back_bd he)
  have HDC := Lib.hid (dcv_curve (curve_of HEF.out rfl) (curve_of HEG.out (by rw [hn1.out, hn2.out])))
  have HCC := Lib.hid (fun hf => chain_curve (curve_of HEF.out rfl) (curve_of HEG.out (by rw [hn1.out, hn2.out])) hf)
  clear cf cg he
  go_enter Tryz.func4, Tryz.ntmps4
  go_wp2_with fail
  refine (top_begun).mono ?_; rintro e v1 ⟨rfl, b1⟩
  have hf1 := hf0.below b1
  have hg1 := hg0.below b1
  have L1 := Lib.hid (HLD.out.below b1)
  have B1 := b1
  clear hf0 hg0 b1
  go_wp2_with fail
  refine (curve_Check hf1 HEF.out).mono ?_; rintro e w' ⟨rfl, rfl⟩
  go_wp2_with fail
  refine (curve_Check hg1 HEG.out).mono ?_; rintro e w' ⟨rfl, rfl⟩
  go_wp2_with fail
  refine (ref_Numbers hf1 (by omega) (fun x hx => by have := curve_mem CF.out x hx; omega)).mono ?_; rintro e w' ⟨rfl, rfl⟩
  go_wp2_with fail
  refine (ref_Numbers hg1 (by omega) (fun x hx => by have := curve_mem CG.out x hx; omega)).mono ?_; rintro e w' ⟨rfl, rfl⟩
  go_wp2_with fail
  refine (keep_Within (m := 100) (by omega) rfl).mono ?_; rintro e w' ⟨⟨n, hn0, hn1', rfl⟩, rfl⟩
  go_wp2_with fail
  refine (conv_Of hf1 hg1 HE.out).mono ?_; rintro e v2 ⟨pX, nX, cX, X, e1, rfl, oX, b2, hFX⟩
  have hf2 := hf1.below b2
  have hg2 := hg1.below b2
  have sX2 := oX.si
  have L2 := Lib.hid (L1.out.below b2)
  have B2 := B1.trans (b2.mono B1.size)
  have HFX := Lib.hid hFX
  clear oX b2 hf1 hg1 hFX B1
  go_wp2_with fail
  refine (deconv_Of_ok hf2 hg2 CF.out CG.out HE.out).mono ?_; rintro e v3 ⟨pY, nY, cY, Y, e2, rfl, oY, b3, rfl, hY⟩
  have hf3 := hf2.below b3
  have hg3 := hg2.below b3
  have sX3 := sX2.below b3
  have sY3 := oY.si
  have L3 := Lib.hid (L2.out.below b3)
  have B3 := B2.trans (b3.mono B2.size)
  have HY := Lib.hid hY
  clear oY b3 hf2 hg2 sX2 hY B2
  go_wp2_with fail
  refine (bound_Back_ok hf3 hg3 CF.out CG.out HE.out).mono ?_; rintro e v4 ⟨rfl, b4⟩
  have sX4 := Lib.hid (sX3.below b4)
  have sY4 := Lib.hid (sY3.below b4)
  have L4 := Lib.hid (L3.out.below b4)
  have B4 := Lib.hid (B3.trans (b4.mono B3.size))
  clear hf3 hg3 sX3 sY3 b4 B3
  rcases (show (e1 = 2) ∨ (e1 = 0 ∧ fits (convL f g) ∧ X = convL f g) by
    rcases HFX.out with ⟨h, _⟩ | ⟨_, _, h, _⟩ | ⟨_, h1, h2, h3⟩
    · exact absurd rfl h
    · exact .inl h
    · exact .inr ⟨h2, h1, h3⟩) with rfl | ⟨rfl, hfx, hX⟩
  · have hb4 := B4.out
    go_wp2_with fail
    go_ret
    exact ⟨rfl, hb4⟩
  subst hX
  have hY := HY.out
  subst hY
  have cX := Lib.hid (curve_of (HCC.out hfx) rfl)
  have cY := Lib.hid (curve_of HDC.out rfl)
  have hlx := cX.out.le
  have hly := cY.out.le
  rw [sX4.out.len] at hlx
  rw [sY4.out.len] at hly
  have zx := curve_small cX.out; have zy := curve_small cY.out
  have zk := itoa_len (n := backV f g) (by have := HKB.out; omega) (by have := HKB.out; omega)
  have zn := itoa_len (n := n) (by omega) (by omega)
  rw [← str_size] at zx zy zk zn
  have HFX2 := Lib.hid hfx
  have HFY := Lib.hid (show fits (dcvL f g) from fun j hj => (cY.out.bd j hj).2)
  have HRUN := Lib.hid (ask_run L4.out HE.out HFX2.out HFY.out (n := n) hn0 (by omega))
  clear hfx
  obtain ⟨A, hA⟩ : ∃ A, str (numsS f) = A := ⟨_, rfl⟩
  obtain ⟨B, hB⟩ : ∃ B, str (numsS g) = B := ⟨_, rfl⟩
  obtain ⟨D, hD⟩ : ∃ D, str (Lib.itoa n) = D := ⟨_, rfl⟩
  have HSC := Lib.hid (ask_script hA hB hD)
  have HDN := Lib.hid hD
  rw [hA] at z1; rw [hB] at z2; rw [hD] at zn
  rw [hA, hB]
  clear hA hB hD
  have s1 : ¬ 9223372036854775807 < 5 + A.size := by omega
  have s2 : ¬ 9223372036854775807 < 5 + A.size + 1 := by omega
  have s3 : ¬ 9223372036854775807 < 5 + A.size + 1 + B.size := by omega
  have s4 : ¬ 9223372036854775807 < 5 + A.size + 1 + B.size + 8 := by omega
  have s5 : ¬ 9223372036854775807 < 5 + A.size + 1 + B.size + 8 + A.size := by omega
  have s6 : ¬ 9223372036854775807 < 5 + A.size + 1 + B.size + 8 + A.size + 1 := by omega
  have s7 : ¬ 9223372036854775807 < 5 + A.size + 1 + B.size + 8 + A.size + 1 + B.size := by omega
  have s8 : ¬ 9223372036854775807 < 5 + A.size + 1 + B.size + 8 + A.size + 1 + B.size + 6 := by omega
  have s9 : ¬ 9223372036854775807 < 5 + A.size + 1 + B.size + 8 + A.size + 1 + B.size + 6 + A.size := by omega
  have s10 : ¬ 9223372036854775807 < 5 + A.size + 1 + B.size + 8 + A.size + 1 + B.size + 6 + A.size + 1 := by omega
  have s11 : ¬ 9223372036854775807 < 5 + A.size + 1 + B.size + 8 + A.size + 1 + B.size + 6 + A.size + 1 + B.size := by omega
  have s12 : ¬ 9223372036854775807 < 5 + A.size + 1 + B.size + 8 + A.size + 1 + B.size + 6 + A.size + 1 + B.size + 8 := by omega
  have s13 : ¬ 9223372036854775807 < 5 + A.size + 1 + B.size + 8 + A.size + 1 + B.size + 6 + A.size + 1 + B.size + 8 + D.size := by omega
  have s14 : ¬ 9223372036854775807 < 5 + A.size + 1 + B.size + 8 + A.size + 1 + B.size + 6 + A.size + 1 + B.size + 8 + D.size + 12 := by omega
  go_wp2_with fail
  refine (dec_any (n := n) hn0 (by omega)).mono ?_; rintro e w' ⟨rfl, rfl⟩
  rw [HDN.out]
  go_wp2_with fail
  rw [HSC.out]
  refine HRUN.out.mono ?_; rintro e v5 ⟨rfl, b5⟩
  have sX5 := Lib.hid (sX4.out.below b5)
  have sY5 := Lib.hid (sY4.out.below b5)
  have B5 := Lib.hid (B4.out.trans (b5.mono B4.out.size))
  have HNX := Lib.hid (ref_Numbers sX5.out (by omega) (fun x hx => by have := curve_mem cX.out x hx; omega))
  have HNY := Lib.hid (ref_Numbers sY5.out (by omega) (fun x hx => by have := curve_mem cY.out x hx; omega))
  have HDK := Lib.hid (dec_any (w := v5) (n := backV f g) HKB.out.1 (by have := HKB.out.2; omega))
  have HD2 := Lib.hid (dec_any (w := v5) (n := n) hn0 (by omega))
  rw [HDN.out] at HD2
  clear b5 HRUN HSC s1 s2 s3 s4 s5 s6 s7 s8 s9 s10 s11 s12 s13 s14
  obtain ⟨XX, hXX⟩ : ∃ A, str (numsS (convL f g)) = A := ⟨_, rfl⟩
  obtain ⟨YY, hYY⟩ : ∃ A, str (numsS (dcvL f g)) = A := ⟨_, rfl⟩
  obtain ⟨KK, hKK⟩ : ∃ A, str (Lib.itoa (backV f g)) = A := ⟨_, rfl⟩
  have HSAY := Lib.hid (fun T P hT hP => say_script (f := f) (g := g) (n := n) (T := T) (P := P) hXX hYY hKK hT hP)
  rw [hXX] at HNX zx; rw [hYY] at HNY zy; rw [hKK] at HDK zk
  obtain ⟨GOT, hGOT⟩ : ∃ A, str (sayAll f g n) = A := ⟨_, rfl⟩
  rw [hGOT] at HSAY ⊢
  clear hXX hYY hKK hGOT
  by_cases hz : n = 0
  · subst hz
    have HEQ := Lib.hid (HSAY.out ⟨#[111, 107, 32, 48, 10]⟩ ⟨#[111, 107, 32, 48, 47, 48, 32, 48, 47, 48, 10]⟩ rfl rfl)
    have HM := Lib.hid (dec_minus (w := v5))
    have zm := itoa_len (n := -1) (by omega) (by omega)
    rw [← str_size] at zm
    obtain ⟨M, hM⟩ : ∃ M, str (Lib.itoa (-1)) = M := ⟨_, rfl⟩
    rw [hM] at HM zm
    clear hM HSAY
    have s1 : ¬ 9223372036854775807 < 3 + M.size := by omega
    have s2 : ¬ 9223372036854775807 < 3 + M.size + 3 := by omega
    have s3 : ¬ 9223372036854775807 < 3 + M.size + 3 + D.size := by omega
    have s4 : ¬ 9223372036854775807 < 3 + M.size + 3 + D.size + 3 := by omega
    have t1 : ¬ 9223372036854775807 < 3 + XX.size := by omega
    have t2 : ¬ 9223372036854775807 < 3 + XX.size + 4 := by omega
    have t3 : ¬ 9223372036854775807 < 3 + XX.size + 4 + YY.size := by omega
    have t4 : ¬ 9223372036854775807 < 3 + XX.size + 4 + YY.size + 4 := by omega
    have t5 : ¬ 9223372036854775807 < 3 + XX.size + 4 + YY.size + 4 + KK.size := by omega
    have t6 : ¬ 9223372036854775807 < 3 + XX.size + 4 + YY.size + 4 + KK.size + 4 := by omega
    have t7 : ¬ 9223372036854775807 < 3 + XX.size + 4 + YY.size + 4 + KK.size + 4 + 5 := by omega
    have t8 : ¬ 9223372036854775807 < 3 + XX.size + 4 + YY.size + 4 + KK.size + 4 + 5 + 11 := by omega
    go_wp2_with fail
    refine HM.out.mono ?_; rintro e w' ⟨rfl, rfl⟩
    go_wp2_with fail
    refine HD2.out.mono ?_; rintro e w' ⟨rfl, rfl⟩
    go_wp2_with fail
    refine HNX.out.mono ?_; rintro e w' ⟨rfl, rfl⟩
    go_wp2_with fail
    refine HNY.out.mono ?_; rintro e w' ⟨rfl, rfl⟩
    go_wp2_with fail
    refine HDK.out.mono ?_; rintro e w' ⟨rfl, rfl⟩
    go_wp2_with fail
    go_ret
    exact ⟨by rw [← HEQ.out]; simp, B5.out⟩
  · have hz2 : ¬ (n = 0) := hz
    have hz3 : (n == 0) = false := by simpa using hz
    have HM := Lib.hid (dec_any (w := v5) (n := n - 1) (by omega) (by omega))
    have zm := itoa_len (n := n - 1) (by omega) (by omega)
    rw [← str_size] at zm
    have e9 : IntKind.i64.wrap (n - 1) = n - 1 := IntWalk.i64_in _ (by omega)
    obtain ⟨M, hM⟩ : ∃ M, str (Lib.itoa (n - 1)) = M := ⟨_, rfl⟩
    have HEQ := Lib.hid (HSAY.out ⟨#[111, 107, 32, 49, 10]⟩ (⟨#[111, 107, 32]⟩ ++ M ++ ⟨#[47, 48, 32]⟩ ++ D ++ ⟨#[47, 48, 10]⟩) (by unfold sayTick; rw [if_neg hz]; rfl) (by
      unfold sayPeers
      rw [if_neg hz, ← hM, ← HDN.out]
      show _ = str [111, 107, 32] ++ str (Lib.itoa (n - 1)) ++ str [47, 48, 32] ++ str (Lib.itoa n) ++ str [47, 48, 10]
      simp only [str_append]))
    rw [hM] at HM zm
    clear hM HSAY
    have s1 : ¬ 9223372036854775807 < 3 + M.size := by omega
    have s2 : ¬ 9223372036854775807 < 3 + M.size + 3 := by omega
    have s3 : ¬ 9223372036854775807 < 3 + M.size + 3 + D.size := by omega
    have s4 : ¬ 9223372036854775807 < 3 + M.size + 3 + D.size + 3 := by omega
    have t1 : ¬ 9223372036854775807 < 3 + XX.size := by omega
    have t2 : ¬ 9223372036854775807 < 3 + XX.size + 4 := by omega
    have t3 : ¬ 9223372036854775807 < 3 + XX.size + 4 + YY.size := by omega
    have t4 : ¬ 9223372036854775807 < 3 + XX.size + 4 + YY.size + 4 := by omega
    have t5 : ¬ 9223372036854775807 < 3 + XX.size + 4 + YY.size + 4 + KK.size := by omega
    have t6 : ¬ 9223372036854775807 < 3 + XX.size + 4 + YY.size + 4 + KK.size + 4 := by omega
    have t7 : ¬ 9223372036854775807 < 3 + XX.size + 4 + YY.size + 4 + KK.size + 4 + 5 := by omega
    have t8 : ¬ 9223372036854775807 < 3 + XX.size + 4 + YY.size + 4 + KK.size + 4 + 5 + (3 + M.size + 3 + D.size + 3) := by omega
    go_wp2_with fail
    refine HM.out.mono ?_; rintro e w' ⟨rfl, rfl⟩
    go_wp2_with fail
    refine HD2.out.mono ?_; rintro e w' ⟨rfl, rfl⟩
    go_wp2_with fail
    refine HNX.out.mono ?_; rintro e w' ⟨rfl, rfl⟩
    go_wp2_with fail
    refine HNY.out.mono ?_; rintro e w' ⟨rfl, rfl⟩
    go_wp2_with fail
    refine HDK.out.mono ?_; rintro e w' ⟨rfl, rfl⟩
    go_wp2_with fail
    go_ret
    exact ⟨by rw [← HEQ.out]; simp, B5.out⟩
end Go.Proofs.YtgbccpfehcjhbaaGreatDoor
