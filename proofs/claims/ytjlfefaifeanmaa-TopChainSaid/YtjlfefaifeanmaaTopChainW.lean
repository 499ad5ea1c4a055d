/- The walk of headtop.TopChain: it returns true and changes nothing that was there. No conditions. -/
import Derived.Test.YtjlfefaifeanmaaChainLaw
namespace Go.Proofs.Ytjlfefaifeanmaa
open Go Go.RowKit

set_option maxRecDepth 100000 in
set_option maxHeartbeats 3200000 in
theorem topChain_walk {w : World} {p1 p2 p3 p4 : Option Addr} {n1 n2 n3 n4 c1 c2 c3 c4 : Nat} {f l b c : List Int} (hf0 : SI w p1 n1 c1 f) (hl0 : SI w p2 n2 c2 l) (hb0 : SI w p3 n3 c3 b) (hc0 : SI w p4 n4 c4 c) :
    Calls Try.prog 14 #[.slice p1 n1 c1, .slice p2 n2 c2, .slice p3 n3 c3, .slice p4 n4 c4] w fun e w' => e = .returned (.bool true) ∧ Below w.heap.size w w' := by
  obtain ⟨ef, hef⟩ : ∃ ef, curveErr f = ef := ⟨_, rfl⟩
  have HF0 := Lib.hid hef
  have hn1 := Lib.hid hf0.1
  have m1 := hf0.2.1; have m2 := hl0.2.1; have m3 := hb0.2.1; have m4 := hc0.2.1
  by_cases z0 : ef = 0
  · subst z0
    clear hef
    go_enter Try.func14, Try.ntmps14
    go_wp2_with fail
    refine (top_begun).mono ?_; rintro e v1 ⟨rfl, bb⟩
    have hf1 := hf0.below bb
    have hl1 := hl0.below bb
    have hb1 := hb0.below bb
    have hc1 := hc0.below bb
    have B1 := bb
    clear bb hf0 hl0 hb0 hc0
    go_wp2_with fail
    refine (curve_Check hf1 HF0.out).mono ?_; rintro e w' ⟨rfl, rfl⟩
    go_wp2_with fail
    refine (trace_Fits_any hf1 hl1).mono ?_; rintro e v2 ⟨rf, eF, rfl, hF1, hF2, bb⟩
    have hf2 := hf1.below bb
    have hl2 := hl1.below bb
    have hb2 := hb1.below bb
    have hc2 := hc1.below bb
    have B2 := B1.trans (bb.mono B1.size)
    clear bb hf1 hl1 hb1 hc1 B1
    have HF1 := Lib.hid hF1; have HF2 := Lib.hid hF2; clear hF1 hF2
    go_wp2_with fail
    refine (conv_Of hf2 hb2 (er := bothErr f b) rfl).mono ?_; rintro e v3 ⟨pD, nD, cD, D, eD, rfl, oD, bb, hFD⟩
    have hf3 := hf2.below bb
    have hl3 := hl2.below bb
    have hb3 := hb2.below bb
    have hc3 := hc2.below bb
    have B3 := B2.trans (bb.mono B2.size)
    clear bb hf2 hl2 hb2 hc2 B2
    have sD3 := oD.si; clear oD
    have HFD := Lib.hid hFD; clear hFD
    go_wp2_with fail
    refine (conv_Of sD3 hc3 (er := bothErr D c) rfl).mono ?_; rintro e v4 ⟨pX, nX, cX, X, eX, rfl, oX, bb, hFX⟩
    have hf4 := hf3.below bb
    have hl4 := hl3.below bb
    have hb4 := hb3.below bb
    have hc4 := hc3.below bb
    have sD4 := sD3.below bb
    have B4 := B3.trans (bb.mono B3.size)
    clear bb hf3 hl3 hb3 hc3 sD3 B3
    have sX4 := oX.si; clear oX
    have HFX := Lib.hid hFX; clear hFX
    go_wp2_with fail
    refine (conv_Of hb4 hc4 (er := bothErr b c) rfl).mono ?_; rintro e v5 ⟨pO, nO, cO, O, eO, rfl, oO, bb, hFO⟩
    have hf5 := hf4.below bb
    have hl5 := hl4.below bb
    have hb5 := hb4.below bb
    have hc5 := hc4.below bb
    have sD5 := sD4.below bb
    have sX5 := sX4.below bb
    have B5 := B4.trans (bb.mono B4.size)
    clear bb hf4 hl4 hb4 hc4 sD4 sX4 B4
    have sO5 := oO.si; clear oO
    have HFO := Lib.hid hFO; clear hFO
    go_wp2_with fail
    refine (conv_Of hf5 sO5 (er := bothErr f O) rfl).mono ?_; rintro e v6 ⟨pY, nY, cY, Y, eY, rfl, oY, bb, hFY⟩
    have hf6 := hf5.below bb
    have hl6 := hl5.below bb
    have hb6 := hb5.below bb
    have hc6 := hc5.below bb
    have sD6 := sD5.below bb
    have sX6 := sX5.below bb
    have sO6 := sO5.below bb
    have B6 := B5.trans (bb.mono B5.size)
    clear bb hf5 hl5 hb5 hc5 sD5 sX5 sO5 B5
    have sY6 := oY.si; clear oY
    have HFY := Lib.hid hFY; clear hFY
    by_cases z1 : ¬ eF = 0
    · have hz := bne_false_of z1
      go_wp2
      go_ret
      exact ⟨rfl, B6⟩
    have y1 : eF = 0 := Classical.not_not.1 z1
    subst y1
    clear z1
    by_cases z2 : ¬ eD = 0
    · have hz := bne_false_of z2
      go_wp2
      go_ret
      exact ⟨rfl, B6⟩
    have y2 : eD = 0 := Classical.not_not.1 z2
    subst y2
    clear z2
    by_cases z3 : ¬ eX = 0
    · have hz := bne_false_of z3
      go_wp2
      go_ret
      exact ⟨rfl, B6⟩
    have y3 : eX = 0 := Classical.not_not.1 z3
    subst y3
    clear z3
    by_cases z4 : ¬ eO = 0
    · have hz := bne_false_of z4
      go_wp2
      go_ret
      exact ⟨rfl, B6⟩
    have y4 : eO = 0 := Classical.not_not.1 z4
    subst y4
    clear z4
    by_cases z5 : ¬ eY = 0
    · have hz := bne_false_of z5
      go_wp2
      go_ret
      exact ⟨rfl, B6⟩
    have y5 : eY = 0 := Classical.not_not.1 z5
    subst y5
    clear z5
    have HCH := Lib.hid (chain_of hn1.out HF1.out HFD.out HFX.out HFO.out HFY.out)
    obtain ⟨hLB, hLO, hFXB, hDM⟩ := chain_errs HCH.out HF1.out HFD.out HFX.out HFY.out
    have HLB := Lib.hid hLB; have HLO := Lib.hid hLO; have HFXB := Lib.hid hFXB; have HDM := Lib.hid hDM
    clear hLB hLO hFXB hDM
    obtain ⟨g1, g2, g3, g4, g5, g6, g7, g8, g9, g10, g11⟩ := id HCH.out
    have HG1 := Lib.hid g1; have HG2 := Lib.hid g2; have HG3 := Lib.hid g3; have HG5 := Lib.hid g5; have HG7 := Lib.hid g7; have HG8 := Lib.hid g8; have HG10 := Lib.hid g10; have HG11 := Lib.hid g11
    have HFM := Lib.hid (deconv_fits g2 g3)
    have HFC := Lib.hid (HF2.out rfl)
    have hpos := g1.pos
    have e2 : n1 = n2 := by rw [← hl6.1]; exact g2.len.symm
    have e3 : n1 = n3 := by rw [← hb6.1]; exact g3.len.symm
    have e5 : n1 = nO := by rw [← sO6.1]; exact g5.len.symm
    have e6 : n1 = nD := by rw [← sD6.1]; exact g6.len.symm
    have e7 : n1 = nX := by rw [← sX6.1]; exact g7.len.symm
    clear g1 g2 g3 g4 g5 g6 g7 g8 g9 g10 g11 HFD HFX HFO HFY HF2
    subst e2 e3 e5 e6 e7
    go_wp2_with fail
    refine (slices_Equal sX6 sY6 (r := true) (by simp [HG11.out])).mono ?_; rintro e v7 ⟨rfl, bb⟩
    have hf7 := hf6.below bb
    have hl7 := hl6.below bb
    have hb7 := hb6.below bb
    have hc7 := hc6.below bb
    have sD7 := sD6.below bb
    have sX7 := sX6.below bb
    have sO7 := sO6.below bb
    have sY7 := sY6.below bb
    have B7 := B6.trans (bb.mono B6.size)
    clear bb hf6 hl6 hb6 hc6 sD6 sX6 sO6 sY6 B6
    go_wp2_with fail
    refine (deconv_Of hl7 hb7 HLB.out).mono ?_; rintro e v8 ⟨pM, nM, cM, M, eM, rfl, oM, bb, hFM2⟩
    have hf8 := hf7.below bb
    have hl8 := hl7.below bb
    have hb8 := hb7.below bb
    have hc8 := hc7.below bb
    have sD8 := sD7.below bb
    have sX8 := sX7.below bb
    have sO8 := sO7.below bb
    have sY8 := sY7.below bb
    have B8 := B7.trans (bb.mono B7.size)
    clear bb hf7 hl7 hb7 hc7 sD7 sX7 sO7 sY7 B7
    obtain ⟨rfl, rfl⟩ : eM = 0 ∧ M = dcvL l b := by
      rcases hFM2 with ⟨a, _⟩ | ⟨_, a, _⟩ | ⟨_, _, a, b⟩
      · exact absurd rfl a
      · exact absurd HFM.out a
      · exact ⟨a, b⟩
    have eM : n1 = nM := by rw [← oM.len]; unfold dcvL; rw [tab_length]; exact HG2.out.len.symm
    subst eM
    have sM8 := oM.si
    obtain ⟨r2, hr2⟩ := fitsC_bool D (dcvL l b) n1
    have HR2 := Lib.hid hr2
    clear hr2 hFM2 oM
    go_wp2_with fail
    refine (trace_Fits_ok sD8 sM8 HDM.out HR2.out).mono ?_; rintro e v9 ⟨rfl, bb⟩
    have hf9 := hf8.below bb
    have hl9 := hl8.below bb
    have hb9 := hb8.below bb
    have hc9 := hc8.below bb
    have sD9 := sD8.below bb
    have sX9 := sX8.below bb
    have sO9 := sO8.below bb
    have sY9 := sY8.below bb
    have sM9 := sM8.below bb
    have B9 := B8.trans (bb.mono B8.size)
    clear bb hf8 hl8 hb8 hc8 sD8 sX8 sO8 sY8 sM8 B8
    obtain ⟨ab, ob, hab, hlb, hcb⟩ := hb9.cells hpos
    subst hab
    have cb0 : v9.cell? ⟨ab, ob, none⟩ = some (.int .i64 (gi b 0)) := hcb 0 hpos
    clear hcb
    have hway : rf = false ∨ (rf = true ∧ gi b 0 ≠ 0) ∨ (rf = true ∧ gi b 0 = 0 ∧ r2 = true) := by
      cases rf with
      | false => exact .inl rfl
      | true =>
        by_cases h0 : gi b 0 = 0
        · refine .inr (.inr ⟨rfl, h0, HR2.out.2 ?_⟩)
          rw [HG8.out]
          exact chain_fits HG1.out HG2.out HG3.out (HFC.out.1 rfl) h0
        · exact .inr (.inl ⟨rfl, h0⟩)
    have hbk : rf = true → backV f X ≤ backV l O := fun h => by rw [HG10.out]; exact chain_back HG1.out HG2.out HG5.out (HFC.out.1 h)
    obtain ⟨kl, hkl⟩ := delay_exists n1 l O
    obtain ⟨kx, hkx⟩ := delay_exists n1 f X
    have hdl : rf = true → kl < n1 → kx ≤ kl := fun h hk => by
      have hkx' := hkx
      rw [HG10.out] at hkx'
      exact chain_delay HG1.out HG5.out (HFC.out.1 h) hkl hkx' hk
    have HKL := Lib.hid hkl; have HKX := Lib.hid hkx
    obtain ⟨v1', hv1⟩ : ∃ v, backV l O = v := ⟨_, rfl⟩
    obtain ⟨v2', hv2⟩ : ∃ v, backV f X = v := ⟨_, rfl⟩
    rw [hv1, hv2] at hbk
    have HV1 := Lib.hid hv1; have HV2 := Lib.hid hv2
    clear hkl hkx hv1 hv2 HFC
    rcases hway with hrf | ⟨hrf, h0⟩ | ⟨hrf, h0, hr2⟩
    · clear hbk hdl
      subst hrf
      clear hc9 sD9 sY9 sM9 hb9
      go_wp2_with fail
      refine (bound_Back_ok hl9 sO9 HG2.out HG5.out HLO.out).mono ?_; rintro e v10 ⟨rfl, bb⟩
      have hf10 := hf9.below bb
      have hl10 := hl9.below bb
      have sX10 := sX9.below bb
      have sO10 := sO9.below bb
      have B10 := B9.trans (bb.mono B9.size)
      clear bb hf9 hl9 sX9 sO9 B9
      rw [HV1.out]
      go_wp2_with fail
      refine (bound_Back_ok hf10 sX10 HG1.out HG7.out HFXB.out).mono ?_; rintro e v11 ⟨rfl, bb⟩
      have hf11 := hf10.below bb
      have hl11 := hl10.below bb
      have sX11 := sX10.below bb
      have sO11 := sO10.below bb
      have B11 := B10.trans (bb.mono B10.size)
      clear bb hf10 hl10 sX10 sO10 B10
      rw [HV2.out]
      by_cases q1 : kl < n1
      · skip
        go_wp2_with fail
        refine (bound_Delay_ok hl11 sO11 HLO.out HKL.out).mono ?_; rintro e v12 ⟨rfl, bb⟩
        have hf12 := hf11.below bb
        have hl12 := hl11.below bb
        have sX12 := sX11.below bb
        have sO12 := sO11.below bb
        have B12 := B11.trans (bb.mono B11.size)
        clear bb hf11 hl11 sX11 sO11 B11
        rw [if_pos q1, if_pos q1]
        go_wp2_with fail
        refine (bound_Delay_ok hf12 sX12 HFXB.out HKX.out).mono ?_; rintro e v13 ⟨rfl, bb⟩
        have hf13 := hf12.below bb
        have hl13 := hl12.below bb
        have sX13 := sX12.below bb
        have sO13 := sO12.below bb
        have B13 := B12.trans (bb.mono B12.size)
        clear bb hf12 hl12 sX12 sO12 B12
        generalize (if kx < n1 then (kx : Int) else 0) = x1
        generalize (if kx < n1 then (0 : Int) else 5) = x2
        go_wp2
        go_ret
        exact ⟨rfl, B13⟩
      · skip
        go_wp2_with fail
        refine (bound_Delay_ok hl11 sO11 HLO.out HKL.out).mono ?_; rintro e v12 ⟨rfl, bb⟩
        have hf12 := hf11.below bb
        have hl12 := hl11.below bb
        have sX12 := sX11.below bb
        have sO12 := sO11.below bb
        have B12 := B11.trans (bb.mono B11.size)
        clear bb hf11 hl11 sX11 sO11 B11
        rw [if_neg q1, if_neg q1]
        go_wp2_with fail
        refine (bound_Delay_ok hf12 sX12 HFXB.out HKX.out).mono ?_; rintro e v13 ⟨rfl, bb⟩
        have hf13 := hf12.below bb
        have hl13 := hl12.below bb
        have sX13 := sX12.below bb
        have sO13 := sO12.below bb
        have B13 := B12.trans (bb.mono B12.size)
        clear bb hf12 hl12 sX12 sO12 B12
        generalize (if kx < n1 then (kx : Int) else 0) = x1
        generalize (if kx < n1 then (0 : Int) else 5) = x2
        go_wp2
        go_ret
        exact ⟨rfl, B13⟩
    · have hle := hbk hrf
      have hdl' := Lib.hid (hdl hrf)
      clear hbk hdl
      subst hrf
      clear hc9 sD9 sY9 sM9 hb9
      have hz0 : (gi b 0 == 0) = false := by simp [h0]
      clear h0
      have hbk : ¬ v1' < v2' := by omega
      have hbk2 : decide (v1' < v2') = false := by simp; omega
      go_wp2_with fail
      refine (bound_Back_ok hl9 sO9 HG2.out HG5.out HLO.out).mono ?_; rintro e v10 ⟨rfl, bb⟩
      have hf10 := hf9.below bb
      have hl10 := hl9.below bb
      have sX10 := sX9.below bb
      have sO10 := sO9.below bb
      have B10 := B9.trans (bb.mono B9.size)
      clear bb hf9 hl9 sX9 sO9 B9
      rw [HV1.out]
      go_wp2_with fail
      refine (bound_Back_ok hf10 sX10 HG1.out HG7.out HFXB.out).mono ?_; rintro e v11 ⟨rfl, bb⟩
      have hf11 := hf10.below bb
      have hl11 := hl10.below bb
      have sX11 := sX10.below bb
      have sO11 := sO10.below bb
      have B11 := B10.trans (bb.mono B10.size)
      clear bb hf10 hl10 sX10 sO10 B10
      rw [HV2.out]
      by_cases q1 : kl < n1
      · have q2 := hdl'.out q1
        have q3 : kx < n1 := by omega
        have q4 : (kx : Int) ≤ (kl : Int) := by omega
        have q5 : decide ((kx : Int) ≤ (kl : Int)) = true := by simp; omega
        have q6 : decide (kx ≤ kl) = true := by simp; omega
        go_wp2_with fail
        refine (bound_Delay_ok hl11 sO11 HLO.out HKL.out).mono ?_; rintro e v12 ⟨rfl, bb⟩
        have hf12 := hf11.below bb
        have hl12 := hl11.below bb
        have sX12 := sX11.below bb
        have sO12 := sO11.below bb
        have B12 := B11.trans (bb.mono B11.size)
        clear bb hf11 hl11 sX11 sO11 B11
        rw [if_pos q1, if_pos q1]
        go_wp2_with fail
        refine (bound_Delay_ok hf12 sX12 HFXB.out HKX.out).mono ?_; rintro e v13 ⟨rfl, bb⟩
        have hf13 := hf12.below bb
        have hl13 := hl12.below bb
        have sX13 := sX12.below bb
        have sO13 := sO12.below bb
        have B13 := B12.trans (bb.mono B12.size)
        clear bb hf12 hl12 sX12 sO12 B12
        rw [if_pos q3, if_pos q3]
        go_wp2
        go_ret
        exact ⟨rfl, B13⟩
      · skip
        go_wp2_with fail
        refine (bound_Delay_ok hl11 sO11 HLO.out HKL.out).mono ?_; rintro e v12 ⟨rfl, bb⟩
        have hf12 := hf11.below bb
        have hl12 := hl11.below bb
        have sX12 := sX11.below bb
        have sO12 := sO11.below bb
        have B12 := B11.trans (bb.mono B11.size)
        clear bb hf11 hl11 sX11 sO11 B11
        rw [if_neg q1, if_neg q1]
        go_wp2_with fail
        refine (bound_Delay_ok hf12 sX12 HFXB.out HKX.out).mono ?_; rintro e v13 ⟨rfl, bb⟩
        have hf13 := hf12.below bb
        have hl13 := hl12.below bb
        have sX13 := sX12.below bb
        have sO13 := sO12.below bb
        have B13 := B12.trans (bb.mono B12.size)
        clear bb hf12 hl12 sX12 sO12 B12
        generalize (if kx < n1 then (kx : Int) else 0) = x1
        generalize (if kx < n1 then (0 : Int) else 5) = x2
        go_wp2
        go_ret
        exact ⟨rfl, B13⟩
    · have hle := hbk hrf
      have hdl' := Lib.hid (hdl hrf)
      clear hbk hdl
      subst hrf
      subst hr2
      clear hc9 sD9 sY9 sM9 hb9
      have hz0 : (gi b 0 == 0) = true := by simp [h0]
      clear h0
      have hbk : ¬ v1' < v2' := by omega
      have hbk2 : decide (v1' < v2') = false := by simp; omega
      go_wp2_with fail
      refine (bound_Back_ok hl9 sO9 HG2.out HG5.out HLO.out).mono ?_; rintro e v10 ⟨rfl, bb⟩
      have hf10 := hf9.below bb
      have hl10 := hl9.below bb
      have sX10 := sX9.below bb
      have sO10 := sO9.below bb
      have B10 := B9.trans (bb.mono B9.size)
      clear bb hf9 hl9 sX9 sO9 B9
      rw [HV1.out]
      go_wp2_with fail
      refine (bound_Back_ok hf10 sX10 HG1.out HG7.out HFXB.out).mono ?_; rintro e v11 ⟨rfl, bb⟩
      have hf11 := hf10.below bb
      have hl11 := hl10.below bb
      have sX11 := sX10.below bb
      have sO11 := sO10.below bb
      have B11 := B10.trans (bb.mono B10.size)
      clear bb hf10 hl10 sX10 sO10 B10
      rw [HV2.out]
      by_cases q1 : kl < n1
      · have q2 := hdl'.out q1
        have q3 : kx < n1 := by omega
        have q4 : (kx : Int) ≤ (kl : Int) := by omega
        have q5 : decide ((kx : Int) ≤ (kl : Int)) = true := by simp; omega
        have q6 : decide (kx ≤ kl) = true := by simp; omega
        go_wp2_with fail
        refine (bound_Delay_ok hl11 sO11 HLO.out HKL.out).mono ?_; rintro e v12 ⟨rfl, bb⟩
        have hf12 := hf11.below bb
        have hl12 := hl11.below bb
        have sX12 := sX11.below bb
        have sO12 := sO11.below bb
        have B12 := B11.trans (bb.mono B11.size)
        clear bb hf11 hl11 sX11 sO11 B11
        rw [if_pos q1, if_pos q1]
        go_wp2_with fail
        refine (bound_Delay_ok hf12 sX12 HFXB.out HKX.out).mono ?_; rintro e v13 ⟨rfl, bb⟩
        have hf13 := hf12.below bb
        have hl13 := hl12.below bb
        have sX13 := sX12.below bb
        have sO13 := sO12.below bb
        have B13 := B12.trans (bb.mono B12.size)
        clear bb hf12 hl12 sX12 sO12 B12
        rw [if_pos q3, if_pos q3]
        go_wp2
        go_ret
        exact ⟨rfl, B13⟩
      · skip
        go_wp2_with fail
        refine (bound_Delay_ok hl11 sO11 HLO.out HKL.out).mono ?_; rintro e v12 ⟨rfl, bb⟩
        have hf12 := hf11.below bb
        have hl12 := hl11.below bb
        have sX12 := sX11.below bb
        have sO12 := sO11.below bb
        have B12 := B11.trans (bb.mono B11.size)
        clear bb hf11 hl11 sX11 sO11 B11
        rw [if_neg q1, if_neg q1]
        go_wp2_with fail
        refine (bound_Delay_ok hf12 sX12 HFXB.out HKX.out).mono ?_; rintro e v13 ⟨rfl, bb⟩
        have hf13 := hf12.below bb
        have hl13 := hl12.below bb
        have sX13 := sX12.below bb
        have sO13 := sO12.below bb
        have B13 := B12.trans (bb.mono B12.size)
        clear bb hf12 hl12 sX12 sO12 B12
        generalize (if kx < n1 then (kx : Int) else 0) = x1
        generalize (if kx < n1 then (0 : Int) else 5) = x2
        go_wp2
        go_ret
        exact ⟨rfl, B13⟩
  · have hz := bne_false_of z0
    have HFE := Lib.hid hef
    clear hef
    go_enter Try.func14, Try.ntmps14
    go_wp2_with fail
    refine top_begun.mono ?_; rintro e v1 ⟨rfl, bb⟩
    go_wp2_with fail
    refine (curve_Check (hf0.below bb) HFE.out).mono ?_; rintro e w' ⟨rfl, rfl⟩
    go_wp2_with fail
    refine top_begun.mono ?_; rintro e v2 ⟨rfl, bb2⟩
    go_wp2
    go_ret
    exact ⟨rfl, bb.trans (bb2.mono bb.size)⟩
end Go.Proofs.Ytjlfefaifeanmaa
