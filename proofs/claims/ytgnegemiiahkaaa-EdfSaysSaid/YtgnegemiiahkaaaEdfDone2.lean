/- The contract of headref.Done (P44). Conditions: that the jobs are right ones. -/
import Derived.Test.YtgnegemiiahkaaaEdfDone
namespace Go.Proofs.Ytgnegemiiahkaaa
open Go Go.RowKit
set_option linter.unusedVariables false
set_option linter.unusedSimpArgs false

theorem OwnI.under {w w' : World} {B B2 g n c : Nat} {L : List Int} (h : OwnI w B (some ⟨g, 0, none⟩) n c L) (hb : Below B2 w w') (hg : g < B2) : OwnI w' B (some ⟨g, 0, none⟩) n c L := by
  refine ⟨⟨h.1.1, ?_⟩, h.2⟩
  rcases h.1.2 with h2 | ⟨g2, cap, cur, hv, hg2, hh, r⟩
  · exact .inl h2
  · refine .inr ⟨g2, cap, cur, hv, hg2, ?_, r⟩
    simp only [Value.slice.injEq, Option.some.injEq, Addr.mk.injEq, and_true, true_and] at hv
    rw [hb.block g2 (by omega)]
    exact hh
set_option maxRecDepth 100000 in
set_option maxHeartbeats 3200000 in
theorem ref_Done {w : World} {p : Option Addr} {n c : Nat} {xs : List (Int × Int × Int)} (h : S3 w p n c xs) (he : jobsErr xs = 0) :
    Calls Try.prog 41 #[.slice p n c] w fun e w' => ∃ q d q2 d2, e = .returned (.tuple #[.slice q (bz (t0 xs) (t1 xs) (t2 xs) n 200) d, .slice q2 n d2]) ∧
      SI w' q (bz (t0 xs) (t1 xs) (t2 xs) n 200) d (tab (bz (t0 xs) (t1 xs) (t2 xs) n 200) (pk (t0 xs) (t1 xs) (t2 xs) n)) ∧ SI w' q2 n d2 (tab n (dn (t0 xs) (t1 xs) (t2 xs) n 200)) ∧ Below w.heap.size w w' := by
  obtain ⟨h12, hok⟩ := jobs_ok he
  rw [h.1] at h12
  have hm := h.2.1
  have HOK : Hid (∀ j, j < n → okJob (t0 xs j) (t1 xs j) (t2 xs j)) := Lib.hid (by rw [← h.1]; exact hok)
  have HA : Hid (∀ j, j < n → 0 ≤ t2 xs j ∧ t2 xs j ≤ 200) := Lib.hid (fun j hj => by have := HOK.out j hj; unfold okJob at this; omega)
  have HW : Hid (∀ i, i < n → 1 ≤ t1 xs i ∧ t1 xs i ≤ 200) := Lib.hid (fun j hj => by have := HOK.out j hj; unfold okJob at this; omega)
  clear hok he
  have hb0 := (Below.refl w.heap.size w).alloc (Nat.le_refl _) (.cells #[.slice p n c] 70)
  have hx0 : (w.alloc (.cells #[.slice p n c] 70)).cell? ⟨w.heap.size, 0, none⟩ = some (.slice p n c) := blk_cell (blk_new w #[.slice p n c] 70) 0
  have HS0 := Lib.hid (show (w.alloc (.cells #[.slice p n c] 70)).heap.size = w.heap.size + 1 by simp)
  have h0 := h.below hb0
  have HS0' := Lib.hid h0
  have hpB : 0 < n → ∀ b, p = some b → b.block < w.heap.size + 1 := fun hn0 b hb => by
    obtain ⟨b', off, hp, hlt, _⟩ := h.cells hn0
    rw [hp] at hb
    simp only [Option.some.injEq] at hb
    subst hb
    exact Nat.lt_succ_of_lt hlt
  go_enter Try.func41, Try.ntmps41
  go_wp2_with fail
  generalize w.alloc (.cells #[.slice p n c] 70) = W0 at *
  have hrep := slices_Repeat1 (w := W0) (v := -1) (n := 200) (by omega) (by omega)
  rw [← HS0.out]
  refine hrep.mono ?_; rintro e w1 ⟨gs, rfl, hgs, os, b1⟩
  have HX0 := Lib.hid hx0
  have h1 := h0.below b1
  have B1 : Below (w.heap.size + 1) W0 w1 := b1.mono (by rw [HS0.out]; exact Nat.le_refl _)
  have x1 : w1.cell? ⟨w.heap.size, 0, none⟩ = some (.slice p n c) := (bdeep B1 (Nat.lt_succ_self _) _).trans HX0.out
  have hs1 := b1.size
  have hgs1 : w.heap.size + 1 ≤ gs := by rw [← HS0.out]; exact hgs
  have os1 : OwnI w1 (w.heap.size + 1) (some ⟨gs, 0, none⟩) 200 200 (tab 200 fun _ => -1) := OwnI.base os (by rw [HS0.out]; exact Nat.le_refl _)
  have hgsb := os1.blk
  clear hrep b1 os hx0 hgs h0 h
  go_wp2_with (at_make; refine wpL_make_int Try.tyIntsEp rfl rfl (B := w1.heap.size) (W0 := w1) n rfl rfl rfl rfl (Below.refl _ _) (by omega) (Nat.le_refl _) ?_; intro gd w2 hgd od hbd hb2; (have x2 : w2.cell? ⟨w.heap.size, 0, none⟩ = some (.slice p n c) := (bdeep hb2 (by omega) _).trans x1))
  have B2 : Below (w.heap.size + 1) W0 w2 := B1.trans (hb2.mono (by omega))
  have h2 := h1.below hb2
  have os2 := os1.below hb2
  have od2 : OwnI w2 (w.heap.size + 1) (some ⟨gd, 0, none⟩) n n (tab n fun _ => 0) := OwnI.base od (by omega)
  have hgd2 := od2.blk
  have hs2 := hb2.size
  have hne : gs ≠ gd := by omega
  clear h1 os1 od hbd hb2 x1 B1
  go_loopw [6, 20] (fun v iv wr => ∃ (k : Nat) (q : Option Addr) (d : Nat), k ≤ n ∧ iv = .int .i64 k ∧ v = .slice q k d ∧ OwnI wr w2.heap.size q k d (tab k fun j => (j : Int)) ∧ Below w2.heap.size w2 wr) (fun _ iv _ => n - (intOf iv).toNat)
  case atStart => exact ⟨0, none, 0, by omega, rfl, rfl, OwnI.nil _ _, Below.refl _ _⟩
  case round =>
    obtain ⟨k, q, d, hk, rfl, rfl, hoq, hb⟩ := hrel
    have hsz := hb.size
    by_cases hkn : k < n
    · go_wp2_with (at_builtin; refine wpL_push_int Try.tyIntsEp rfl rfl (B := w2.heap.size) (W0 := w2) (by first | rfl | simp [Act.eval]) (by first | rfl | simp [Act.eval]) hoq hb (by omega) hsz ?_; intro p' c' w3 ho3 hb3 hg3 _)
      go_roundw
      case rel => exact ⟨k + 1, _, _, by omega, by go_num, rfl, by rw [tab_succ]; exact ho3, hb3⟩
      case measure => simp [intOf]; omega
    · obtain rfl : n = k := by omega
      have x3 : wr.cell? ⟨w.heap.size, 0, none⟩ = some (.slice p n c) := (bdeep hb (by omega) _).trans x2
      have h3 := h2.below hb
      have os3 := os2.below hb
      have od3 := od2.below hb
      have B3 : Below (w.heap.size + 1) W0 wr := B2.trans (hb.mono (by omega))
      clear os2 od2 B2 h2 x2
      go_wp2_with fail
      refine (sort_any (B := w2.heap.size) h3 HA.out x3 (fun hn0 b hb => Nat.lt_of_lt_of_le (hpB hn0 b hb) (by omega)) (by omega) hsz h12 hoq).mono ?_; rintro e w4 ⟨rfl, o, hO, hoq4, b4⟩
      have HO := Lib.hid hO
      have x4 : w4.cell? ⟨w.heap.size, 0, none⟩ = some (.slice p n c) := (bdeep b4 (by omega) _).trans x3
      have B4 : Below (w.heap.size + 1) W0 w4 := B3.trans (b4.mono (by omega))
      have os4 : OwnI w4 (w.heap.size + 1) (some ⟨gs, 0, none⟩) 200 200 (tab 200 (wrk (t0 xs) (t1 xs) (t2 xs) n o 0)) := (OwnI.under os3 b4 (by omega)).to (fun j hj => wrk_zero.symm)
      have od4 : OwnI w4 (w.heap.size + 1) (some ⟨gd, 0, none⟩) n n (tab n (dnk (t0 xs) (t1 xs) (t2 xs) n o 0)) := (OwnI.under od3 b4 (by omega)).to (fun j hj => dnk_zero.symm)
      have HS3 : Hid (S3 W0 p n c xs) := HS0'
      clear hO x3 h3 os3 od3 B3 b4 hb hoq hsz
      go_wp2
      go_loopw [33] (fun iv wr => ∃ k : Nat, k ≤ n ∧ iv = .int .i64 k ∧ OwnI wr (w.heap.size + 1) (some ⟨gs, 0, none⟩) 200 200 (tab 200 (wrk (t0 xs) (t1 xs) (t2 xs) n o k)) ∧ OwnI wr (w.heap.size + 1) (some ⟨gd, 0, none⟩) n n (tab n (dnk (t0 xs) (t1 xs) (t2 xs) n o k)) ∧ OwnI wr w2.heap.size q n d (tab n fun k => (o k : Int)) ∧ Below (w.heap.size + 1) W0 wr) (fun iv _ => n - (intOf iv).toNat)
      case atStart => exact ⟨0, by omega, rfl, os4, od4, hoq4, B4⟩
      case round =>
        clear os4 od4 hoq4 B4 x4
        obtain ⟨k, hk, rfl, os, od, oq, hb⟩ := hrel
        by_cases hkn : k < n
        · obtain ⟨b, off, rfl, hlt, hc⟩ := HS3.out.cells (by omega)
          have hbB := hpB (by omega) _ rfl
          obtain ⟨go_, rfl⟩ := oq.addr (by omega)
          have hoblk := oq.blk
          have hok := HO.out.lt k hkn
          have xb : wr.cell? ⟨w.heap.size, 0, none⟩ = some (.slice (some ⟨b, off, none⟩) n c) := (bdeep hb (Nat.lt_succ_self _) _).trans HX0.out
          have cq := oq.at (j := k) hkn
          rw [gi_tab hkn] at cq
          have c0 : wr.cell? ⟨b, off + o k * 3, none⟩ = some (.int .i64 (t0 xs (o k))) := (bdeep hb hbB _).trans (hc (o k) hok).1
          have c1 : wr.cell? ⟨b, off + o k * 3 + 1, none⟩ = some (.int .i64 (t1 xs (o k))) := (bdeep hb hbB _).trans (hc (o k) hok).2.1
          have hj := HOK.out (o k) hok
          unfold okJob at hj
          have q1 : (o k : Int) < (n : Int) := by omega
          obtain ⟨ta, hta⟩ : ∃ ta : Nat, t0 xs (o k) = (ta : Int) := ⟨(t0 xs (o k)).toNat, by omega⟩
          have HMS := Lib.hid (mid_start (A := t0 xs) (W := t1 xs) (D := t2 xs) HO.out hkn hta)
          have HEA := Lib.hid (early (A := t0 xs) (W := t1 xs) (D := t2 xs) hok ta (by omega))
          rw [hta] at c0 hj
          have HTA := Lib.hid hta
          clear hta hc
          have osm := os.to (z' := wmid (t0 xs) (t1 xs) (t2 xs) n o k ta) (fun j _ => HMS.out.1 j)
          have odm := od.to (z' := dmid (t0 xs) (t1 xs) (t2 xs) n o k ta) (fun j _ => HMS.out.2 j)
          clear os od
          go_wp2
          go_loopw [10, 11] (fun lv tv wr => ∃ t : Nat, ta ≤ t ∧ t ≤ 200 ∧ tv = .int .i64 t ∧ lv = .int .i64 (lf (t0 xs) (t1 xs) (t2 xs) n t (o k)) ∧ OwnI wr (w.heap.size + 1) (some ⟨gs, 0, none⟩) 200 200 (tab 200 (wmid (t0 xs) (t1 xs) (t2 xs) n o k t)) ∧ OwnI wr (w.heap.size + 1) (some ⟨gd, 0, none⟩) n n (tab n (dmid (t0 xs) (t1 xs) (t2 xs) n o k t)) ∧ OwnI wr w2.heap.size (some ⟨go_, 0, none⟩) n d (tab n fun k => (o k : Int)) ∧ Below (w.heap.size + 1) W0 wr) (fun _ tv _ => 200 - (intOf tv).toNat)
          case atStart => exact ⟨ta, Nat.le_refl _, by omega, rfl, by rw [HEA.out.1], osm, odm, oq, hb⟩
          case round =>
            clear osm odm oq hb xb cq c0 c1
            obtain ⟨t, hta, ht, rfl, rfl, os, od, oq, hb⟩ := hrel
            have hl := lf_bd (A := t0 xs) (D := t2 xs) HW.out t (o k) hok
            have HEX := Lib.hid (fun hh => mid_end (A := t0 xs) (W := t1 xs) (D := t2 xs) HO.out hkn ht hh)
            by_cases ht2 : t < 200
            · obtain ⟨lv, hlv⟩ : ∃ lv, lf (t0 xs) (t1 xs) (t2 xs) n t (o k) = lv := ⟨_, rfl⟩
              rw [hlv] at hl
              have HLV := Lib.hid hlv
              clear hlv
              rw [HLV.out]
              have ql : decide ((t : Int) < 200) = true := by simp; omega
              by_cases hl0 : 0 < lv
              · have q2 : decide (0 < lv) = true := by simp; omega
                have c5 := os.at (j := t) ht2
                rw [gi_tab ht2] at c5
                have e5 : wmid (t0 xs) (t1 xs) (t2 xs) n o k t t = wrk (t0 xs) (t1 xs) (t2 xs) n o k t := by unfold wmid; rw [if_neg (Nat.lt_irrefl _)]
                rw [e5] at c5
                have hcd : cand (t0 xs) (lf (t0 xs) (t1 xs) (t2 xs) n t) t (o k) := ⟨by rw [HTA.out]; omega, by rw [HLV.out]; exact hl0⟩
                by_cases hw : wrk (t0 xs) (t1 xs) (t2 xs) n o k t < 0
                · have hpk := wrk_neg HO.out hkn hw hcd
                  have q3 : ¬ (0 ≤ wrk (t0 xs) (t1 xs) (t2 xs) n o k t) := by omega
                  have HLS := Lib.hid (show lf (t0 xs) (t1 xs) (t2 xs) n (t + 1) (o k) = lv - 1 by rw [lf_succ, if_pos hpk, HLV.out])
                  have c6 := od.at (j := o k) hok
                  have f5 := os.free t
                  have f6 := od.free (o k)
                  have hg5 := os.blk
                  have hg6 := od.blk
                  have hne' : ¬ gd = gs := fun e => hne e.symm
                  have hgo1 : go_ ≠ gs := by have := oq.blk; omega
                  have hgo2 : go_ ≠ gd := by have := oq.blk; omega
                  have P5 := os.put t (o k : Int) (z' := wmid (t0 xs) (t1 xs) (t2 xs) n o k (t + 1)) (fun s hs => by
                    by_cases e : s = t
                    · subst e; rw [if_pos rfl]; unfold wmid; rw [if_pos (Nat.lt_succ_self _)]; exact (wrk_hit hpk).symm
                    · rw [if_neg e]; unfold wmid
                      by_cases e2 : s < t
                      · rw [if_pos e2, if_pos (by omega)]
                      · rw [if_neg e2, if_neg (by omega)])
                  have P6 := od.far (g' := gs) (j := t) (v := .int .i64 (o k : Int)) (fun e => hne e.symm)
                  have PO := oq.far (g' := gs) (j := t) (v := .int .i64 (o k : Int)) hgo1
                  have PB := hb.setCell (p := ⟨gs, t, none⟩) hg5.1 (.int .i64 (o k : Int))
                  generalize wrk (t0 xs) (t1 xs) (t2 xs) n o k t = wv at *
                  by_cases hz : lv = 1
                  · have hd : (lv - 1 == 0) = true := by simp; omega
                    have HZ := Lib.hid (show lf (t0 xs) (t1 xs) (t2 xs) n (t + 1) (o k) = 0 by rw [HLS.out, hz]; rfl)
                    have HPK := Lib.hid hpk
                    have P6' := P6.put (o k) ((t : Int) + 1) (z' := dmid (t0 xs) (t1 xs) (t2 xs) n o k (t + 1)) (fun x hx => by
                      by_cases e : x = o k
                      · subst e; rw [if_pos rfl]; unfold dmid; rw [if_pos rfl, dn_succ, if_pos ⟨HPK.out, HZ.out⟩]
                      · rw [if_neg e]; unfold dmid; rw [if_neg e, if_neg e])
                    have P5' := P5.far (g' := gd) (j := o k) (v := .int .i64 ((t : Int) + 1)) hne
                    have PO' := PO.far (g' := gd) (j := o k) (v := .int .i64 ((t : Int) + 1)) hgo2
                    have PB' := PB.setCell (p := ⟨gd, o k, none⟩) hg6.1 (.int .i64 ((t : Int) + 1))
                    clear hz hpk hcd e5
                    go_wp2
                    go_roundw
                    case rel => exact ⟨t + 1, by omega, by omega, by go_num, by rw [HLS.out], P5', P6', PO', PB'⟩
                    case measure => simp [intOf]; omega
                  · have hd : (lv - 1 == 0) = false := by simp; omega
                    have HZ := Lib.hid (show ¬ lf (t0 xs) (t1 xs) (t2 xs) n (t + 1) (o k) = 0 by rw [HLS.out]; omega)
                    have P6' := P6.to (z' := dmid (t0 xs) (t1 xs) (t2 xs) n o k (t + 1)) (fun x hx => by
                      unfold dmid
                      by_cases e : x = o k
                      · rw [if_pos e, if_pos e, dn_succ, if_neg (fun h => HZ.out (by have := h.2; rw [e] at this; exact this))]
                      · rw [if_neg e, if_neg e])
                    clear hz hpk hcd e5
                    go_wp2
                    go_roundw
                    case rel => exact ⟨t + 1, by omega, by omega, by go_num, by rw [HLS.out], P5, P6', PO, PB⟩
                    case measure => simp [intOf]; omega
                · have hpk := wrk_pos HO.out hkn hw
                  have q3 : 0 ≤ wrk (t0 xs) (t1 xs) (t2 xs) n o k t := by omega
                  have HLS := Lib.hid (show lf (t0 xs) (t1 xs) (t2 xs) n (t + 1) (o k) = lv by rw [lf_succ, if_neg hpk, HLV.out])
                  have P5 := os.to (z' := wmid (t0 xs) (t1 xs) (t2 xs) n o k (t + 1)) (fun s hs => by
                    unfold wmid
                    by_cases e2 : s < t
                    · rw [if_pos e2, if_pos (by omega)]
                    · rw [if_neg e2]
                      by_cases e : s = t
                      · subst e; rw [if_pos (Nat.lt_succ_self _)]; exact (wrk_other hpk).symm
                      · rw [if_neg (by omega)])
                  have P6 := od.to (z' := dmid (t0 xs) (t1 xs) (t2 xs) n o k (t + 1)) (fun x hx => by
                    unfold dmid
                    by_cases e : x = o k
                    · rw [if_pos e, if_pos e, dn_succ, if_neg (fun h => hpk (by have := h.1; rw [e] at this; exact this))]
                    · rw [if_neg e, if_neg e])
                  generalize wrk (t0 xs) (t1 xs) (t2 xs) n o k t = wv at *
                  clear hpk hcd e5
                  go_wp2
                  go_roundw
                  case rel => exact ⟨t + 1, by omega, by omega, by go_num, by rw [HLS.out], P5, P6, oq, hb⟩
                  case measure => simp [intOf]; omega
              · have q2 : decide (0 < lv) = false := by simp; omega
                have hz : lf (t0 xs) (t1 xs) (t2 xs) n t (o k) = 0 := by rw [HLV.out]; omega
                have R5 := os.to (fun j hj => (HEX.out (.inr hz)).1 j hj)
                have R6 := od.to (fun j _ => (HEX.out (.inr hz)).2 j)
                clear hz
                go_wp2
                go_roundw
                case rel => exact ⟨k + 1, by omega, by go_num, R5, R6, oq, hb⟩
                case measure => simp [intOf]; omega
            · obtain rfl : t = 200 := by omega
              have R5 := os.to (fun j hj => (HEX.out (.inl (Nat.le_refl _))).1 j hj)
              have R6 := od.to (fun j _ => (HEX.out (.inl (Nat.le_refl _))).2 j)
              generalize lf (t0 xs) (t1 xs) (t2 xs) n 200 (o k) = lv at *
              go_wp2
              go_roundw
              case rel => exact ⟨k + 1, by omega, by go_num, R5, R6, oq, hb⟩
              case measure => simp [intOf]; omega
        · obtain rfl : n = k := by omega
          have R5 := os.to (z' := pk (t0 xs) (t1 xs) (t2 xs) n) (fun j _ => wrk_all HO.out)
          have R6 := od.to (z' := dn (t0 xs) (t1 xs) (t2 xs) n 200) (fun j hj => dnk_all HO.out hj)
          have RB := Below.trans hb0 (hb.mono (Nat.le_succ _))
          clear os od oq hb
          go_wp2
          go_loopw [12] (fun mv wz => ∃ m : Nat, m ≤ 200 ∧ mv = .int .i64 m ∧ Hid (∀ s, m ≤ s → s < 200 → pk (t0 xs) (t1 xs) (t2 xs) n s < 0) ∧ wz = wr) (fun mv _ => (intOf mv).toNat)
          case atStart => exact ⟨200, Nat.le_refl _, rfl, Lib.hid (fun s h1 h2 => by omega), rfl⟩
          case round =>
            obtain ⟨m, hm2, rfl, HM, rfl⟩ := hrel
            by_cases hm0 : 0 < m
            · have c5 := R5.at (j := m - 1) (by omega)
              rw [gi_tab (by omega)] at c5
              have q1 : decide ((0 : Int) < (m : Int)) = true := by simp; omega
              have q2 : ((m : Int) - 1).toNat = m - 1 := by omega
              have q3 : 0 ≤ (m : Int) - 1 := by omega
              by_cases hp : pk (t0 xs) (t1 xs) (t2 xs) n (m - 1) < 0
              · have HM2 := Lib.hid (fun s (h1 : m - 1 ≤ s) (h2 : s < 200) => (by
                  by_cases e : s = m - 1
                  · rw [e]; exact hp
                  · exact HM.out s (by omega) h2 : pk (t0 xs) (t1 xs) (t2 xs) n s < 0))
                generalize pk (t0 xs) (t1 xs) (t2 xs) n (m - 1) = pv at *
                go_wp2
                go_roundw
                case rel => exact ⟨m - 1, by omega, by go_num, HM2, by trivial⟩
                case measure => simp [intOf]; omega
              · have HBZ := Lib.hid (bz_is (A := t0 xs) (W := t1 xs) (D := t2 xs) (n := n) hm2 (.inr hp) HM.out)
                have RS := R5.si.take hm2
                rw [tab_take hm2] at RS
                generalize pk (t0 xs) (t1 xs) (t2 xs) n (m - 1) = pv at *
                go_wp2
                go_ret2
                refine ⟨some ⟨gs, 0, none⟩, 200, some ⟨gd, 0, none⟩, n, by rw [HBZ.out]; rfl, ?_, R6.si, RB⟩
                rw [HBZ.out]; exact RS
            · obtain rfl : m = 0 := by omega
              have HBZ := Lib.hid (bz_is (A := t0 xs) (W := t1 xs) (D := t2 xs) (n := n) hm2 (.inl rfl) HM.out)
              have RS := R5.si.take hm2
              rw [tab_take hm2] at RS
              go_wp2
              go_ret2
              refine ⟨some ⟨gs, 0, none⟩, 200, some ⟨gd, 0, none⟩, n, by rw [HBZ.out]; rfl, ?_, R6.si, RB⟩
              rw [HBZ.out]; exact RS
end Go.Proofs.Ytgnegemiiahkaaa
