/- The contracts of the document's world: headref.World's Tick. Conditions: at most 8 peers, and what holds of a peer. -/
import Derived.Test.YtgbccpfehcjhbaaGreatDoorM15
namespace Go.Proofs.YtgbccpfehcjhbaaGreatDoor
open Go Go.RowKit
set_option linter.unusedVariables false
set_option linter.unusedSimpArgs false

/-- a region whose orders all end alike is gone on from once -/
theorem region_merge {P : Program} {id : Nat} {ops : Array Oper} {a : Act} {w : World} {Q : Exit → Act → World → Prop} {A : Act} {W : World} (h1 : ∀ Q' : Exit → Act → World → Prop, Q' .normal A W → (Code.region id ops true).wp P Q' a w) (h2 : Q .normal A W) : (Code.region id ops true).wp P Q a w := h1 Q h2
theorem Only.high {a b : World} {g h g' j : Nat} {v : Value} (x : Only a b g h) (hg : a.heap.size ≤ g') : Only a (b.setCell ⟨g', j, none⟩ v) g h :=
  ⟨by have := x.size; simpa using this, fun k h1 h2 h3 => (Below.heap_setCell _ _ _ _ (fun e => by simp only at e; omega)).trans (x.same k h1 h2 h3)⟩
theorem WorldAt.upd3 {w : World} {T : TypeId} {B g h : Nat} {rate unit : Int} {n : Nat} {L : List Peer} {t : Nat} (k : WorldAt w T B g h rate unit n L t) {i : Nat} (hi : i < n) (x : Peer) :
    WorldAt (((w.setCell ⟨h, i * 3, none⟩ (.int .i64 x.1)).setCell ⟨h, i * 3 + 1, none⟩ (.int .i64 x.2.1)).setCell ⟨h, i * 3 + 2, none⟩ (.bool x.2.2)) T B g h rate unit n (L.set i x) t := by
  have hl := k.own.len
  have k1 := k.upd (f := 0) (x := (x.1, pp L i, pd L i)) (v := .int .i64 x.1) hi (by omega) rfl
  have k2 := k1.upd (f := 1) (x := (x.1, x.2.1, pd L i)) (v := .int .i64 x.2.1) hi (by omega) (by rw [ge_set i (by omega), if_pos rfl]; rfl)
  have k3 := k2.upd (f := 2) (x := x) (v := .bool x.2.2) hi (by omega) (by rw [ge_set i (by simp; omega), if_pos rfl]; rfl)
  exact k3.to (by simp only [List.set_set]) rfl
theorem mod_succ (t k n : Nat) : ((t + k) % n + 1) % n = (t + (k + 1)) % n := by rw [← Nat.add_assoc, Nat.mod_add_mod]
theorem mod_full {t n : Nat} (h : t < n) : (t + n) % n = t := by rw [Nat.add_mod_right, Nat.mod_eq_of_lt h]

set_option maxRecDepth 100000 in
set_option maxHeartbeats 1600000 in
theorem ref_Tick {w : World} {T : TypeId} {B g h : Nat} {rate n t : Nat} {unit : Int} {L : List Peer} (k : WorldAt w T B g h rate unit n L t) (hn : 1 ≤ n ∧ n ≤ 8) (ht : t < n) (hG : GoodL L) (hr : rate ≤ 1000) (hu : 1 ≤ unit ∧ unit ≤ 1000) (hBw : B ≤ w.heap.size) :
    Calls Tryz.prog 45 #[.pointer (some ⟨g, 0, none⟩)] w fun e w' => e = .returned (.int .i64 (tickR unit (L, t) rate : Nat)) ∧ WorldAt w' T B g h rate unit n (runW unit (L, t) rate).1 (runW unit (L, t) rate).2 ∧ Below B w w' ∧ Only w w' g h := by
  obtain ⟨c0, c1, c2, c3, f3, hg, hh, hB, hl⟩ := k.cells
  have HL := Lib.hid hl
  have HG := Lib.hid hG
  have HT := Lib.hid (show t < (L, t).1.length by show t < L.length; omega)
  clear hl c0 c1 c2 c3 f3 hG
  go_enter Tryz.func45, Tryz.ntmps45
  go_wp2
  go_loopw [3] (fun i wr => ∃ m : Nat, m ≤ rate ∧ i = .int .i64 m ∧ Hid (∀ j, j < m → stuckW (runW unit (L, t) j) = false) ∧ WorldAt wr T B g h rate unit n (runW unit (L, t) m).1 (runW unit (L, t) m).2 ∧ Below B w wr ∧ B ≤ wr.heap.size ∧ Only w wr g h) (fun i _ => rate - (intOf i).toNat)
  case atStart => exact ⟨0, Nat.zero_le _, rfl, Lib.hid (fun j hj => by omega), k, Below.refl _ _, hBw, Only.refl _ _ _⟩
  case round =>
    clear k hg hh
    obtain ⟨m, hm, rfl, HJ, K, hb, hsz, hO⟩ := hrel
    obtain ⟨c0, c1, c2, c3, f3, hg, hh, hB, _⟩ := K.cells
    by_cases hmr : m < rate
    · have hlm := runW_len (u := unit) (s := (L, t)) m
      have hSt : Hid (runW unit (L, t) (m + 1) = stepW unit (runW unit (L, t) m)) := Lib.hid rfl
      have hGm := runW_good (u := unit) (s := (L, t)) HG.out m
      have hTm := runW_turn (u := unit) (s := (L, t)) HT.out m
      have HST := Lib.hid (show ∀ (h : stuckW (runW unit (L, t) m) = true), tickR unit (L, t) rate = m ∧ runW unit (L, t) rate = runW unit (L, t) m from fun h => by
        refine ⟨fstP_one ⟨hm, HJ.out, fun _ => h⟩, ?_⟩
        have := runW_stuck h (rate - m)
        rwa [show m + (rate - m) = rate by omega] at this)
      obtain ⟨s, hs⟩ : ∃ s, runW unit (L, t) m = s := ⟨_, rfl⟩
      have HRM := Lib.hid hs
      rw [hs] at K hlm hSt hGm hTm HST c3
      clear hs
      obtain ⟨M, tm⟩ := s
      have hlM : M.length = n := by rw [← HL.out]; exact hlm
      have htm : tm < n := by rw [← hlM]; exact hTm
      clear hlm hTm
      have HLM := Lib.hid hlM
      have HGM := Lib.hid hGm
      have hnx := nx_le M tm
      rw [hlM] at hnx
      clear hlM hGm
      go_wp2
      go_loopw [4] (fun kv wr => ∃ k : Nat, k ≤ nx M tm ∧ kv = .int .i64 k ∧ WorldAt wr T B g h rate unit n M ((tm + k) % n) ∧ Below B w wr ∧ B ≤ wr.heap.size ∧ Only w wr g h) (fun kv _ => n - (intOf kv).toNat)
      case atStart => exact ⟨0, Nat.zero_le _, rfl, K.to rfl (by rw [Nat.add_zero, Nat.mod_eq_of_lt htm]), hb, hsz, hO⟩
      case round =>
        clear K hb hsz hO c0 c1 c2 c3 f3 hg hh
        obtain ⟨k, hk, rfl, K, hb, hsz, hO⟩ := hrel
        obtain ⟨c0, c1, c2, c3, f3, hg, hh, _, _⟩ := K.cells
        have hin : (tm + k) % n < n := Nat.mod_lt _ (by omega)
        obtain ⟨e0, e1, e2⟩ := cellsP K.own hin
        by_cases hkx : k < nx M tm
        · have hpd : pd M ((tm + k) % n) = true := by rw [← HLM.out]; exact nx_before hkx
          rw [hpd] at e2
          have HMS := Lib.hid (mod_succ tm k n)
          have q1 : Int.tmod ((((tm + k) % n : Nat) : Int) + 1) (n : Int) = (((tm + (k + 1)) % n : Nat) : Int) := by
            rw [← HMS.out, Int.tmod_eq_emod_of_nonneg (by omega)]; simp
          have KN := fun s : Nat => (K.drewN s).turnTo ((tm + (k + 1)) % n)
          have BN := fun (s : Nat) (v : Value) => (below_drewN hb s).setCell (p := ⟨g, 3, none⟩) K.bg v
          have ON := fun (s : Nat) (v : Value) => (hO.drewN s).set (j := 3) (v := v) (.inl rfl)
          clear hpd
          obtain ⟨i2, hi2⟩ : ∃ i2, (tm + (k + 1)) % n = i2 := ⟨_, rfl⟩
          rw [hi2] at q1 KN HMS
          have HI2 := Lib.hid hi2
          clear hi2
          generalize (tm + k) % n = i at *
          have hne : ¬ k = n := by omega
          go_wp2
          go_quiet (fail)
          go_wp2
          go_big_region
          go_wp2
          go_roundw
          case rel => exact ⟨k + 1, by omega, by go_num, (KN _).to rfl HI2.out.symm, BN _ _, by simp; exact hsz, ON _ _⟩
          case measure => simp [intOf]; omega
        · obtain rfl : nx M tm = k := by omega
          by_cases hx : nx M tm < n
          · have HW : Hid ((tm + nx M tm) % n = who (M, tm)) := Lib.hid (by unfold who; rw [HLM.out])
            have HSN := Lib.hid (show stepW unit (M, tm) = (M.set (who (M, tm)) (putW unit (ge M (who (M, tm)))), (who (M, tm) + 1) % n) by unfold stepW; rw [if_pos (by rw [HLM.out]; exact hx), HLM.out])
            have HNS : Hid (stuckW (M, tm) = false) := Lib.hid (by show decide (nx M tm = M.length) = false; rw [HLM.out]; exact decide_eq_false (by omega))
            have HPF : Hid (pd M ((tm + nx M tm) % n) = false) := Lib.hid (by have := nx_at (L := M) (t := tm) (by rw [HLM.out]; exact hx); rwa [HLM.out] at this)
            obtain ⟨i, hi⟩ : ∃ i, (tm + nx M tm) % n = i := ⟨_, rfl⟩
            rw [hi] at K c3 hin e0 e1 e2 HW HPF
            clear hi hkx hk hnx
            obtain ⟨g1, g2, g3, g4⟩ := HGM.out i (by rw [HLM.out]; exact hin)
            have HQ2 := Lib.hid (show Int.tmod ((i : Int) + 1) (n : Int) = (((i + 1) % n : Nat) : Int) by
              rw [Int.tmod_eq_emod_of_nonneg (by omega)]; simp)
            have q1 := HQ2.out
            obtain ⟨f0, f1, f2⟩ := freeP K.own i
            rw [HPF.out] at e2
            change 0 ≤ pp M i at g1
            change pp M i < pl M i ∨ (pl M i = 0 ∧ pp M i = 0) at g2
            change pd M i = decide (pl M i = 0) at g3
            change pl M i ≤ 1000000 at g4
            rw [HPF.out] at g3
            have g5 : ¬ pl M i = 0 := of_decide_eq_false g3.symm
            have g6 : pp M i < pl M i := by omega
            clear g2 g3 g5 hx
            obtain ⟨q, hq⟩ : ∃ q, pp M i + 1 = q := ⟨_, rfl⟩
            have HJN := Lib.hid (show ∀ j, j < m + 1 → stuckW (runW unit (L, t) j) = false from fun j hj => by
              rcases Nat.lt_succ_iff_lt_or_eq.1 hj with h | rfl
              · exact HJ.out j h
              · rw [← HRM.out] at HNS; exact HNS.out)
            have HPUT : Hid (runW unit (L, t) (m + 1) = (M.set i (putW unit (pl M i, pp M i, false)), (i + 1) % n)) := Lib.hid (by
              rw [hSt.out, HSN.out, ← HW.out]
              have e : ge M i = (pl M i, pp M i, false) := by rw [← HPF.out]; rfl
              rw [e])
            have hq1 : 0 ≤ q := by omega
            have hq2 : q ≤ 1000000 := by omega
            have hq3 : q ≤ pl M i := by omega
            have HQ := Lib.hid hq
            generalize nx M tm = k at *
            generalize (i + 1) % n = i2 at *
            go_wp2
            go_quiet (fail)
            have hZ := (below_drewN (Below.refl wr.heap.size wr) (nq + 1)).alloc (Nat.le_refl _) (.cells #[.int .i64 0, .int .i64 0, .bool false] 67)
            have a2 := (bdeep hZ hg 2).trans c2
            have a3 := (bdeep hZ hg 3).trans c3
            have x0 := (bdeep hZ hh (i * 3)).trans e0
            have x1 := (bdeep hZ hh (i * 3 + 1)).trans e1
            have x2 := (bdeep hZ hh (i * 3 + 2)).trans e2
            have hnb := blk_new (wr.drewN (nq + 1)) #[.int .i64 0, .int .i64 0, .bool false] 67
            have z0 : ((wr.drewN (nq + 1)).alloc (.cells #[.int .i64 0, .int .i64 0, .bool false] 67)).cell? ⟨wr.heap.size, 0, none⟩ = some (.int .i64 0) := blk_cell hnb 0
            have y0 : ((wr.drewN (nq + 1)).alloc (.cells #[.int .i64 0, .int .i64 0, .bool false] 67)).frozen? ⟨wr.heap.size, 0, none⟩ = false := blk_free hnb 0
            have y1 : ((wr.drewN (nq + 1)).alloc (.cells #[.int .i64 0, .int .i64 0, .bool false] 67)).frozen? ⟨wr.heap.size, 1, none⟩ = false := blk_free hnb 1
            have y2 : ((wr.drewN (nq + 1)).alloc (.cells #[.int .i64 0, .int .i64 0, .bool false] 67)).frozen? ⟨wr.heap.size, 2, none⟩ = false := blk_free hnb 2
            have z1 : ((wr.drewN (nq + 1)).alloc (.cells #[.int .i64 0, .int .i64 0, .bool false] 67)).cell? ⟨wr.heap.size, 1, none⟩ = some (.int .i64 0) := blk_cell hnb 1
            have z2 : ((wr.drewN (nq + 1)).alloc (.cells #[.int .i64 0, .int .i64 0, .bool false] 67)).cell? ⟨wr.heap.size, 2, none⟩ = some (.bool false) := blk_cell hnb 2
            have HZ := Lib.hid hZ
            have HNB := Lib.hid hnb
            clear hZ hnb
            go_wp2
            go_big_region
            go_wp2
            clear a2 a3 x0 x1 x2 z0 z1 z2 y0 y1 y2
            have HX : Hid (((((((wr.drewN (nq + 1)).alloc (.cells #[.int .i64 0, .int .i64 0, .bool false] 67)).setCell ⟨wr.heap.size, 0, none⟩ (.int .i64 (pl M i))).setCell ⟨wr.heap.size, 1, none⟩ (.int .i64 (pp M i))).setCell ⟨wr.heap.size, 2, none⟩ (.bool false)).setCell ⟨wr.heap.size, 1, none⟩ (.int .i64 q)).heap[wr.heap.size]? = some (.cells #[.int .i64 (pl M i), .int .i64 q, .bool false] 67 (0, 0))) := Lib.hid (by
              simpa using blk_set (j := 1) (v := .int .i64 q) (blk_set (j := 2) (v := .bool false) (blk_set (j := 1) (v := .int .i64 (pp M i)) (blk_set (j := 0) (v := .int .i64 (pl M i)) HNB.out))))
            have HB6 := Lib.hid ((((HZ.out.setCell (p := ⟨wr.heap.size, 0, none⟩) (Nat.le_refl _) (.int .i64 (pl M i))).setCell (p := ⟨wr.heap.size, 1, none⟩) (Nat.le_refl _) (.int .i64 (pp M i))).setCell (p := ⟨wr.heap.size, 2, none⟩) (Nat.le_refl _) (.bool false)).setCell (p := ⟨wr.heap.size, 1, none⟩) (Nat.le_refl _) (.int .i64 q))
            obtain ⟨W6, hW6⟩ : ∃ W6, W6 = ((((((wr.drewN (nq + 1)).alloc (.cells #[.int .i64 0, .int .i64 0, .bool false] 67)).setCell ⟨wr.heap.size, 0, none⟩ (.int .i64 (pl M i))).setCell ⟨wr.heap.size, 1, none⟩ (.int .i64 (pp M i))).setCell ⟨wr.heap.size, 2, none⟩ (.bool false)).setCell ⟨wr.heap.size, 1, none⟩ (.int .i64 q)) := ⟨_, rfl⟩
            rw [← hW6] at HX HB6 ⊢
            clear hW6 HZ HNB
            have K6 := K.below HB6.out
            have b6 := hb.trans (HB6.out.mono hsz)
            have s6 := b6.size
            have o6 := hO.below HB6.out
            have hlt6 : wr.heap.size < W6.heap.size := (Array.getElem?_eq_some_iff.1 HX.out).1
            have hs5 := hO.size
            have hnb := hb.size
            clear K hb hO HB6 c0 c1 c2 c3 f3 e0 e1 e2 f0 f1 f2
            generalize wr.heap.size = b5 at *
            have hgb5 : g ≠ b5 := by omega
            have hhb5 : h ≠ b5 := by omega
            have hbg5 : b5 ≠ g := by omega
            have hbh5 : b5 ≠ h := by omega
            have hne := K6.ne
            have hne2 : h ≠ g := fun e => hne e.symm
            obtain ⟨z0, z1, z2⟩ := freeP K6.own i
            have hBg := K6.bg
            obtain ⟨_, c1, c2, c3, f3, _⟩ := K6.cells
            obtain ⟨⟨x0, x1, x2⟩, y0, y1, y2⟩ := blk3 HX.out
            by_cases hc : q = unit ∨ q = pl M i
            · have HRES := Lib.hid (show runW unit (L, t) (m + 1) = (M.set i (pl M i - q, 0, (pl M i - q == 0)), i2) by
                rw [HPUT.out]; unfold putW; simp only; rw [HQ.out, if_pos hc]; rfl)
              have HB := Lib.hid (show (q == unit) = true ∨ ((q == unit) = false ∧ (q == pl M i) = true) by
                by_cases h1 : q = unit
                · left; simp [h1]
                · right; exact ⟨by simp [h1], by rcases hc with h2 | h2; exact absurd h2 h1; simp [h2]⟩)
              clear hc HPUT
              rcases HB.out with hb1 | ⟨hb1, hb3⟩
              all_goals
                go_wp2
                go_quiet (fail)
                go_wp2
                have HX7 : Hid ((((((W6.drewN nq).setCell ⟨b5, 0, none⟩ (.int .i64 (pl M i - q))).setCell ⟨b5, 1, none⟩ (.int .i64 0)).setCell ⟨b5, 2, none⟩ (.bool false)).setCell ⟨b5, 2, none⟩ (.bool (pl M i - q == 0))).heap[b5]? = some (.cells #[.int .i64 (pl M i - q), .int .i64 0, .bool (pl M i - q == 0)] 67 (0, 0))) := Lib.hid (by
                  simpa using blk_set (j := 2) (v := .bool (pl M i - q == 0)) (blk_set (j := 2) (v := .bool false) (blk_set (j := 1) (v := .int .i64 0) (blk_set (j := 0) (v := .int .i64 (pl M i - q)) (w := W6.drewN nq) HX.out))))
                have O67 := Lib.hid ((((((Only.refl W6 b5 b5).drewN nq).set (j := 0) (v := .int .i64 (pl M i - q)) (.inl rfl)).set (j := 1) (v := .int .i64 0) (.inl rfl)).set (j := 2) (v := .bool false) (.inl rfl)).set (j := 2) (v := .bool (pl M i - q == 0)) (.inl rfl))
                have b7 := ((((below_drewN b6 nq).setCell (p := ⟨b5, 0, none⟩) hsz (.int .i64 (pl M i - q))).setCell (p := ⟨b5, 1, none⟩) hsz (.int .i64 0)).setCell (p := ⟨b5, 2, none⟩) hsz (.bool false)).setCell (p := ⟨b5, 2, none⟩) hsz (.bool (pl M i - q == 0))
                have o7 := ((((o6.drewN nq).high (j := 0) (v := .int .i64 (pl M i - q)) hs5).high (j := 1) (v := .int .i64 0) hs5).high (j := 2) (v := .bool false) hs5).high (j := 2) (v := .bool (pl M i - q == 0)) hs5
                obtain ⟨W7, hW7⟩ : ∃ W7, W7 = (((((W6.drewN nq).setCell ⟨b5, 0, none⟩ (.int .i64 (pl M i - q))).setCell ⟨b5, 1, none⟩ (.int .i64 0)).setCell ⟨b5, 2, none⟩ (.bool false)).setCell ⟨b5, 2, none⟩ (.bool (pl M i - q == 0))) := ⟨_, rfl⟩
                rw [← hW7] at HX7 O67 b7 o7 ⊢
                clear hW7
                have K7 := K6.only O67.out hgb5 hgb5 hhb5 hhb5
                have s7 := b7.size
                clear K6 b6 o6 O67 c1 c2 c3 f3 x0 x1 x2 y0 y1 y2 HX z0 z1 z2
                obtain ⟨z0, z1, z2⟩ := freeP K7.own i
                obtain ⟨e0, e1, e2⟩ := cellsP K7.own hin
                obtain ⟨_, _, c2, c3, f3, _⟩ := K7.cells
                obtain ⟨⟨x0, x1, x2⟩, y0, y1, y2⟩ := blk3 HX7.out
                generalize pl M i - q = v at *
                go_big_region
                go_wp2
                go_big_region
                go_wp2
                go_roundw
                case rel => exact ⟨m + 1, by omega, by go_num, HJN, ((((K7.upd3 hin (v, 0, v == 0)).turnTo i2).drew).drew).to (by rw [HRES.out]) (by rw [HRES.out]), Below.drew (Below.drew (((((b7.setCell (p := ⟨h, i * 3, none⟩) hB _).setCell (p := ⟨h, i * 3 + 1, none⟩) hB _).setCell (p := ⟨h, i * 3 + 2, none⟩) hB _).setCell (p := ⟨g, 3, none⟩) hBg _))), by simp; exact Nat.le_trans hBw s7, ((((((o7.set (.inr rfl)).set (.inr rfl)).set (.inr rfl)).set (.inl rfl)).drewN 1).drewN 1)⟩
                case measure => simp [intOf]; omega
            · have HRES := Lib.hid (show runW unit (L, t) (m + 1) = (M.set i (pl M i, q, false), i2) by
                rw [HPUT.out]; unfold putW; simp only; rw [HQ.out, if_neg hc])
              have hb1 : (q == unit) = false := by simp; exact fun e => hc (.inl e)
              have hb3 : (q == pl M i) = false := by simp; exact fun e => hc (.inr e)
              obtain ⟨e0, e1, e2⟩ := cellsP K6.own hin
              clear hc HPUT
              go_wp2
              go_quiet (fail)
              go_wp2
              go_big_region
              go_wp2
              go_big_region
              go_wp2
              go_roundw
              case rel => exact ⟨m + 1, by omega, by go_num, HJN, (((((K6.drewN (nq + 1)).upd3 hin (pl M i, q, false)).turnTo i2).drew)).to (by rw [HRES.out]) (by rw [HRES.out]), Below.drew ((((((below_drewN b6 _).setCell (p := ⟨h, i * 3, none⟩) hB _).setCell (p := ⟨h, i * 3 + 1, none⟩) hB _).setCell (p := ⟨h, i * 3 + 2, none⟩) hB _).setCell (p := ⟨g, 3, none⟩) hBg _)), by simp; exact Nat.le_trans hBw s6, (((((((o6.drewN _).set (.inr rfl)).set (.inr rfl)).set (.inr rfl)).set (.inl rfl))).drewN 1)⟩
              case measure => simp [intOf]; omega
          · have hkn : nx M tm = n := by omega
            have HNS : Hid (stuckW (M, tm) = true) := Lib.hid (by show decide (nx M tm = M.length) = true; rw [HLM.out]; exact decide_eq_true hkn)
            have hpd : pd M tm = true := by have := nx_before (L := M) (t := tm) (k := 0) (by omega); rwa [Nat.add_zero, HLM.out, Nat.mod_eq_of_lt htm] at this
            have hmf : (tm + nx M tm) % n = tm := by rw [hkn]; exact mod_full htm
            rw [hmf] at K c3 e0 e1 e2
            rw [hpd] at e2
            have KR := K.to (L' := (runW unit (L, t) rate).1) (t' := (runW unit (L, t) rate).2) (by rw [(HST.out HNS.out).2]) (by rw [(HST.out HNS.out).2])
            clear K hmf hpd hin
            rw [hkn]
            go_wp2
            go_quiet (fail)
            go_wp2
            go_ret
            exact ⟨ret_int (by rw [(HST.out HNS.out).1]), KR.drewN _, below_drewN hb _, hO.drewN _⟩
    · obtain rfl : rate = m := by omega
      have HR := Lib.hid (show tickR unit (L, t) rate = rate from fstP_one ⟨Nat.le_refl _, HJ.out, fun h => absurd h (Nat.lt_irrefl _)⟩)
      go_wp2
      go_ret
      exact ⟨ret_int (by rw [HR.out]), K, hb, hO⟩
end Go.Proofs.YtgbccpfehcjhbaaGreatDoor

/- The contracts of headref.World's Append, of slices.Equal at []api.Peer and of headlaw.at. Conditions: what each theorem says. -/
namespace Go.Proofs.YtgbccpfehcjhbaaGreatDoor
open Go Go.RowKit
set_option linter.unusedVariables false
set_option linter.unusedSimpArgs false

theorem neq_Peer (a b : Int) (d : Bool) (w : World) : (binOp .neq 67 (.agg #[.int .i64 a, .int .i64 b, .bool d]) (.agg #[.int .i64 a, .int .i64 b, .bool d])).run Tryz.prog w = .ok (.bool false) w := by
  have u3 := Tryz.underlying3
  have a3 := Tryz.isAgg3
  have z3 := Tryz.sizeOf3
  have u4 := Tryz.underlying4
  have a4 := Tryz.isAgg4
  have z4 := Tryz.sizeOf4
  have hS : Tryz.prog.underlying 67 = some (.struct (Tryz.prog.fieldsOf 67)) := by kernel_rfl
  have hp : Tryz.prog.stoodInHeld 67 = false := by kernel_rfl
  rw [run_neq_struct, show (10000 : Nat) = 9999 + 1 from rfl, run_equalIn_agg w 9999 67 _ _ hS hp]
  simp only [Program.fieldsOf, Tryz.underlying67]
  go_simp
set_option maxRecDepth 100000 in
set_option maxHeartbeats 800000 in
theorem ref_Append {w : World} {T : TypeId} {B g h : Nat} {rate unit a : Int} {n t : Nat} {L : List Peer} (k : WorldAt w T B g h rate unit n L t) (hn : n ≤ 8) (hG : GoodL L) (ha : -9223372036854775808 ≤ a ∧ a ≤ 9223372036854775807) (hBw : B ≤ w.heap.size) {r : Int} (hr : appErr L a = r) {M : List Peer} (hM : appL L a = M) :
    Calls Tryz.prog 44 #[.pointer (some ⟨g, 0, none⟩), .int .i64 a] w fun e w' => e = .returned (.int .i64 r) ∧ WorldAt w' T B g h rate unit n M t ∧ Below B w w' ∧ Only w w' g h := by
  obtain ⟨c0, c1, c2, c3, f3, hg, hh, hB, hl⟩ := k.cells
  have HL := Lib.hid hl
  have HR := Lib.hid hr
  have HM := Lib.hid hM
  have HG := Lib.hid hG
  clear hl hr hM c0 c1 c3 f3 hG
  by_cases h0 : a < 0
  · obtain rfl : r = 1 := by rw [← HR.out]; unfold appErr; rw [if_pos h0]
    obtain rfl : M = L := by rw [← HM.out]; unfold appL; rw [HR.out, if_neg (by omega)]
    go_enter Tryz.func44, Tryz.ntmps44
    go_wp2
    go_ret
    exact ⟨rfl, k, Below.refl _ _, Only.refl _ _ _⟩
  · go_enter Tryz.func44, Tryz.ntmps44
    go_wp2
    go_loopw [15] (fun i wr => ∃ j : Nat, j ≤ n ∧ i = .int .i64 j ∧ Hid (∀ x, x < j → ¬ 1000000 - pl L x < a) ∧ Below w.heap.size w wr) (fun i _ => n - (intOf i).toNat)
    case atStart => exact ⟨0, Nat.zero_le _, rfl, Lib.hid (fun x hx => by omega), Below.refl _ _⟩
    case round =>
      obtain ⟨j, hj, rfl, HJ, hb⟩ := hrel
      have K := k.below hb
      have hsz := hb.size
      by_cases hjn : j < n
      · obtain ⟨e0, e1, e2⟩ := cellsP K.own hjn
        obtain ⟨g1, g2, g3, g4⟩ := HG.out j (by rw [HL.out]; exact hjn)
        change 0 ≤ pp L j at g1
        change pp L j < pl L j ∨ (pl L j = 0 ∧ pp L j = 0) at g2
        change pl L j ≤ 1000000 at g4
        have g5 : 0 ≤ pl L j := by omega
        have hbA := hb.alloc hsz (.cells #[.int .i64 (pl L j), .int .i64 (pp L j), .bool (pd L j)] 67)
        have K2 := k.below hbA
        clear g2 g3
        by_cases hbig : 1000000 - pl L j < a
        · obtain rfl : r = 2 := by rw [← HR.out]; unfold appErr; rw [if_neg (by omega), if_pos ⟨j, by rw [HL.out]; exact hjn, hbig⟩]
          obtain rfl : M = L := by rw [← HM.out]; unfold appL; rw [HR.out, if_neg (by omega)]
          have hbB := hbA.mono hBw
          have hO := (Only.refl w g h).below hbA
          clear k K hb hbA
          go_wp2
          all_goals
            go_ret
            exact ⟨rfl, K2, hbB, hO⟩
        · clear K K2 hb
          go_wp2
          go_roundw
          case rel => exact ⟨j + 1, by omega, by go_num, Lib.hid (fun x hx => by rcases Nat.lt_succ_iff_lt_or_eq.1 hx with h | rfl; exact HJ.out x h; exact hbig), hbA⟩
          case measure => simp [intOf]; omega
      · obtain rfl : n = j := by omega
        have h00 : appErr L a = 0 := by
          unfold appErr
          rw [if_neg (by omega), if_neg (by rintro ⟨x, hx, hx2⟩; rw [HL.out] at hx; exact HJ.out x hx hx2)]
        obtain rfl : r = 0 := by rw [← HR.out]; exact h00
        have HM2 : Hid (M = tab n fun x => addP a (ge L x)) := Lib.hid (by rw [← HM.out]; unfold appL; rw [if_pos h00, HL.out])
        have hbB := hb.mono hBw
        have hO := (Only.refl w g h).below hb
        have hszB : B ≤ wr.heap.size := by omega
        obtain ⟨d0, d1, d2, d3, _, dg, dh, _, _⟩ := K.cells
        clear k hb hsz c2 h00 d0 d1 d3
        go_wp2
        go_loopw [31] (fun i wv => ∃ j : Nat, j ≤ n ∧ i = .int .i64 j ∧ WorldAt wv T B g h rate unit n (tab n fun x => if x < j then addP a (ge L x) else ge L x) t ∧ Below B w wv ∧ B ≤ wv.heap.size ∧ Only w wv g h) (fun i _ => n - (intOf i).toNat)
        case atStart => exact ⟨0, Nat.zero_le _, rfl, K.to (by simp only [Nat.not_lt_zero, if_false]; rw [← HL.out, tab_ge]) rfl, hbB, hszB, hO⟩
        case round =>
          rename_i wv
          clear K hbB hszB d2 dg dh hO
          obtain ⟨j, hj, rfl, K, hb, hsz, hO⟩ := hrel
          obtain ⟨d0, d1, d2, d3, _, dg, dh, _, _⟩ := K.cells
          by_cases hjn : j < n
          · obtain ⟨e0, e1, e2⟩ := cellsP K.own hjn
            obtain ⟨f0, f1, f2⟩ := freeP K.own j
            have hv : ge (tab n fun x => if x < j then addP a (ge L x) else ge L x) j = ge L j := by rw [ge_tab hjn, if_neg (Nat.lt_irrefl _)]
            rw [show pl (tab n fun x => if x < j then addP a (ge L x) else ge L x) j = pl L j by unfold pl; rw [hv]] at e0
            rw [show pp (tab n fun x => if x < j then addP a (ge L x) else ge L x) j = pp L j by unfold pp; rw [hv]] at e1
            rw [show pd (tab n fun x => if x < j then addP a (ge L x) else ge L x) j = pd L j by unfold pd; rw [hv]] at e2
            obtain ⟨g1, g2, g3, g4⟩ := HG.out j (by rw [HL.out]; exact hjn)
            change pl L j ≤ 1000000 at g4
            change 0 ≤ pp L j at g1
            change pp L j < pl L j ∨ (pl L j = 0 ∧ pp L j = 0) at g2
            change pd L j = decide (pl L j = 0) at g3
            have g5 : 0 ≤ pl L j := by omega
            have g6 : a ≤ 1000000 - pl L j := by have := HJ.out j hjn; omega
            have g7 : 0 ≤ a := by omega
            have HG3 := Lib.hid g3
            clear g2 g3
            have HTT := Lib.hid (show ∀ x : Peer, x = addP a (ge L j) → (tab n fun x => if x < j then addP a (ge L x) else ge L x).set j x = tab n fun x => if x < j + 1 then addP a (ge L x) else ge L x by
              rintro x rfl
              rw [tab_set]
              refine tab_congr fun x hx => ?_
              by_cases e : x = j
              · subst e; rw [if_pos rfl, if_pos (by omega)]
              · rw [if_neg e]; by_cases e2 : x < j
                · rw [if_pos e2, if_pos (by omega)]
                · rw [if_neg e2, if_neg (by omega)])
            have K1 := K.upd (f := 0) (x := (pl L j + a, pp L j, pd L j)) (v := .int .i64 (pl L j + a)) hjn (by omega) (by rw [hv]; rfl)
            have b1 := hb.setCell (p := ⟨h, j * 3, none⟩) hB (.int .i64 (pl L j + a))
            have o1 := hO.set (j := j * 3) (v := .int .i64 (pl L j + a)) (.inr rfl)
            by_cases hz : 0 < pl L j + a
            · have K3 := K1.upd (f := 2) (x := addP a (ge L j)) (v := .bool false) hjn (by omega) (by rw [ge_set j (by rw [tab_length]; exact hjn), if_pos rfl]; unfold addP; rw [show decide ((ge L j).1 + a = 0) = false from decide_eq_false (by change ¬ pl L j + a = 0; omega)]; rfl)
              have HT := Lib.hid (show ((tab n fun x => if x < j then addP a (ge L x) else ge L x).set j (pl L j + a, pp L j, pd L j)).set j (addP a (ge L j)) = tab n fun x => if x < j + 1 then addP a (ge L x) else ge L x by rw [List.set_set]; exact HTT.out _ rfl)
              have b2 := b1.setCell (p := ⟨h, j * 3 + 2, none⟩) hB (.bool false)
              have o2 := o1.set (j := j * 3 + 2) (v := .bool false) (.inr rfl)
              clear K hv K1
              go_wp2
              go_roundw
              case rel => exact ⟨j + 1, by omega, by go_num, K3.to HT.out rfl, b2, by simp; exact hsz, o2⟩
              case measure => simp [intOf]; omega
            · have HT := Lib.hid (HTT.out (pl L j + a, pp L j, pd L j) (by unfold addP; rw [HG3.out]; show (pl L j + a, pp L j, decide (pl L j = 0)) = (pl L j + a, pp L j, decide (pl L j + a = 0)); rw [show pl L j = 0 by omega, show a = 0 by omega]; rfl))
              clear K hv
              go_wp2
              go_roundw
              case rel => exact ⟨j + 1, by omega, by go_num, K1.to HT.out rfl, b1, by simp; exact hsz, o1⟩
              case measure => simp [intOf]; omega
          · obtain rfl : n = j := by omega
            have K2 := K.to (L' := M) (t' := t) (by rw [HM2.out]; exact tab_congr fun x hx => by rw [if_pos hx]) rfl
            clear K
            go_wp2
            go_ret
            exact ⟨rfl, K2, hb, hO⟩
end Go.Proofs.YtgbccpfehcjhbaaGreatDoor
