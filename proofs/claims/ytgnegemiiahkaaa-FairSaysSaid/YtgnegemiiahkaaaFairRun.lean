/- The contract of fair.Run (P42). Conditions: the packets and the weights are well formed. -/
import Derived.Test.YtgnegemiiahkaaaFairRunL
import Derived.StillTailTactics
namespace Go.Proofs.Ytgnegemiiahkaaa
open Go Go.RowKit
set_option linter.unusedVariables false
set_option linter.unusedSimpArgs false

set_option maxRecDepth 100000 in
set_option maxHeartbeats 25600000 in
theorem fair_Run_ok {w : World} {p q : Option Addr} {n c m d : Nat} {ws : List Int} {xs : List (Int × Int × Int)} (g : SI w p n c ws) (h : S3 w q m d xs) (he : fairErr ws xs = 0) :
    Calls Try.prog 17 #[.slice p n c, .slice q m d] w fun e w' => ∃ qo dd, e = .returned (.tuple #[.slice qo m dd, .int .i64 0]) ∧ OwnI w' w.heap.size qo m dd (ordL (runF (pkOf ws xs) m)) ∧ Below w.heap.size w w' := by
  have hn8 : n = 8 := by rw [← g.len]; exact (fair_ok he).1
  subst hn8
  have gm := g.2.1
  have hm := h.2.1
  obtain ⟨hok, hfl⟩ := pk_ok he
  have HE := Lib.hid he; have HOK := Lib.hid hok; have HFL := Lib.hid hfl
  have hl := h.1
  have HL := Lib.hid hl
  have h60 : m ≤ 60 := by have := hok.n60; rw [← hl]; exact this
  clear he hok hfl hl
  obtain ⟨k, hk⟩ : ∃ k, pkOf ws xs = k := ⟨_, rfl⟩
  have HK := Lib.hid hk
  have HKN : Hid (k.n = m) := Lib.hid (by rw [← hk]; exact HL.out)
  rw [hk] at HOK ⊢
  clear hk
  go_enter Try.func17, Try.ntmps17
  go_wp2_with fail
  refine (fair_Check g h HE.out).mono ?_; rintro e w1 ⟨rfl, b1⟩
  go_wp2
  have hR : FRun w w1.heap.size (w1.heap.size + 1) (w1.alloc (.cells #[.int .i64 0, .int .i64 0, .int .i64 0, .int .i64 0, .int .i64 0, .int .i64 0, .int .i64 0, .int .i64 0] 95)) startF none 0 none 0 :=
    ⟨b1.alloc b1.size _, by simp, blk_new _ _ _, OwnR.nil _ _, OwnI.nil _ _, Sep.none_left⟩
  have HR := Lib.hid hR
  have hs1 := b1.size
  clear hR b1
  go_loopw [8, 9, 10, 11, 12] (fun av ov nv lv xv wr => ∃ (r : Nat) (qw qo : Option Addr) (dw dd : Nat), r ≤ m ∧ av = .slice qw (runF k r).wait.length dw ∧ ov = .slice qo r dd ∧ nv = .int .i64 (runF k r).now ∧ lv = .int .i64 (runF k r).last ∧ xv = .int .i64 ((runF k r).next : Int) ∧ Hid (FRun w w1.heap.size (w1.heap.size + 1) wr (runF k r) qw dw qo dd)) (fun _ ov _ _ _ _ => match ov with | .slice _ r _ => m - r | _ => 0)
  case atStart => exact ⟨0, none, none, 0, 0, Nat.zero_le _, rfl, rfl, rfl, rfl, rfl, HR⟩
  case round =>
    clear HR
    obtain ⟨r, qw, qo, dw, dd, hr, rfl, rfl, rfl, rfl, rfl, HR⟩ := hrel
    have hord0 := (runF_inv HOK.out r (by rw [HKN.out]; exact hr)).2
    have HORD0 := Lib.hid hord0
    clear hord0
    by_cases hrm : r < m
    · obtain ⟨hinv, hord⟩ := runF_inv HOK.out r (by rw [HKN.out]; exact hr)
      obtain ⟨s, hs⟩ : ∃ s, runF k r = s := ⟨_, rfl⟩
      have HRN : Hid (runF k (r + 1) = serveF k (allF' k (jumpF k s))) := Lib.hid (by rw [← hs]; rfl)
      have HJW := jump_wait HOK.out hinv (by rw [hord, HKN.out]; exact hrm)
      rw [hs] at hinv hord HR HJW ⊢
      have HINV := Lib.hid hinv
      obtain ⟨tg, htg⟩ : ∃ tg, allF' k (jumpF k s) = tg := ⟨_, rfl⟩
      have HTG := Lib.hid htg
      rw [htg] at HRN HJW
      have HJ := Lib.hid HJW
      have HORD := Lib.hid hord
      clear hs hinv htg HJW hord
      go_wp2
      go_loopw [8, 10, 12] (fun av nv xv wr => ∃ (s' : FS) (qw : Option Addr) (dw : Nat), av = .slice qw s'.wait.length dw ∧ nv = .int .i64 s'.now ∧ xv = .int .i64 (s'.next : Int) ∧ Hid (allF' k (jumpF k s') = tg ∧ s'.order.length = r ∧ s'.last = s.last) ∧ Hid (InvF k s') ∧ Hid (FRun w w1.heap.size (w1.heap.size + 1) wr s' qw dw qo dd)) (fun _ _ xv _ => m - (intOf xv).toNat)
      case atStart => exact ⟨s, qw, dw, rfl, rfl, rfl, Lib.hid ⟨HTG.out, HORD.out, rfl⟩, HINV, HR⟩
      case round =>
        clear HR
        obtain ⟨s', qw, dw, rfl, rfl, rfl, HS, HI, HR⟩ := hrel
        have hnx := HI.out.next
        rw [HKN.out] at hnx
        have hlen := HI.out.len
        rw [HS.out.2.1] at hlen
        obtain ⟨wl, hwl⟩ : ∃ wl, s'.wait.length = wl := ⟨_, rfl⟩
        have HWL := Lib.hid hwl
        rw [hwl] at hlen ⊢
        obtain ⟨nx, hnx2⟩ : ∃ nx, s'.next = nx := ⟨_, rfl⟩
        have HNX := Lib.hid hnx2
        rw [hnx2] at hlen hnx ⊢
        have hno := HI.out.now
        rw [HS.out.2.1] at hno
        obtain ⟨now, hnow⟩ : ∃ now, s'.now = now := ⟨_, rfl⟩
        have HNOW := Lib.hid hnow
        rw [hnow] at hno ⊢
        have HLE := Lib.hid hlen
        have hwl60 : wl ≤ 60 := by omega
        clear hwl hnx2 hnow hlen
        by_cases hput : nx < m ∧ (t0 xs nx ≤ now ∨ wl = 0)
        · obtain ⟨hnm, hcond0⟩ := hput
          have hbw := HR.out.below
          obtain ⟨lb, lo, rfl, hlt, hc⟩ := (h.below hbw).cells (by omega)
          obtain ⟨c0, c1, c2⟩ := hc nx hnm
          clear hc hbw
          have HA : Hid (k.A nx = t0 xs nx) := Lib.hid (by rw [← HK.out]; rfl)
          have HS1 : Hid (k.S nx = t1 xs nx) := Lib.hid (by rw [← HK.out]; rfl)
          obtain ⟨fv, hfv⟩ := Int.eq_ofNat_of_zero_le (HFL.out nx (by rw [HL.out]; exact hnm)).1
          have hf7 := (HFL.out nx (by rw [HL.out]; exact hnm)).2
          have HF1 : Hid (k.fl nx = fv) := Lib.hid (by rw [← HK.out]; show (t2 xs nx).toNat = fv; rw [hfv]; simp)
          have ha1 := HOK.out.a nx (by rw [HKN.out]; exact hnm)
          have hs1' := HOK.out.s nx (by rw [HKN.out]; exact hnm)
          have hcb := cost_bd HOK.out (i := nx) (by rw [HKN.out]; exact hnm)
          have hce := cost_eq HOK.out (i := nx) (by rw [HKN.out]; exact hnm)
          have hw8 := HOK.out.w fv (by omega)
          have HW : Hid (k.W fv = gi ws fv) := Lib.hid (by rw [← HK.out]; rfl)
          rw [HA.out] at ha1
          rw [HS1.out] at hs1' hce
          rw [HF1.out] at hce
          rw [HW.out] at hw8 hce
          rw [hfv] at c2 hf7
          obtain ⟨a, ha⟩ : ∃ a, t0 xs nx = a := ⟨_, rfl⟩
          obtain ⟨sz, hsz⟩ : ∃ sz, t1 xs nx = sz := ⟨_, rfl⟩
          rw [ha] at c0 ha1 HA
          rw [hsz] at c1 hs1' hce HS1
          have hcond : a ≤ now ∨ wl = 0 := by rw [ha] at hcond0; exact hcond0
          clear ha hsz hfv hcond0
          · have hN1 : s'.next < k.n := by rw [HNX.out, HKN.out]; exact hnm
            have hN2 : s'.wait = [] ∨ k.A s'.next ≤ s'.now := by
              rw [HNX.out, HA.out, HNOW.out]
              rcases hcond with h | h
              · exact .inr h
              · exact .inl (List.length_eq_zero_iff.1 (by rw [HWL.out]; exact h))
            have hJ := jump_now hN1 hN2
            have hAS := adm_step (jump_in hN1 hN2)
            obtain ⟨mx, hmx⟩ : ∃ mx, mx = max now a := ⟨_, rfl⟩
            obtain ⟨e0, he0⟩ : ∃ e0, s'.E fv = e0 := ⟨_, rfl⟩
            obtain ⟨st, hst⟩ : ∃ st, st = max s.last e0 := ⟨_, rfl⟩
            have hlb := HI.out.last
            have heb := HI.out.E fv
            rw [HS.out.2.2, HNX.out] at hlb
            rw [he0, HNX.out] at heb
            obtain ⟨kc, hkc⟩ : ∃ kc, k.cost nx = kc := ⟨_, rfl⟩
            rw [hkc] at hcb hce
            have hdiv : Int.tdiv (sz * 840) (gi ws fv) = kc := by rw [Int.tdiv_eq_ediv_of_nonneg (by omega)]; exact hce
            have HPUT : Hid (putF k (jumpF k s') = { now := mx, last := s.last, next := nx + 1, E := upN s'.E fv (st + kc), bg := upN s'.bg nx st, wait := s'.wait ++ [nx], order := s'.order }) := Lib.hid (by
              rw [hJ]
              have h1 : stF k { s' with now := max s'.now (k.A s'.next) } = st := by
                show max s'.last (s'.E (k.fl s'.next)) = st
                rw [HS.out.2.2, HNX.out, HF1.out, he0, hst]
              unfold putF
              rw [h1]
              simp only
              rw [HNX.out, HF1.out, hkc, HNOW.out, HA.out, HS.out.2.2, hmx])
            have HI2 : Hid (InvF k (putF k (jumpF k s'))) := Lib.hid ((HI.out.jump HOK.out).put HOK.out (by rw [hJ]; exact hN1))
            have HS2 : Hid (allF' k (jumpF k (putF k (jumpF k s'))) = tg) := Lib.hid (by
              rw [jump_wait_ne (s := putF k (jumpF k s')) (by simp [putF]), ← hAS]; exact HS.out.1)
            rw [HPUT.out] at HI2 HS2
            have HORD2 : Hid (s'.order.length = r) := Lib.hid HS.out.2.1
            have hmxb : 0 ≤ mx ∧ mx ≤ 200 + 1000 * (r : Int) := by omega
            have hstb : 0 ≤ st ∧ st ≤ 840000 * (nx : Int) := by omega
            have hR := HR.out
            have c7 : wr.cell? ⟨w1.heap.size, fv, none⟩ = some (.int .i64 e0) := by
              rw [blk_cell hR.arr fv, ← he0]
              simp [tab, show fv < 8 by omega]
            have HMX := Lib.hid hmx
            have HST := Lib.hid hst
            have HE0 := Lib.hid he0
            have HIC := Lib.hid (show a ≤ now ∨ (now < a ∧ wl = 0 ∧ r = nx) by have := HLE.out; omega)
            have hfv8 : fv < 8 := by omega
            have hbsz := hR.size
            have hb7 : w1.heap.size < wr.heap.size := by omega
            obtain ⟨gb, gf, hp, hgl, hgc⟩ := (g.below hR.below).cells (by omega)
            have cw : wr.cell? ⟨gb, gf + fv, none⟩ = some (.int .i64 (gi ws fv)) := hgc fv (by omega)
            subst hp
            clear hgc
            clear hmx hst he0 hJ hAS hN1 hN2 hcond hno hR
            rcases HIC.out with hca | ⟨hca, hcw, hcr⟩
            · have q1 : decide (a ≤ now) = true := by simp; omega
              have hmn : mx = now := by have := HMX.out; omega
              rw [hmn] at HPUT HI2 HS2 hmxb
              clear hmn HMX
              have HB7 := Lib.hid (show w.heap.size ≤ w1.heap.size from hs1)
              rcases (show (s.last < e0 ∧ st = e0) ∨ (e0 ≤ s.last ∧ st = s.last) by have := HST.out; omega) with ⟨hle, hst2⟩ | ⟨hle, hst2⟩
              -- PUT
              · have HST2 := Lib.hid hst2
                clear hst2 HST
                go_wp2
                have h3 := HST2.out
                subst h3
                clear HST2
                have B2 := Lib.hid (((Below.refl wr.heap.size wr).alloc (Nat.le_refl _) (.cells #[.int .i64 a, .int .i64 sz, .int .i64 (fv : Int)] 98)).alloc (by simp) (.cells #[.int .i64 st, .int .i64 (nx : Int)] 100))
                have P1 := Lib.hid (blk_alloc (o' := .cells #[.int .i64 st, .int .i64 (nx : Int)] 100) (blk_new wr #[.int .i64 a, .int .i64 sz, .int .i64 (fv : Int)] 98))
                have T1 := Lib.hid (blk_new (wr.alloc (.cells #[.int .i64 a, .int .i64 sz, .int .i64 (fv : Int)] 98)) #[.int .i64 st, .int .i64 (nx : Int)] 100)
                have R2 := Lib.hid ((HR.out.alloc (by omega) (.cells #[.int .i64 a, .int .i64 sz, .int .i64 (fv : Int)] 98)).alloc (by omega) (.cells #[.int .i64 st, .int .i64 (nx : Int)] 100))
                simp only [World.size_alloc] at T1
                have hlt2 : wr.heap.size + 1 < ((wr.alloc (.cells #[.int .i64 a, .int .i64 sz, .int .i64 (fv : Int)] 98)).alloc (.cells #[.int .i64 st, .int .i64 (nx : Int)] 100)).heap.size := by simp
                generalize (wr.alloc (.cells #[.int .i64 a, .int .i64 sz, .int .i64 (fv : Int)] 98)).alloc (.cells #[.int .i64 st, .int .i64 (nx : Int)] 100) = W2 at *
                obtain ⟨⟨x0, x1, x2⟩, _⟩ := blk3 P1.out
                have y0 : W2.cell? ⟨wr.heap.size + 1, 0, none⟩ = some (.int .i64 st) := blk_cell T1.out 0
                have y1 : W2.cell? ⟨wr.heap.size + 1, 1, none⟩ = some (.int .i64 (nx : Int)) := blk_cell T1.out 1
                have d7 := (bdeep B2.out hb7 fv).trans c7
                have f7 : W2.frozen? ⟨w1.heap.size, fv, none⟩ = false := blk_free R2.out.arr fv
                have dwc := (bdeep B2.out hgl (gf + fv)).trans cw
                have hne7 : ¬ w1.heap.size = wr.heap.size + 1 := by omega
                clear c7 cw c0 c1 c2 HR
                have R3 := Lib.hid ((R2.out.drewN 1).arrSet (by omega) HB7.out hfv8 (st + kc))
                change FRunH w w1.heap.size (w1.heap.size + 1) (W2.drew.setCell ⟨w1.heap.size, fv, none⟩ (.int .i64 (st + kc))) { s' with E := upN s'.E fv (st + kc) } qw dw qo dd at R3
                have hfvI : (fv : Int) < 8 := by omega
                have hwne : ¬ gi ws fv = 0 := by omega
                have hmw : IntKind.i64.wrap (sz * 840) = sz * 840 := IntWalk.i64_in _ (by omega)
                have hkw : IntKind.i64.wrap kc = kc := IntWalk.i64_in _ (by omega)
                have haw : IntKind.i64.wrap (st + kc) = st + kc := IntWalk.i64_in _ (by omega)
                go_still_tail 15, (by kernel_rfl)
                change wpList _ _ _ _ _ W2.drew
                clear hmw hkw haw hwne hfvI
                have hwr := R3.out.wrow
                rw [show ({ s' with E := upN s'.E fv (st + kc) } : FS).wait.length = wl from HWL.out] at hwr
                have hz3 := R3.out.size
                have HTG2 := Lib.hid (tag_push (s := s') (nx := nx) (st := st) (now := now) (last := s.last) (next := nx + 1) (E := upN s'.E fv (st + kc)) (order := s'.order) (fun i hi => by have := HI.out.wlt i hi; rw [HNX.out] at this; exact this))
                clear x0 x1 x2 dwc B2 P1 T1 R2
                go_wp2_with (at_builtin; refine wpL_push_R Try.tyTags rfl (by omega) (by omega) encT_len encT_one rfl (B := w1.heap.size + 1) (W0 := W2.drew.setCell ⟨w1.heap.size, fv, none⟩ (.int .i64 (st + kc))) (by first | rfl | simp [Act.eval]) (st, (nx : Int)) (by first | rfl | simp [Act.eval]) (by first | rfl | simp [Act.eval]) hwr (Below.refl _ _) (by omega) hz3 ?_; intro p' c' w4 ho4 hb4 hg4 ha4)
                have R4 := Lib.hid (R3.out.pushW (s' := { now := now, last := s.last, next := nx + 1, E := upN s'.E fv (st + kc), bg := upN s'.bg nx st, wait := s'.wait ++ [nx], order := s'.order }) (by omega) HB7.out (by
                  rw [show ({ s' with E := upN s'.E fv (st + kc) } : FS).wait.length = wl from HWL.out, HTG2.out]; exact ho4) (by simp) rfl rfl hb4 (by
                  rw [show ({ s' with E := upN s'.E fv (st + kc) } : FS).wait.length = wl from HWL.out]; exact hg4) ha4)
                clear hwr ho4 hb4 hg4 ha4 R3
                go_wp2
                go_roundw
                case rel => exact ⟨{ now := now, last := s.last, next := nx + 1, E := upN s'.E fv (st + kc), bg := upN s'.bg nx st, wait := s'.wait ++ [nx], order := s'.order }, p', c', by simp [HWL.out], rfl, by go_num, Lib.hid ⟨HS2.out, HORD2.out, rfl⟩, HI2, R4⟩
                case measure => simp [intOf]; omega
              · have HST2 := Lib.hid hst2
                clear hst2 HST
                go_wp2
                have h3 := HST2.out
                subst h3
                clear HST2
                have B2 := Lib.hid (((Below.refl wr.heap.size wr).alloc (Nat.le_refl _) (.cells #[.int .i64 a, .int .i64 sz, .int .i64 (fv : Int)] 98)).alloc (by simp) (.cells #[.int .i64 s.last, .int .i64 (nx : Int)] 100))
                have P1 := Lib.hid (blk_alloc (o' := .cells #[.int .i64 s.last, .int .i64 (nx : Int)] 100) (blk_new wr #[.int .i64 a, .int .i64 sz, .int .i64 (fv : Int)] 98))
                have T1 := Lib.hid (blk_new (wr.alloc (.cells #[.int .i64 a, .int .i64 sz, .int .i64 (fv : Int)] 98)) #[.int .i64 s.last, .int .i64 (nx : Int)] 100)
                have R2 := Lib.hid ((HR.out.alloc (by omega) (.cells #[.int .i64 a, .int .i64 sz, .int .i64 (fv : Int)] 98)).alloc (by omega) (.cells #[.int .i64 s.last, .int .i64 (nx : Int)] 100))
                simp only [World.size_alloc] at T1
                have hlt2 : wr.heap.size + 1 < ((wr.alloc (.cells #[.int .i64 a, .int .i64 sz, .int .i64 (fv : Int)] 98)).alloc (.cells #[.int .i64 s.last, .int .i64 (nx : Int)] 100)).heap.size := by simp
                generalize (wr.alloc (.cells #[.int .i64 a, .int .i64 sz, .int .i64 (fv : Int)] 98)).alloc (.cells #[.int .i64 s.last, .int .i64 (nx : Int)] 100) = W2 at *
                obtain ⟨⟨x0, x1, x2⟩, _⟩ := blk3 P1.out
                have y0 : W2.cell? ⟨wr.heap.size + 1, 0, none⟩ = some (.int .i64 s.last) := blk_cell T1.out 0
                have y1 : W2.cell? ⟨wr.heap.size + 1, 1, none⟩ = some (.int .i64 (nx : Int)) := blk_cell T1.out 1
                have d7 := (bdeep B2.out hb7 fv).trans c7
                have f7 : W2.frozen? ⟨w1.heap.size, fv, none⟩ = false := blk_free R2.out.arr fv
                have dwc := (bdeep B2.out hgl (gf + fv)).trans cw
                have hne7 : ¬ w1.heap.size = wr.heap.size + 1 := by omega
                clear c7 cw c0 c1 c2 HR
                have R3 := Lib.hid ((R2.out.drewN 1).arrSet (by omega) HB7.out hfv8 (s.last + kc))
                change FRunH w w1.heap.size (w1.heap.size + 1) (W2.drew.setCell ⟨w1.heap.size, fv, none⟩ (.int .i64 (s.last + kc))) { s' with E := upN s'.E fv (s.last + kc) } qw dw qo dd at R3
                have hfvI : (fv : Int) < 8 := by omega
                have hwne : ¬ gi ws fv = 0 := by omega
                have hmw : IntKind.i64.wrap (sz * 840) = sz * 840 := IntWalk.i64_in _ (by omega)
                have hkw : IntKind.i64.wrap kc = kc := IntWalk.i64_in _ (by omega)
                have haw : IntKind.i64.wrap (s.last + kc) = s.last + kc := IntWalk.i64_in _ (by omega)
                go_still_tail 15, (by kernel_rfl)
                change wpList _ _ _ _ _ W2.drew
                clear hmw hkw haw hwne hfvI
                have hwr := R3.out.wrow
                rw [show ({ s' with E := upN s'.E fv (s.last + kc) } : FS).wait.length = wl from HWL.out] at hwr
                have hz3 := R3.out.size
                have HTG2 := Lib.hid (tag_push (s := s') (nx := nx) (st := s.last) (now := now) (last := s.last) (next := nx + 1) (E := upN s'.E fv (s.last + kc)) (order := s'.order) (fun i hi => by have := HI.out.wlt i hi; rw [HNX.out] at this; exact this))
                clear x0 x1 x2 dwc B2 P1 T1 R2
                go_wp2_with (at_builtin; refine wpL_push_R Try.tyTags rfl (by omega) (by omega) encT_len encT_one rfl (B := w1.heap.size + 1) (W0 := W2.drew.setCell ⟨w1.heap.size, fv, none⟩ (.int .i64 (s.last + kc))) (by first | rfl | simp [Act.eval]) (s.last, (nx : Int)) (by first | rfl | simp [Act.eval]) (by first | rfl | simp [Act.eval]) hwr (Below.refl _ _) (by omega) hz3 ?_; intro p' c' w4 ho4 hb4 hg4 ha4)
                have R4 := Lib.hid (R3.out.pushW (s' := { now := now, last := s.last, next := nx + 1, E := upN s'.E fv (s.last + kc), bg := upN s'.bg nx s.last, wait := s'.wait ++ [nx], order := s'.order }) (by omega) HB7.out (by
                  rw [show ({ s' with E := upN s'.E fv (s.last + kc) } : FS).wait.length = wl from HWL.out, HTG2.out]; exact ho4) (by simp) rfl rfl hb4 (by
                  rw [show ({ s' with E := upN s'.E fv (s.last + kc) } : FS).wait.length = wl from HWL.out]; exact hg4) ha4)
                clear hwr ho4 hb4 hg4 ha4 R3
                go_wp2
                go_roundw
                case rel => exact ⟨{ now := now, last := s.last, next := nx + 1, E := upN s'.E fv (s.last + kc), bg := upN s'.bg nx s.last, wait := s'.wait ++ [nx], order := s'.order }, p', c', by simp [HWL.out], rfl, by go_num, Lib.hid ⟨HS2.out, HORD2.out, rfl⟩, HI2, R4⟩
                case measure => simp [intOf]; omega
            · have q1 : decide (a ≤ now) = false := by simp; omega
              have hmn : mx = a := by have := HMX.out; omega
              rw [hmn] at HPUT HI2 HS2 hmxb
              clear hmn HMX
              have HB7 := Lib.hid (show w.heap.size ≤ w1.heap.size from hs1)
              have hcr2 := hcr.symm
              subst hcr2
              subst hcw
              rcases (show (s.last < e0 ∧ st = e0) ∨ (e0 ≤ s.last ∧ st = s.last) by have := HST.out; omega) with ⟨hle, hst2⟩ | ⟨hle, hst2⟩
              · have HST2 := Lib.hid hst2
                clear hst2 HST
                go_wp2
                have h3 := HST2.out
                subst h3
                clear HST2
                have B2 := Lib.hid (((Below.refl wr.heap.size wr).alloc (Nat.le_refl _) (.cells #[.int .i64 a, .int .i64 sz, .int .i64 (fv : Int)] 98)).alloc (by simp) (.cells #[.int .i64 st, .int .i64 (nx : Int)] 100))
                have P1 := Lib.hid (blk_alloc (o' := .cells #[.int .i64 st, .int .i64 (nx : Int)] 100) (blk_new wr #[.int .i64 a, .int .i64 sz, .int .i64 (fv : Int)] 98))
                have T1 := Lib.hid (blk_new (wr.alloc (.cells #[.int .i64 a, .int .i64 sz, .int .i64 (fv : Int)] 98)) #[.int .i64 st, .int .i64 (nx : Int)] 100)
                have R2 := Lib.hid ((HR.out.alloc (by omega) (.cells #[.int .i64 a, .int .i64 sz, .int .i64 (fv : Int)] 98)).alloc (by omega) (.cells #[.int .i64 st, .int .i64 (nx : Int)] 100))
                simp only [World.size_alloc] at T1
                have hlt2 : wr.heap.size + 1 < ((wr.alloc (.cells #[.int .i64 a, .int .i64 sz, .int .i64 (fv : Int)] 98)).alloc (.cells #[.int .i64 st, .int .i64 (nx : Int)] 100)).heap.size := by simp
                generalize (wr.alloc (.cells #[.int .i64 a, .int .i64 sz, .int .i64 (fv : Int)] 98)).alloc (.cells #[.int .i64 st, .int .i64 (nx : Int)] 100) = W2 at *
                obtain ⟨⟨x0, x1, x2⟩, _⟩ := blk3 P1.out
                have y0 : W2.cell? ⟨wr.heap.size + 1, 0, none⟩ = some (.int .i64 st) := blk_cell T1.out 0
                have y1 : W2.cell? ⟨wr.heap.size + 1, 1, none⟩ = some (.int .i64 (nx : Int)) := blk_cell T1.out 1
                have d7 := (bdeep B2.out hb7 fv).trans c7
                have f7 : W2.frozen? ⟨w1.heap.size, fv, none⟩ = false := blk_free R2.out.arr fv
                have dwc := (bdeep B2.out hgl (gf + fv)).trans cw
                have hne7 : ¬ w1.heap.size = wr.heap.size + 1 := by omega
                clear c7 cw c0 c1 c2 HR
                have R3 := Lib.hid ((R2.out.drewN 1).arrSet (by omega) HB7.out hfv8 (st + kc))
                change FRunH w w1.heap.size (w1.heap.size + 1) (W2.drew.setCell ⟨w1.heap.size, fv, none⟩ (.int .i64 (st + kc))) { s' with E := upN s'.E fv (st + kc) } qw dw qo dd at R3
                have hfvI : (fv : Int) < 8 := by omega
                have hwne : ¬ gi ws fv = 0 := by omega
                have hmw : IntKind.i64.wrap (sz * 840) = sz * 840 := IntWalk.i64_in _ (by omega)
                have hkw : IntKind.i64.wrap kc = kc := IntWalk.i64_in _ (by omega)
                have haw : IntKind.i64.wrap (st + kc) = st + kc := IntWalk.i64_in _ (by omega)
                go_still_tail 15, (by kernel_rfl)
                change wpList _ _ _ _ _ W2.drew
                clear hmw hkw haw hwne hfvI
                have hwr := R3.out.wrow
                rw [show ({ s' with E := upN s'.E fv (st + kc) } : FS).wait.length = 0 from HWL.out] at hwr
                have hz3 := R3.out.size
                have HTG2 := Lib.hid (tag_push (s := s') (nx := nx) (st := st) (now := a) (last := s.last) (next := nx + 1) (E := upN s'.E fv (st + kc)) (order := s'.order) (fun i hi => by have := HI.out.wlt i hi; rw [HNX.out] at this; exact this))
                clear x0 x1 x2 dwc B2 P1 T1 R2
                go_wp2_with (at_builtin; refine wpL_push_R Try.tyTags rfl (by omega) (by omega) encT_len encT_one rfl (B := w1.heap.size + 1) (W0 := W2.drew.setCell ⟨w1.heap.size, fv, none⟩ (.int .i64 (st + kc))) (by first | rfl | simp [Act.eval]) (st, (nx : Int)) (by first | rfl | simp [Act.eval]) (by first | rfl | simp [Act.eval]) hwr (Below.refl _ _) (by omega) hz3 ?_; intro p' c' w4 ho4 hb4 hg4 ha4)
                have R4 := Lib.hid (R3.out.pushW (s' := { now := a, last := s.last, next := nx + 1, E := upN s'.E fv (st + kc), bg := upN s'.bg nx st, wait := s'.wait ++ [nx], order := s'.order }) (by omega) HB7.out (by
                  rw [show ({ s' with E := upN s'.E fv (st + kc) } : FS).wait.length = 0 from HWL.out, HTG2.out]; exact ho4) (by simp) rfl rfl hb4 (by
                  rw [show ({ s' with E := upN s'.E fv (st + kc) } : FS).wait.length = 0 from HWL.out]; exact hg4) ha4)
                clear hwr ho4 hb4 hg4 ha4 R3
                go_wp2
                go_roundw
                case rel => exact ⟨{ now := a, last := s.last, next := nx + 1, E := upN s'.E fv (st + kc), bg := upN s'.bg nx st, wait := s'.wait ++ [nx], order := s'.order }, p', c', by simp [HWL.out], rfl, by go_num, Lib.hid ⟨HS2.out, HORD2.out, rfl⟩, HI2, R4⟩
                case measure => simp [intOf]; omega
              · have HST2 := Lib.hid hst2
                clear hst2 HST
                go_wp2
                have h3 := HST2.out
                subst h3
                clear HST2
                have B2 := Lib.hid (((Below.refl wr.heap.size wr).alloc (Nat.le_refl _) (.cells #[.int .i64 a, .int .i64 sz, .int .i64 (fv : Int)] 98)).alloc (by simp) (.cells #[.int .i64 s.last, .int .i64 (nx : Int)] 100))
                have P1 := Lib.hid (blk_alloc (o' := .cells #[.int .i64 s.last, .int .i64 (nx : Int)] 100) (blk_new wr #[.int .i64 a, .int .i64 sz, .int .i64 (fv : Int)] 98))
                have T1 := Lib.hid (blk_new (wr.alloc (.cells #[.int .i64 a, .int .i64 sz, .int .i64 (fv : Int)] 98)) #[.int .i64 s.last, .int .i64 (nx : Int)] 100)
                have R2 := Lib.hid ((HR.out.alloc (by omega) (.cells #[.int .i64 a, .int .i64 sz, .int .i64 (fv : Int)] 98)).alloc (by omega) (.cells #[.int .i64 s.last, .int .i64 (nx : Int)] 100))
                simp only [World.size_alloc] at T1
                have hlt2 : wr.heap.size + 1 < ((wr.alloc (.cells #[.int .i64 a, .int .i64 sz, .int .i64 (fv : Int)] 98)).alloc (.cells #[.int .i64 s.last, .int .i64 (nx : Int)] 100)).heap.size := by simp
                generalize (wr.alloc (.cells #[.int .i64 a, .int .i64 sz, .int .i64 (fv : Int)] 98)).alloc (.cells #[.int .i64 s.last, .int .i64 (nx : Int)] 100) = W2 at *
                obtain ⟨⟨x0, x1, x2⟩, _⟩ := blk3 P1.out
                have y0 : W2.cell? ⟨wr.heap.size + 1, 0, none⟩ = some (.int .i64 s.last) := blk_cell T1.out 0
                have y1 : W2.cell? ⟨wr.heap.size + 1, 1, none⟩ = some (.int .i64 (nx : Int)) := blk_cell T1.out 1
                have d7 := (bdeep B2.out hb7 fv).trans c7
                have f7 : W2.frozen? ⟨w1.heap.size, fv, none⟩ = false := blk_free R2.out.arr fv
                have dwc := (bdeep B2.out hgl (gf + fv)).trans cw
                have hne7 : ¬ w1.heap.size = wr.heap.size + 1 := by omega
                clear c7 cw c0 c1 c2 HR
                have R3 := Lib.hid ((R2.out.drewN 1).arrSet (by omega) HB7.out hfv8 (s.last + kc))
                change FRunH w w1.heap.size (w1.heap.size + 1) (W2.drew.setCell ⟨w1.heap.size, fv, none⟩ (.int .i64 (s.last + kc))) { s' with E := upN s'.E fv (s.last + kc) } qw dw qo dd at R3
                have hfvI : (fv : Int) < 8 := by omega
                have hwne : ¬ gi ws fv = 0 := by omega
                have hmw : IntKind.i64.wrap (sz * 840) = sz * 840 := IntWalk.i64_in _ (by omega)
                have hkw : IntKind.i64.wrap kc = kc := IntWalk.i64_in _ (by omega)
                have haw : IntKind.i64.wrap (s.last + kc) = s.last + kc := IntWalk.i64_in _ (by omega)
                go_still_tail 15, (by kernel_rfl)
                change wpList _ _ _ _ _ W2.drew
                clear hmw hkw haw hwne hfvI
                have hwr := R3.out.wrow
                rw [show ({ s' with E := upN s'.E fv (s.last + kc) } : FS).wait.length = 0 from HWL.out] at hwr
                have hz3 := R3.out.size
                have HTG2 := Lib.hid (tag_push (s := s') (nx := nx) (st := s.last) (now := a) (last := s.last) (next := nx + 1) (E := upN s'.E fv (s.last + kc)) (order := s'.order) (fun i hi => by have := HI.out.wlt i hi; rw [HNX.out] at this; exact this))
                clear x0 x1 x2 dwc B2 P1 T1 R2
                go_wp2_with (at_builtin; refine wpL_push_R Try.tyTags rfl (by omega) (by omega) encT_len encT_one rfl (B := w1.heap.size + 1) (W0 := W2.drew.setCell ⟨w1.heap.size, fv, none⟩ (.int .i64 (s.last + kc))) (by first | rfl | simp [Act.eval]) (s.last, (nx : Int)) (by first | rfl | simp [Act.eval]) (by first | rfl | simp [Act.eval]) hwr (Below.refl _ _) (by omega) hz3 ?_; intro p' c' w4 ho4 hb4 hg4 ha4)
                have R4 := Lib.hid (R3.out.pushW (s' := { now := a, last := s.last, next := nx + 1, E := upN s'.E fv (s.last + kc), bg := upN s'.bg nx s.last, wait := s'.wait ++ [nx], order := s'.order }) (by omega) HB7.out (by
                  rw [show ({ s' with E := upN s'.E fv (s.last + kc) } : FS).wait.length = 0 from HWL.out, HTG2.out]; exact ho4) (by simp) rfl rfl hb4 (by
                  rw [show ({ s' with E := upN s'.E fv (s.last + kc) } : FS).wait.length = 0 from HWL.out]; exact hg4) ha4)
                clear hwr ho4 hb4 hg4 ha4 R3
                go_wp2
                go_roundw
                case rel => exact ⟨{ now := a, last := s.last, next := nx + 1, E := upN s'.E fv (s.last + kc), bg := upN s'.bg nx s.last, wait := s'.wait ++ [nx], order := s'.order }, p', c', by simp [HWL.out], rfl, by go_num, Lib.hid ⟨HS2.out, HORD2.out, rfl⟩, HI2, R4⟩
                case measure => simp [intOf]; omega
              -- PUTEND
        · have HEND : Hid (s' = tg) := Lib.hid (by
            have h1 := HS.out.1
            by_cases hnm : nx < m
            · have hc1 : ¬ t0 xs nx ≤ now := fun h => hput ⟨hnm, .inl h⟩
              have hc2 : ¬ wl = 0 := fun h => hput ⟨hnm, .inr h⟩
              have hj : jumpF k s' = s' := jump_wait_ne (fun h => hc2 (by rw [← HWL.out, h]; rfl))
              have HA : k.A nx = t0 xs nx := by rw [← HK.out]; rfl
              rw [hj, adm_stop (fun h => hc1 (by have := h.2; rw [HNX.out, HA, HNOW.out] at this; exact this))] at h1
              exact h1
            · have hn : ¬ s'.next < k.n := by rw [HNX.out, HKN.out]; exact hnm
              rw [jump_none (fun h => hn h.1), adm_stop (fun h => hn h.1)] at h1
              exact h1)
          obtain ⟨lb, lo, hqe, hltl, hcl⟩ := h.cells (by omega)
          subst hqe
          have HCL := Lib.hid hcl
          clear hcl
          rcases (show (∃ a, t0 xs nx = a ∧ nx < m ∧ ¬ a ≤ now ∧ ¬ wl = 0) ∨ nx = m by
            by_cases hnm : nx < m
            · exact .inl ⟨_, rfl, hnm, fun h => hput ⟨hnm, .inl h⟩, fun h => hput ⟨hnm, .inr h⟩⟩
            · right; omega) with ⟨a, ha, hnm, hc1, hc2⟩ | hnm
          case' inl =>
            have c0 := (bdeep HR.out.below hltl (lo + nx * 3)).trans (HCL.out nx hnm).1
            rw [ha] at c0
            have q1 : decide (a ≤ now) = false := by simp; omega
            have ha1 := HOK.out.a nx (by rw [HKN.out]; exact hnm)
            have q2 : ((wl : Int) == 0) = false := by simp; omega
            clear ha hc1 hput
            go_wp2
            clear c0 hc2 q1 q2 ha1
          case' inr =>
            clear hput
            have HNM := Lib.hid hnm
            have hnm2 : ¬ nx < m := by omega
            clear hnm
            go_wp2
            clear hnm2
          all_goals
            have HRN2 : Hid (runF k (r + 1) = serveF k s') := Lib.hid (by rw [HEND.out]; exact HRN.out)
            have hj : 0 < wl := by have h9 := HJ.out; rw [← HEND.out, HWL.out] at h9; exact h9
            have HIs := Lib.hid HI.out
            have HSl := Lib.hid HS.out.2
            clear HEND HTG HRN HJ HS HI HINV HORD
            obtain ⟨gw, hgw⟩ := HR.out.wrow.addr (by rw [HWL.out]; exact hj)
            subst hgw
            obtain ⟨bI, hbI⟩ : ∃ bI : Nat → Nat, ∀ i, bI i = bestI s'.bg s'.wait (i - 1) := ⟨_, fun _ => rfl⟩
            have HBI := Lib.hid hbI
            clear hbI
            go_loopw [15, 92] (fun bv iv wv => ∃ i : Nat, i ≤ wl ∧ bv = .int .i64 ((bI i : Nat) : Int) ∧ iv = .int .i64 (i : Int) ∧ Hid (FRun w w1.heap.size (w1.heap.size + 1) wv s' (some ⟨gw, 0, none⟩) dw qo dd)) (fun _ iv _ => wl - (intOf iv).toNat)
            case atStart => exact ⟨0, Nat.zero_le _, by rw [HBI.out 0]; rfl, rfl, HR⟩
            case round =>
              clear HR
              obtain ⟨i, hi, rfl, rfl, HR⟩ := hrel
              have hbl : bI i < wl := by rw [HBI.out i]; have := bestI_le s'.bg s'.wait (i - 1); omega
              have HBI0 := Lib.hid (HBI.out i)
              obtain ⟨bi, hbi⟩ : ∃ bi, bI i = bi := ⟨_, rfl⟩
              rw [hbi] at hbl HBI0 ⊢
              clear hbi
              have ho := HR.out.wrow
              rw [HWL.out] at ho
              have hgb := ho.blk
              obtain ⟨d0, d1⟩ := cells_tag ho hbl
              obtain ⟨nb, hnb⟩ : ∃ nb, ge s'.wait bi = nb := ⟨_, rfl⟩
              rw [hnb] at d0 d1
              obtain ⟨ab, hab⟩ : ∃ ab, s'.bg nb = ab := ⟨_, rfl⟩
              rw [hab] at d0
              have HNB := Lib.hid hnb; have HAB := Lib.hid hab
              clear hnb hab
              by_cases hiw : i < wl
              · obtain ⟨c0, c1⟩ := cells_tag ho hiw
                obtain ⟨ni, hni⟩ : ∃ ni, ge s'.wait i = ni := ⟨_, rfl⟩
                rw [hni] at c0 c1
                obtain ⟨ai, hai⟩ : ∃ ai, s'.bg ni = ai := ⟨_, rfl⟩
                rw [hai] at c0
                obtain ⟨rr, hrr⟩ : ∃ rr, decide (ai < ab ∨ (ai = ab ∧ ni < nb)) = rr := ⟨_, rfl⟩
                have HRR := Lib.hid hrr
                have HNX2 : Hid (bI (i + 1) = if rr = true then i else bi) := Lib.hid (by
                  rw [HBI.out (i + 1), Nat.add_sub_cancel, best_next, ← HBI0.out]
                  unfold lessF
                  rw [hni, HNB.out, hai, HAB.out, hrr])
                clear hni hai hrr
                have bc0 := BelowOf.cell c0 hgb.2; have bc1 := BelowOf.cell c1 hgb.2
                have bd0 := BelowOf.cell d0 hgb.2; have bd1 := BelowOf.cell d1 hgb.2
                go_wp2
                refine wp_region_quiet_below (by kernel_rfl) (by kernel_rfl) ?_
                repeat (quiet_step (exact calls_below (fair_less HRR.out)))
                refine wpQuiet_nil ?_
                intro v hq
                have hcur : Below wr.heap.size wr v := by obtain ⟨q, hq2⟩ := hq; rw [hq2]; exact q.prop
                have HRV := Lib.hid (HR.out.to hcur)
                clear hq bc0 bc1 bd0 bd1 c0 c1 d0 d1 ho hcur
                cases rr with
                | true =>
                  go_wp2
                  go_roundw
                  case rel => exact ⟨i + 1, hiw, by rw [HNX2.out]; rfl, by go_num, HRV⟩
                  case measure => simp [intOf]; omega
                | false =>
                  go_wp2
                  go_roundw
                  case rel => exact ⟨i + 1, hiw, by rw [HNX2.out]; rfl, by go_num, HRV⟩
                  case measure => simp [intOf]; omega
              · obtain rfl : wl = i := by omega
                have HBS : Hid (bi = bstF s') := Lib.hid (by rw [HBI0.out]; unfold bstF; rw [HWL.out])
                have hbl2 : bi < s'.wait.length := by rw [HWL.out]; exact hbl
                have hnbx : nb < nx := by
                  have hmem : nb ∈ s'.wait := by rw [← HNB.out, ge_get hbl2]; exact List.getElem_mem hbl2
                  have := HIs.out.wlt nb hmem
                  rw [HNX.out] at this; exact this
                have hsz := HOK.out.s nb (by rw [HKN.out]; omega)
                rw [show k.S nb = t1 xs nb by rw [← HK.out]; rfl] at hsz
                obtain ⟨sz, hsz2⟩ : ∃ sz, t1 xs nb = sz := ⟨_, rfl⟩
                have HSZ := Lib.hid hsz2
                rw [hsz2] at hsz
                clear hsz2
                have HRX : Hid (runF k (r + 1) = { now := now + sz, last := ab, next := nx, E := s'.E, bg := s'.bg, wait := s'.wait.eraseIdx bi, order := s'.order ++ [nb] }) := Lib.hid (by
                  rw [HRN2.out]
                  unfold serveF
                  rw [← HBS.out, HNB.out, HAB.out, HNOW.out, HNX.out, show k.S nb = t1 xs nb by rw [← HK.out]; rfl, HSZ.out])
                have hbsz := HR.out.size
                have habb := HIs.out.bg nb
                rw [HAB.out, HNX.out] at habb
                have R2 := Lib.hid (HR.out.alloc (by omega) (.cells #[.int .i64 ab, .int .i64 (nb : Int)] 100))
                have T1 := Lib.hid (blk_new wr #[.int .i64 ab, .int .i64 (nb : Int)] 100)
                have hoffO : Hid (∀ a, qo = some a → a.block ≠ wr.heap.size) := Lib.hid (fun a ha e => by
                  have := HR.out.orow.1.lt a.block (by rw [ha]; rfl)
                  omega)
                clear HBI HBI0 HBS HRN2
                go_wp2
                clear d0 d1 ho HR
                obtain ⟨tb, htb⟩ : ∃ tb, wr.heap.size = tb := ⟨_, rfl⟩
                rw [htb] at T1 hoffO hgb hbsz ⊢
                generalize wr.alloc (.cells #[.int .i64 ab, .int .i64 (nb : Int)] 100) = W2 at *
                clear htb
                have ho2 := R2.out.wrow
                rw [HWL.out] at ho2
                obtain ⟨nw, hnw⟩ : ∃ nw, ((tagL s').drop (bi + 1)).flatMap encT = nw := ⟨_, rfl⟩
                have HNW := Lib.hid hnw
                obtain ⟨A, hA, hS4⟩ := cut_at (ho2.drewN 1) hbl hnw
                obtain ⟨hS1, hS2, _, hS3⟩ := cut_cells (ho2.drewN 1) hbl hnw
                have S1 := Lib.hid hS1; have S2 := Lib.hid hS2; have S3' : Hid (∀ j, j < nw.length → (W2.drew.cell? ⟨gw, 0 + bi * 2 + j, none⟩).isSome = true ∧ W2.drew.frozen? ⟨gw, 0 + bi * 2 + j, none⟩ = false) := Lib.hid (by rw [Nat.zero_add]; exact hS3); have S4 := Lib.hid hS4
                have hcap := (Own.cap ho2.1)
                have hbd : bi ≤ dw := by omega
                have R3 := Lib.hid ((R2.out.drewN 1).cut (s' := { s' with wait := s'.wait.eraseIdx bi }) (by omega) hs1 hbl2 rfl rfl rfl rfl)
                have T3 : Hid (((W2.drewN 1).setCells gw (bi * 2) (((tagL s').drop (bi + 1)).flatMap encT)).heap[tb]? = some (.cells #[.int .i64 ab, .int .i64 (nb : Int)] 100 (0, 0))) := Lib.hid ((setCells_other (by omega) _ _ _).trans T1.out)
                rw [hnw] at R3 T3
                clear hnw hS1 hS2 hS3 hS4 ho2 R2 T1
                have hwr : IntKind.i64.wrap ((bi : Int) + 1) = (bi : Int) + 1 := IntWalk.i64_in _ (by omega)
                have hp0 : (0 : Int) ≤ (bi : Int) + 1 := by omega
                have hp1 : (bi : Int) + 1 ≤ (wl : Int) := by omega
                have hp2 : ((bi : Int) + 1).toNat = bi + 1 := by omega
                obtain ⟨i0, hi0, hz0, hz1, hz2⟩ := info_parts Try.tyTags.info
                go_region_law (refine step_append_room rfl (.tmp 112) (.tmp 116) 96 rfl 100 i0 2 Try.underlying96 hi0 hz1 gw 0 bi dw (by simp [Act.eval, Act.put]) A (wl - (bi + 1)) (dw - (bi + 1)) nw (by simp [Act.eval, Act.put]) S1.out S4.out S2.out (by omega) S3'.out ?_)
                change (FRunH w w1.heap.size (w1.heap.size + 1) (W2.drew.setCells gw (bi * 2) nw) { s' with wait := s'.wait.eraseIdx bi } (some ⟨gw, 0, none⟩) dw qo dd) at R3
                change Hid ((W2.drew.setCells gw (bi * 2) nw).heap[tb]? = _) at T3
                generalize W2.drew.setCells gw (bi * 2) nw = W3 at *
                have hz3 := R3.out.size
                have e0 : W3.cell? ⟨tb, 0, none⟩ = some (.int .i64 ab) := blk_cell T3.out 0
                have e1 : W3.cell? ⟨tb, 1, none⟩ = some (.int .i64 (nb : Int)) := blk_cell T3.out 1
                have hor := R3.out.orow
                rw [show ({ s' with wait := s'.wait.eraseIdx bi } : FS).order.length = r from HSl.out.1] at hor
                have hnbm : nb < m := by omega
                clear S1 S2 S3' S4 HNW hA hp0 hp1 hp2 hwr hi0 hz0 hz1 hz2
                have hw0 : w.heap.size ≤ w1.heap.size + 1 := by omega
                go_wp2_with (at_builtin; refine wpL_push_int Try.tyIntsFr rfl rfl (B := w1.heap.size + 1) (W0 := W3) (by first | rfl | simp [Act.eval]) (by first | rfl | simp [Act.eval]) hor (Below.refl _ _) (by omega) hz3 ?_; intro p' c' w4 ho4 hb4 hg4 ha4; have x1 : w4.cell? ⟨tb, 1, none⟩ = some (.int .i64 (nb : Int)) := blk_cell (keep_blkF T3.out hg4 hoffO.out) 1; have x2 : w4.cell? ⟨lb, lo + nb * 3 + 1, none⟩ = some (.int .i64 sz) := ((bdeep (R3.out.below.trans (hb4.mono hw0)) hltl (lo + nb * 3 + 1)).trans (HCL.out nb hnbm).2.1).trans (by rw [HSZ.out]))
                have R4 := Lib.hid (R3.out.pushO (s' := { now := now + sz, last := ab, next := nx, E := s'.E, bg := s'.bg, wait := s'.wait.eraseIdx bi, order := s'.order ++ [nb] }) (by omega) hs1 (by
                  rw [show ({ s' with wait := s'.wait.eraseIdx bi } : FS).order.length = r from HSl.out.1]
                  have e : ordL { now := now + sz, last := ab, next := nx, E := s'.E, bg := s'.bg, wait := s'.wait.eraseIdx bi, order := s'.order ++ [nb] } = ordL { s' with wait := s'.wait.eraseIdx bi } ++ [(nb : Int)] := by unfold ordL; simp
                  rw [e]; exact ho4) rfl rfl rfl (by simp) hb4 (by
                  rw [show ({ s' with wait := s'.wait.eraseIdx bi } : FS).order.length = r from HSl.out.1]; exact hg4) ha4)
                rw [← HRX.out] at R4
                have HLN : Hid ((runF k (r + 1)).wait.length = bi + (wl - (bi + 1))) := Lib.hid (by
                  rw [HRX.out]
                  show (s'.wait.eraseIdx bi).length = _
                  rw [List.length_eraseIdx, if_pos hbl2, HWL.out]; omega)
                have HN5 : Hid ((runF k (r + 1)).now = now + sz) := Lib.hid (by rw [HRX.out])
                have HL5 : Hid ((runF k (r + 1)).last = ab) := Lib.hid (by rw [HRX.out])
                have HX5 : Hid ((runF k (r + 1)).next = nx) := Lib.hid (by rw [HRX.out])
                clear e0 e1 x1 x2 hor ho4 hb4 hg4 ha4 R3
                go_wp2
                go_roundw
                case rel => exact ⟨r + 1, some ⟨gw, 0, none⟩, p', dw, c', by omega, by rw [HLN.out], rfl, by rw [HN5.out], by rw [HL5.out], by rw [HX5.out], R4⟩
                case measure => simp [intOf]; omega
    · obtain rfl : m = r := by omega
      go_wp2
      go_ret2
      have ho := HR.out.orow
      rw [HORD0.out] at ho
      exact ⟨qo, dd, rfl, ho.base (by omega), HR.out.below⟩
end Go.Proofs.Ytgnegemiiahkaaa
