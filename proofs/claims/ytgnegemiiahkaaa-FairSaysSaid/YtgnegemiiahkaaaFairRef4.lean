/- The contract of headref.Fair (P42). Conditions: the packets and the weights are well formed. -/
import Derived.Test.YtgnegemiiahkaaaFairRef2
import Derived.Test.YtgnegemiiahkaaaFairRef3
import Derived.Deep.LoopGhost
namespace Go.Proofs.Ytgnegemiiahkaaa
open Go Go.RowKit
set_option linter.unusedVariables false
set_option linter.unusedSimpArgs false

theorem jump_idem (k : PK) (s : FS) : jumpF k (jumpF k s) = jumpF k s := by
  unfold jumpF
  by_cases e : s.wait = [] ∧ s.next < k.n ∧ s.now < k.A s.next
  · rw [if_pos e]
    rw [if_neg (fun h => by have := h.2.2; exact absurd this (Int.lt_irrefl _))]
  · rw [if_neg e, if_neg e]
/-- at the head: between two services -/
structure HeadF (k : PK) (s : FS) (r : Nat) : Prop where
  inv : InvF k s
  jump : jumpF k s = jumpF k (runF k r)
  order : s.order = (runF k r).order
theorem HeadF.len {k : PK} {s : FS} {r : Nat} (h : HeadF k s r) (ok : k.Ok) (hr : r ≤ k.n) : s.order.length = r := by rw [h.order]; exact (runF_inv ok r hr).2
/-- once all that are there have come in and one waits, all are in as after the jump -/
theorem adm_jump {k : PK} {s : FS} (hw : (allF' k s).wait ≠ []) : allF' k (jumpF k s) = allF' k s := by
  by_cases h : s.wait = []
  · by_cases hin : inF k s
    · rw [jump_none (fun h2 => by have := hin.2; omega)]
    · rw [adm_stop hin] at hw; exact absurd h hw
  · rw [jump_wait_ne h]
theorem adm_now (k : PK) : ∀ (f : Nat) (s : FS), (admF k f s).now = s.now
  | 0, s => rfl
  | f + 1, s => by
    unfold admF
    by_cases e : inF k s
    · rw [if_pos e]; exact adm_now k f _
    · rw [if_neg e]
theorem allF_now (k : PK) (s : FS) : (allF' k s).now = s.now := adm_now k _ s

theorem HeadF.jumped {k : PK} {s : FS} {r : Nat} (h : HeadF k s r) (ok : k.Ok) : HeadF k (jumpF k s) r :=
  ⟨h.inv.jump ok, by rw [jump_idem]; exact h.jump, by rw [jump_order]; exact h.order⟩
theorem HeadF.start (k : PK) : HeadF k startF 0 := ⟨InvF.start k, rfl, rfl⟩
theorem HeadF.done (k : PK) (ok : k.Ok) {r : Nat} (hr : r ≤ k.n) : HeadF k (runF k r) r := ⟨(runF_inv ok r hr).1, rfl, rfl⟩
/-- none came in and none waits -/
theorem adm_empty {k : PK} {s s' : FS} (ok : k.Ok) (h : allF' k s = s') (hw : s'.wait = []) : s = s' ∧ ¬ inF k s := by
  by_cases hin : inF k s
  · have h1 := adm_wait ok (k.n - (putF k s).next) (s := putF k s) (by simp [putF])
    rw [adm_step hin] at h
    unfold allF' at h
    rw [h, hw] at h1
    simp at h1
  · rw [adm_stop hin] at h
    exact ⟨h, hin⟩
theorem gi_natL {L : List Nat} {i : Nat} (h : i < L.length) : gi (natL L) i = ((ge L i : Nat) : Int) := by
  rw [gi_get (by unfold natL; simpa using h), ge_get h]
  unfold natL
  rw [List.getElem_map]
theorem natL_erase {L : List Nat} {i : Nat} (hs : L.Pairwise (· < ·)) (hi : i < L.length) : (natL L).filter (fun x => !(x == ((ge L i : Nat) : Int))) = natL (L.eraseIdx i) := by
  rw [erase_filter L i hs hi, ge_get hi]
  unfold natL
  rw [List.filter_map]
  congr 1
  apply List.filter_congr
  intro x _
  simp [Function.comp]
  by_cases e : x = L[i]
  · simp [e]
  · rw [beq_eq_false_iff_ne.2 e, beq_eq_false_iff_ne.2 (by omega)]

set_option maxRecDepth 100000 in
set_option maxHeartbeats 6400000 in
theorem ref_Fair {w : World} {p q : Option Addr} {n c m d : Nat} {ws : List Int} {xs : List (Int × Int × Int)} (g : SI w p n c ws) (h : S3 w q m d xs) (he : fairErr ws xs = 0) :
    Calls Try.prog 21 #[.slice p n c, .slice q m d] w fun e w' => ∃ qo dd, e = .returned (.slice qo m dd) ∧ OwnI w' w.heap.size qo m dd (ordL (runF (pkOf ws xs) m)) ∧ Below w.heap.size w w' := by
  have hn8 : n = 8 := by rw [← g.len]; exact (fair_ok he).1
  subst hn8
  have gm := g.2.1
  have hm := h.2.1
  obtain ⟨hok, hfl⟩ := pk_ok he
  have HE := Lib.hid he; have HOK := Lib.hid hok; have HFL := Lib.hid hfl
  have HL := Lib.hid h.1
  have h60 : m ≤ 60 := by have := hok.n60; rw [← h.1]; exact this
  clear he hok hfl
  obtain ⟨k, hk⟩ : ∃ k, pkOf ws xs = k := ⟨_, rfl⟩
  have HK := Lib.hid hk
  have HKN : Hid (k.n = m) := Lib.hid (by rw [← hk]; exact HL.out)
  rw [hk] at HOK ⊢
  clear hk
  have HG := Lib.hid g; have HX := Lib.hid h
  clear g
  have hmm := @run_makeMap Try.prog
  have hmf : ∀ (fn : Fn) (first cap : Array Value) (w : World), (Instr.makeFunc fn first cap).run Try.prog w = .ok (.func fn first cap) w := fun _ _ _ _ => rfl
  have hm8 := Try.made8
  go_enter Try.func21, Try.ntmps21
  go_wp2
  have HR := Lib.hid (FRef.start (w := w) (p := p) (q := q) (c := c) (m := m) (d := d))
  simp only [Nat.add_assoc, Nat.reduceAdd]
  clear hmm hm8
  go_loopw [7, 9] (fun ov nv wv => ∃ (s : FS) (qw qo : Option Addr) (dw dd r : Nat), r ≤ m ∧ ov = .slice qo r dd ∧ nv = .int .i64 s.now ∧ Hid (HeadF k s r) ∧ Hid (FRef w p q c m d wv s qw dw qo dd)) (fun _ nv _ => (201 + 1000 * (m : Int) - intOf nv).toNat)
  case atStart => exact ⟨startF, none, none, 0, 0, 0, Nat.zero_le _, rfl, rfl, Lib.hid (HeadF.start k), HR⟩
  case round =>
    clear HR
    obtain ⟨s, qw, qo, dw, dd, r, hr, rfl, rfl, HH, HR⟩ := hrel
    have c1 : wr.cell? ⟨w.heap.size + 1, 0, none⟩ = some (.slice q m d) := blk_cell HR.out.bl 0
    by_cases hrm : r < m
    · have hord := HH.out.len HOK.out (by rw [HKN.out]; exact hr)
      have hno := HH.out.inv.now
      rw [hord] at hno
      have HORD := Lib.hid hord
      obtain ⟨lb, lo, hqe, hltl, hcl⟩ := h.cells (by omega)
      subst hqe
      have HCL := Lib.hid hcl
      obtain ⟨now, hnow⟩ : ∃ now, s.now = now := ⟨_, rfl⟩
      have HNOW := Lib.hid hnow
      rw [hnow] at hno ⊢
      clear hcl hord hnow
      go_wp2
      clear c1
      go_loopg [22] (m - s.next) (fun gk v22 wv => ∃ (s' : FS) (qw : Option Addr) (dw : Nat), gk = m - s'.next ∧ Hid (allF' k s' = allF' k s ∧ s'.now = now ∧ s'.order.length = r) ∧ Hid (InvF k s') ∧ Hid (FRef w p (some ⟨lb, lo, none⟩) c m d wv s' qw dw qo dd))
      case atStart => exact ⟨s, qw, dw, rfl, Lib.hid ⟨rfl, HNOW.out, HORD.out⟩, Lib.hid HH.out.inv, HR⟩
      case round =>
        clear HR
        obtain ⟨s', qw, dw, hgk, HS, HI, HR⟩ := hrel
        have HGK := Lib.hid hgk
        have hnx := HI.out.next
        rw [HKN.out] at hnx
        obtain ⟨nx, hnx2⟩ : ∃ nx, s'.next = nx := ⟨_, rfl⟩
        have HNX := Lib.hid hnx2
        rw [hnx2] at hnx
        have hR := HR.out
        have c1 : wr.cell? ⟨w.heap.size + 1, 0, none⟩ = some (.slice (some ⟨lb, lo, none⟩) m d) := blk_cell hR.bl 0
        have c8 : wr.cell? ⟨w.heap.size + 8, 0, none⟩ = some (.int .i64 (nx : Int)) := by have := blk_cell hR.bn 0; rw [hnx2] at this; exact this
        clear hgk hnx2
        by_cases hput : nx < m ∧ t0 xs nx ≤ now
        · obtain ⟨hnm, hcond⟩ := hput
          have c0 := (bdeep hR.below hltl (lo + nx * 3)).trans (HCL.out nx hnm).1
          have HIN : Hid (inF k s') := Lib.hid ⟨by rw [HNX.out, HKN.out]; exact hnm, by rw [HNX.out, HS.out.2.1, ← HK.out]; exact hcond⟩
          have HCALL := Lib.hid (fair_put HG.out HX.out HE.out HK.out hR HI.out (by rw [HNX.out]; exact hnm) rfl)
          obtain ⟨a, ha⟩ : ∃ a, t0 xs nx = a := ⟨_, rfl⟩
          rw [ha] at c0 hcond
          clear ha hR
          have q1 : decide (a ≤ now) = true := decide_eq_true hcond
          go_wp2_with fail
          refine HCALL.out.mono ?_
          rintro e w1 ⟨rfl, qw2, dw2, hR2⟩
          have HR2 := Lib.hid hR2
          have HI2 := Lib.hid (HI.out.put HOK.out HIN.out.1)
          have HS2 : Hid (allF' k (putF k s') = allF' k s ∧ (putF k s').now = now ∧ (putF k s').order.length = r) := Lib.hid ⟨by rw [← adm_step HIN.out]; exact HS.out.1, HS.out.2.1, HS.out.2.2⟩
          clear hR2 HCALL c0 c1 c8 q1
          go_wp2
          go_roundg (m - (nx + 1))
          case measure => rw [HGK.out, HNX.out]; omega
          case rel => exact ⟨putF k s', qw2, dw2, by show m - (nx + 1) = m - (s'.next + 1); rw [HNX.out], HS2, HI2, HR2⟩
        · have HEND : Hid (allF' k s = s') := Lib.hid (by
            rw [← HS.out.1, adm_stop (fun h => hput ⟨by have := h.1; rw [HNX.out, HKN.out] at this; exact this, by have := h.2; rw [HNX.out, HS.out.2.1, ← HK.out] at this; exact this⟩)])
          obtain ⟨wl, hwl⟩ : ∃ wl, s'.wait.length = wl := ⟨_, rfl⟩
          have HWL := Lib.hid hwl
          have hlen := HI.out.len
          rw [HS.out.2.2, HNX.out, hwl] at hlen
          have c6 : wr.cell? ⟨w.heap.size + 6, 0, none⟩ = some (.slice qw wl dw) := by have := blk_cell hR.bq 0; rw [hwl] at this; exact this
          clear hwl
          by_cases hw0 : wl = 0
          · have hnm : nx < m := by omega
            have hgt : ¬ t0 xs nx ≤ now := fun h9 => hput ⟨hnm, h9⟩
            have c0 := (bdeep hR.below hltl (lo + nx * 3)).trans (HCL.out nx hnm).1
            obtain ⟨hss, hnin⟩ := adm_empty HOK.out HEND.out (List.length_eq_zero_iff.1 (by rw [HWL.out]; exact hw0))
            have HJ : Hid (jumpF k s = { s with now := t0 xs nx }) := Lib.hid (by
              unfold jumpF
              have e1 : k.A s.next = t0 xs nx := by rw [hss, HNX.out, ← HK.out]; rfl
              rw [if_pos ⟨by rw [hss]; exact List.length_eq_zero_iff.1 (by rw [HWL.out]; exact hw0), by rw [hss, HNX.out, HKN.out]; exact hnm, by rw [e1, HNOW.out]; omega⟩, e1])
            have HR2 : Hid (FRef w p (some ⟨lb, lo, none⟩) c m d wr (jumpF k s) qw dw qo dd) := Lib.hid (by
              rw [HJ.out]
              have h9 := hR
              rw [← hss] at h9
              exact ⟨h9.below, h9.size, h9.bw, h9.bl, h9.bm, h9.bb, h9.arr, h9.be, h9.bq, h9.bla, h9.bn, h9.wrow, h9.orow, h9.sep⟩)
            have HH2 := Lib.hid (HH.out.jumped HOK.out)
            have hab := HOK.out.a nx (by rw [HKN.out]; exact hnm)
            rw [show k.A nx = t0 xs nx by rw [← HK.out]; rfl] at hab
            have HJN : Hid ((jumpF k s).now = t0 xs nx) := Lib.hid (by rw [HJ.out])
            obtain ⟨a, ha⟩ : ∃ a, t0 xs nx = a := ⟨_, rfl⟩
            rw [ha] at c0 hgt hab HJN
            clear ha hR hss hnin hput
            have q1 : decide (a ≤ now) = false := decide_eq_false hgt
            subst hw0
            go_wp2
            go_roundw
            case rel => exact ⟨jumpF k s, qw, qo, dw, dd, r, hr, rfl, by rw [HJN.out], HH2, HR2⟩
            case measure => simp [intOf]; omega
          · have HRN : Hid (runF k (r + 1) = serveF k s') := Lib.hid (by
              show serveF k (allF' k (jumpF k (runF k r))) = _
              rw [← HH.out.jump, adm_jump (by rw [HEND.out]; intro h9; rw [h9] at HWL; exact hw0 HWL.out.symm), HEND.out])
            have HSo := Lib.hid HS.out.2
            rcases (show (∃ a, t0 xs nx = a ∧ nx < m ∧ ¬ a ≤ now) ∨ nx = m by
              by_cases hnm : nx < m
              · exact .inl ⟨_, rfl, hnm, fun h9 => hput ⟨hnm, h9⟩⟩
              · right; omega) with ⟨a, ha, hnm, hc1⟩ | hnm
            case' inl =>
              have c0 := (bdeep hR.below hltl (lo + nx * 3)).trans (HCL.out nx hnm).1
              rw [ha] at c0
              have q1 : decide (a ≤ now) = false := decide_eq_false hc1
              clear ha hR hput
            case' inr =>
              have HNM := Lib.hid hnm
              have hnm2 : ¬ nx < m := by omega
              clear hnm hR hput
            all_goals
              have q2 : ((wl : Int) == 0) = false := by simp; omega
              have hwl0 : 0 < wl := by omega
              obtain ⟨gw, hgw⟩ := HR.out.wrow.addr (by rw [HWL.out]; exact hwl0)
              subst hgw
              have hinv := HI.out
              obtain ⟨bs, hbs⟩ : ∃ bs, bstF s' = bs := ⟨_, rfl⟩
              have hbl : bs < wl := by rw [← hbs]; unfold bstF; rw [HWL.out]; have := bestI_le s'.bg s'.wait (wl - 1); omega
              obtain ⟨nb, hnb⟩ : ∃ nb, ge s'.wait bs = nb := ⟨_, rfl⟩
              have hmemw : ∀ j, j < wl → ge s'.wait j < m := fun j hj => by
                have h9 := hinv.wlt (ge s'.wait j) (by rw [ge_get (by rw [HWL.out]; exact hj)]; exact List.getElem_mem _)
                rw [HNX.out] at h9; omega
              have hbgb : ∀ j, 0 ≤ s'.bg j ∧ s'.bg j ≤ 100000000 := fun j => by
                have h9 := hinv.bg j
                rw [HNX.out] at h9
                omega
              have HMIN : Hid (Calls Try.prog 64 #[.slice (some ⟨gw, 0, none⟩) wl dw, .func (.func 65) #[] #[.pointer (some ⟨w.heap.size + 3, 0, none⟩)]] wr fun e w' => e = .returned (.int .i64 (nb : Int)) ∧ Below wr.heap.size wr w') := Lib.hid (by
                have hor := HR.out.wrow
                rw [HWL.out] at hor
                have h9 := min_Int hor.si hwl0 (F := 65) (cap := #[.pointer (some ⟨w.heap.size + 3, 0, none⟩)]) (pr := fun i j => lessF s'.bg (ge s'.wait i) (ge s'.wait j)) (fun args w => by simp [callFunc, Try.func65, Try.f65, go_sem]) (fun wv i j hi hj hbv => by
                  rw [gi_natL (by rw [HWL.out]; exact hi), gi_natL (by rw [HWL.out]; exact hj)]
                  have hRv := HR.out.to hbv
                  have hi2 := hmemw i hi
                  have hj2 := hmemw j hj
                  have hxb : -1000000000 ≤ cmpF s'.bg (ge s'.wait i) (ge s'.wait j) ∧ cmpF s'.bg (ge s'.wait i) (ge s'.wait j) ≤ 1000000000 := by
                    have h1 := hbgb (ge s'.wait i)
                    have h2 := hbgb (ge s'.wait j)
                    unfold cmpF; split <;> omega
                  exact (fair_cmp hRv.bb hRv.bm (by omega) (by omega) (hbgb _) (hbgb _) rfl).mono (fun e w'' hh => ⟨⟨_, hxb.1, hxb.2, hh.1, cmpF_less _ _ _⟩, by rw [hh.2]; exact Below.refl _ _⟩))
                rw [minI_best (bg := s'.bg) (L := s'.wait) (n := wl) (fun i j _ _ => rfl) (wl - 1) (by omega)] at h9
                rw [show bestI s'.bg s'.wait (wl - 1) = bs by rw [← hbs]; unfold bstF; rw [HWL.out], gi_natL (by rw [HWL.out]; exact hbl), hnb] at h9
                exact h9)
              have hnbm : nb < m := by rw [← hnb]; exact hmemw bs hbl
              have HBS := Lib.hid hbs; have HNB := Lib.hid hnb
              clear hmemw hbgb hinv hbs hnb
              go_wp2_with fail
              refine HMIN.out.mono ?_
              rintro e w1 ⟨rfl, b1⟩
              have HR1 := Lib.hid (HR.out.to b1)
              have hz1 := HR1.out.size
              have d6 : ∀ o, (w1.alloc o).cell? ⟨w.heap.size + 6, 0, none⟩ = some (.slice (some ⟨gw, 0, none⟩) wl dw) := fun o => by have := blk_cell (HR1.out.alloc o).bq 0; rw [HWL.out] at this; exact this
              have HR2 := Lib.hid (HR1.out.alloc (.cells #[.int .i64 (nb : Int)] 3))
              have T2 := Lib.hid (blk_new w1 #[.int .i64 (nb : Int)] 3)
              have hgw1 := (HR1.out.wrow.blk).2
              clear b1 c6 HMIN HR
              go_wp2_with fail
              have HOFF : Hid (∀ a, qo = some a → a.block < w1.heap.size) := Lib.hid (fun a ha => (HR1.out.orow.1.lt a.block (by rw [ha]; rfl)).2)
              obtain ⟨tb, htb⟩ : ∃ tb, w1.heap.size = tb := ⟨_, rfl⟩
              rw [htb] at T2 hz1 hgw1 HOFF ⊢
              generalize w1.alloc (.cells #[.int .i64 (nb : Int)] 3) = W2 at *
              clear htb d6 HR1
              have ho2 := HR2.out.wrow
              rw [HWL.out] at ho2
              have hz2 := HR2.out.size
              have htb2 : tb < W2.heap.size := (Array.getElem?_eq_some_iff.1 T2.out).1
              have HDEL := Lib.hid (delete_Int ho2 hz2 (by omega) (F := 67) (cap := #[.pointer (some ⟨tb, 0, none⟩)]) (del := fun x => x == (nb : Int)) (fun args w => by simp [callFunc, Try.func67, Try.f67, go_sem]) (fun wv x hgv => (fair_is ((hgv.block tb htb2 (fun e => by simp only [Value.ownBlock, Option.some.injEq] at e; omega)).trans T2.out) rfl).mono (fun e w'' hh => ⟨hh.1, by rw [hh.2]; exact Below.refl _ _⟩)))
              refine HDEL.out.mono ?_
              rintro e w2 ⟨m', rfl, ho3, hg3⟩
              have hbl2 : bs < s'.wait.length := by rw [HWL.out]; exact hbl
              have hfil : (natL s'.wait).filter (fun x => !(x == (nb : Int))) = natL (s'.wait.eraseIdx bs) := by rw [← HNB.out]; exact natL_erase HI.out.sorted hbl2
              rw [hfil] at ho3
              have hml : (s'.wait.eraseIdx bs).length = m' := by have := ho3.len; unfold natL at this; simpa using this
              obtain ⟨ab, hab⟩ : ∃ ab, s'.bg nb = ab := ⟨_, rfl⟩
              have habb := HI.out.bg nb
              rw [hab, HNX.out] at habb
              have HR3 := Lib.hid (HR2.out.cut (s' := { s' with wait := s'.wait.eraseIdx bs }) (b := w.heap.size) rfl (by rw [HWL.out]; exact hg3) ho3 rfl rfl rfl rfl rfl hml)
              have HR4 := Lib.hid (HR3.out.setLast (s' := { s' with wait := s'.wait.eraseIdx bs, last := ab }) (b := w.heap.size) (x := ab) rfl rfl rfl rfl rfl rfl rfl)
              have hz3 : W2.heap.size ≤ w2.heap.size := hg3.size
              have hgw3 := ho3.blk
              have kk : ∀ x, x < W2.heap.size → x ≠ gw → w2.heap[x]? = W2.heap[x]? := fun x hx hne => hg3.block x hx (fun e => by simp only [Value.ownBlock, Option.some.injEq] at e; exact hne e)
              have T3 : Hid (w2.heap[tb]? = some (.cells #[.int .i64 (nb : Int)] 3 (0, 0))) := Lib.hid ((kk _ htb2 (by omega)).trans T2.out)
              have d6 : w2.cell? ⟨w.heap.size + 6, 0, none⟩ = some (.slice (some ⟨gw, 0, none⟩) wl dw) := by have := blk_cell ((kk _ (by omega) (by omega)).trans HR2.out.bq) 0; rw [HWL.out] at this; exact this
              have f6 : w2.frozen? ⟨w.heap.size + 6, 0, none⟩ = false := blk_free ((kk _ (by omega) (by omega)).trans HR2.out.bq) 0
              have d3 : w2.cell? ⟨w.heap.size + 3, 0, none⟩ = some (.map (some (w.heap.size + 2))) := blk_cell ((kk _ (by omega) (by omega)).trans HR2.out.bb) 0
              have d7 : w2.cell? ⟨w.heap.size + 7, 0, none⟩ = some (.int .i64 s'.last) := blk_cell ((kk _ (by omega) (by omega)).trans HR2.out.bla) 0
              have f7 : w2.frozen? ⟨w.heap.size + 7, 0, none⟩ = false := blk_free ((kk _ (by omega) (by omega)).trans HR2.out.bla) 0
              have dt : w2.cell? ⟨tb, 0, none⟩ = some (.int .i64 (nb : Int)) := blk_cell T3.out 0
              have hl := HR3.out.bm.look (i := nb) (by omega)
              rw [show ({ s' with wait := s'.wait.eraseIdx bs } : FS).bg nb = ab from hab] at hl
              have hn6 : ¬ tb = w.heap.size + 6 := by omega
              have hn7 : ¬ tb = w.heap.size + 7 := by omega
              have hor : OwnI ((w2.setCell ⟨w.heap.size + 6, 0, none⟩ (.slice (some ⟨gw, 0, none⟩) m' dw)).setCell ⟨w.heap.size + 7, 0, none⟩ (.int .i64 ab)) (w.heap.size + 9) qo r dd (ordL s') := by
                have h9 := HR4.out.orow
                rw [show ({ s' with wait := s'.wait.eraseIdx bs, last := ab } : FS).order.length = r from HSo.out.2] at h9
                exact h9
              have hzz : w.heap.size + 9 ≤ ((w2.setCell ⟨w.heap.size + 6, 0, none⟩ (.slice (some ⟨gw, 0, none⟩) m' dw)).setCell ⟨w.heap.size + 7, 0, none⟩ (.int .i64 ab)).heap.size := by simp; omega
              have hr6 : r < 1000000 := by omega
              have hsz := HOK.out.s nb (by rw [HKN.out]; omega)
              rw [show k.S nb = t1 xs nb by rw [← HK.out]; rfl] at hsz
              obtain ⟨sz, hsz2⟩ : ∃ sz, t1 xs nb = sz := ⟨_, rfl⟩
              have HSZ := Lib.hid hsz2
              rw [hsz2] at hsz
              have hoffO : Hid (∀ a, qo = some a → a.block ≠ tb) := Lib.hid (fun a ha => Nat.ne_of_lt (HOFF.out a ha))
              have HMI := Lib.hid hml; have HAB := Lib.hid hab
              clear hml hab hsz2 hfil kk HDEL ho2 hg3 ho3
              go_wp2_with (at_builtin; go_loud (refine wpL_push_int Try.tyIntsFr rfl rfl (B := w.heap.size + 9) (W0 := ((w2.setCell ⟨w.heap.size + 6, 0, none⟩ (.slice (some ⟨gw, 0, none⟩) m' dw)).setCell ⟨w.heap.size + 7, 0, none⟩ (.int .i64 ab))) (by first | rfl | simp [Act.eval]) (by first | rfl | simp [Act.eval]) hor (Below.refl _ _) hr6 hzz ?_; intro p' c' w4 ho4 hb4 hg4 ha4; have HR5 := Lib.hid (HR4.out.pushO (s' := { s' with wait := s'.wait.eraseIdx bs, last := ab, order := s'.order ++ [nb] }) (b := w.heap.size) rfl (by rw [show ({ s' with wait := s'.wait.eraseIdx bs, last := ab } : FS).order.length = r from HSo.out.2]; rw [show ordL { s' with wait := s'.wait.eraseIdx bs, last := ab, order := s'.order ++ [nb] } = ordL s' ++ [(nb : Int)] by unfold ordL; simp]; exact ho4) rfl rfl rfl rfl (by simp) rfl hb4 (by rw [show ({ s' with wait := s'.wait.eraseIdx bs, last := ab } : FS).order.length = r from HSo.out.2]; exact hg4) ha4); have x1 : w4.cell? ⟨w.heap.size + 1, 0, none⟩ = some (.slice (some ⟨lb, lo, none⟩) m d) := blk_cell HR5.out.bl 0; have xt : w4.cell? ⟨tb, 0, none⟩ = some (.int .i64 (nb : Int)) := blk_cell (keep_blkF (((Below.heap_setCell _ _ _ _ (by show tb ≠ w.heap.size + 7; omega)).trans (Below.heap_setCell _ _ _ _ (by show tb ≠ w.heap.size + 6; omega))).trans T3.out) hg4 hoffO.out) 0; have x2 : w4.cell? ⟨lb, lo + nb * 3 + 1, none⟩ = some (.int .i64 sz) := ((bdeep HR5.out.below hltl (lo + nb * 3 + 1)).trans (HCL.out nb hnbm).2.1).trans (by rw [HSZ.out])))
              have HRX : Hid (runF k (r + 1) = { s' with wait := s'.wait.eraseIdx bs, last := ab, order := s'.order ++ [nb], now := now + sz }) := Lib.hid (by
                rw [HRN.out]
                unfold serveF
                rw [HBS.out, HNB.out, HAB.out, HSo.out.1, show k.S nb = t1 xs nb by rw [← HK.out]; rfl, HSZ.out])
              have HR6 : Hid (FRef w p (some ⟨lb, lo, none⟩) c m d w4 (runF k (r + 1)) (some ⟨gw, 0, none⟩) dw p' c') := Lib.hid (by
                rw [HRX.out]
                have h9 := HR5.out
                exact ⟨h9.below, h9.size, h9.bw, h9.bl, h9.bm, h9.bb, h9.arr, h9.be, h9.bq, h9.bla, h9.bn, h9.wrow, h9.orow, h9.sep⟩)
              have HN6 : Hid ((runF k (r + 1)).now = now + sz) := Lib.hid (by rw [HRX.out])
              refine ⟨⟨runF k (r + 1), some ⟨gw, 0, none⟩, p', dw, c', r + 1, by omega, rfl, by rw [HN6.out], Lib.hid (HeadF.done k HOK.out (by rw [HKN.out]; omega)), HR6⟩, ?_⟩
              simp [intOf]; omega
    · obtain rfl : m = r := by omega
      go_wp2
      go_ret
      have ho := HR.out.orow
      have he1 : ordL s = ordL (runF k m) := by unfold ordL; rw [HH.out.order]
      rw [HH.out.len HOK.out (by rw [HKN.out]; exact Nat.le_refl _), he1] at ho
      exact ⟨qo, dd, rfl, ho.base (by omega), HR.out.below⟩
end Go.Proofs.Ytgnegemiiahkaaa
