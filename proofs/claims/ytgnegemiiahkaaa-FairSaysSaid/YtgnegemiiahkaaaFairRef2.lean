/- headref.Fair's closure that lets a packet in (P42). Conditions: the packets and the weights are well formed, and one is left. -/
import Derived.Test.YtgnegemiiahkaaaFairRef1
import Derived.StillTailTactics
namespace Go.Proofs.Ytgnegemiiahkaaa
open Go Go.RowKit
set_option linter.unusedVariables false
set_option linter.unusedSimpArgs false

theorem blk_cellEq {w w' : World} {x o : Nat} (h : w'.heap[x]? = w.heap[x]?) : w'.cell? ⟨x, o, none⟩ = w.cell? ⟨x, o, none⟩ := by
  unfold World.cell?
  simp only [h]
def PutPost (w0 : World) (p q : Option Addr) (c m d : Nat) (s : FS) (qo : Option Addr) (dd : Nat) (e : Ending) (w' : World) : Prop :=
  e = .returned (.tuple #[]) ∧ ∃ qw dw, FRef w0 p q c m d w' s qw dw qo dd

set_option maxRecDepth 100000 in
set_option maxHeartbeats 3200000 in
theorem fair_put {w0 wv : World} {p q : Option Addr} {c m d : Nat} {ws : List Int} {xs : List (Int × Int × Int)} (g : SI w0 p 8 c ws) (hx : S3 w0 q m d xs) (he : fairErr ws xs = 0) {k : PK} (hk : pkOf ws xs = k)
    {s : FS} {qw : Option Addr} {dw : Nat} {qo : Option Addr} {dd : Nat} (h : FRef w0 p q c m d wv s qw dw qo dd) (hi : InvF k s) (hn : s.next < m) {b : Nat} (hb : w0.heap.size = b) :
    Calls Try.prog 63 #[.pointer (some ⟨b + 1, 0, none⟩), .pointer (some ⟨b + 8, 0, none⟩), .pointer (some ⟨b + 5, 0, none⟩), .pointer (some ⟨b + 7, 0, none⟩), .pointer (some ⟨b + 3, 0, none⟩), .pointer (some ⟨b, 0, none⟩), .pointer (some ⟨b + 6, 0, none⟩)] wv (PutPost w0 p q c m d (putF k s) qo dd) := by
  obtain ⟨hok, hfl⟩ := pk_ok he
  have HL := Lib.hid hx.1
  have hm60 : m ≤ 60 := by have := hok.n60; rw [← hx.1]; exact this
  have hkn : k.n = m := by rw [← hk]; exact hx.1
  have hmd := hx.2.1
  have gm := g.2.1
  obtain ⟨nx, hnx⟩ : ∃ nx, s.next = nx := ⟨_, rfl⟩
  rw [hnx] at hn
  obtain ⟨fv, hfv⟩ := Int.eq_ofNat_of_zero_le (hfl nx (by rw [hx.1]; exact hn)).1
  have hf7 := (hfl nx (by rw [hx.1]; exact hn)).2
  rw [hfv] at hf7
  have hF1 : k.fl nx = fv := by rw [← hk]; show (t2 xs nx).toNat = fv; rw [hfv]; simp
  have hs1 := hok.s nx (by rw [← hk] at hkn; rw [hkn]; exact hn)
  rw [hk] at hok hs1
  have hS1 : k.S nx = t1 xs nx := by rw [← hk]; rfl
  have hW : k.W fv = gi ws fv := by rw [← hk]; rfl
  have hcb := cost_bd hok (i := nx) (by rw [hkn]; exact hn)
  have hw8 := hok.w fv (by omega)
  have hcost : k.cost nx = 840 / gi ws fv * t1 xs nx := by unfold PK.cost; rw [hF1, hW, hS1]
  rw [hW] at hw8
  rw [hS1] at hs1
  have hlb := hi.last
  have heb := hi.E fv
  have hwl := hi.len
  have hwn := hi.next
  rw [hnx] at hlb heb hwl hwn
  obtain ⟨lb, lo, rfl, hltl, hcl⟩ := hx.cells (by omega)
  obtain ⟨gb, gf, rfl, hltg, hcg⟩ := g.cells (by omega)
  obtain ⟨c0, c1, c2⟩ := hcl nx hn
  have cw := hcg fv (by omega)
  rw [hfv] at c2
  clear hcl hcg
  obtain ⟨a, ha⟩ : ∃ a, t0 xs nx = a := ⟨_, rfl⟩
  obtain ⟨sz, hsz⟩ : ∃ sz, t1 xs nx = sz := ⟨_, rfl⟩
  obtain ⟨wv8, hwv8⟩ : ∃ x, gi ws fv = x := ⟨_, rfl⟩
  obtain ⟨e0, he0⟩ : ∃ e0, s.E fv = e0 := ⟨_, rfl⟩
  obtain ⟨la, hla⟩ : ∃ la, s.last = la := ⟨_, rfl⟩
  obtain ⟨wl, hwl2⟩ : ∃ wl, s.wait.length = wl := ⟨_, rfl⟩
  obtain ⟨kc, hkc⟩ : ∃ kc, k.cost nx = kc := ⟨_, rfl⟩
  rw [ha] at c0; rw [hsz] at c1 hs1 hcost; rw [hwv8] at cw hw8 hcost; rw [he0] at heb; rw [hla] at hlb; rw [hwl2] at hwl; rw [hkc] at hcb hcost
  obtain ⟨qv, hqv⟩ : ∃ qv, 840 / wv8 = qv := ⟨_, rfl⟩
  have hqb : 0 ≤ qv ∧ qv ≤ 840 := by
    rw [← hqv]; exact ⟨Int.ediv_nonneg (by omega) (by omega), Int.ediv_le_self _ (by omega)⟩
  have hdiv : Int.tdiv 840 wv8 = qv := by rw [Int.tdiv_eq_ediv_of_nonneg (by omega)]; exact hqv
  rw [hqv] at hcost
  have hmul : IntKind.i64.wrap (qv * sz) = kc := by rw [← hcost]; exact IntWalk.i64_in _ (by omega)
  obtain ⟨st, hst⟩ : ∃ st, max la e0 = st := ⟨_, rfl⟩
  have hstb : 0 ≤ st ∧ st ≤ 840000 * (nx : Int) := by omega
  have hadd : IntKind.i64.wrap (st + kc) = st + kc := IntWalk.i64_in _ (by omega)
  have HPUT : Hid (putF k s = { now := s.now, last := la, next := nx + 1, E := upN s.E fv (st + kc), bg := upN s.bg nx st, wait := s.wait ++ [nx], order := s.order }) := Lib.hid (by
    have h1 : stF k s = st := by
      show max s.last (s.E (k.fl s.next)) = st
      rw [hnx, hF1, he0, hla, hst]
    unfold putF
    rw [h1, hnx, hF1, hkc, hla])
  have HNX := Lib.hid hnx; have HE0 := Lib.hid he0; have HLA := Lib.hid hla; have HWL := Lib.hid hwl2; have HB := Lib.hid hb
  have HG := Lib.hid g; have HX := Lib.hid hx
  have hfv8 : fv < 8 := by omega
  have hsize := h.size
  have h1 := Lib.hid (h.alloc (.cells #[.int .i64 a, .int .i64 sz, .int .i64 (fv : Int)] 98))
  have T1 := Lib.hid (blk_new wv #[.int .i64 a, .int .i64 sz, .int .i64 (fv : Int)] 98)
  have d0 := (bdeep h.below hltl (lo + nx * 3)).trans c0
  have d1 := (bdeep h.below hltl (lo + nx * 3 + 1)).trans c1
  have d2 := (bdeep h.below hltl (lo + nx * 3 + 2)).trans c2
  have x1 := h.bl; have x8 := h.bn
  rw [hb] at x1 x8 hsize
  rw [hnx] at x8
  have y1 := blk_cell x1 0; have y8 := blk_cell x8 0
  rcases (show (e0 < la ∧ la = st) ∨ (la ≤ e0 ∧ e0 = st) by omega) with ⟨hle, hst2⟩ | ⟨hle, hst2⟩
  · have HST := Lib.hid hst
    have HST2 := Lib.hid hst2
    clear hnx hfv hF1 hkn hok hfl hk he ha hsz hwv8 he0 hla hwl2 hkc hqv hst hst2 hcost hS1 hW hb x1 x8 c0 c1 c2 g hx h
    change wv.cell? ⟨b + 1, 0, none⟩ = some (.slice (some ⟨lb, lo, none⟩) m d) at y1; change wv.cell? ⟨b + 8, 0, none⟩ = some (.int .i64 (nx : Int)) at y8
    go_enter Try.func63, Try.ntmps63
    go_wp2
    clear d0 d1 d2 y1 y8
    obtain ⟨tp, htp⟩ : ∃ tp, wv.heap.size = tp := ⟨_, rfl⟩
    rw [htp] at T1 hsize ⊢
    generalize wv.alloc (.cells #[.int .i64 a, .int .i64 sz, .int .i64 (fv : Int)] 98) = W1 at *
    clear htp
    have hz1 : tp < W1.heap.size := (Array.getElem?_eq_some_iff.1 T1.out).1
    have kw := h1.out.bw; have kl := h1.out.bl; have km := h1.out.bm; have kb := h1.out.bb; have ka := h1.out.arr; have ke := h1.out.be; have kq := h1.out.bq; have kla := h1.out.bla; have kn := h1.out.bn
    rw [HB.out] at kw kl km kb ka ke kq kla kn
    rw [HNX.out] at km kn
    rw [HWL.out] at kq
    rw [HLA.out] at kla
    obtain ⟨W2, hq2, hM2, hg2⟩ := MapI.put (w := W1.drew) (km.block rfl) (by omega) (i := nx) (by omega) (v := st) (by omega)
    have z3 : W1.cell? ⟨b + 3, 0, none⟩ = some (.map (some (b + 2))) := blk_cell kb 0
    have z8 : W1.cell? ⟨b + 8, 0, none⟩ = some (.int .i64 (nx : Int)) := blk_cell kn 0
    have z5 : W1.cell? ⟨b + 5, 0, none⟩ = some (.slice (some ⟨b + 4, 0, none⟩) 8 8) := blk_cell ke 0
    have z7 : W1.cell? ⟨b + 7, 0, none⟩ = some (.int .i64 la) := blk_cell kla 0
    have z4 : W1.cell? ⟨b + 4, fv, none⟩ = some (.int .i64 e0) := by
      rw [blk_cell ka fv, ← HE0.out]
      simp [tab, hfv8]
    have t2' : W1.cell? ⟨tp, 2, none⟩ = some (.int .i64 (fv : Int)) := blk_cell T1.out 2
    have h2 := HST2.out
    subst h2
    have hfvJ : (fv : Int) < 8 := by omega
    go_still_tail 9, (by kernel_rfl)
    change wpList _ _ _ _ _ W1.drew
    go_wp2
    have kk : ∀ x, x < W1.heap.size → x ≠ b + 2 → W2.heap[x]? = W1.heap[x]? := fun x hx hne => hg2.block x hx (fun e => hne (by cases e; rfl))
    have HKK := Lib.hid kk
    have hz2 : W1.heap.size ≤ W2.heap.size := hg2.size
    have j0 := blk_cell ((kk _ (by omega) (by omega)).trans kw) 0
    have j3 := blk_cell ((kk _ (by omega) (by omega)).trans kb) 0
    have j5 := blk_cell ((kk _ (by omega) (by omega)).trans ke) 0
    have j8 := blk_cell ((kk _ (by omega) (by omega)).trans kn) 0
    have jt1 : W2.cell? ⟨tp, 1, none⟩ = some (.int .i64 sz) := blk_cell ((kk _ (by omega) (by omega)).trans T1.out) 1
    have jt2 : W2.cell? ⟨tp, 2, none⟩ = some (.int .i64 (fv : Int)) := blk_cell ((kk _ (by omega) (by omega)).trans T1.out) 2
    have ka2 := (kk _ (by omega) (by omega)).trans ka
    have j4 : W2.cell? ⟨b + 4, fv, none⟩ = some (.int .i64 e0) := by
      rw [blk_cell ka2 fv, ← HE0.out]
      simp [tab, hfv8]
    have f4 : W2.frozen? ⟨b + 4, fv, none⟩ = false := blk_free ka2 fv
    have jw : W2.cell? ⟨gb, gf + fv, none⟩ = some (.int .i64 wv8) := (blk_cellEq (kk gb (by have := h1.out.below.size; omega) (by have := HB.out; omega))).trans ((bdeep h1.out.below hltg (gf + fv)).trans cw)
    change W2.cell? ⟨b, 0, none⟩ = some (.slice (some ⟨gb, gf, none⟩) 8 c) at j0
    change W2.cell? ⟨b + 3, 0, none⟩ = some (.map (some (b + 2))) at j3
    change W2.cell? ⟨b + 5, 0, none⟩ = some (.slice (some ⟨b + 4, 0, none⟩) 8 8) at j5
    change W2.cell? ⟨b + 8, 0, none⟩ = some (.int .i64 (nx : Int)) at j8
    have hl2 := MapI.look (w := W2.drew) (hM2.block rfl) (i := nx) (by omega)
    rw [upN_at] at hl2
    clear kk z3 z8 z5 z7 z4 t2' hq2
    have hfvI : (fv : Int) < 8 := by omega
    have hwne : ¬ wv8 = 0 := by omega
    have hqw : IntKind.i64.wrap qv = qv := IntWalk.i64_in _ (by omega)
    go_still_tail 17, (by kernel_rfl)
    change wpList _ _ _ _ _ W2.drew
    have hkk := HKK.out
    have hbz := h1.out.size
    rw [HB.out] at hbz
    have hblt := h1.out.below.size
    rw [HB.out] at hblt
    have j6 : W2.cell? ⟨b + 6, 0, none⟩ = some (.slice qw wl dw) := blk_cell ((hkk _ (by omega) (by omega)).trans kq) 0
    have HKQ := Lib.hid ((hkk _ (by omega) (by omega)).trans kq)
    have HKN := Lib.hid ((hkk _ (by omega) (by omega)).trans kn)
    have HM2 := Lib.hid hM2
    have HG2 := Lib.hid hg2
    have hoW : Hid (OwnI (W2.drew.setCell ⟨b + 4, fv, none⟩ (.int .i64 (la + kc))) (b + 9) qw wl dw (natL s.wait)) := Lib.hid (by
      have h9 := h1.out.wrow
      rw [HB.out, HWL.out] at h9
      refine h9.blkEq (fun a9 e9 => ?_)
      have h8 := h9.1.lt a9.block (by rw [e9]; rfl)
      rw [Below.heap_setCell W2.drew _ _ _ (by show a9.block ≠ b + 4; omega)]
      exact hkk _ (by omega) (by omega))
    have hzz : b + 9 ≤ (W2.drew.setCell ⟨b + 4, fv, none⟩ (.int .i64 (la + kc))).heap.size := by simp; omega
    have hwl6 : wl < 1000000 := by omega
    clear hkk kw kl km kb ka ke kq kla kn j0 j3 jt1 jt2 jw hl2 hM2 hg2 hdiv hmul hadd hwne hqw
    go_wp2_with (at_builtin; go_loud (refine wpL_push_int Try.tyIntsFr rfl rfl (B := b + 9) (W0 := W2.drew.setCell ⟨b + 4, fv, none⟩ (.int .i64 (la + kc))) (by first | rfl | simp [Act.eval]) (by first | rfl | simp [Act.eval]) hoW.out (Below.refl _ _) (by omega) hzz ?_; intro p' c' w4 ho4 hb4 hg4 ha4; have d6 : w4.cell? ⟨b + 6, 0, none⟩ = some (.slice qw wl dw) := blk_cell ((hb4.block (b + 6) (by omega)).trans ((Below.heap_setCell W2.drew _ _ _ (by show b + 6 ≠ b + 4; omega)).trans HKQ.out)) 0; have f6 : w4.frozen? ⟨b + 6, 0, none⟩ = false := blk_free ((hb4.block (b + 6) (by omega)).trans ((Below.heap_setCell W2.drew _ _ _ (by show b + 6 ≠ b + 4; omega)).trans HKQ.out)) 0; have d8 : w4.cell? ⟨b + 8, 0, none⟩ = some (.int .i64 (nx : Int)) := blk_cell ((hb4.block (b + 8) (by omega)).trans ((Below.heap_setCell W2.drew _ _ _ (by show b + 8 ≠ b + 4; omega)).trans HKN.out)) 0; have f8 : w4.frozen? ⟨b + 8, 0, none⟩ = false := blk_free ((hb4.block (b + 8) (by omega)).trans ((Below.heap_setCell W2.drew _ _ _ (by show b + 8 ≠ b + 4; omega)).trans HKN.out)) 0))
    have HG4 := Lib.hid hg4; have HA4 := Lib.hid ha4
    go_end0
    refine ⟨rfl, p', c', ?_⟩
    rw [HPUT.out]
    have h7 := h1.out.put (s' := { now := s.now, last := la, next := nx + 1, E := upN s.E fv (la + kc), bg := upN s.bg nx la, wait := s.wait ++ [nx], order := s.order }) (fv := fv) (nx := nx + 1) (v := la + kc) (p' := p') (c' := c') (w4 := w4) HB.out hfv8 HG2.out HM2.out (by
      rw [HWL.out]; have e : natL (s.wait ++ [nx]) = natL s.wait ++ [(nx : Int)] := by unfold natL; simp
      rw [e]; exact ho4) hb4 (by rw [HWL.out]; exact HG4.out) HA4.out rfl (by simp) rfl HLA.out.symm rfl
    rw [HWL.out] at h7
    exact h7
  · have HST := Lib.hid hst
    have HST2 := Lib.hid hst2
    clear hnx hfv hF1 hkn hok hfl hk he ha hsz hwv8 he0 hla hwl2 hkc hqv hst hst2 hcost hS1 hW hb x1 x8 c0 c1 c2 g hx h
    change wv.cell? ⟨b + 1, 0, none⟩ = some (.slice (some ⟨lb, lo, none⟩) m d) at y1; change wv.cell? ⟨b + 8, 0, none⟩ = some (.int .i64 (nx : Int)) at y8
    go_enter Try.func63, Try.ntmps63
    go_wp2
    clear d0 d1 d2 y1 y8
    obtain ⟨tp, htp⟩ : ∃ tp, wv.heap.size = tp := ⟨_, rfl⟩
    rw [htp] at T1 hsize ⊢
    generalize wv.alloc (.cells #[.int .i64 a, .int .i64 sz, .int .i64 (fv : Int)] 98) = W1 at *
    clear htp
    have hz1 : tp < W1.heap.size := (Array.getElem?_eq_some_iff.1 T1.out).1
    have kw := h1.out.bw; have kl := h1.out.bl; have km := h1.out.bm; have kb := h1.out.bb; have ka := h1.out.arr; have ke := h1.out.be; have kq := h1.out.bq; have kla := h1.out.bla; have kn := h1.out.bn
    rw [HB.out] at kw kl km kb ka ke kq kla kn
    rw [HNX.out] at km kn
    rw [HWL.out] at kq
    rw [HLA.out] at kla
    obtain ⟨W2, hq2, hM2, hg2⟩ := MapI.put (w := W1.drew) (km.block rfl) (by omega) (i := nx) (by omega) (v := st) (by omega)
    have z3 : W1.cell? ⟨b + 3, 0, none⟩ = some (.map (some (b + 2))) := blk_cell kb 0
    have z8 : W1.cell? ⟨b + 8, 0, none⟩ = some (.int .i64 (nx : Int)) := blk_cell kn 0
    have z5 : W1.cell? ⟨b + 5, 0, none⟩ = some (.slice (some ⟨b + 4, 0, none⟩) 8 8) := blk_cell ke 0
    have z7 : W1.cell? ⟨b + 7, 0, none⟩ = some (.int .i64 la) := blk_cell kla 0
    have z4 : W1.cell? ⟨b + 4, fv, none⟩ = some (.int .i64 e0) := by
      rw [blk_cell ka fv, ← HE0.out]
      simp [tab, hfv8]
    have t2' : W1.cell? ⟨tp, 2, none⟩ = some (.int .i64 (fv : Int)) := blk_cell T1.out 2
    have h2 := HST2.out
    subst h2
    have hfvJ : (fv : Int) < 8 := by omega
    have hnlt : ¬ e0 < la := by omega
    go_still_tail 9, (by kernel_rfl)
    change wpList _ _ _ _ _ W1.drew
    go_wp2
    have kk : ∀ x, x < W1.heap.size → x ≠ b + 2 → W2.heap[x]? = W1.heap[x]? := fun x hx hne => hg2.block x hx (fun e => hne (by cases e; rfl))
    have HKK := Lib.hid kk
    have hz2 : W1.heap.size ≤ W2.heap.size := hg2.size
    have j0 := blk_cell ((kk _ (by omega) (by omega)).trans kw) 0
    have j3 := blk_cell ((kk _ (by omega) (by omega)).trans kb) 0
    have j5 := blk_cell ((kk _ (by omega) (by omega)).trans ke) 0
    have j8 := blk_cell ((kk _ (by omega) (by omega)).trans kn) 0
    have jt1 : W2.cell? ⟨tp, 1, none⟩ = some (.int .i64 sz) := blk_cell ((kk _ (by omega) (by omega)).trans T1.out) 1
    have jt2 : W2.cell? ⟨tp, 2, none⟩ = some (.int .i64 (fv : Int)) := blk_cell ((kk _ (by omega) (by omega)).trans T1.out) 2
    have ka2 := (kk _ (by omega) (by omega)).trans ka
    have j4 : W2.cell? ⟨b + 4, fv, none⟩ = some (.int .i64 e0) := by
      rw [blk_cell ka2 fv, ← HE0.out]
      simp [tab, hfv8]
    have f4 : W2.frozen? ⟨b + 4, fv, none⟩ = false := blk_free ka2 fv
    have jw : W2.cell? ⟨gb, gf + fv, none⟩ = some (.int .i64 wv8) := (blk_cellEq (kk gb (by have := h1.out.below.size; omega) (by have := HB.out; omega))).trans ((bdeep h1.out.below hltg (gf + fv)).trans cw)
    change W2.cell? ⟨b, 0, none⟩ = some (.slice (some ⟨gb, gf, none⟩) 8 c) at j0
    change W2.cell? ⟨b + 3, 0, none⟩ = some (.map (some (b + 2))) at j3
    change W2.cell? ⟨b + 5, 0, none⟩ = some (.slice (some ⟨b + 4, 0, none⟩) 8 8) at j5
    change W2.cell? ⟨b + 8, 0, none⟩ = some (.int .i64 (nx : Int)) at j8
    have hl2 := MapI.look (w := W2.drew) (hM2.block rfl) (i := nx) (by omega)
    rw [upN_at] at hl2
    clear kk z3 z8 z5 z7 z4 t2' hq2
    have hfvI : (fv : Int) < 8 := by omega
    have hwne : ¬ wv8 = 0 := by omega
    have hqw : IntKind.i64.wrap qv = qv := IntWalk.i64_in _ (by omega)
    go_still_tail 17, (by kernel_rfl)
    change wpList _ _ _ _ _ W2.drew
    have hkk := HKK.out
    have hbz := h1.out.size
    rw [HB.out] at hbz
    have hblt := h1.out.below.size
    rw [HB.out] at hblt
    have j6 : W2.cell? ⟨b + 6, 0, none⟩ = some (.slice qw wl dw) := blk_cell ((hkk _ (by omega) (by omega)).trans kq) 0
    have HKQ := Lib.hid ((hkk _ (by omega) (by omega)).trans kq)
    have HKN := Lib.hid ((hkk _ (by omega) (by omega)).trans kn)
    have HM2 := Lib.hid hM2
    have HG2 := Lib.hid hg2
    have hoW : Hid (OwnI (W2.drew.setCell ⟨b + 4, fv, none⟩ (.int .i64 (e0 + kc))) (b + 9) qw wl dw (natL s.wait)) := Lib.hid (by
      have h9 := h1.out.wrow
      rw [HB.out, HWL.out] at h9
      refine h9.blkEq (fun a9 e9 => ?_)
      have h8 := h9.1.lt a9.block (by rw [e9]; rfl)
      rw [Below.heap_setCell W2.drew _ _ _ (by show a9.block ≠ b + 4; omega)]
      exact hkk _ (by omega) (by omega))
    have hzz : b + 9 ≤ (W2.drew.setCell ⟨b + 4, fv, none⟩ (.int .i64 (e0 + kc))).heap.size := by simp; omega
    have hwl6 : wl < 1000000 := by omega
    clear hkk kw kl km kb ka ke kq kla kn j0 j3 jt1 jt2 jw hl2 hM2 hg2 hdiv hmul hadd hwne hqw
    go_wp2_with (at_builtin; go_loud (refine wpL_push_int Try.tyIntsFr rfl rfl (B := b + 9) (W0 := W2.drew.setCell ⟨b + 4, fv, none⟩ (.int .i64 (e0 + kc))) (by first | rfl | simp [Act.eval]) (by first | rfl | simp [Act.eval]) hoW.out (Below.refl _ _) (by omega) hzz ?_; intro p' c' w4 ho4 hb4 hg4 ha4; have d6 : w4.cell? ⟨b + 6, 0, none⟩ = some (.slice qw wl dw) := blk_cell ((hb4.block (b + 6) (by omega)).trans ((Below.heap_setCell W2.drew _ _ _ (by show b + 6 ≠ b + 4; omega)).trans HKQ.out)) 0; have f6 : w4.frozen? ⟨b + 6, 0, none⟩ = false := blk_free ((hb4.block (b + 6) (by omega)).trans ((Below.heap_setCell W2.drew _ _ _ (by show b + 6 ≠ b + 4; omega)).trans HKQ.out)) 0; have d8 : w4.cell? ⟨b + 8, 0, none⟩ = some (.int .i64 (nx : Int)) := blk_cell ((hb4.block (b + 8) (by omega)).trans ((Below.heap_setCell W2.drew _ _ _ (by show b + 8 ≠ b + 4; omega)).trans HKN.out)) 0; have f8 : w4.frozen? ⟨b + 8, 0, none⟩ = false := blk_free ((hb4.block (b + 8) (by omega)).trans ((Below.heap_setCell W2.drew _ _ _ (by show b + 8 ≠ b + 4; omega)).trans HKN.out)) 0))
    have HG4 := Lib.hid hg4; have HA4 := Lib.hid ha4
    go_end0
    refine ⟨rfl, p', c', ?_⟩
    rw [HPUT.out]
    have h7 := h1.out.put (s' := { now := s.now, last := la, next := nx + 1, E := upN s.E fv (e0 + kc), bg := upN s.bg nx e0, wait := s.wait ++ [nx], order := s.order }) (fv := fv) (nx := nx + 1) (v := e0 + kc) (p' := p') (c' := c') (w4 := w4) HB.out hfv8 HG2.out HM2.out (by
      rw [HWL.out]; have e : natL (s.wait ++ [nx]) = natL s.wait ++ [(nx : Int)] := by unfold natL; simp
      rw [e]; exact ho4) hb4 (by rw [HWL.out]; exact HG4.out) HA4.out rfl (by simp) rfl HLA.out.symm rfl
    rw [HWL.out] at h7
    exact h7
end Go.Proofs.Ytgnegemiiahkaaa
