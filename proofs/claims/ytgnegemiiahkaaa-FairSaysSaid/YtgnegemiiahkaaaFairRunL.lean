/- What fair.Run keeps (P42). Conditions: the packets and the weights are well formed. -/
import Derived.Test.YtgnegemiiahkaaaFairCheck
import Derived.Test.YtgnegemiiahkaaaFairRow
import Derived.Test.YtgnegemiiahkaaaQuietB
import Derived.Deep.RegionLaw
import Derived.BigRegion
import Derived.IntWalk
namespace Go.Proofs.Ytgnegemiiahkaaa
open Go Go.RowKit
set_option linter.unusedVariables false
set_option linter.unusedSimpArgs false

abbrev TG := Int × Int
def encT (x : TG) : List Value := [.int .i64 x.1, .int .i64 x.2]
theorem encT_len (x : TG) : (encT x).length = 2 := rfl
theorem encT_one (x : TG) : ∀ u ∈ encT x, u.oneCell' = true := by
  intro u hu
  simp only [encT, List.mem_cons, List.not_mem_nil, or_false] at hu
  rcases hu with rfl | rfl <;> rfl
theorem Try.tyTags : SliceTy Try.prog 96 100 (.agg #[.int .i64 0, .int .i64 0]) 2 16 := ⟨Try.underlying96, by kernel_rfl⟩
theorem Try.tyIntsFr : SliceTy Try.prog 35 3 (.int .i64 0) 1 8 := ⟨Try.underlying35, by kernel_rfl⟩
abbrev OwnT (w : World) (B : Nat) (q : Option Addr) (m d : Nat) (L : List TG) : Prop := OwnR 100 encT 2 w B q m d L
def tagL (s : FS) : List TG := s.wait.map fun (i : Nat) => (s.bg i, (i : Int))
def ordL (s : FS) : List Int := s.order.map fun (i : Nat) => (i : Int)
structure FRun (w0 : World) (b7 B : Nat) (wv : World) (s : FS) (qw : Option Addr) (dw : Nat) (qo : Option Addr) (dd : Nat) : Prop where
  below : Below w0.heap.size w0 wv
  size : B ≤ wv.heap.size
  arr : wv.heap[b7]? = some (.cells ((tab 8 fun i => Value.int .i64 (s.E i)).toArray) 95 (0, 0))
  wrow : OwnT wv B qw s.wait.length dw (tagL s)
  orow : OwnI wv B qo s.order.length dd (ordL s)
  sep : Sep qw qo

section
variable {w0 wv : World} {b7 B : Nat} {s s' : FS} {qw qo : Option Addr} {dw dd : Nat}
theorem FRun.same (h : FRun w0 b7 B wv s qw dw qo dd) (e1 : s.E = s'.E) (e2 : s.wait = s'.wait) (e3 : tagL s = tagL s') (e4 : s.order = s'.order) : FRun w0 b7 B wv s' qw dw qo dd :=
  ⟨h.below, h.size, e1 ▸ h.arr, by rw [← e2, ← e3]; exact h.wrow, by have := h.orow; unfold ordL at *; rwa [← e4], h.sep⟩
theorem FRun.drewN (h : FRun w0 b7 B wv s qw dw qo dd) (k : Nat) : FRun w0 b7 B (wv.drewN k) s qw dw qo dd :=
  ⟨below_drewN h.below k, h.size, h.arr, h.wrow.drewN k, h.orow.drewN k, h.sep⟩
theorem FRun.alloc (h : FRun w0 b7 B wv s qw dw qo dd) (h7 : b7 < B) (o : Obj) : FRun w0 b7 B (wv.alloc o) s qw dw qo dd := by
  have hs := h.size
  exact ⟨h.below.alloc h.below.size o, by simp; omega, blk_alloc h.arr, h.wrow.alloc o, h.orow.below ((Below.refl _ wv).alloc (Nat.le_refl _) o), h.sep⟩
theorem FRun.arrSet (h : FRun w0 b7 B wv s qw dw qo dd) (h7 : b7 < B) (h0 : w0.heap.size ≤ b7) {i : Nat} (hi : i < 8) (v : Int) : FRun w0 b7 B (wv.setCell ⟨b7, i, none⟩ (.int .i64 v)) { s with E := upN s.E i v } qw dw qo dd := by
  refine ⟨h.below.setCell h0 _, by simpa using h.size, ?_, h.wrow.apart (fun g2 e => ?_), ?_, h.sep⟩
  · have h1 := blk_set (j := i) (v := .int .i64 v) h.arr
    rw [h1]
    simp only [List.setIfInBounds_toArray, tab_set]
    rw [tab_congr (z' := fun j => Value.int .i64 (upN s.E i v j)) (fun j hj => by unfold upN; split <;> rfl)]
  · subst e; have := h.wrow.blk; omega
  · have ho := h.orow
    refine ⟨⟨ho.1.1, ?_⟩, ho.2⟩
    rcases ho.1.2 with h5 | ⟨g2, cap, cur, hv, hg, hh, r⟩
    · exact .inl h5
    · exact .inr ⟨g2, cap, cur, hv, hg, blk_other hh (by omega), r⟩
theorem FRun.pushW {w4 : World} {o : Obj} {q' : Option Addr} {d' : Nat} (h : FRun w0 b7 B wv s qw dw qo dd) (h7 : b7 < B) (h0 : w0.heap.size ≤ b7) (ho : OwnT w4 B q' (s.wait.length + 1) d' (tagL s')) (hw : s'.wait.length = s.wait.length + 1) (e1 : s.E = s'.E) (e4 : s.order = s'.order) (hb : Below B wv w4)
    (hg : (wv.alloc o).grownBy w4 (Value.slice qw s.wait.length dw).ownBlock) (ha : ∃ g, q' = some ⟨g, 0, none⟩ ∧ (qw = some ⟨g, 0, none⟩ ∨ g = wv.heap.size + 1)) : FRun w0 b7 B w4 s' q' d' qo dd := by
  refine ⟨h.below.trans (hb.mono (by omega)), Nat.le_trans h.size hb.size, ?_, by rw [hw]; exact ho, ?_, Sep.push h.sep h.orow ha⟩
  · rw [← e1]; exact (hb.block b7 h7).trans h.arr
  · have := OwnI.keep h.orow hg h.sep
    unfold ordL at *; rwa [← e4]
end
abbrev FRunH (w0 : World) (b7 B : Nat) (wv : World) (s : FS) (qw : Option Addr) (dw : Nat) (qo : Option Addr) (dd : Nat) : Prop := Hid (FRun w0 b7 B wv s qw dw qo dd)
theorem tag_push {s : FS} {nx : Nat} {st : Int} (h : ∀ i ∈ s.wait, i < nx) {now last : Int} {next : Nat} {E : Nat → Int} {order : List Nat} : tagL { now := now, last := last, next := next, E := E, bg := upN s.bg nx st, wait := s.wait ++ [nx], order := order } = s.wait.map (fun (i : Nat) => (s.bg i, (i : Int))) ++ [(st, (nx : Int))] := by
  unfold tagL
  simp only [List.map_append, List.map_cons, List.map_nil, upN_at]
  congr 1
  apply List.map_congr_left
  intro i hi
  have := h i hi
  rw [upN_ne (by omega)]
theorem jump_wait_ne {k : PK} {s : FS} (h : s.wait ≠ []) : jumpF k s = s := by unfold jumpF; rw [if_neg (fun h2 => h h2.1)]
theorem jump_none {k : PK} {s : FS} (h : ¬ (s.next < k.n ∧ s.now < k.A s.next)) : jumpF k s = s := by unfold jumpF; rw [if_neg (fun h2 => h h2.2)]
theorem jump_now {k : PK} {s : FS} (h : s.next < k.n) (h2 : s.wait = [] ∨ k.A s.next ≤ s.now) : jumpF k s = { s with now := max s.now (k.A s.next) } := by
  unfold jumpF
  by_cases e : s.wait = [] ∧ s.next < k.n ∧ s.now < k.A s.next
  · rw [if_pos e]; congr 1; have := e.2.2; omega
  · rw [if_neg e]
    have : k.A s.next ≤ s.now := by
      rcases h2 with h2 | h2
      · apply Classical.byContradiction; intro h3; exact e ⟨h2, h, by omega⟩
      · exact h2
    rw [show max s.now (k.A s.next) = s.now by omega]
theorem jump_in {k : PK} {s : FS} (h : s.next < k.n) (h2 : s.wait = [] ∨ k.A s.next ≤ s.now) : inF k (jumpF k s) := by
  rw [jump_now h h2]; exact ⟨h, by show k.A s.next ≤ max s.now (k.A s.next); omega⟩

theorem keep_blkF {w w' : World} {o obj : Obj} {b n c : Nat} {p : Option Addr} (hb : w.heap[b]? = some o) (hg : (w.alloc obj).grownBy w' (Value.slice p n c).ownBlock) (hp : ∀ a, p = some a → a.block ≠ b) : w'.heap[b]? = some o := by
  have hlt := (Array.getElem?_eq_some_iff.1 hb).1
  rw [hg.block b (by simp; omega) (fun e => by
    cases p with
    | none => simp [Value.ownBlock] at e
    | some a => simp only [Value.ownBlock, Option.some.injEq] at e; exact hp a rfl e.symm)]
  exact blk_alloc hb
theorem FRun.lt7 {w0 wv : World} {b7 B : Nat} {s : FS} {qw qo : Option Addr} {dw dd : Nat} (h : FRun w0 b7 B wv s qw dw qo dd) : b7 < wv.heap.size := (Array.getElem?_eq_some_iff.1 h.arr).1
theorem FRun.to {w0 wv v : World} {b7 B : Nat} {s : FS} {qw qo : Option Addr} {dw dd : Nat} (h : FRun w0 b7 B wv s qw dw qo dd) (hb : Below wv.heap.size wv v) : FRun w0 b7 B v s qw dw qo dd :=
  ⟨h.below.trans (hb.mono h.below.size), Nat.le_trans h.size hb.size, (hb.block b7 h.lt7).trans h.arr, h.wrow.below hb, h.orow.below hb, h.sep⟩
theorem ge_tagL {s : FS} {j : Nat} (h : j < s.wait.length) : ge (tagL s) j = (s.bg (ge s.wait j), ((ge s.wait j : Nat) : Int)) := by
  rw [ge_get (show j < (tagL s).length by unfold tagL; simpa using h), ge_get h]
  unfold tagL
  rw [List.getElem_map]
theorem cells_tag {w : World} {B g n d k : Nat} {s : FS} (ho : OwnT w B (some ⟨g, 0, none⟩) n d (tagL s)) (hk : k < n) :
    w.cell? ⟨g, k * 2, none⟩ = some (.int .i64 (s.bg (ge s.wait k))) ∧ w.cell? ⟨g, k * 2 + 1, none⟩ = some (.int .i64 ((ge s.wait k : Nat) : Int)) := by
  have h0 := ho.at encT_len hk (i := 0) (by omega)
  have h1 := ho.at encT_len hk (i := 1) (by omega)
  have hn : n = s.wait.length := by have := ho.len; unfold tagL at this; simpa using this.symm
  rw [ge_tagL (by omega)] at h0 h1
  exact ⟨h0, h1⟩
theorem lessF_self (bg : Nat → Int) (i : Nat) : lessF bg i i = false := by unfold lessF; simp
theorem best_next (bg : Nat → Int) (L : List Nat) (i : Nat) : bestI bg L i = if lessF bg (ge L i) (ge L (bestI bg L (i - 1))) = true then i else bestI bg L (i - 1) := by
  cases i with
  | zero => rw [if_neg (by simp [bestI, lessF_self])]
  | succ i => rfl
theorem tagL_erase {s : FS} {i : Nat} (s' : FS) (h1 : s'.wait = s.wait.eraseIdx i) (h2 : s'.bg = s.bg) : tagL s' = (tagL s).eraseIdx i := by
  unfold tagL
  rw [h1, h2, List.eraseIdx_eq_take_drop_succ, List.eraseIdx_eq_take_drop_succ, List.map_append, List.map_take, List.map_drop]
theorem setCells_other {g x : Nat} (hx : x ≠ g) : ∀ (vs : List Value) (o : Nat) (w : World), (w.setCells g o vs).heap[x]? = w.heap[x]?
  | [], _, _ => rfl
  | v :: r, o, w => (setCells_other hx r (o + 1) _).trans (Below.heap_setCell w _ v x hx)
theorem below_setCellsF {B g : Nat} (hg : B ≤ g) : ∀ (vs : List Value) (o : Nat) {w0 w : World}, Below B w0 w → Below B w0 (w.setCells g o vs)
  | [], _, _, _, h => h
  | v :: r, o, _, _, h => below_setCellsF hg r (o + 1) (h.setCell (p := ⟨g, o, none⟩) hg v)
theorem size_setCellsF {g : Nat} : ∀ (vs : List Value) (o : Nat) (w : World), (w.setCells g o vs).heap.size = w.heap.size
  | [], _, _ => rfl
  | v :: r, o, w => (size_setCellsF r (o + 1) _).trans (by simp)
theorem FRun.cut {w0 wv : World} {b7 B : Nat} {s s' : FS} {g : Nat} {qo : Option Addr} {dw dd : Nat} (h : FRun w0 b7 B wv s (some ⟨g, 0, none⟩) dw qo dd) (h7 : b7 < B) (h0 : w0.heap.size ≤ b7) {i : Nat} (hi : i < s.wait.length) (e1 : s'.E = s.E) (e2 : s'.wait = s.wait.eraseIdx i) (e3 : s'.bg = s.bg) (e4 : s'.order = s.order) :
    FRun w0 b7 B (wv.setCells g (i * 2) (((tagL s).drop (i + 1)).flatMap encT)) s' (some ⟨g, 0, none⟩) dw qo dd := by
  have hg := h.wrow.blk
  have hw := OwnR.erase encT_len h.wrow hi
  have hb7 := h.below.size
  have hz := h.size
  refine ⟨below_setCellsF (by omega) _ _ h.below, by rw [size_setCellsF]; exact h.size, ?_, ?_, ?_, h.sep⟩
  · rw [setCells_other (by omega), e1]; exact h.arr
  · rw [tagL_erase s' e2 e3, e2, List.length_eraseIdx, if_pos hi]; exact hw
  · unfold ordL
    rw [e4]
    have ho := h.orow
    refine ⟨⟨ho.1.1, ?_⟩, ho.2⟩
    rcases ho.1.2 with h5 | ⟨g2, cap, cur, hv, hg2, hh, r⟩
    · exact .inl h5
    · refine .inr ⟨g2, cap, cur, hv, hg2, ?_, r⟩
      rw [setCells_other (fun e => ?_)]
      · exact hh
      · simp only [Value.slice.injEq, true_and] at hv
        exact h.sep _ _ rfl hv.1 e.symm
theorem FRun.pushO {w0 wv w4 : World} {b7 B : Nat} {s s' : FS} {qw qo q' : Option Addr} {dw dd d' : Nat} {o : Obj} (h : FRun w0 b7 B wv s qw dw qo dd) (h7 : b7 < B) (h0 : w0.heap.size ≤ b7) (ho : OwnI w4 B q' (s.order.length + 1) d' (ordL s')) (e1 : s'.E = s.E) (e2 : s'.wait = s.wait) (e3 : s'.bg = s.bg) (e4 : s'.order.length = s.order.length + 1) (hb : Below B wv w4)
    (hg : (wv.alloc o).grownBy w4 (Value.slice qo s.order.length dd).ownBlock) (ha : ∃ g, q' = some ⟨g, 0, none⟩ ∧ (qo = some ⟨g, 0, none⟩ ∨ g = wv.heap.size + 1)) : FRun w0 b7 B w4 s' qw dw q' d' := by
  have et : tagL s' = tagL s := by unfold tagL; rw [e2, e3]
  refine ⟨h.below.trans (hb.mono (by omega)), Nat.le_trans h.size hb.size, ?_, ?_, by rw [e4]; exact ho, ?_⟩
  · rw [e1]; exact (hb.block b7 h7).trans h.arr
  · rw [et, e2]
    have hq := h.wrow
    refine ⟨⟨hq.1.1, ?_⟩, hq.2⟩
    rcases hq.1.2 with h5 | ⟨g2, cap, cur, hv, hg2, hh, r⟩
    · exact .inl h5
    · refine .inr ⟨g2, cap, cur, hv, hg2, keep_blkF hh hg (fun a ha2 e => ?_), r⟩
      simp only [Value.slice.injEq, true_and] at hv
      exact h.sep _ _ hv.1 ha2 e.symm
  · intro x y hx hy
    obtain ⟨g, rfl, hg2⟩ := ha
    rcases hg2 with hg2 | hg2
    · exact h.sep x y hx (by rw [hg2, ← hy])
    · have := (h.wrow.1.lt x.block (by rw [hx]; rfl)).2
      simp only [Option.some.injEq] at hy
      subst hy
      show x.block ≠ g
      omega
theorem cut_cells {w : World} {B g n d i : Nat} {L : List TG} (ho : OwnT w B (some ⟨g, 0, none⟩) n d L) (hi : i < n) {nw : List Value} (hnw : (L.drop (i + 1)).flatMap encT = nw) :
    nw.length = (n - (i + 1)) * 2 ∧ (∀ u ∈ nw, u.oneCell' = true) ∧ (∀ j u, nw[j]? = some u → w.cell? ⟨g, (i + 1) * 2 + j, none⟩ = some u) ∧ (∀ j, j < nw.length → (w.cell? ⟨g, i * 2 + j, none⟩).isSome = true ∧ w.frozen? ⟨g, i * 2 + j, none⟩ = false) := by
  subst hnw
  have hl := ho.len
  have hlen : ((L.drop (i + 1)).flatMap encT).length = (n - (i + 1)) * 2 := by rw [fm_len encT_len, List.length_drop, hl]
  have hsp : L.flatMap encT = (L.take (i + 1)).flatMap encT ++ (L.drop (i + 1)).flatMap encT := by rw [← List.flatMap_append, List.take_append_drop]
  have hlt : ((L.take (i + 1)).flatMap encT).length = (i + 1) * 2 := by rw [fm_len encT_len, List.length_take, hl, Nat.min_eq_left (by omega)]
  refine ⟨hlen, ?_, fun j u hu => ?_, fun j hj => ?_⟩
  · intro u hu
    obtain ⟨x, _, hx⟩ := List.mem_flatMap.1 hu
    exact encT_one x u hx
  · have hj : j < (n - (i + 1)) * 2 := by
      have := (List.getElem?_eq_some_iff.1 hu).1
      rwa [hlen] at this
    rw [ho.1.cellAt ((i + 1) * 2 + j) (by omega), hsp, List.getElem?_append_right (by omega), hlt, show (i + 1) * 2 + j - (i + 1) * 2 = j by omega]
    exact hu
  · rw [hlen] at hj
    refine ⟨?_, ho.free _⟩
    have hfl : (L.flatMap encT).length = n * 2 := by rw [fm_len encT_len, hl]
    rw [ho.1.cellAt (i * 2 + j) (by omega), List.getElem?_eq_getElem (by omega)]
    rfl
/-- where 'x[i+1:]' begins -/
theorem cut_at {w : World} {B g n d i : Nat} {L : List TG} (ho : OwnT w B (some ⟨g, 0, none⟩) n d L) (hi : i < n) {nw : List Value} (hnw : (L.drop (i + 1)).flatMap encT = nw) :
    ∃ A : Addr, (if d = i + 1 then some (⟨g, 0, none⟩ : Addr) else some ⟨g, (i + 1) * 2, none⟩) = some A ∧ ∀ j u, nw[j]? = some u → w.cell? (A.add j) = some u := by
  obtain ⟨h1, _, h3, _⟩ := cut_cells ho hi hnw
  have hc := (Own.cap ho.1).1
  by_cases h : d = i + 1
  · refine ⟨⟨g, 0, none⟩, by simp [h], fun j u hu => ?_⟩
    have hj := (List.getElem?_eq_some_iff.1 hu).1
    omega
  · refine ⟨⟨g, (i + 1) * 2, none⟩, by simp [h], fun j u hu => ?_⟩
    rw [Addr.add_lit]
    exact h3 j u hu
end Go.Proofs.Ytgnegemiiahkaaa
