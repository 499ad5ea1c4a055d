/- What headref.Fair keeps, and its closures (P42). Conditions: the packets and the weights are well formed. -/
import Derived.Test.YtgnegemiiahkaaaFairRunL
import Derived.Test.YtgnegemiiahkaaaMinDel
namespace Go.Proofs.Ytgnegemiiahkaaa
open Go Go.RowKit
set_option linter.unusedVariables false
set_option linter.unusedSimpArgs false

def natL (L : List Nat) : List Int := L.map fun (i : Nat) => (i : Int)
structure FRef (w0 : World) (p q : Option Addr) (c m d : Nat) (wv : World) (s : FS) (qw : Option Addr) (dw : Nat) (qo : Option Addr) (dd : Nat) : Prop where
  below : Below w0.heap.size w0 wv
  size : w0.heap.size + 9 ≤ wv.heap.size
  bw : wv.heap[w0.heap.size]? = some (.cells #[.slice p 8 c] 35 (0, 0))
  bl : wv.heap[w0.heap.size + 1]? = some (.cells #[.slice q m d] 36 (0, 0))
  bm : MapI wv (w0.heap.size + 2) s.next s.bg
  bb : wv.heap[w0.heap.size + 3]? = some (.cells #[.map (some (w0.heap.size + 2))] 106 (0, 0))
  arr : wv.heap[w0.heap.size + 4]? = some (.cells ((tab 8 fun i => Value.int .i64 (s.E i)).toArray) 3 (0, 0))
  be : wv.heap[w0.heap.size + 5]? = some (.cells #[.slice (some ⟨w0.heap.size + 4, 0, none⟩) 8 8] 35 (0, 0))
  bq : wv.heap[w0.heap.size + 6]? = some (.cells #[.slice qw s.wait.length dw] 35 (0, 0))
  bla : wv.heap[w0.heap.size + 7]? = some (.cells #[.int .i64 s.last] 3 (0, 0))
  bn : wv.heap[w0.heap.size + 8]? = some (.cells #[.int .i64 (s.next : Int)] 3 (0, 0))
  wrow : OwnI wv (w0.heap.size + 9) qw s.wait.length dw (natL s.wait)
  orow : OwnI wv (w0.heap.size + 9) qo s.order.length dd (ordL s)
  sep : Sep qw qo
theorem OwnI.blkEq {w w' : World} {B n c : Nat} {q : Option Addr} {L : List Int} (h : OwnI w B q n c L) (e : ∀ a, q = some a → w'.heap[a.block]? = w.heap[a.block]?) : OwnI w' B q n c L := by
  refine ⟨⟨h.1.1, ?_⟩, h.2⟩
  rcases h.1.2 with h5 | ⟨g2, cap, cur, hv, hg2, hh, r⟩
  · exact .inl h5
  · refine .inr ⟨g2, cap, cur, hv, hg2, ?_, r⟩
    simp only [Value.slice.injEq, true_and] at hv
    exact (e _ hv.1).trans hh
section
variable {w0 wv : World} {p q : Option Addr} {c m d : Nat} {s : FS} {qw : Option Addr} {dw : Nat} {qo : Option Addr} {dd : Nat}
theorem FRef.to {v : World} (h : FRef w0 p q c m d wv s qw dw qo dd) (hb : Below wv.heap.size wv v) : FRef w0 p q c m d v s qw dw qo dd := by
  have hz := h.size
  have hk : ∀ x, x < wv.heap.size → v.heap[x]? = wv.heap[x]? := fun x hx => hb.block x hx
  exact ⟨h.below.trans (hb.mono h.below.size), Nat.le_trans h.size hb.size, (hk _ (by omega)).trans h.bw, (hk _ (by omega)).trans h.bl, h.bm.block (hk _ (by omega)), (hk _ (by omega)).trans h.bb, (hk _ (by omega)).trans h.arr, (hk _ (by omega)).trans h.be, (hk _ (by omega)).trans h.bq, (hk _ (by omega)).trans h.bla, (hk _ (by omega)).trans h.bn, h.wrow.below hb, h.orow.below hb, h.sep⟩
theorem FRef.drewN (h : FRef w0 p q c m d wv s qw dw qo dd) (k : Nat) : FRef w0 p q c m d (wv.drewN k) s qw dw qo dd :=
  h.to (below_drewN (Below.refl _ _) k)
theorem FRef.alloc (h : FRef w0 p q c m d wv s qw dw qo dd) (o : Obj) : FRef w0 p q c m d (wv.alloc o) s qw dw qo dd :=
  h.to ((Below.refl _ _).alloc (Nat.le_refl _) o)
end
theorem FRef.put {w0 W1 W2 w4 : World} {p q : Option Addr} {c m d : Nat} {s s' : FS} {qw : Option Addr} {dw : Nat} {qo : Option Addr} {dd b fv nx c' : Nat} {v : Int} {p' : Option Addr} {o : Obj}
    (h1 : FRef w0 p q c m d W1 s qw dw qo dd) (hb : w0.heap.size = b) (hfv : fv < 8) (hg2 : W1.drew.grownBy W2 (some (b + 2))) (hM : MapI W2 (b + 2) s'.next s'.bg)
    (ho4 : OwnI w4 (b + 9) p' (s.wait.length + 1) c' (natL s'.wait)) (hb4 : Below (b + 9) (W2.drew.setCell ⟨b + 4, fv, none⟩ (.int .i64 v)) w4)
    (hg4 : ((W2.drew.setCell ⟨b + 4, fv, none⟩ (.int .i64 v)).alloc o).grownBy w4 (Value.slice qw s.wait.length dw).ownBlock)
    (ha4 : ∃ g, p' = some ⟨g, 0, none⟩ ∧ (qw = some ⟨g, 0, none⟩ ∨ g = (W2.drew.setCell ⟨b + 4, fv, none⟩ (.int .i64 v)).heap.size + 1))
    (e1 : s'.E = upN s.E fv v) (e2 : s'.wait.length = s.wait.length + 1) (e3 : s'.order = s.order) (e4 : s'.last = s.last) (e5 : s'.next = nx) :
    FRef w0 p q c m d ((w4.setCell ⟨b + 6, 0, none⟩ (.slice p' (s.wait.length + 1) c')).setCell ⟨b + 8, 0, none⟩ (.int .i64 (nx : Int))) s' p' c' qo dd := by
  have hz := h1.size
  have hz2 : W1.heap.size ≤ W2.heap.size := hg2.size
  have hz4 : W2.heap.size ≤ w4.heap.size := by have := hb4.size; simpa using this
  have k2 : ∀ x, x < W1.heap.size → x ≠ b + 2 → W2.heap[x]? = W1.heap[x]? := fun x hx hne => hg2.block x hx (fun e => hne (by cases e; rfl))
  have k3 : ∀ x, x ≠ b + 4 → (W2.drew.setCell ⟨b + 4, fv, none⟩ (.int .i64 v)).heap[x]? = W2.heap[x]? := fun x hx => Below.heap_setCell W2.drew _ _ x hx
  have k6 : ∀ x, x ≠ b + 6 → x ≠ b + 8 → ((w4.setCell ⟨b + 6, 0, none⟩ (.slice p' (s.wait.length + 1) c')).setCell ⟨b + 8, 0, none⟩ (.int .i64 (nx : Int))).heap[x]? = w4.heap[x]? := fun x hx hx2 => (Below.heap_setCell _ _ _ x hx2).trans (Below.heap_setCell w4 _ _ x hx)
  have k4 : ∀ x, x < b + 9 → w4.heap[x]? = (W2.drew.setCell ⟨b + 4, fv, none⟩ (.int .i64 v)).heap[x]? := fun x hx => hb4.block x hx
  have kk : ∀ x, x < b + 9 → x ≠ b + 2 → x ≠ b + 4 → w4.heap[x]? = W1.heap[x]? := fun x h9 h2 h4 => ((k4 x h9).trans (k3 x h4)).trans (k2 x (by omega) h2)
  have kq : ∀ a, qo = some a → (W2.drew.setCell ⟨b + 4, fv, none⟩ (.int .i64 v)).heap[a.block]? = W1.heap[a.block]? := fun a ha => by
    have := h1.orow.1.lt a.block (by rw [ha]; rfl)
    exact (k3 _ (by omega)).trans (k2 _ (by omega) (by omega))
  have hbel : Below w0.heap.size w0 W2 := (Below.drew h1.below).grown hg2 (Below.drew h1.below).size (fun j hj => by cases hj; omega)
  have hbel3 : Below w0.heap.size w0 (W2.drew.setCell ⟨b + 4, fv, none⟩ (.int .i64 v)) := (Below.drew hbel).setCell (p := ⟨b + 4, fv, none⟩) (by show w0.heap.size ≤ b + 4; omega) _
  have hbel4 : Below w0.heap.size w0 w4 := hbel3.trans (hb4.mono (by omega))
  have horow3 : OwnI (W2.drew.setCell ⟨b + 4, fv, none⟩ (.int .i64 v)) (w0.heap.size + 9) qo s.order.length dd (ordL s) := h1.orow.blkEq kq
  have hord : ordL s' = ordL s := by unfold ordL; rw [e3]
  refine ⟨?_, ?_, ?_, ?_, ?_, ?_, ?_, ?_, ?_, ?_, ?_, ?_, ?_, ?_⟩
  · exact (hbel4.setCell (p := ⟨b + 6, 0, none⟩) (by show w0.heap.size ≤ b + 6; omega) _).setCell (p := ⟨b + 8, 0, none⟩) (by show w0.heap.size ≤ b + 8; omega) _
  · simp; omega
  · exact ((k6 _ (by omega) (by omega)).trans (kk _ (by omega) (by omega) (by omega))).trans h1.bw
  · exact ((k6 _ (by omega) (by omega)).trans (kk _ (by omega) (by omega) (by omega))).trans h1.bl
  · rw [hb]; exact hM.block ((k6 _ (by omega) (by omega)).trans ((k4 _ (by omega)).trans (k3 _ (by omega))))
  · exact ((k6 _ (by omega) (by omega)).trans (kk _ (by omega) (by omega) (by omega))).trans h1.bb
  · have ha := h1.arr
    rw [hb] at ha ⊢
    rw [k6 _ (by omega) (by omega), k4 _ (by omega)]
    have ha2 : W2.drew.heap[b + 4]? = some (.cells ((tab 8 fun i => Value.int .i64 (s.E i)).toArray) 3 (0, 0)) := (k2 _ (by omega) (by omega)).trans ha
    rw [blk_set (j := fv) (v := .int .i64 v) ha2]
    simp only [List.setIfInBounds_toArray, tab_set]
    rw [tab_congr (z' := fun j => Value.int .i64 (s'.E j)) (fun j hj => by rw [e1]; unfold upN; split <;> rfl)]
  · exact ((k6 _ (by omega) (by omega)).trans (kk _ (by omega) (by omega) (by omega))).trans h1.be
  · have ha := h1.bq
    rw [hb] at ha ⊢
    have ha2 : w4.heap[b + 6]? = some (.cells #[.slice qw s.wait.length dw] 35 (0, 0)) := (kk _ (by omega) (by omega) (by omega)).trans ha
    refine (Below.heap_setCell _ _ _ _ (by show b + 6 ≠ b + 8; omega)).trans ?_
    have h9 := blk_set (j := 0) (v := .slice p' (s.wait.length + 1) c') ha2
    rw [e2]
    simpa using h9
  · have ha := h1.bla
    rw [e4]
    exact ((k6 _ (by omega) (by omega)).trans (kk _ (by omega) (by omega) (by omega))).trans ha
  · have ha := h1.bn
    rw [hb] at ha ⊢
    have ha2 : (w4.setCell ⟨b + 6, 0, none⟩ (.slice p' (s.wait.length + 1) c')).heap[b + 8]? = some (.cells #[.int .i64 (s.next : Int)] 3 (0, 0)) := (Below.heap_setCell w4 _ _ _ (by show b + 8 ≠ b + 6; omega)).trans ((kk _ (by omega) (by omega) (by omega)).trans ha)
    have h9 := blk_set (j := 0) (v := .int .i64 (nx : Int)) ha2
    rw [e5]
    simpa using h9
  · rw [e2, hb]
    exact ho4.blkEq (fun a ha => by
      have := ho4.1.lt a.block (by rw [ha]; rfl)
      exact k6 _ (by omega) (by omega))
  · rw [hord, e3]
    refine horow3.blkEq (fun a ha => ?_)
    have h8 := horow3.1.lt a.block (by rw [ha]; rfl)
    rw [k6 _ (by omega) (by omega), hg4.block a.block (by simp at h8 ⊢; omega) (fun e => by
      cases qw with
      | none => simp [Value.ownBlock] at e
      | some x => simp only [Value.ownBlock, Option.some.injEq] at e; exact h1.sep x a rfl ha e.symm)]
    exact Below.heap_alloc _ _ _ h8.2
  · exact Sep.push h1.sep horow3 ha4
end Go.Proofs.Ytgnegemiiahkaaa
