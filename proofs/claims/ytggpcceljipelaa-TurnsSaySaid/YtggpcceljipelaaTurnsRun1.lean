/- What turns.Run keeps while it tells, and its closure. Conditions: the flows are well formed. -/
import Derived.Test.YtggpcceljipelaaTurnsOrder
import Derived.Test.YtggpcceljipelaaTurnsQ
namespace Go.Proofs.Ytggpcceljipelaa
open Go Go.RowKit
set_option linter.unusedVariables false
set_option linter.unusedSimpArgs false

/-- what lies where -/
structure Env (w0 : World) (n : Nat) (Q : Nat → Int) (F : Nat → Sl) (G : Nat → Nat) (gq b9 B : Nat) : Prop where
  h8 : n ≤ 8
  ok : OkF n Q (szs F)
  sf : ∀ j, j < n → SI w0 (F j).1 (F j).2.1 (F j).2.2.1 (F j).2.2.2
  eg : ∀ j, j < n → w0.heap.size ≤ G j ∧ G j < B
  inj : ∀ i j, i < n → j < n → i ≠ j → G i ≠ G j
  eb : w0.heap.size ≤ b9 ∧ b9 < B
  en : ∀ j, j < n → G j ≠ b9
  eq : 0 < n → gq < B
  e9 : 0 < n → gq ≠ b9
  eqg : ∀ j, j < n → gq ≠ G j
def QOk (n : Nat) (Q : Nat → Int) (F : Nat → Sl) (G : Nat → Nat) (wv : World) (mm j : Nat) : Prop :=
  ∃ sh, QAt wv (G j) (Q j) (F j).1 (F j).2.1 (F j).2.2.1 (cnt Q (szs F) mm j) sh ∧ QSt ((mm : Int) * Q j) (szs F j) (cnt Q (szs F) mm j) sh
structure RSt (w0 : World) (n : Nat) (Q : Nat → Int) (F : Nat → Sl) (G : Nat → Nat) (gq b9 B : Nat) (O : Option Obj) (skip : Nat) (wv : World) (mm : Nat → Nat) (q : Option Addr) (m d : Nat) (L : List T2) : Prop where
  below : Below w0.heap.size w0 wv
  size : B ≤ wv.heap.size
  row : 0 < n → wv.heap[gq]? = O
  qs : ∀ j, j < n → j ≠ skip → QOk n Q F G wv (mm j) j
  box : wv.heap[b9]? = some (.cells #[.slice q m d] 93 (0, 0))
  out : OwnS wv B q m d L
section
variable {w0 : World} {n : Nat} {Q : Nat → Int} {F : Nat → Sl} {G : Nat → Nat} {gq b9 B : Nat} {O : Option Obj} {skip : Nat} {wv : World} {mm : Nat → Nat} {q : Option Addr} {m d : Nat} {L : List T2}
theorem RSt.drewN (h : RSt w0 n Q F G gq b9 B O skip wv mm q m d L) (s : Nat) : RSt w0 n Q F G gq b9 B O skip (wv.drewN s) mm q m d L :=
  ⟨below_drewN h.below s, h.size, h.row, h.qs, h.box, h.out.drewN s⟩
theorem RSt.alloc (h : RSt w0 n Q F G gq b9 B O skip wv mm q m d L) (e : Env w0 n Q F G gq b9 B) (o : Obj) : RSt w0 n Q F G gq b9 B O skip (wv.alloc o) mm q m d L := by
  have hs := h.size
  have hb : ∀ x, x < B → (wv.alloc o).heap[x]? = wv.heap[x]? := fun x hx => Below.heap_alloc wv o x (by omega)
  refine ⟨h.below.alloc h.below.size o, by simp; omega, fun h0 => (hb _ (e.eq h0)).trans (h.row h0), fun j hj hs => ?_, (hb _ e.eb.2).trans h.box, h.out.alloc o⟩
  obtain ⟨sh, h1, h2⟩ := h.qs j hj hs
  exact ⟨sh, (hb _ (e.eg j hj).2).trans h1, h2⟩
theorem RSt.set (h : RSt w0 n Q F G gq b9 B O skip wv mm q m d L) (e : Env w0 n Q F G gq b9 B) (hk : skip < n) (f : Nat) (v : Value) : RSt w0 n Q F G gq b9 B O skip (wv.setCell ⟨G skip, f, none⟩ v) mm q m d L := by
  have hb : ∀ x, x ≠ G skip → (wv.setCell ⟨G skip, f, none⟩ v).heap[x]? = wv.heap[x]? := fun x hx => Below.heap_setCell wv _ v x hx
  have hg := e.eg skip hk
  refine ⟨h.below.setCell hg.1 v, by simpa using h.size, fun h0 => (hb _ (e.eqg skip hk)).trans (h.row h0), fun j hj hs => ?_, (hb _ (fun e2 => e.en skip hk e2.symm)).trans h.box, h.out.apart (fun g2 hg2 => ?_)⟩
  · obtain ⟨sh, h1, h2⟩ := h.qs j hj hs
    exact ⟨sh, (hb _ (e.inj j skip hj hk hs)).trans h1, h2⟩
  · subst hg2
    have := h.out.blk
    omega
end
/-- what the closure of flow k keeps -/
def RunR (w0 : World) (n : Nat) (Q : Nat → Int) (F : Nat → Sl) (G : Nat → Nat) (gq b9 B : Nat) (O : Option Obj) (k a b10 : Nat) (mm : Nat → Nat) (L0 : List T2) (i : Nat) (w : World) : Prop :=
  a ≤ i ∧ ∃ q m d, RSt w0 n Q F G gq b9 B O k w mm q m d (L0 ++ sents k a i) ∧ w.heap[b10]? = some (.cells #[.int .i64 (k : Int)] 3 (0, 0)) ∧ (∀ x, q = some x → x.block ≠ b10) ∧ B ≤ b10

set_option maxRecDepth 100000 in
set_option maxHeartbeats 1600000 in
theorem run_told {w0 : World} {n : Nat} {Q : Nat → Int} {F : Nat → Sl} {G : Nat → Nat} {gq b9 B : Nat} {O : Option Obj} {k a b10 : Nat} {mm : Nat → Nat} {L0 : List T2} (e : Env w0 n Q F G gq b9 B) (hk : k < n) (hL : L0.length ≤ 2000) :
    Told (G k) (Q k) (F k).1 (F k).2.1 (F k).2.2.1 (F k).2.2.2 82 #[.pointer (some ⟨b9, 0, none⟩), .pointer (some ⟨b10, 0, none⟩)] (RunR w0 n Q F G gq b9 B O k a b10 mm L0) := by
  have hg := e.eg k hk
  refine ⟨fun j w h => ?_, fun j w s h => ?_, fun j w f v h => ?_, fun j w at_ sh hj h hQ => ?_⟩
  · obtain ⟨_, q, m, d, hR, _⟩ := h
    refine ⟨(e.sf k hk).below hR.below, fun h0 b hb => ?_⟩
    obtain ⟨xb, xo, hp, hlt, _⟩ := (e.sf k hk).cells h0
    rw [hp] at hb
    cases hb
    show xb ≠ G k
    omega
  · obtain ⟨h1, q, m, d, hR, h2, h3, h4⟩ := h
    exact ⟨h1, q, m, d, hR.drewN s, h2, h3, h4⟩
  · obtain ⟨h1, q, m, d, hR, h2, h3, h4⟩ := h
    exact ⟨h1, q, m, d, hR.set e hk f v, blk_other h2 (by omega), h3, h4⟩
  · obtain ⟨haj, q, m, d, hR, h10, hoff, hB10⟩ := h
    have hlen := hR.out.len
    rw [List.length_append, sents_len _ _ _ haj] at hlen
    have hl60 := (e.ok k hk).2.1
    unfold szs at hl60
    rw [(e.sf k hk).len] at hl60
    have hm : m < 1000000 := by omega
    have c9 : w.cell? ⟨b9, 0, none⟩ = some (.slice q m d) := blk_cell hR.box 0
    have f9 : w.frozen? ⟨b9, 0, none⟩ = false := blk_free hR.box 0
    have c10 : w.cell? ⟨b10, 0, none⟩ = some (.int .i64 (k : Int)) := blk_cell h10 0
    have hsz := hR.size
    have hlt10 : b10 < w.heap.size := (Array.getElem?_eq_some_iff.1 h10).1
    have hlt9 := e.eb.2
    have hE := Lib.hid e; have HR := Lib.hid hR; have H10 := Lib.hid h10; have HQ := Lib.hid hQ
    have ho := hR.out
    have HS := Lib.hid (sents_next (k := k) haj)
    clear hlen hR h10 hQ e
    go_enter Try.func82, Try.ntmps82
    go_wp2_with (at_builtin; refine wpL_push_R Try.tySents rfl (by omega) (by omega) enc2_len enc2_one rfl (B := B) (W0 := w) (by first | rfl | simp [Act.eval]) ((k : Int), (j : Int)) (by first | rfl | simp [Act.eval]) (by first | rfl | simp [Act.eval]) ho (Below.refl _ _) (by omega) hsz ?_; intro p' c' w4 ho4 hb4 hg4 ha4; have d9 := (bdeep hb4 hlt9 0).trans c9; have g9 : w4.frozen? ⟨b9, 0, none⟩ = false := (hb4.frozen (p := ⟨b9, 0, none⟩) hlt9).trans f9)
    go_end0
    have e := hE.out
    have hB := hb4.block
    have hw0 : w0.heap.size ≤ B := by have := e.eb; omega
    have hne : ∀ x, x ≠ b9 → (w4.setCell ⟨b9, 0, none⟩ (.slice p' (m + 1) c')).heap[x]? = w4.heap[x]? := fun x hx => Below.heap_setCell w4 _ _ x hx
    refine ⟨rfl, ⟨by omega, p', m + 1, c', ⟨?_, ?_, ?_, ?_, ?_, ?_⟩, ?_, off_push hoff (Nat.le_of_lt hlt10) ha4, hB10⟩, ?_⟩
    · exact (HR.out.below.trans (hb4.mono hw0)).setCell (p := ⟨b9, 0, none⟩) e.eb.1 _
    · have := hb4.size; simp; omega
    · exact fun h0 => ((hne _ (e.e9 h0)).trans (hB _ (e.eq h0))).trans (HR.out.row h0)
    · intro i hi hik
      obtain ⟨s2, h1, h2⟩ := HR.out.qs i hi hik
      exact ⟨s2, ((hne _ (e.en i hi)).trans (hB _ (e.eg i hi).2)).trans h1, h2⟩
    · have h1 := blk_set (j := 0) (v := .slice p' (m + 1) c') ((hB _ hlt9).trans HR.out.box)
      simpa using h1
    · have h1 : OwnS (w4.setCell ⟨b9, 0, none⟩ (.slice p' (m + 1) c')) B p' (m + 1) c' (L0 ++ sents k a j ++ [((k : Int), (j : Int))]) := ho4.apart (fun g2 hg2 => by
        subst hg2
        have := ho4.blk
        omega)
      exact h1.cast (by rw [HS.out, List.append_assoc])
    · exact blk_other (keep_blk H10.out hg4 hoff) (by omega)
    · exact ((hne _ (e.en k hk)).trans (hB _ (e.eg k hk).2)).trans HQ.out
end Go.Proofs.Ytggpcceljipelaa
