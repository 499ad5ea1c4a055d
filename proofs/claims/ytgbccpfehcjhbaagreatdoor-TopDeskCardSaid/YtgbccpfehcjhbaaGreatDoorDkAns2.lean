/- One line answered: (*desk).answer, where the line is in its form (P77). Conditions: what the line is read as. -/
import Derived.Test.YtgbccpfehcjhbaaGreatDoorDkAns
namespace Go.Proofs.YtgbccpfehcjhbaaGreatDoor
open Go Go.RowKit
set_option linter.unusedVariables false
set_option linter.unusedSimpArgs false

theorem ReadPost.wider {w : World} {bl k : Nat} {L : List ByteArray} {Pre Pre' : World → Prop} {P P' : World → Ending → World → Prop} {e : Ending} {w' : World} (h : ReadPost w bl L k Pre P e w') (hp : ∀ v, Pre' v → Pre v) (hq : ∀ v e v', Pre' v → P v e v' → P' v e v') : ReadPost w bl L k Pre' P' e w' := by
  obtain ⟨v, he, ⟨F, caps, hv, hF, hc⟩, hl, hch⟩ := h
  exact ⟨v, he, ⟨F, caps, hv, hF, fun x hb hld hpre => (hc x hb hld (hp x hpre)).mono fun e y hy => hq x e y hpre hy⟩, hl, hch⟩
theorem Chg.later {S S' : Nat → Prop} {w a b : World} (h : Chg S w a) (k : Chg S' a b) (hs : ∀ x, S' x → w.heap.size ≤ x ∨ S x) : Chg S w b :=
  ⟨k.os.trans h.os, k.tape.trans h.tape, k.output.trans h.output, Nat.le_trans h.size k.size, fun x hx hn => (k.same x (Nat.lt_of_lt_of_le hx h.size) (fun e => by
    rcases hs x e with h1 | h1
    · omega
    · exact hn h1)).trans (h.same x hx hn)⟩
/-- what is answered: a text, and what the world is then -/
def AnsPost (w : World) (bd g h : Nat) (t : Bytes) (s' : DS) (e : Ending) (w' : World) : Prop :=
  e = .returned (.string (str t)) ∧ ∃ g' h', DeskAt w' bd g' h' s' ∧ Chg (dkS bd g h) w w' ∧ ((g' = g ∧ h' = h) ∨ (w.heap.size ≤ g' ∧ w.heap.size ≤ h'))
/-- how a line is read, in whatever world -/
def Reads (bd g h : Nat) (s : DS) (L : List ByteArray) (O : Out) (s' : DS) : Prop :=
  ∀ (w : World) (bl : Nat), Laid w → LineS w bl L 1 → 8 ≤ bl → Calls Tryz.prog 39 #[.pointer (some ⟨bd, 0, none⟩), .string (gsW L 0), .pointer (some ⟨bl, 0, none⟩)] w (ReadPost w bl L L.length (fun w' => DeskAt w' bd g h s) fun w' => DeskPost w' bd g h O s')
set_option maxRecDepth 100000 in
set_option maxHeartbeats 3200000 in
theorem dk_answer {w : World} (LD : Laid w) {bd g h n c : Nat} {s s' : DS} {L : List ByteArray} {p : Option Addr} {t : Bytes} (D : DeskAt w bd g h s) (hs : SS w p n c L) (hn : 0 < n) (hn2 : n ≤ 1000000000) (hR : Reads bd g h s L (.ok t) s') :
    Calls Tryz.prog 21 #[.pointer (some ⟨bd, 0, none⟩), .slice p n c] w (AnsPost w bd g h t s') := by
  have hmf := mf
  obtain ⟨pb, po, rfl, hlt, hc⟩ := hs.cells hn
  have c0 := hc 0 hn
  rw [Nat.add_zero] at c0
  have HS := Lib.hid hs; have HLD := Lib.hid LD; have HD := Lib.hid D; have HR := Lib.hid hR
  have h8 := LD.sz
  clear hs LD D hR hc
  go_enter_defers Tryz.func21, Tryz.ntmps21
  have hX := ((Below.refl w.heap.size w).alloc (Nat.le_refl _) (.cells #[.string ⟨#[]⟩] 9)).alloc (by simp) (.cells #[.slice (some ⟨pb, po, none⟩) n c, .int .i64 1] 91)
  have TO := Lib.hid (blk_alloc (o' := .cells #[.slice (some ⟨pb, po, none⟩) n c, .int .i64 1] 91) (blk_new w #[.string ⟨#[]⟩] 9))
  have hT1 := blk_new (w.alloc (.cells #[.string ⟨#[]⟩] 9)) #[.slice (some ⟨pb, po, none⟩) n c, .int .i64 1] 91
  rw [World.size_alloc] at hT1
  have HX := Lib.hid hX
  have hszX : ((w.alloc (.cells #[.string ⟨#[]⟩] 9)).alloc (.cells #[.slice (some ⟨pb, po, none⟩) n c, .int .i64 1] 91)).heap.size = w.heap.size + 2 := by simp
  have HSX := Lib.hid hszX
  have HL2 : Hid (LineS ((w.alloc (.cells #[.string ⟨#[]⟩] 9)).alloc (.cells #[.slice (some ⟨pb, po, none⟩) n c, .int .i64 1] 91)) (w.heap.size + 1) L 1) := Lib.hid ⟨some ⟨pb, po, none⟩, n, c, hT1, HS.out.below HX.out, (by rintro a ⟨⟩; show pb ≠ w.heap.size + 1; omega), hn, hn2⟩
  have LD2 := Lib.hid (HLD.out.below hX)
  have D2 := Lib.hid (HD.out.below hX)
  clear hX hT1 hszX
  go_wp2_with fail
  generalize (w.alloc (.cells #[.string ⟨#[]⟩] 9)).alloc (.cells #[.slice (some ⟨pb, po, none⟩) n c, .int .i64 1] 91) = W2 at *
  refine (HR.out W2 (w.heap.size + 1) LD2.out HL2.out (by omega)).mono ?_
  rintro e w3 ⟨v, rfl, ⟨F, caps, rfl, hF, hcall⟩, l3, c3⟩
  have HC := Lib.hid hcall; have L3 := Lib.hid l3; have C3 := Lib.hid c3
  have LD3 := Lib.hid (LD2.out.chg c3 (fun x hx => by omega))
  have hbd := (Array.getElem?_eq_some_iff.1 HD.out.box).1
  obtain ⟨_, _, _, _, _, hgl, hhl, _, _⟩ := HD.out.wat.cells
  have D3 := Lib.hid (D2.out.chg c3 (by omega) (by omega) (by omega))
  have hz3 := c3.size
  have hsx := HSX.out
  have TO3 : Hid (w3.heap[w.heap.size]? = some (.cells #[.string ⟨#[]⟩] 9 (0, 0))) := Lib.hid ((c3.same _ (by omega) (by omega)).trans TO.out)
  clear hcall l3 c3 c0
  go_wp2_with fail
  refine (dk_end L3.out).mono ?_; rintro e w4 ⟨rfl, b4⟩
  have B4 := Lib.hid b4
  have TO4 : Hid (w4.heap[w.heap.size]? = some (.cells #[.string ⟨#[]⟩] 9 (0, 0))) := Lib.hid ((b4.block _ (by omega)).trans TO3.out)
  have hz4 := b4.size
  have HCC := Lib.hid (HC.out w4 b4 (LD3.out.below b4) (D3.out.below b4))
  clear b4
  go_wp2_with fail
  refine HCC.out.mono ?_
  rintro e w5 ⟨he, g', h', D5, C5, hnew⟩
  obtain rfl : e = .returned (.string (str t)) := he
  have HD5 := Lib.hid D5; have HC5 := Lib.hid C5; have HN5 := Lib.hid hnew
  have hz5 := C5.size
  have TO5 : Hid (w5.heap[w.heap.size]? = some (.cells #[.string ⟨#[]⟩] 9 (0, 0))) := Lib.hid ((C5.same _ (by omega) (by unfold dkS; omega)).trans TO4.out)
  have o5 : w5.cell? ⟨w.heap.size, 0, none⟩ = some (.string ⟨#[]⟩) := blk_cell TO5.out 0
  have f5 : w5.frozen? ⟨w.heap.size, 0, none⟩ = false := blk_free TO5.out 0
  clear D5 C5 hnew
  go_wp2
  refine leaves_cons (f := 37) (args := #[.pointer (some ⟨w.heap.size, 0, none⟩)]) (by simp) (by simp [go_sem]) ?_
  refine (catch_idle (bo := w.heap.size)).mono ?_
  rintro e u' w'' ⟨rfl, rfl, rfl⟩
  have c6 : (w5.setCell ⟨w.heap.size, 0, none⟩ (.string (str t))).cell? ⟨w.heap.size, 0, none⟩ = some (.string (str t)) := by
    have h9 := blk_set (j := 0) (v := .string (str t)) TO5.out
    exact blk_cell (by simpa using h9) 0
  have HFIN : Hid (AnsPost w bd g h t s' (.returned (.string (str t))) (w5.setCell ⟨w.heap.size, 0, none⟩ (.string (str t)))) := Lib.hid ⟨rfl, g', h', by
      refine HD5.out.chg ((Chg.refl (fun x => x = w.heap.size) w5).set _ (.inr rfl)) (by omega) ?_ ?_
      · rcases HN5.out with ⟨a, _⟩ | ⟨a, _⟩ <;> omega
      · rcases HN5.out with ⟨_, a⟩ | ⟨_, a⟩ <;> omega, by
      have k1 : Chg (dkS bd g h) w W2 := Chg.of HX.out
      have k2 := k1.later C3.out (fun x hx => .inl (by omega))
      have k3 := k2.then B4.out
      have k4 := k3.later HC5.out (fun x hx => .inr hx)
      exact k4.set _ (.inl (Nat.le_refl _)), by
      rcases HN5.out with a | ⟨a, b⟩
      · exact .inl a
      · exact .inr (by omega)⟩
  simp [Leaves, settle, results, Tryz.results21, go_sem, c6]
  exact HFIN.out
end Go.Proofs.YtgbccpfehcjhbaaGreatDoor
