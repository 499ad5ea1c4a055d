/- What desk.Run keeps (P77): the builder beside the desk, the lines, the words. Conditions: what each theorem says. -/
import Derived.Test.YtgbccpfehcjhbaaGreatDoorDkAns2
namespace Go.Proofs.YtgbccpfehcjhbaaGreatDoor
open Go Go.RowKit
set_option linter.unusedVariables false
set_option linter.unusedSimpArgs false

theorem bldAt_chg {S : Nat → Prop} {w w' : World} {B b : Nat} {p : Value} {bs : List Value} (h : Lib.BuilderAtF 57 5 B b p bs w) (hb : Chg S w w') (h1 : ¬ S b) (hs : ∀ x, S x → ∀ c fz, w.heap[x]? ≠ some (.cells c 5 fz)) : Lib.BuilderAtF 57 5 B b p bs w' := by
  obtain ⟨hB, v, hbk, ⟨hx, hcase⟩, hne⟩ := h
  refine ⟨hB, v, (hb.same b (Array.getElem?_eq_some_iff.1 hbk).1 h1).trans hbk, ⟨hx, ?_⟩, hne⟩
  rcases hcase with h2 | ⟨g, cap, cur, fz, h2, h3, h4, h5⟩
  · exact .inl h2
  · exact .inr ⟨g, cap, cur, fz, h2, h3, (hb.same g (Array.getElem?_eq_some_iff.1 h4).1 (fun e => hs g e _ _ h4)).trans h4, h5⟩
theorem bld_chg {S : Nat → Prop} {w w' : World} {B b : Nat} {bs : List Value} (h : Lib.IsBuilderF 57 5 B b bs w) (hb : Chg S w w') (h1 : ¬ S b) (hs : ∀ x, S x → ∀ c fz, w.heap[x]? ≠ some (.cells c 5 fz)) : Lib.IsBuilderF 57 5 B b bs w' :=
  h.elim (fun x => .inl (bldAt_chg x hb h1 hs)) (fun x => .inr (bldAt_chg x hb h1 hs))
theorem own_blk {w : World} {B g n d : Nat} {L : List Peer} (ho : OwnP w B g n L) : ∃ cur, w.heap[g]? = some (.cells cur 67 (0, 0)) ∨ n = 0 := by
  rcases ho.1.2 with ⟨_, h0⟩ | ⟨g2, cap, cur, hv, hg2, hh2, r⟩
  · exact ⟨#[], .inr h0⟩
  · simp only [Value.slice.injEq, Option.some.injEq, Addr.mk.injEq, and_true, true_and] at hv
    obtain ⟨rfl, _⟩ := hv
    exact ⟨cur, .inl hh2⟩
theorem desk_not_bytes {w : World} {bd g h : Nat} {s : DS} (D : DeskAt w bd g h s) : ∀ x, dkS bd g h x → ∀ c fz, w.heap[x]? ≠ some (.cells c 5 fz) := by
  intro x hx c fz e
  rcases hx with rfl | rfl | rfl
  · rw [D.box] at e; simp at e
  · rw [D.wat.box] at e; simp at e
  · obtain ⟨cur, h1 | h1⟩ := own_blk (d := 0) D.wat.own
    · rw [h1] at e; simp at e
    · have := D.good.n.1; omega
theorem desk_others {w w' : World} {bd g h b : Nat} {s : DS} (D : DeskAt w bd g h s) (ho : Lib.OthersKept 5 (some b) w w') (h1 : bd ≠ b) (h2 : g ≠ b) (h3 : h ≠ b) : DeskAt w' bd g h s := by
  refine ⟨D.good, ho bd _ D.box (by simpa using h1) (fun c fz e => by simp at e), ⟨ho g _ D.wat.box (by simpa using h2) (fun c fz e => by simp at e), ?_, D.wat.bg, D.wat.ne⟩, D.lo, D.ng, D.nh⟩
  have hw := D.wat.own
  refine ⟨⟨hw.1.1, ?_⟩, hw.2⟩
  rcases hw.1.2 with h5 | ⟨g2, cap, cur, hv, hg2, hh2, r⟩
  · exact .inl h5
  · refine .inr ⟨g2, cap, cur, hv, hg2, ho g2 _ hh2 ?_ (fun c fz e => by simp at e), r⟩
    simp only [Value.slice.injEq, Option.some.injEq, Addr.mk.injEq, and_true, true_and] at hv
    obtain ⟨rfl, _⟩ := hv
    simpa using h3
theorem SS.take {w : World} {p : Option Addr} {n c k : Nat} {L : List ByteArray} (h : SS w p n c L) (hk : k ≤ n) : SS w p k c (L.take k) := by
  refine ⟨by rw [List.length_take, h.len]; omega, ⟨by have := h.2.1; omega, h.2.1.2⟩, (h.2.2.shorter hk).congr fun j hj => ?_⟩
  unfold gsW
  rw [List.getD, List.getD, List.getElem?_take, if_pos hj]
/-- the lines of a script -/
def linesOf (s : ByteArray) : List ByteArray := if gsW (pcs s 10) ((pcs s 10).length - 1) = ⟨#[]⟩ then (pcs s 10).take ((pcs s 10).length - 1) else pcs s 10
/-- is it a word? -/
def isW (x : ByteArray) : Bool := !(x.data.toList.isEmpty)
theorem isW_not {x : ByteArray} (h : x.data.toList = []) : isW x = false := by unfold isW; rw [h]; rfl
theorem isW_is {x : ByteArray} (h : ¬ x.data.toList = []) : isW x = true := by
  unfold isW
  cases e : x.data.toList with
  | nil => exact absurd e h
  | cons a r => rfl
/-- the words of a line -/
def wordsOf (s : ByteArray) : List ByteArray := (pcs s 32).filter isW
def startDS : DS := { rate := 1, unit := 1, L := tab 2 fun _ => (0, 0, true), turn := 0 }
theorem startDS_good : startDS.Good := ⟨⟨by decide, by decide⟩, by decide, by
  intro k hk
  have : k < 2 := hk
  unfold startDS
  simp only
  rw [ge_tab this]
  exact ⟨Int.le_refl _, .inr ⟨rfl, rfl⟩, rfl, by decide⟩, by decide, by decide⟩
/-- what has been written behind i lines -/
def outTo (T : Nat → Bytes) : Nat → Bytes
  | 0 => []
  | i + 1 => outTo T i ++ (T i ++ [10])
theorem outTo_len {T : Nat → Bytes} {n : Nat} (h : ∀ i, i < n → (T i).length ≤ 20000) : ∀ i, i ≤ n → (outTo T i).length ≤ i * 20001
  | 0, _ => by simp [outTo]
  | i + 1, hi => by
    have h1 := outTo_len h i (by omega)
    have h2 := h i (by omega)
    simp only [outTo, List.length_append, List.length_cons, List.length_nil]
    omega
theorem worldAt_base {w : World} {ty B B' g h r n t : Nat} {u : Int} {L : List Peer} (k : WorldAt w ty B g h r u n L t) (hB : B' ≤ B) : WorldAt w ty B' g h r u n L t :=
  ⟨k.box, k.own.base hB, Nat.le_trans hB k.bg, k.ne⟩
structure RunSt (w0 : World) (b0 bd b M N : Nat) (P : List ByteArray) (s : DS) (out : Bytes) (w : World) (g h : Nat) : Prop where
  laid : Laid w
  desk : DeskAt w bd g h s
  bld : Lib.IsBuilderF 57 5 b b (Lib.byteCells out) w
  lines : SS w (some ⟨b0, 0, none⟩) M N P
  below : Below w0.heap.size w0 w
  ng : g ≠ b
  nh : h ≠ b
  sz : b < w.heap.size
  gt : b0 < g ∧ b0 < h
  eq : w0.heap.size = b0 ∧ b0 < bd ∧ bd < b
section
variable {w0 : World} {b0 bd b M N : Nat} {P : List ByteArray} {s : DS} {out : Bytes} {w w' : World} {g h : Nat}
theorem RunSt.next (R : RunSt w0 b0 bd b M N P s out w g h) (hb : Below w.heap.size w w') : RunSt w0 b0 bd b M N P s out w' g h :=
  ⟨R.laid.below hb, R.desk.below hb, bld_chg (S := fun _ => False) R.bld (Chg.of hb) (fun e => e) (fun x hx => hx.elim), R.lines.below hb, R.below.trans (hb.mono R.below.size), R.ng, R.nh, Nat.lt_of_lt_of_le R.sz hb.size, R.gt, R.eq⟩
theorem RunSt.ans (R : RunSt w0 b0 bd b M N P s out w g h) {s' : DS} {t : Bytes} {e : Ending} (A : AnsPost w bd g h t s' e w') : e = .returned (.string (str t)) ∧ ∃ g' h', RunSt w0 b0 bd b M N P s' out w' g' h' := by
  obtain ⟨he, g', h', D, C, G⟩ := A
  have h1 := R.eq; have h2 := R.gt; have h3 := R.desk.lo; have h4 := R.ng; have h5 := R.nh; have h6 := R.sz; have h7 := C.size
  refine ⟨he, g', h', R.laid.chg C (fun x hx => ?_), D, bld_chg R.bld C (fun x => ?_) (desk_not_bytes R.desk), R.lines.keep C.size (fun a ha => ?_), ?_, by omega, by omega, by omega, by omega, R.eq⟩
  · rcases hx with rfl | rfl | rfl <;> first | omega | skip
    · exact R.desk.wat.bg
    · exact R.desk.wat.cells.2.2.2.2.2.2.2.1
  · rcases x with h | h | h <;> omega
  · cases ha
    refine C.same b0 (by omega) (fun x => ?_)
    rcases x with h | h | h <;> omega
  · refine R.below.trans (C.below R.below.size fun x hx hS => ?_)
    rcases hS with h | h | h <;> omega
theorem RunSt.writ (R : RunSt w0 b0 bd b M N P s out w g h) {x : Bytes} (hB : Lib.BuilderAtF 57 5 b b (.pointer (some ⟨b, 0, none⟩)) (Lib.byteCells (out ++ x)) w') (hb : Below b w w') (ho : Lib.OthersKept 5 (some b) w w') : RunSt w0 b0 bd b M N P s (out ++ x) w' g h := by
  have h1 := R.eq; have h3 := R.desk.lo; have h6 := R.sz; have h7 := hb.size
  exact ⟨R.laid.keep hb.size (fun x hx => hb.block x (by omega)), desk_others R.desk ho (by omega) R.ng R.nh, .inr hB, R.lines.keep hb.size (fun a ha => by cases ha; exact hb.block b0 (by omega)), R.below.trans (hb.mono (by omega)), R.ng, R.nh, by omega, R.gt, R.eq⟩
end
end Go.Proofs.YtgbccpfehcjhbaaGreatDoor
