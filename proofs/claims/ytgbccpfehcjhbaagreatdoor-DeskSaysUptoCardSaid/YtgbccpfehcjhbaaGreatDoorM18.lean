/- One line answered: (*desk).answer (P77). Conditions: what the line is read as. -/
import Derived.Test.YtgbccpfehcjhbaaGreatDoorM17
import Derived.Defers
import Derived.Recover
namespace Go.Proofs.YtgbccpfehcjhbaaGreatDoor
open Go Go.RowKit
set_option linter.unusedVariables false
set_option linter.unusedSimpArgs false

def IdleEnd (w : World) (e : Exit) (a : Act) (w' : World) : Prop := e = .normal ∧ a.defers = [] ∧ w' = w
def FaultEnd (w : World) (bo : Nat) (t : Bytes) (e : Exit) (a : Act) (w' : World) : Prop := e = .normal ∧ a.defers = [] ∧ w'.cell? ⟨bo, 0, none⟩ = some (.string (str t)) ∧ Chg (fun x => x = bo) w w'
theorem wpS_via {P : Program} {c : Code} {a : Act} {cs : List Frame} {w : World} {Q : Exit → Act → List Frame → World → Prop} (R : Exit → Act → World → Prop) (h : c.wp P R a w) (hR : ∀ e a' w', R e a' w' → Q e a' cs w') : c.wpS P Q a cs w :=
  wpS_of_wp (wp_mono h hR)
set_option maxRecDepth 100000 in
set_option maxHeartbeats 800000 in
theorem catch_idle {w : World} {bo : Nat} :
    CallsD Tryz.prog 37 #[.pointer (some ⟨bo, 0, none⟩)] .returning w fun e u' w' => e = .returned (.tuple #[]) ∧ u' = .returning ∧ w' = w := by
  refine callsD_of_wpS Tryz.func37 rfl fun c₀ cs hu => ?_
  apply wpS_seq
  apply wpS_region
  simp [wpOpsS, go_sem, recoverD, hu, Tryz.ntmps37, Exit.thenS]
  refine wpS_via (IdleEnd w) ?_ (fun e a' w' h => ?_)
  · change Code.wp _ _ _ ⟨#[.pointer (some ⟨bo, 0, none⟩), .nilIface, undef, undef, .nilIface, undef, undef, undef, undef, undef, undef, undef, undef, undef, undef, undef, undef, undef, undef], []⟩ w
    go_wp2
    exact ⟨rfl, rfl, rfl⟩
  · obtain ⟨rfl, hd, rfl⟩ := h
    cases c₀
    simp_all [bodyPostS, results, Tryz.results37]
set_option maxRecDepth 100000 in
set_option maxHeartbeats 800000 in
theorem catch_fault {w : World} (LD : Laid w) {bo : Nat} {c : Int} {z : Value} (hc : 0 ≤ c ∧ c ≤ 1000) {older : List PanicEntry} (hbo : w.heap[bo]? = some (.cells #[z] 9 (0, 0))) :
    CallsD Tryz.prog 37 #[.pointer (some ⟨bo, 0, none⟩)] (.panicking ({ v := .iface 87 (.agg #[.int .i64 c]), recovered := false } :: older)) w fun e u' w' =>
      e = .returned (.tuple #[]) ∧ u' = .panicking ({ v := .iface 87 (.agg #[.int .i64 c]), recovered := true } :: older) ∧ w'.cell? ⟨bo, 0, none⟩ = some (.string (str ([101, 114, 114, 111, 114, 32] ++ Lib.itoa c))) ∧ Chg (fun x => x = bo) w w' := by
  refine callsD_of_wpS Tryz.func37 rfl fun c₀ cs hu => ?_
  apply wpS_seq
  apply wpS_region
  simp [wpOpsS, go_sem, recoverD, hu, Tryz.ntmps37, Exit.thenS]
  refine wpS_via (FaultEnd w bo ([101, 114, 114, 111, 114, 32] ++ Lib.itoa c)) ?_ (fun e a' w' h => ?_)
  · change Code.wp _ _ _ ⟨#[.pointer (some ⟨bo, 0, none⟩), .iface 87 (.agg #[.int .i64 c]), undef, undef, .iface 87 (.agg #[.int .i64 c]), undef, undef, undef, undef, undef, undef, undef, undef, undef, undef, undef, undef, undef, undef], []⟩ w
    have hta : ∀ (v : Value) (w : World), (Instr.typeAssert (.iface 87 v) 20 87 true).run Tryz.prog w = .ok (.tuple #[v, .bool true]) w := fun _ _ => rfl
    have hb1 := Lib.hid ((Below.refl w.heap.size w).alloc (Nat.le_refl _) (.cells #[.int .i64 c] 87))
    have hbl := (Array.getElem?_eq_some_iff.1 hbo).1
    have hil := itoa_len (n := c) (by omega) (by omega)
    rw [← str_size] at hil
    have HT : Hid (str (101 :: 114 :: 114 :: 111 :: 114 :: 32 :: Lib.itoa c) = ⟨#[101, 114, 114, 111, 114, 32]⟩ ++ str (Lib.itoa c)) := Lib.hid rfl
    go_wp2_with fail
    refine (dk_Itoa (LD.below hb1.out) (n := c) (by omega) (by omega)).mono ?_; rintro e w2 ⟨rfl, b2⟩
    have hb2 := hb1.out.trans (b2.mono hb1.out.size)
    have hk := (hb2.block bo hbl).trans hbo
    have c0 : w2.cell? ⟨bo, 0, none⟩ = some z := blk_cell hk 0
    have f0 : w2.frozen? ⟨bo, 0, none⟩ = false := blk_free hk 0
    have hlt2 : bo < w2.heap.size := (Array.getElem?_eq_some_iff.1 hk).1
    have HK := Lib.hid hk
    generalize str (Lib.itoa c) = T at *
    clear hk hbo
    go_wp2
    refine ⟨rfl, rfl, ?_, (Chg.of hb2).set _ (.inr rfl)⟩
    change _ = some (Value.string (str (101 :: 114 :: 114 :: 111 :: 114 :: 32 :: Lib.itoa c)))
    rw [HT.out]
    have h9 := blk_set (j := 0) (v := .string (⟨#[101, 114, 114, 111, 114, 32]⟩ ++ T)) HK.out
    exact blk_cell (by simpa using h9) 0
  · obtain ⟨rfl, hd, hw, hch⟩ := h
    simp [bodyPostS, results, Tryz.results37, hd, hw, hch, go_sem]
end Go.Proofs.YtgbccpfehcjhbaaGreatDoor

/- One line answered: (*desk).answer, where the line is in its form (P77). Conditions: what the line is read as. -/
namespace Go.Proofs.YtgbccpfehcjhbaaGreatDoor
open Go Go.RowKit
set_option linter.unusedVariables false
set_option linter.unusedSimpArgs false

theorem ReadPost.wider {w : World} {bl k : Nat} {L : List ByteArray} {Pre Pre' : World → Prop} {P P' : World → Ending → World → Prop} {e : Ending} {w' : World} (h : ReadPost w bl L k Pre P e w') (hp : ∀ v, Pre' v → Pre v) (hq : ∀ v e v', Pre' v → P v e v' → P' v e v') : ReadPost w bl L k Pre' P' e w' := by
  obtain ⟨v, he, ⟨F, caps, hv, hF, hc⟩, hl, hch⟩ := h
  exact ⟨v, he, ⟨F, caps, hv, hF, fun x hb hld hpre => (hc x hb hld (hp x hpre)).mono fun e y hy => hq x e y hpre hy⟩, hl, hch⟩
theorem Chg.later {S S' : Nat → Prop} {w a b : World} (h : Chg S w a) (k : Chg S' a b) (hs : ∀ x, S' x → w.heap.size ≤ x ∨ S x) : Chg S w b :=
  ⟨k.os.trans h.os, k.tape.trans h.tape, k.output.trans h.output, Nat.le_trans h.size k.size, fun x hx hn => (k.same x (Nat.lt_of_lt_of_le hx h.size) (fun e => by
    rcases hs x e with h1 | h1
    · omega
    · exact hn h1)).trans (h.same x hx hn)⟩
/-- what is answered: a text, and what the world is then -/
def AnsPost (w : World) (bd g h : Nat) (t : Bytes) (s' : DS) (e : Ending) (w' : World) : Prop :=
  e = .returned (.string (str t)) ∧ ∃ g' h', DeskAt w' bd g' h' s' ∧ Chg (dkS bd g h) w w' ∧ ((g' = g ∧ h' = h) ∨ (w.heap.size ≤ g' ∧ w.heap.size ≤ h'))
/-- how a line is read, in whatever world -/
def Reads (bd g h : Nat) (s : DS) (L : List ByteArray) (O : Out) (s' : DS) : Prop :=
  ∀ (w : World) (bl : Nat), Laid w → LineS w bl L 1 → 8 ≤ bl → Calls Tryz.prog 39 #[.pointer (some ⟨bd, 0, none⟩), .string (gsW L 0), .pointer (some ⟨bl, 0, none⟩)] w (ReadPost w bl L L.length (fun w' => DeskAt w' bd g h s) fun w' => DeskPost w' bd g h O s')
set_option maxRecDepth 100000 in
set_option maxHeartbeats 3200000 in
theorem dk_answer {w : World} (LD : Laid w) {bd g h n c : Nat} {s s' : DS} {L : List ByteArray} {p : Option Addr} {t : Bytes} (D : DeskAt w bd g h s) (hs : SS w p n c L) (hn : 0 < n) (hn2 : n ≤ 1000000000) (hR : Reads bd g h s L (.ok t) s') :
    Calls Tryz.prog 21 #[.pointer (some ⟨bd, 0, none⟩), .slice p n c] w (AnsPost w bd g h t s') := by
  have hmf := mf
  obtain ⟨pb, po, rfl, hlt, hc⟩ := hs.cells hn
  have c0 := hc 0 hn
  rw [Nat.add_zero] at c0
  have HS := Lib.hid hs; have HLD := Lib.hid LD; have HD := Lib.hid D; have HR := Lib.hid hR
  have h8 := LD.sz
  clear hs LD D hR hc
  go_enter_defers Tryz.func21, Tryz.ntmps21
  have hX := ((Below.refl w.heap.size w).alloc (Nat.le_refl _) (.cells #[.string ⟨#[]⟩] 9)).alloc (by simp) (.cells #[.slice (some ⟨pb, po, none⟩) n c, .int .i64 1] 91)
  have TO := Lib.hid (blk_alloc (o' := .cells #[.slice (some ⟨pb, po, none⟩) n c, .int .i64 1] 91) (blk_new w #[.string ⟨#[]⟩] 9))
  have hT1 := blk_new (w.alloc (.cells #[.string ⟨#[]⟩] 9)) #[.slice (some ⟨pb, po, none⟩) n c, .int .i64 1] 91
  rw [World.size_alloc] at hT1
  have HX := Lib.hid hX
  have hszX : ((w.alloc (.cells #[.string ⟨#[]⟩] 9)).alloc (.cells #[.slice (some ⟨pb, po, none⟩) n c, .int .i64 1] 91)).heap.size = w.heap.size + 2 := by simp
  have HSX := Lib.hid hszX
  have HL2 : Hid (LineS ((w.alloc (.cells #[.string ⟨#[]⟩] 9)).alloc (.cells #[.slice (some ⟨pb, po, none⟩) n c, .int .i64 1] 91)) (w.heap.size + 1) L 1) := Lib.hid ⟨some ⟨pb, po, none⟩, n, c, hT1, HS.out.below HX.out, (by rintro a ⟨⟩; show pb ≠ w.heap.size + 1; omega), hn, hn2⟩
  have LD2 := Lib.hid (HLD.out.below hX)
  have D2 := Lib.hid (HD.out.below hX)
  clear hX hT1 hszX
  go_wp2_with fail
  generalize (w.alloc (.cells #[.string ⟨#[]⟩] 9)).alloc (.cells #[.slice (some ⟨pb, po, none⟩) n c, .int .i64 1] 91) = W2 at *
  refine (HR.out W2 (w.heap.size + 1) LD2.out HL2.out (by omega)).mono ?_
  rintro e w3 ⟨v, rfl, ⟨F, caps, rfl, hF, hcall⟩, l3, c3⟩
  have HC := Lib.hid hcall; have L3 := Lib.hid l3; have C3 := Lib.hid c3
  have LD3 := Lib.hid (LD2.out.chg c3 (fun x hx => by omega))
  have hbd := (Array.getElem?_eq_some_iff.1 HD.out.box).1
  obtain ⟨_, _, _, _, _, hgl, hhl, _, _⟩ := HD.out.wat.cells
  have D3 := Lib.hid (D2.out.chg c3 (by omega) (by omega) (by omega))
  have hz3 := c3.size
  have hsx := HSX.out
  have TO3 : Hid (w3.heap[w.heap.size]? = some (.cells #[.string ⟨#[]⟩] 9 (0, 0))) := Lib.hid ((c3.same _ (by omega) (by omega)).trans TO.out)
  clear hcall l3 c3 c0
  go_wp2_with fail
  refine (dk_end L3.out).mono ?_; rintro e w4 ⟨rfl, b4⟩
  have B4 := Lib.hid b4
  have TO4 : Hid (w4.heap[w.heap.size]? = some (.cells #[.string ⟨#[]⟩] 9 (0, 0))) := Lib.hid ((b4.block _ (by omega)).trans TO3.out)
  have hz4 := b4.size
  have HCC := Lib.hid (HC.out w4 b4 (LD3.out.below b4) (D3.out.below b4))
  clear b4
  go_wp2_with fail
  refine HCC.out.mono ?_
  rintro e w5 ⟨he, g', h', D5, C5, hnew⟩
  obtain rfl : e = .returned (.string (str t)) := he
  have HD5 := Lib.hid D5; have HC5 := Lib.hid C5; have HN5 := Lib.hid hnew
  have hz5 := C5.size
  have TO5 : Hid (w5.heap[w.heap.size]? = some (.cells #[.string ⟨#[]⟩] 9 (0, 0))) := Lib.hid ((C5.same _ (by omega) (by unfold dkS; omega)).trans TO4.out)
  have o5 : w5.cell? ⟨w.heap.size, 0, none⟩ = some (.string ⟨#[]⟩) := blk_cell TO5.out 0
  have f5 : w5.frozen? ⟨w.heap.size, 0, none⟩ = false := blk_free TO5.out 0
  clear D5 C5 hnew
  go_wp2
  refine leaves_cons (f := 37) (args := #[.pointer (some ⟨w.heap.size, 0, none⟩)]) (by simp) (by simp [go_sem]) ?_
  refine (catch_idle (bo := w.heap.size)).mono ?_
  rintro e u' w'' ⟨rfl, rfl, rfl⟩
  have c6 : (w5.setCell ⟨w.heap.size, 0, none⟩ (.string (str t))).cell? ⟨w.heap.size, 0, none⟩ = some (.string (str t)) := by
    have h9 := blk_set (j := 0) (v := .string (str t)) TO5.out
    exact blk_cell (by simpa using h9) 0
  have HFIN : Hid (AnsPost w bd g h t s' (.returned (.string (str t))) (w5.setCell ⟨w.heap.size, 0, none⟩ (.string (str t)))) := Lib.hid ⟨rfl, g', h', by
      refine HD5.out.chg ((Chg.refl (fun x => x = w.heap.size) w5).set _ (.inr rfl)) (by omega) ?_ ?_
      · rcases HN5.out with ⟨a, _⟩ | ⟨a, _⟩ <;> omega
      · rcases HN5.out with ⟨_, a⟩ | ⟨_, a⟩ <;> omega, by
      have k1 : Chg (dkS bd g h) w W2 := Chg.of HX.out
      have k2 := k1.later C3.out (fun x hx => .inl (by omega))
      have k3 := k2.then B4.out
      have k4 := k3.later HC5.out (fun x hx => .inr hx)
      exact k4.set _ (.inl (Nat.le_refl _)), by
      rcases HN5.out with a | ⟨a, b⟩
      · exact .inl a
      · exact .inr (by omega)⟩
  simp [Leaves, settle, results, Tryz.results21, go_sem, c6]
  exact HFIN.out
end Go.Proofs.YtgbccpfehcjhbaaGreatDoor

/- What desk.Run keeps (P77): the builder beside the desk, the lines, the words. Conditions: what each theorem says. -/
namespace Go.Proofs.YtgbccpfehcjhbaaGreatDoor
open Go Go.RowKit
set_option linter.unusedVariables false
set_option linter.unusedSimpArgs false

theorem bldAt_chg {S : Nat → Prop} {w w' : World} {B b : Nat} {p : Value} {bs : List Value} (h : Lib.BuilderAtF 57 5 B b p bs w) (hb : Chg S w w') (h1 : ¬ S b) (hs : ∀ x, S x → ∀ c fz, w.heap[x]? ≠ some (.cells c 5 fz)) : Lib.BuilderAtF 57 5 B b p bs w' := by
  obtain ⟨hB, v, hbk, ⟨hx, hcase⟩, hne⟩ := h
  refine ⟨hB, v, (hb.same b (Array.getElem?_eq_some_iff.1 hbk).1 h1).trans hbk, ⟨hx, ?_⟩, hne⟩
  rcases hcase with h2 | ⟨g, cap, cur, fz, h2, h3, h4, h5⟩
  · exact .inl h2
  · exact .inr ⟨g, cap, cur, fz, h2, h3, (hb.same g (Array.getElem?_eq_some_iff.1 h4).1 (fun e => hs g e _ _ h4)).trans h4, h5⟩
theorem bld_chg {S : Nat → Prop} {w w' : World} {B b : Nat} {bs : List Value} (h : Lib.IsBuilderF 57 5 B b bs w) (hb : Chg S w w') (h1 : ¬ S b) (hs : ∀ x, S x → ∀ c fz, w.heap[x]? ≠ some (.cells c 5 fz)) : Lib.IsBuilderF 57 5 B b bs w' :=
  h.elim (fun x => .inl (bldAt_chg x hb h1 hs)) (fun x => .inr (bldAt_chg x hb h1 hs))
theorem own_blk {w : World} {B g n d : Nat} {L : List Peer} (ho : OwnP w B g n L) : ∃ cur, w.heap[g]? = some (.cells cur 67 (0, 0)) ∨ n = 0 := by
  rcases ho.1.2 with ⟨_, h0⟩ | ⟨g2, cap, cur, hv, hg2, hh2, r⟩
  · exact ⟨#[], .inr h0⟩
  · simp only [Value.slice.injEq, Option.some.injEq, Addr.mk.injEq, and_true, true_and] at hv
    obtain ⟨rfl, _⟩ := hv
    exact ⟨cur, .inl hh2⟩
theorem desk_not_bytes {w : World} {bd g h : Nat} {s : DS} (D : DeskAt w bd g h s) : ∀ x, dkS bd g h x → ∀ c fz, w.heap[x]? ≠ some (.cells c 5 fz) := by
  intro x hx c fz e
  rcases hx with rfl | rfl | rfl
  · rw [D.box] at e; simp at e
  · rw [D.wat.box] at e; simp at e
  · obtain ⟨cur, h1 | h1⟩ := own_blk (d := 0) D.wat.own
    · rw [h1] at e; simp at e
    · have := D.good.n.1; omega
theorem desk_others {w w' : World} {bd g h b : Nat} {s : DS} (D : DeskAt w bd g h s) (ho : Lib.OthersKept 5 (some b) w w') (h1 : bd ≠ b) (h2 : g ≠ b) (h3 : h ≠ b) : DeskAt w' bd g h s := by
  refine ⟨D.good, ho bd _ D.box (by simpa using h1) (fun c fz e => by simp at e), ⟨ho g _ D.wat.box (by simpa using h2) (fun c fz e => by simp at e), ?_, D.wat.bg, D.wat.ne⟩, D.lo, D.ng, D.nh⟩
  have hw := D.wat.own
  refine ⟨⟨hw.1.1, ?_⟩, hw.2⟩
  rcases hw.1.2 with h5 | ⟨g2, cap, cur, hv, hg2, hh2, r⟩
  · exact .inl h5
  · refine .inr ⟨g2, cap, cur, hv, hg2, ho g2 _ hh2 ?_ (fun c fz e => by simp at e), r⟩
    simp only [Value.slice.injEq, Option.some.injEq, Addr.mk.injEq, and_true, true_and] at hv
    obtain ⟨rfl, _⟩ := hv
    simpa using h3
theorem SS.take {w : World} {p : Option Addr} {n c k : Nat} {L : List ByteArray} (h : SS w p n c L) (hk : k ≤ n) : SS w p k c (L.take k) := by
  refine ⟨by rw [List.length_take, h.len]; omega, ⟨by have := h.2.1; omega, h.2.1.2⟩, (h.2.2.shorter hk).congr fun j hj => ?_⟩
  unfold gsW
  rw [List.getD, List.getD, List.getElem?_take, if_pos hj]
/-- the lines of a script -/
def linesOf (s : ByteArray) : List ByteArray := if gsW (pcs s 10) ((pcs s 10).length - 1) = ⟨#[]⟩ then (pcs s 10).take ((pcs s 10).length - 1) else pcs s 10
/-- is it a word? -/
def isW (x : ByteArray) : Bool := !(x.data.toList.isEmpty)
theorem isW_not {x : ByteArray} (h : x.data.toList = []) : isW x = false := by unfold isW; rw [h]; rfl
theorem isW_is {x : ByteArray} (h : ¬ x.data.toList = []) : isW x = true := by
  unfold isW
  cases e : x.data.toList with
  | nil => exact absurd e h
  | cons a r => rfl
/-- the words of a line -/
def wordsOf (s : ByteArray) : List ByteArray := (pcs s 32).filter isW
def startDS : DS := { rate := 1, unit := 1, L := tab 2 fun _ => (0, 0, true), turn := 0 }
theorem startDS_good : startDS.Good := ⟨⟨by decide, by decide⟩, by decide, by
  intro k hk
  have : k < 2 := hk
  unfold startDS
  simp only
  rw [ge_tab this]
  exact ⟨Int.le_refl _, .inr ⟨rfl, rfl⟩, rfl, by decide⟩, by decide, by decide⟩
/-- what has been written behind i lines -/
def outTo (T : Nat → Bytes) : Nat → Bytes
  | 0 => []
  | i + 1 => outTo T i ++ (T i ++ [10])
theorem outTo_len {T : Nat → Bytes} {n : Nat} (h : ∀ i, i < n → (T i).length ≤ 20000) : ∀ i, i ≤ n → (outTo T i).length ≤ i * 20001
  | 0, _ => by simp [outTo]
  | i + 1, hi => by
    have h1 := outTo_len h i (by omega)
    have h2 := h i (by omega)
    simp only [outTo, List.length_append, List.length_cons, List.length_nil]
    omega
theorem worldAt_base {w : World} {ty B B' g h r n t : Nat} {u : Int} {L : List Peer} (k : WorldAt w ty B g h r u n L t) (hB : B' ≤ B) : WorldAt w ty B' g h r u n L t :=
  ⟨k.box, k.own.base hB, Nat.le_trans hB k.bg, k.ne⟩
structure RunSt (w0 : World) (b0 bd b M N : Nat) (P : List ByteArray) (s : DS) (out : Bytes) (w : World) (g h : Nat) : Prop where
  laid : Laid w
  desk : DeskAt w bd g h s
  bld : Lib.IsBuilderF 57 5 b b (Lib.byteCells out) w
  lines : SS w (some ⟨b0, 0, none⟩) M N P
  below : Below w0.heap.size w0 w
  ng : g ≠ b
  nh : h ≠ b
  sz : b < w.heap.size
  gt : b0 < g ∧ b0 < h
  eq : w0.heap.size = b0 ∧ b0 < bd ∧ bd < b
section
variable {w0 : World} {b0 bd b M N : Nat} {P : List ByteArray} {s : DS} {out : Bytes} {w w' : World} {g h : Nat}
theorem RunSt.next (R : RunSt w0 b0 bd b M N P s out w g h) (hb : Below w.heap.size w w') : RunSt w0 b0 bd b M N P s out w' g h :=
  ⟨R.laid.below hb, R.desk.below hb, bld_chg (S := fun _ => False) R.bld (Chg.of hb) (fun e => e) (fun x hx => hx.elim), R.lines.below hb, R.below.trans (hb.mono R.below.size), R.ng, R.nh, Nat.lt_of_lt_of_le R.sz hb.size, R.gt, R.eq⟩
theorem RunSt.ans (R : RunSt w0 b0 bd b M N P s out w g h) {s' : DS} {t : Bytes} {e : Ending} (A : AnsPost w bd g h t s' e w') : e = .returned (.string (str t)) ∧ ∃ g' h', RunSt w0 b0 bd b M N P s' out w' g' h' := by
  obtain ⟨he, g', h', D, C, G⟩ := A
  have h1 := R.eq; have h2 := R.gt; have h3 := R.desk.lo; have h4 := R.ng; have h5 := R.nh; have h6 := R.sz; have h7 := C.size
  refine ⟨he, g', h', R.laid.chg C (fun x hx => ?_), D, bld_chg R.bld C (fun x => ?_) (desk_not_bytes R.desk), R.lines.keep C.size (fun a ha => ?_), ?_, by omega, by omega, by omega, by omega, R.eq⟩
  · rcases hx with rfl | rfl | rfl <;> first | omega | skip
    · exact R.desk.wat.bg
    · exact R.desk.wat.cells.2.2.2.2.2.2.2.1
  · rcases x with h | h | h <;> omega
  · cases ha
    refine C.same b0 (by omega) (fun x => ?_)
    rcases x with h | h | h <;> omega
  · refine R.below.trans (C.below R.below.size fun x hx hS => ?_)
    rcases hS with h | h | h <;> omega
theorem RunSt.writ (R : RunSt w0 b0 bd b M N P s out w g h) {x : Bytes} (hB : Lib.BuilderAtF 57 5 b b (.pointer (some ⟨b, 0, none⟩)) (Lib.byteCells (out ++ x)) w') (hb : Below b w w') (ho : Lib.OthersKept 5 (some b) w w') : RunSt w0 b0 bd b M N P s (out ++ x) w' g h := by
  have h1 := R.eq; have h3 := R.desk.lo; have h6 := R.sz; have h7 := hb.size
  exact ⟨R.laid.keep hb.size (fun x hx => hb.block x (by omega)), desk_others R.desk ho (by omega) R.ng R.nh, .inr hB, R.lines.keep hb.size (fun a ha => by cases ha; exact hb.block b0 (by omega)), R.below.trans (hb.mono (by omega)), R.ng, R.nh, by omega, R.gt, R.eq⟩
end
end Go.Proofs.YtgbccpfehcjhbaaGreatDoor
