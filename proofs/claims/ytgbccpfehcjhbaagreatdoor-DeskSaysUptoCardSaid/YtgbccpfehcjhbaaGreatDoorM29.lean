/- One line answered: (*desk).answer, where the line faults (P77). Conditions: what the line is read as. -/
import Derived.Test.YtgbccpfehcjhbaaGreatDoorM18
import Derived.Test.YtgbccpfehcjhbaaGreatDoorM27
import Derived.Test.YtgbccpfehcjhbaaGreatDoorM28
namespace Go.Proofs.YtgbccpfehcjhbaaGreatDoor
open Go Go.RowKit
set_option linter.unusedVariables false
set_option linter.unusedSimpArgs false

/-- a line that is read to no end: a fault -/
def ReadsBad (bd : Nat) (L : List ByteArray) (c : Int) : Prop :=
  ∀ (w : World) (bl : Nat), Laid w → LineS w bl L 1 → 8 ≤ bl → Calls Tryz.prog 39 #[.pointer (some ⟨bd, 0, none⟩), .string (gsW L 0), .pointer (some ⟨bl, 0, none⟩)] w (fun e w' => e = faultE c ∧ Chg (fun x => x = bl) w w')
def errS (c : Int) : Bytes := [101, 114, 114, 111, 114, 32] ++ Lib.itoa c
/-- a line of which some words are left: a fault -/
def ReadsShort (bd : Nat) (L : List ByteArray) : Prop :=
  ∀ (w : World) (bl : Nat), Laid w → LineS w bl L 1 → 8 ≤ bl → Calls Tryz.prog 39 #[.pointer (some ⟨bd, 0, none⟩), .string (gsW L 0), .pointer (some ⟨bl, 0, none⟩)] w (fun e w' => ∃ k v, k < L.length ∧ e = .returned v ∧ LineS w' bl L k ∧ Chg (fun x => x = bl) w w')
set_option maxRecDepth 100000 in
set_option maxHeartbeats 3200000 in
theorem dk_answer_readbad {w : World} (LD : Laid w) {bd g h n c : Nat} {s : DS} {L : List ByteArray} {p : Option Addr} {c0 : Int} (D : DeskAt w bd g h s) (hs : SS w p n c L) (hn : 0 < n) (hn2 : n ≤ 1000000000) (hc0 : 0 ≤ c0 ∧ c0 ≤ 1000) (hR : ReadsBad bd L c0) :
    Calls Tryz.prog 21 #[.pointer (some ⟨bd, 0, none⟩), .slice p n c] w (AnsPost w bd g h (errS c0) s) := by
  have hmf := mf
  obtain ⟨pb, po, rfl, hlt, hc⟩ := hs.cells hn
  have cel0 := hc 0 hn
  rw [Nat.add_zero] at cel0
  have HS := Lib.hid hs; have HLD := Lib.hid LD; have HD := Lib.hid D; have HR := Lib.hid hR
  have h8 := LD.sz
  clear hs LD D hR hc
  go_enter_defers Tryz.func21, Tryz.ntmps21
  have hX := ((Below.refl w.heap.size w).alloc (Nat.le_refl _) (.cells #[.string ⟨#[]⟩] 9)).alloc (by simp) (.cells #[.slice (some ⟨pb, po, none⟩) n c, .int .i64 1] 91)
  have TO := Lib.hid (blk_alloc (o' := .cells #[.slice (some ⟨pb, po, none⟩) n c, .int .i64 1] 91) (blk_new w #[.string ⟨#[]⟩] 9))
  have hT1 := blk_new (w.alloc (.cells #[.string ⟨#[]⟩] 9)) #[.slice (some ⟨pb, po, none⟩) n c, .int .i64 1] 91
  rw [World.size_alloc] at hT1
  have HX := Lib.hid hX
  have hszX : ((w.alloc (.cells #[.string ⟨#[]⟩] 9)).alloc (.cells #[.slice (some ⟨pb, po, none⟩) n c, .int .i64 1] 91)).heap.size = w.heap.size + 2 := by simp
  have HSX := Lib.hid hszX
  have HL2 : Hid (LineS ((w.alloc (.cells #[.string ⟨#[]⟩] 9)).alloc (.cells #[.slice (some ⟨pb, po, none⟩) n c, .int .i64 1] 91)) (w.heap.size + 1) L 1) := Lib.hid ⟨some ⟨pb, po, none⟩, n, c, hT1, HS.out.below HX.out, (by rintro a ⟨⟩; show pb ≠ w.heap.size + 1; omega), hn, hn2⟩
  have LD2 := Lib.hid (HLD.out.below hX)
  have D2 := Lib.hid (HD.out.below hX)
  clear hX hT1 hszX
  go_wp2_with fail
  generalize (w.alloc (.cells #[.string ⟨#[]⟩] 9)).alloc (.cells #[.slice (some ⟨pb, po, none⟩) n c, .int .i64 1] 91) = W2 at *
  refine (HR.out W2 (w.heap.size + 1) LD2.out HL2.out (by omega)).mono ?_
  rintro e w3 ⟨rfl, c3⟩
  have C3 := Lib.hid c3
  have LD3 := Lib.hid (LD2.out.chg c3 (fun x hx => by omega))
  have hbd := (Array.getElem?_eq_some_iff.1 HD.out.box).1
  obtain ⟨_, _, _, _, _, hgl, hhl, _, _⟩ := HD.out.wat.cells
  have D3 := Lib.hid (D2.out.chg c3 (by omega) (by omega) (by omega))
  have hz3 := c3.size
  have hsx := HSX.out
  have TO3 : Hid (w3.heap[w.heap.size]? = some (.cells #[.string ⟨#[]⟩] 9 (0, 0))) := Lib.hid ((c3.same _ (by omega) (by omega)).trans TO.out)
  clear c3 cel0
  go_wp2
  refine leaves_cons (f := 37) (args := #[.pointer (some ⟨w.heap.size, 0, none⟩)]) (by simp) (by simp [go_sem]) ?_
  refine (catch_fault LD3.out (bo := w.heap.size) hc0 TO3.out).mono ?_
  rintro e u' w5 ⟨rfl, rfl, c6, C5⟩
  have HFIN : Hid (AnsPost w bd g h (errS c0) s (.returned (.string (str (errS c0)))) w5) := Lib.hid ⟨rfl, g, h, by
      exact D3.out.chg C5 (by omega) (by omega) (by omega), by
      have k1 : Chg (dkS bd g h) w W2 := Chg.of HX.out
      have k2 := k1.later C3.out (fun x hx => .inl (by omega))
      exact k2.later C5 (fun x hx => .inl (by omega)), .inl ⟨rfl, rfl⟩⟩
  clear C5
  simp [Leaves, settle, results, Tryz.results21, go_sem, c6]
  exact HFIN.out
set_option maxRecDepth 100000 in
set_option maxHeartbeats 3200000 in
theorem dk_answer_endbad {w : World} (LD : Laid w) {bd g h n c : Nat} {s : DS} {L : List ByteArray} {p : Option Addr} (D : DeskAt w bd g h s) (hs : SS w p n c L) (hn : 0 < n) (hn2 : n ≤ 1000000000) (hR : ReadsShort bd L) :
    Calls Tryz.prog 21 #[.pointer (some ⟨bd, 0, none⟩), .slice p n c] w (AnsPost w bd g h (errS 9) s) := by
  have hmf := mf
  obtain ⟨pb, po, rfl, hlt, hc⟩ := hs.cells hn
  have cel0 := hc 0 hn
  rw [Nat.add_zero] at cel0
  have HS := Lib.hid hs; have HLD := Lib.hid LD; have HD := Lib.hid D; have HR := Lib.hid hR
  have h8 := LD.sz
  clear hs LD D hR hc
  go_enter_defers Tryz.func21, Tryz.ntmps21
  have hX := ((Below.refl w.heap.size w).alloc (Nat.le_refl _) (.cells #[.string ⟨#[]⟩] 9)).alloc (by simp) (.cells #[.slice (some ⟨pb, po, none⟩) n c, .int .i64 1] 91)
  have TO := Lib.hid (blk_alloc (o' := .cells #[.slice (some ⟨pb, po, none⟩) n c, .int .i64 1] 91) (blk_new w #[.string ⟨#[]⟩] 9))
  have hT1 := blk_new (w.alloc (.cells #[.string ⟨#[]⟩] 9)) #[.slice (some ⟨pb, po, none⟩) n c, .int .i64 1] 91
  rw [World.size_alloc] at hT1
  have HX := Lib.hid hX
  have hszX : ((w.alloc (.cells #[.string ⟨#[]⟩] 9)).alloc (.cells #[.slice (some ⟨pb, po, none⟩) n c, .int .i64 1] 91)).heap.size = w.heap.size + 2 := by simp
  have HSX := Lib.hid hszX
  have HL2 : Hid (LineS ((w.alloc (.cells #[.string ⟨#[]⟩] 9)).alloc (.cells #[.slice (some ⟨pb, po, none⟩) n c, .int .i64 1] 91)) (w.heap.size + 1) L 1) := Lib.hid ⟨some ⟨pb, po, none⟩, n, c, hT1, HS.out.below HX.out, (by rintro a ⟨⟩; show pb ≠ w.heap.size + 1; omega), hn, hn2⟩
  have LD2 := Lib.hid (HLD.out.below hX)
  have D2 := Lib.hid (HD.out.below hX)
  clear hX hT1 hszX
  go_wp2_with fail
  generalize (w.alloc (.cells #[.string ⟨#[]⟩] 9)).alloc (.cells #[.slice (some ⟨pb, po, none⟩) n c, .int .i64 1] 91) = W2 at *
  refine (HR.out W2 (w.heap.size + 1) LD2.out HL2.out (by omega)).mono ?_
  rintro e w3 ⟨k, v, hk, rfl, l3, c3⟩
  have L3 := Lib.hid l3
  have C3 := Lib.hid c3
  have LD3 := Lib.hid (LD2.out.chg c3 (fun x hx => by omega))
  have hbd := (Array.getElem?_eq_some_iff.1 HD.out.box).1
  obtain ⟨_, _, _, _, _, hgl, hhl, _, _⟩ := HD.out.wat.cells
  have D3 := Lib.hid (D2.out.chg c3 (by omega) (by omega) (by omega))
  have hz3 := c3.size
  have hsx := HSX.out
  have TO3 : Hid (w3.heap[w.heap.size]? = some (.cells #[.string ⟨#[]⟩] 9 (0, 0))) := Lib.hid ((c3.same _ (by omega) (by omega)).trans TO.out)
  clear c3 cel0 l3
  go_wp2_with fail
  refine (dk_end_bad L3.out hk).mono ?_; rintro e w4 ⟨rfl, b4⟩
  have LD4 := Lib.hid (LD3.out.below b4)
  have D4 := Lib.hid (D3.out.below b4)
  have B4 := Lib.hid b4
  have TO4 : Hid (w4.heap[w.heap.size]? = some (.cells #[.string ⟨#[]⟩] 9 (0, 0))) := Lib.hid ((b4.block _ (by omega)).trans TO3.out)
  have hz4 := b4.size
  clear b4
  go_wp2
  refine leaves_cons (f := 37) (args := #[.pointer (some ⟨w.heap.size, 0, none⟩)]) (by simp) (by simp [go_sem]) ?_
  refine (catch_fault LD4.out (bo := w.heap.size) (c := 9) (by omega) TO4.out).mono ?_
  rintro e u' w5 ⟨rfl, rfl, c6, C5⟩
  have HFIN : Hid (AnsPost w bd g h (errS 9) s (.returned (.string (str (errS 9)))) w5) := Lib.hid ⟨rfl, g, h, by
      exact D4.out.chg C5 (by omega) (by omega) (by omega), by
      have k1 : Chg (dkS bd g h) w W2 := Chg.of HX.out
      have k2 := k1.later C3.out (fun x hx => .inl (by omega))
      exact (k2.then B4.out).later C5 (fun x hx => .inl (by omega)), .inl ⟨rfl, rfl⟩⟩
  clear C5
  simp [Leaves, settle, results, Tryz.results21, go_sem, c6]
  exact HFIN.out
set_option maxRecDepth 100000 in
set_option maxHeartbeats 3200000 in
theorem dk_answer_err {w : World} (LD : Laid w) {bd g h n c : Nat} {s s' : DS} {L : List ByteArray} {p : Option Addr} {ce : Int} (D : DeskAt w bd g h s) (hs : SS w p n c L) (hn : 0 < n) (hn2 : n ≤ 1000000000) (hce : 0 ≤ ce ∧ ce ≤ 1000) (hR : Reads bd g h s L (.err ce) s') :
    Calls Tryz.prog 21 #[.pointer (some ⟨bd, 0, none⟩), .slice p n c] w (AnsPost w bd g h (errS ce) s') := by
  have hmf := mf
  obtain ⟨pb, po, rfl, hlt, hc⟩ := hs.cells hn
  have c0 := hc 0 hn
  rw [Nat.add_zero] at c0
  have HS := Lib.hid hs; have HLD := Lib.hid LD; have HD := Lib.hid D; have HR := Lib.hid hR
  have h8 := LD.sz
  clear hs LD D hR hc
  go_enter_defers Tryz.func21, Tryz.ntmps21
  have hX := ((Below.refl w.heap.size w).alloc (Nat.le_refl _) (.cells #[.string ⟨#[]⟩] 9)).alloc (by simp) (.cells #[.slice (some ⟨pb, po, none⟩) n c, .int .i64 1] 91)
  have TO := Lib.hid (blk_alloc (o' := .cells #[.slice (some ⟨pb, po, none⟩) n c, .int .i64 1] 91) (blk_new w #[.string ⟨#[]⟩] 9))
  have hT1 := blk_new (w.alloc (.cells #[.string ⟨#[]⟩] 9)) #[.slice (some ⟨pb, po, none⟩) n c, .int .i64 1] 91
  rw [World.size_alloc] at hT1
  have HX := Lib.hid hX
  have hszX : ((w.alloc (.cells #[.string ⟨#[]⟩] 9)).alloc (.cells #[.slice (some ⟨pb, po, none⟩) n c, .int .i64 1] 91)).heap.size = w.heap.size + 2 := by simp
  have HSX := Lib.hid hszX
  have HL2 : Hid (LineS ((w.alloc (.cells #[.string ⟨#[]⟩] 9)).alloc (.cells #[.slice (some ⟨pb, po, none⟩) n c, .int .i64 1] 91)) (w.heap.size + 1) L 1) := Lib.hid ⟨some ⟨pb, po, none⟩, n, c, hT1, HS.out.below HX.out, (by rintro a ⟨⟩; show pb ≠ w.heap.size + 1; omega), hn, hn2⟩
  have LD2 := Lib.hid (HLD.out.below hX)
  have D2 := Lib.hid (HD.out.below hX)
  clear hX hT1 hszX
  go_wp2_with fail
  generalize (w.alloc (.cells #[.string ⟨#[]⟩] 9)).alloc (.cells #[.slice (some ⟨pb, po, none⟩) n c, .int .i64 1] 91) = W2 at *
  refine (HR.out W2 (w.heap.size + 1) LD2.out HL2.out (by omega)).mono ?_
  rintro e w3 ⟨v, rfl, ⟨F, caps, rfl, hF, hcall⟩, l3, c3⟩
  have HC := Lib.hid hcall; have L3 := Lib.hid l3; have C3 := Lib.hid c3
  have LD3 := Lib.hid (LD2.out.chg c3 (fun x hx => by omega))
  have hbd := (Array.getElem?_eq_some_iff.1 HD.out.box).1
  obtain ⟨_, _, _, _, _, hgl, hhl, _, _⟩ := HD.out.wat.cells
  have D3 := Lib.hid (D2.out.chg c3 (by omega) (by omega) (by omega))
  have hz3 := c3.size
  have hsx := HSX.out
  have TO3 : Hid (w3.heap[w.heap.size]? = some (.cells #[.string ⟨#[]⟩] 9 (0, 0))) := Lib.hid ((c3.same _ (by omega) (by omega)).trans TO.out)
  clear hcall l3 c3 c0
  go_wp2_with fail
  refine (dk_end L3.out).mono ?_; rintro e w4 ⟨rfl, b4⟩
  have B4 := Lib.hid b4
  have TO4 : Hid (w4.heap[w.heap.size]? = some (.cells #[.string ⟨#[]⟩] 9 (0, 0))) := Lib.hid ((b4.block _ (by omega)).trans TO3.out)
  have hz4 := b4.size
  have HCC := Lib.hid (HC.out w4 b4 (LD3.out.below b4) (D3.out.below b4))
  clear b4
  go_wp2_with fail
  refine HCC.out.mono ?_
  rintro e w5 ⟨he, g', h', D5, C5, hnew⟩
  obtain rfl : e = faultE ce := he
  have HD5 := Lib.hid D5; have HC5 := Lib.hid C5; have HN5 := Lib.hid hnew
  have hz5 := C5.size
  have TO5 : Hid (w5.heap[w.heap.size]? = some (.cells #[.string ⟨#[]⟩] 9 (0, 0))) := Lib.hid ((C5.same _ (by omega) (by unfold dkS; omega)).trans TO4.out)
  have LD5 := Lib.hid ((LD3.out.below B4.out).chg C5 (fun x hx => by
    have h1 := HD.out.lo
    have h2 := HD.out.wat.bg
    have h3 := HD.out.wat.cells.2.2.2.2.2.2.2.1
    rcases hx with hx | hx | hx <;> omega))
  clear D5 C5 hnew
  go_wp2
  refine leaves_cons (f := 37) (args := #[.pointer (some ⟨w.heap.size, 0, none⟩)]) (by simp) (by simp [go_sem]) ?_
  refine (catch_fault LD5.out (bo := w.heap.size) hce TO5.out).mono ?_
  rintro e u' w6 ⟨rfl, rfl, c6, C6⟩
  have HFIN : Hid (AnsPost w bd g h (errS ce) s' (.returned (.string (str (errS ce)))) w6) := Lib.hid ⟨rfl, g', h', by
      refine HD5.out.chg C6 (by omega) ?_ ?_
      · rcases HN5.out with ⟨a, _⟩ | ⟨a, _⟩ <;> omega
      · rcases HN5.out with ⟨_, a⟩ | ⟨_, a⟩ <;> omega, by
      have k1 : Chg (dkS bd g h) w W2 := Chg.of HX.out
      have k2 := k1.later C3.out (fun x hx => .inl (by omega))
      have k3 := k2.then B4.out
      have k4 := k3.later HC5.out (fun x hx => .inr hx)
      exact k4.later C6 (fun x hx => .inl (by omega)), by
      rcases HN5.out with a | ⟨a, b⟩
      · exact .inl a
      · exact .inr (by omega)⟩
  clear C6
  simp [Leaves, settle, results, Tryz.results21, go_sem, c6]
  exact HFIN.out
end Go.Proofs.YtgbccpfehcjhbaaGreatDoor

/- What a line comes to, whatever its words (P77). Conditions: what each theorem says. -/
namespace Go.Proofs.YtgbccpfehcjhbaaGreatDoor
open Go Go.RowKit
set_option linter.unusedVariables false
set_option linter.unusedSimpArgs false

/-- the commands, and what each asks: true: a number, false: a list -/
def cmdW : Nat → Bytes
  | 0 => [99, 111, 110, 118]
  | 1 => [100, 101, 99, 111, 110, 118]
  | 2 => [115, 104, 97, 112, 101]
  | 3 => [99, 108, 111, 115, 101]
  | 4 => [98, 97, 99, 107]
  | 5 => [100, 101, 108, 97, 121]
  | 6 => [98, 117, 99, 107, 101, 116]
  | 7 => [119, 105, 110, 100, 111, 119]
  | 8 => [98, 111, 117, 110, 100]
  | 9 => [114, 97, 116, 101]
  | 10 => [119, 111, 114, 108, 100]
  | 11 => [97, 112, 112, 101, 110, 100]
  | 12 => [99, 114, 97, 115, 104]
  | 13 => [116, 105, 99, 107]
  | 14 => [112, 101, 101, 114, 115]
  | _ => []
def cmdF : Nat → List Bool
  | 0 => [false, false]
  | 1 => [false, false]
  | 2 => [false, false]
  | 3 => [false]
  | 4 => [false, false]
  | 5 => [false, false]
  | 6 => [true, true, true]
  | 7 => [true, true, true]
  | 8 => [false, true, true]
  | 9 => [false, true, true]
  | 10 => [true, true, true]
  | 11 => [true]
  | 12 => [true]
  | 13 => []
  | 14 => []
  | _ => []
def inForm (L : List ByteArray) (f : List Bool) : Prop := L.length = 1 + f.length ∧ ∀ i, i < f.length → if f.getD i false then nAt L (i + 1) else lAt L (i + 1)
noncomputable def cmdOut (c : Nat) (s : DS) (L : List ByteArray) : Out × DS :=
  match c with
  | 0 => (fitOut (bothErr (numsL (gsW L 1)) (numsL (gsW L 2))) (convL (numsL (gsW L 1)) (numsL (gsW L 2))), s)
  | 1 => (fitOut (bothErr (numsL (gsW L 1)) (numsL (gsW L 2))) (dcvL (numsL (gsW L 1)) (numsL (gsW L 2))), s)
  | 2 => (fitOut (bothErr (numsL (gsW L 1)) (numsL (gsW L 2))) (convL (numsL (gsW L 1)) (clsL (numsL (gsW L 2)))), s)
  | 3 => (fitOut (curveErr (numsL (gsW L 1))) (clsL (numsL (gsW L 1))), s)
  | 4 => (fitOut (bothErr (numsL (gsW L 1)) (numsL (gsW L 2))) [backV (numsL (gsW L 1)) (numsL (gsW L 2))], s)
  | 5 => (fitOut (delayE (numsL (gsW L 1)) (numsL (gsW L 2))) [(delayK (numsL (gsW L 1)) (numsL (gsW L 2)) : Int)], s)
  | 6 => (fitOut (shErr (nV L 1) (nV L 2) (nV L 3 < 0 ∨ 1000000 < nV L 3)) (tab ((nV L 1).toNat + 1) (bucketV (nV L 2) (nV L 3))), s)
  | 7 => (oneOut (windowVE (nV L 1) (nV L 2) (nV L 3)), s)
  | 8 => (oneOut (boundVE (numsL (gsW L 1)) (nV L 2) (nV L 3)), s)
  | 9 => (oneOut (rateVE (numsL (gsW L 1)) (nV L 2) (nV L 3)), s)
  | 10 => (worldOut (nV L 1) (nV L 2) (nV L 3), worldDS (nV L 1) (nV L 2) (nV L 3) s)
  | 11 => (errOut (appErr s.L (nV L 1)) [111, 107], { s with L := appL s.L (nV L 1) })
  | 12 => (errOut (crErr s.L (nV L 1)) [111, 107], { s with L := crL s.L (nV L 1) })
  | 13 => (.ok (okS [((tickR s.unit (s.L, s.turn) s.rate : Nat) : Int)]), { s with L := (runW s.unit (s.L, s.turn) s.rate).1, turn := (runW s.unit (s.L, s.turn) s.rate).2 })
  | 14 => (.ok (peersS s.L), s)
  | _ => (.err 9, s)
/-- what a line comes to, and what the world is then -/
inductive LineR (s : DS) (L : List ByteArray) : Out → DS → Prop
  | ok (c : Nat) (hc : c < 15) (hw : gsW L 0 = str (cmdW c)) (hin : inForm L (cmdF c)) : LineR s L (cmdOut c s L).1 (cmdOut c s L).2
  | bad (c : Nat) (hc : c < 15) (hw : gsW L 0 = str (cmdW c)) (hno : ¬ inForm L (cmdF c)) : LineR s L (.err 9) s
  | none (hn : ∀ c, c < 15 → gsW L 0 ≠ str (cmdW c)) : LineR s L (.err 9) s
theorem lineR_exists (s : DS) (L : List ByteArray) : ∃ O s', LineR s L O s' := by
  by_cases h : ∃ c, c < 15 ∧ gsW L 0 = str (cmdW c)
  · obtain ⟨c, hc, hw⟩ := h
    by_cases hin : inForm L (cmdF c)
    · exact ⟨_, _, .ok c hc hw hin⟩
    · exact ⟨_, _, .bad c hc hw hin⟩
  · exact ⟨_, _, .none fun c hc hw => h ⟨c, hc, hw⟩⟩
def textOf : Out → Bytes
  | .ok t => t
  | .err c => errS c
/-- a text that may stand in a line of answers -/
def Clean (t : Bytes) : Prop := t.length ≤ 20000 ∧ ¬ (10 : UInt8) ∈ t
def OutGood : Out → Prop
  | .ok t => Clean t
  | .err c => 0 ≤ c ∧ c ≤ 1000
/-- how a line is answered, in whatever world -/
def Replies (s : DS) (W : List ByteArray) (t : Bytes) (s' : DS) : Prop :=
  ∀ (w : World) (bd g h : Nat) (p : Option Addr) (n c : Nat), Laid w → DeskAt w bd g h s → SS w p n c W → 0 < n → n ≤ 1000000 → Calls Tryz.prog 21 #[.pointer (some ⟨bd, 0, none⟩), .slice p n c] w (AnsPost w bd g h t s')
def ReadsAny (s : DS) (L : List ByteArray) (n : Nat) (ok : Prop) (O : Out) (s' : DS) : Prop :=
  ∀ (bd g h : Nat) (w : World) (bl : Nat), Laid w → LineS w bl L 1 → 8 ≤ bl → Calls Tryz.prog 39 #[.pointer (some ⟨bd, 0, none⟩), .string (gsW L 0), .pointer (some ⟨bl, 0, none⟩)] w (ReadAny w bl L (1 + n) ok (fun w' => DeskAt w' bd g h s) fun w' => DeskPost w' bd g h O s')
theorem any_pure {w w' : World} {bl k bd g h : Nat} {L : List ByteArray} {ok : Prop} {O : Out} {s : DS} {e : Ending} (H : ReadAny w bl L k ok (fun _ => True) (fun w' => OutPost w' O) e w') : ReadAny w bl L k ok (fun w' => DeskAt w' bd g h s) (fun w' => DeskPost w' bd g h O s) e w' := by
  rcases H with ⟨h1, h2⟩ | ⟨h1, h2⟩
  · exact .inl ⟨h1, h2.wider (fun _ _ => trivial) (fun v e v' D hp => DeskPost.pure D hp)⟩
  · exact .inr ⟨h1, h2⟩
theorem any_two {w : World} {F : Nat} {args : Array Value} {bl k : Nat} {L : List ByteArray} {ok : Prop} {Pre : World → Prop} {P : World → Ending → World → Prop} (h1 : ok → Calls Tryz.prog F args w (ReadPost w bl L k Pre P)) (h2 : ¬ ok → Calls Tryz.prog F args w (NumsBad w bl)) : Calls Tryz.prog F args w (ReadAny w bl L k ok Pre P) := by
  by_cases h : ok
  · exact (h1 h).mono fun e w' hp => .inl ⟨h, hp⟩
  · exact (h2 h).mono fun e w' hp => .inr ⟨h, hp⟩
theorem replies_ok {s s' : DS} {L : List ByteArray} {n : Nat} {ok : Prop} {O : Out} (hR : ReadsAny s L n ok O s') (hO : OutGood O) (hok : ok) (hl : L.length = 1 + n) : Replies s L (textOf O) s' := by
  intro w bd g h p m c LD D hs hm hm2
  have hR2 : Reads bd g h s L O s' := fun w bl LD hl1 hb => (hR bd g h w bl LD hl1 hb).mono fun e w' hp => by
    rcases hp with ⟨_, hp⟩ | ⟨hn, _⟩
    · rw [hl]; exact hp
    · exact absurd hok hn
  cases O with
  | ok t => exact dk_answer LD D hs hm (by omega) hR2
  | err ce => exact dk_answer_err LD D hs hm (by omega) hO hR2
theorem line_le {w : World} {bl k n : Nat} {L : List ByteArray} (h : LineS w bl L (1 + n)) : 1 + n ≤ L.length := h.le
theorem replies_bad {s s' : DS} {L : List ByteArray} {n : Nat} {ok : Prop} {O : Out} (hR : ReadsAny s L n ok O s') (hok : ok → 1 + n ≤ L.length) (hno : ¬ (ok ∧ L.length = 1 + n)) : Replies s L (textOf (.err 9)) s := by
  intro w bd g h p m c LD D hs hm hm2
  by_cases h1 : ok
  · have h2 := hok h1
    refine dk_answer_endbad LD D hs hm (by omega) (fun w bl LD hl1 hb => (hR bd g h w bl LD hl1 hb).mono fun e w' hp => ?_)
    rcases hp with ⟨_, v, he, hd, hL, hc⟩ | ⟨hn, _⟩
    · exact ⟨1 + n, v, by have : ¬ L.length = 1 + n := fun e => hno ⟨h1, e⟩; omega, he, hL, hc⟩
    · exact absurd h1 hn
  · refine dk_answer_readbad LD D hs hm (by omega) (by omega) (fun w bl LD hl1 hb => (hR bd g h w bl LD hl1 hb).mono fun e w' hp => ?_)
    rcases hp with ⟨hn, _⟩ | ⟨_, hp⟩
    · exact absurd hn h1
    · exact hp
/-- what the words of a line must be -/
def okF (L : List ByteArray) (f : List Bool) : Prop := ∀ i, i < f.length → if f.getD i false then nAt L (i + 1) else lAt L (i + 1)
theorem okF_le {L : List ByteArray} {f : List Bool} (hL : 0 < L.length) (h : okF L f) : 1 + f.length ≤ L.length := by
  rcases Nat.eq_zero_or_pos f.length with h0 | h0
  · omega
  · have := h (f.length - 1) (by omega)
    split at this
    · have := this.1; omega
    · have := this.1; omega
theorem okF_0 {L : List ByteArray} : okF L [] ↔ True := ⟨fun _ => trivial, fun _ i hi => absurd hi (Nat.not_lt_zero _)⟩
theorem okF_1 {L : List ByteArray} {a : Bool} : okF L [a] ↔ (if a then nAt L 1 else lAt L 1) := by
  constructor
  · intro h; exact h 0 (by simp)
  · intro h i hi
    obtain rfl : i = 0 := by simp at hi; omega
    exact h
theorem okF_2 {L : List ByteArray} {a b : Bool} : okF L [a, b] ↔ (if a then nAt L 1 else lAt L 1) ∧ (if b then nAt L 2 else lAt L 2) := by
  constructor
  · intro h; exact ⟨h 0 (by simp), h 1 (by simp)⟩
  · rintro ⟨h, h2⟩ i hi
    match i, hi with
    | 0, _ => exact h
    | 1, _ => exact h2
    | i + 2, hi => simp at hi; omega
theorem okF_3 {L : List ByteArray} {a b c : Bool} : okF L [a, b, c] ↔ (if a then nAt L 1 else lAt L 1) ∧ (if b then nAt L 2 else lAt L 2) ∧ (if c then nAt L 3 else lAt L 3) := by
  constructor
  · intro h; exact ⟨h 0 (by simp), h 1 (by simp), h 2 (by simp)⟩
  · rintro ⟨h, h2, h3⟩ i hi
    match i, hi with
    | 0, _ => exact h
    | 1, _ => exact h2
    | 2, _ => exact h3
    | i + 3, hi => simp at hi; omega
theorem readsAny_iff {s s' : DS} {L : List ByteArray} {n : Nat} {ok ok' : Prop} {O : Out} (h : ok ↔ ok') (hR : ReadsAny s L n ok O s') : ReadsAny s L n ok' O s' := by
  rw [← propext h]; exact hR
/-- how a command is read -/
def CmdReads (c : Nat) (s : DS) (L : List ByteArray) : Prop := ReadsAny s L (cmdF c).length (okF L (cmdF c)) (cmdOut c s L).1 (cmdOut c s L).2
section
variable {s : DS} {L : List ByteArray}
theorem cmd_conv (hz : ∀ j, (gsW L j).size ≤ 900000) (hw : gsW L 0 = str (cmdW 0)) : CmdReads 0 s L := by
  refine readsAny_iff okF_2.symm (fun bd g h w bl LD hl hb => ?_)
  rw [hw]
  refine (any_two (fun hk => ?_) (fun hk => ?_)).mono fun e w' hp => any_pure hp
  · exact read_conv LD hl (k := 1) hk.2.1 hk.1.2 hk.2.2 (hz _) (hz _) hb
  · exact read_conv_bad LD hl hz hb (fun hh => hk ⟨⟨by omega, hh.2.1⟩, ⟨hh.1, hh.2.2⟩⟩)
theorem cmd_deconv (hz : ∀ j, (gsW L j).size ≤ 900000) (hw : gsW L 0 = str (cmdW 1)) : CmdReads 1 s L := by
  refine readsAny_iff okF_2.symm (fun bd g h w bl LD hl hb => ?_)
  rw [hw]
  refine (any_two (fun hk => ?_) (fun hk => ?_)).mono fun e w' hp => any_pure hp
  · exact read_deconv LD hl (k := 1) hk.2.1 hk.1.2 hk.2.2 (hz _) (hz _) hb
  · exact read_deconv_bad LD hl hz hb (fun hh => hk ⟨⟨by omega, hh.2.1⟩, ⟨hh.1, hh.2.2⟩⟩)
theorem cmd_shape (hz : ∀ j, (gsW L j).size ≤ 900000) (hw : gsW L 0 = str (cmdW 2)) : CmdReads 2 s L := by
  refine readsAny_iff okF_2.symm (fun bd g h w bl LD hl hb => ?_)
  rw [hw]
  refine (any_two (fun hk => ?_) (fun hk => ?_)).mono fun e w' hp => any_pure hp
  · exact read_shape LD hl (k := 1) hk.2.1 hk.1.2 hk.2.2 (hz _) (hz _) hb
  · exact read_shape_bad LD hl hz hb (fun hh => hk ⟨⟨by omega, hh.2.1⟩, ⟨hh.1, hh.2.2⟩⟩)
theorem cmd_close (hz : ∀ j, (gsW L j).size ≤ 900000) (hw : gsW L 0 = str (cmdW 3)) : CmdReads 3 s L := by
  refine readsAny_iff okF_1.symm (fun bd g h w bl LD hl hb => ?_)
  rw [hw]
  exact (read_close LD hl hz hb).mono fun e w' hp => any_pure hp
theorem cmd_back (hz : ∀ j, (gsW L j).size ≤ 900000) (hw : gsW L 0 = str (cmdW 4)) : CmdReads 4 s L := by
  refine readsAny_iff okF_2.symm (fun bd g h w bl LD hl hb => ?_)
  rw [hw]
  refine (any_two (fun hk => ?_) (fun hk => ?_)).mono fun e w' hp => any_pure hp
  · exact read_back LD hl (k := 1) hk.2.1 hk.1.2 hk.2.2 (hz _) (hz _) hb
  · exact read_back_bad LD hl hz hb (fun hh => hk ⟨⟨by omega, hh.2.1⟩, ⟨hh.1, hh.2.2⟩⟩)
theorem cmd_delay (hz : ∀ j, (gsW L j).size ≤ 900000) (hw : gsW L 0 = str (cmdW 5)) : CmdReads 5 s L := by
  refine readsAny_iff okF_2.symm (fun bd g h w bl LD hl hb => ?_)
  rw [hw]
  refine (any_two (fun hk => ?_) (fun hk => ?_)).mono fun e w' hp => any_pure hp
  · exact read_delay LD hl (k := 1) hk.2.1 hk.1.2 hk.2.2 (hz _) (hz _) hb
  · exact read_delay_bad LD hl hz hb (fun hh => hk ⟨⟨by omega, hh.2.1⟩, ⟨hh.1, hh.2.2⟩⟩)
theorem cmd_bucket (hz : ∀ j, (gsW L j).size ≤ 900000) (hw : gsW L 0 = str (cmdW 6)) : CmdReads 6 s L := by
  refine readsAny_iff okF_3.symm (fun bd g h w bl LD hl hb => ?_)
  rw [hw]
  exact (read_bucket LD hl hz hb).mono fun e w' hp => any_pure hp
theorem cmd_window (hz : ∀ j, (gsW L j).size ≤ 900000) (hw : gsW L 0 = str (cmdW 7)) : CmdReads 7 s L := by
  refine readsAny_iff okF_3.symm (fun bd g h w bl LD hl hb => ?_)
  rw [hw]
  exact (read_window LD hl hz hb).mono fun e w' hp => any_pure hp
theorem cmd_bound (hz : ∀ j, (gsW L j).size ≤ 900000) (hw : gsW L 0 = str (cmdW 8)) : CmdReads 8 s L := by
  refine readsAny_iff okF_3.symm (fun bd g h w bl LD hl hb => ?_)
  rw [hw]
  exact (read_bound LD hl hz hb).mono fun e w' hp => any_pure hp
theorem cmd_rate (hz : ∀ j, (gsW L j).size ≤ 900000) (hw : gsW L 0 = str (cmdW 9)) : CmdReads 9 s L := by
  refine readsAny_iff okF_3.symm (fun bd g h w bl LD hl hb => ?_)
  rw [hw]
  exact (read_rate LD hl hz hb).mono fun e w' hp => any_pure hp
theorem cmd_world (hz : ∀ j, (gsW L j).size ≤ 900000) (hw : gsW L 0 = str (cmdW 10)) : CmdReads 10 s L := by
  refine readsAny_iff okF_3.symm (fun bd g h w bl LD hl hb => ?_)
  rw [hw]
  exact read_world LD hl hz hb
theorem cmd_append (hz : ∀ j, (gsW L j).size ≤ 900000) (hw : gsW L 0 = str (cmdW 11)) : CmdReads 11 s L := by
  refine readsAny_iff okF_1.symm (fun bd g h w bl LD hl hb => ?_)
  rw [hw]
  refine any_two (fun hk => ?_) (fun hk => ?_)
  · exact read_append LD hl hk.1 (nAt_some hk) hb
  · exact read_append_bad LD hl (fun h1 => ⟨Classical.not_not.1 (fun h2 => hk ⟨h1, h2⟩), by have := hz 1; omega⟩) hb
theorem cmd_crash (hz : ∀ j, (gsW L j).size ≤ 900000) (hw : gsW L 0 = str (cmdW 12)) : CmdReads 12 s L := by
  refine readsAny_iff okF_1.symm (fun bd g h w bl LD hl hb => ?_)
  rw [hw]
  refine any_two (fun hk => ?_) (fun hk => ?_)
  · exact read_crash LD hl hk.1 (nAt_some hk) hb
  · exact read_crash_bad LD hl (fun h1 => ⟨Classical.not_not.1 (fun h2 => hk ⟨h1, h2⟩), by have := hz 1; omega⟩) hb
theorem cmd_tick (hz : ∀ j, (gsW L j).size ≤ 900000) (hw : gsW L 0 = str (cmdW 13)) : CmdReads 13 s L := by
  refine readsAny_iff okF_0.symm (fun bd g h w bl LD hl hb => ?_)
  rw [hw]
  exact any_two (fun _ => read_tick hl) (fun hk => absurd trivial hk)
theorem cmd_peers (hz : ∀ j, (gsW L j).size ≤ 900000) (hw : gsW L 0 = str (cmdW 14)) : CmdReads 14 s L := by
  refine readsAny_iff okF_0.symm (fun bd g h w bl LD hl hb => ?_)
  rw [hw]
  exact any_two (fun _ => (read_peers hl).mono fun e w' hp => hp.wider (fun _ h => h) (fun v e v' D hp => DeskPost.pure D hp)) (fun hk => absurd trivial hk)
theorem cmd_reads (hz : ∀ j, (gsW L j).size ≤ 900000) : ∀ c, c < 15 → gsW L 0 = str (cmdW c) → CmdReads c s L
  | 0, _, hw => cmd_conv hz hw
  | 1, _, hw => cmd_deconv hz hw
  | 2, _, hw => cmd_shape hz hw
  | 3, _, hw => cmd_close hz hw
  | 4, _, hw => cmd_back hz hw
  | 5, _, hw => cmd_delay hz hw
  | 6, _, hw => cmd_bucket hz hw
  | 7, _, hw => cmd_window hz hw
  | 8, _, hw => cmd_bound hz hw
  | 9, _, hw => cmd_rate hz hw
  | 10, _, hw => cmd_world hz hw
  | 11, _, hw => cmd_append hz hw
  | 12, _, hw => cmd_crash hz hw
  | 13, _, hw => cmd_tick hz hw
  | 14, _, hw => cmd_peers hz hw
  | c + 15, h, _ => absurd h (by omega)
end
theorem none_of {L : List ByteArray} (h : ∀ c, c < 15 → gsW L 0 ≠ str (cmdW c)) : (∀ x ∈ askedL, gsW L 0 ≠ str x) ∧ ∀ x ∈ changeL, gsW L 0 ≠ str x := by
  unfold askedL changeL
  simp only [List.forall_mem_cons]
  exact ⟨⟨h 0 (by omega), h 1 (by omega), h 2 (by omega), h 4 (by omega), h 5 (by omega), h 3 (by omega), h 6 (by omega), h 7 (by omega), h 8 (by omega), h 9 (by omega), fun x hx => by simp at hx⟩, ⟨h 10 (by omega), h 11 (by omega), h 12 (by omega), h 13 (by omega), h 14 (by omega), fun x hx => by simp at hx⟩⟩
theorem replies_of {s s' : DS} {L : List ByteArray} {O : Out} (hz : ∀ j, (gsW L j).size ≤ 900000) (hL : 0 < L.length) (h : LineR s L O s') (hO : OutGood O) : Replies s L (textOf O) s' := by
  cases h with
  | ok c hc hw hin => exact replies_ok (cmd_reads hz c hc hw) hO hin.2 hin.1
  | bad c hc hw hno => exact replies_bad (cmd_reads hz c hc hw) (fun h => okF_le hL h) (fun h => hno ⟨h.2, h.1⟩)
  | none hn =>
    intro w bd g h p m c LD D hs hm hm2
    exact dk_answer_readbad LD D hs hm (by omega) (by omega) (fun w bl LD hl1 hb => read_none (none_of hn).1 (none_of hn).2)
end Go.Proofs.YtgbccpfehcjhbaaGreatDoor
