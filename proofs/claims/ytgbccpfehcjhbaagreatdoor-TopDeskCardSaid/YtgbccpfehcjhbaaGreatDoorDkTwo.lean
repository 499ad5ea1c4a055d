/- What a command comes to; desk.two and its closure (P77). Conditions: the library's variables are laid; the words are numbers. -/
import Derived.Test.YtgbccpfehcjhbaaGreatDoorDkTold
import Derived.Test.YtgbccpfehcjhbaaGreatDoorFit
namespace Go.Proofs.YtgbccpfehcjhbaaGreatDoor
open Go Go.RowKit
set_option linter.unusedVariables false
set_option linter.unusedSimpArgs false

theorem SI.chg {S : Nat → Prop} {w w' : World} {p : Option Addr} {n c : Nat} {xs : List Int} (h : SI w p n c xs) (hb : Chg S w w') (hs : ∀ a, p = some a → ¬ S a.block) : SI w' p n c xs := by
  refine ⟨h.1, h.2.1, fun hn => ?_⟩
  obtain ⟨b, off, rfl, hlt, hc⟩ := h.2.2 hn
  refine ⟨b, off, rfl, Nat.lt_of_lt_of_le hlt hb.size, fun j hj => ?_⟩
  rw [← hc j hj]
  unfold World.cell?
  simp only [hb.same b hlt (hs _ rfl)]
/-- what a command comes to: a text, or an error -/
inductive Out where
  | ok (s : Bytes)
  | err (c : Int)
def outE : Out → Ending → Prop
  | .ok s, e => e = .returned (.string (str s))
  | .err c, e => e = faultE c
open Classical in
noncomputable def fitOut (want : Int) (Y : List Int) : Out := if want ≠ 0 then .err want else if fits Y then .ok (okS Y) else .err 2
theorem fitOut_err {want : Int} {Y : List Int} (h : want ≠ 0) : fitOut want Y = .err want := by unfold fitOut; rw [if_pos h]
theorem fitOut_big {want : Int} {Y : List Int} (h : want = 0) (hf : ¬ fits Y) : fitOut want Y = .err 2 := by unfold fitOut; rw [if_neg (by simp [h]), if_neg hf]
theorem fitOut_ok {want : Int} {Y : List Int} (h : want = 0) (hf : fits Y) : fitOut want Y = .ok (okS Y) := by unfold fitOut; rw [if_neg (by simp [h]), if_pos hf]
/-- what is told of a list and an error -/
def TFit (want : Int) (Y : List Int) (L : List Int) (er : Int) : Prop :=
  (want ≠ 0 ∧ er = want) ∨ (want = 0 ∧ ¬ fits Y ∧ er = 2) ∨ (want = 0 ∧ fits Y ∧ er = 0 ∧ L = Y)
theorem TFit.of {want : Int} {Y L : List Int} {er : Int} (h : FitOf want Y L er) : TFit want Y L er := by
  rcases h with ⟨h1, h2, _⟩ | ⟨h1, h2, h3, _⟩ | h
  · exact .inl ⟨h1, h2⟩
  · exact .inr (.inl ⟨h1, h2, h3⟩)
  · exact .inr (.inr h)
/-- the numbers of a list may be told -/
def tellable (Y : List Int) : Prop := Y.length ≤ 1000 ∧ ∀ x ∈ Y, -1000000000000 ≤ x ∧ x ≤ 1000000000000
def OutPost (w : World) (O : Out) (e : Ending) (w' : World) : Prop := outE O e ∧ Below w.heap.size w w'
theorem dk_told_fit {w : World} (LD : Laid w) {p : Option Addr} {n c : Nat} {L Y : List Int} {want er : Int} (h : SI w p n c L) (hF : TFit want Y L er) (hY : want = 0 → fits Y → tellable Y) :
    Calls Tryz.prog 60 #[.slice p n c, .int .i64 er] w (OutPost w (fitOut want Y)) := by
  rcases hF with ⟨h1, rfl⟩ | ⟨h1, h2, rfl⟩ | ⟨h1, h2, rfl, rfl⟩
  · rw [fitOut_err h1]
    exact (dk_told_bad h1).mono fun e w' h => h
  · rw [fitOut_big h1 h2]
    exact (dk_told_bad (by omega)).mono fun e w' h => h
  · rw [fitOut_ok h1 h2]
    have hT := hY h1 h2
    exact (dk_told LD h (by rw [← h.len]; exact hT.1) hT.2).mono fun e w' h => h
/-- a function value that, called, does P -/
def Does (w : World) (v : Value) (Pre : World → Prop) (P : World → Ending → World → Prop) : Prop :=
  ∃ F caps, v = .func (.func F) #[] caps ∧ (∀ (args : Array Value) (w : World), (callFunc F args).run Tryz.prog w = .ok (.enter F args) w) ∧ ∀ w', Below w.heap.size w w' → Laid w' → Pre w' → Calls Tryz.prog F caps w' (P w')
/-- what a part of a line is read as: a function that does P -/
def ReadPost (w : World) (bl : Nat) (L : List ByteArray) (k : Nat) (Pre : World → Prop) (P : World → Ending → World → Prop) (e : Ending) (w' : World) : Prop :=
  ∃ v, e = .returned v ∧ Does w' v Pre P ∧ LineS w' bl L k ∧ Chg (fun x => x = bl) w w'

set_option maxHeartbeats 800000 in
theorem dk_two1 {w : World} (LD : Laid w) {bf ba bb F n c m d : Nat} {p q : Option Addr} {Y : List Int} {want : Int}
    (h0 : w.heap[bf]? = some (.cells #[.func (.func F) #[] #[]] 42 (0, 0))) (h1 : w.heap[ba]? = some (.cells #[.slice p n c] 35 (0, 0))) (h2 : w.heap[bb]? = some (.cells #[.slice q m d] 35 (0, 0)))
    (hF : ∀ (args : Array Value) (w : World), (callFunc F args).run Tryz.prog w = .ok (.enter F args) w)
    (hcall : Calls Tryz.prog F #[.slice p n c, .slice q m d] w (RetL w (TFit want Y))) (hY : want = 0 → fits Y → tellable Y) :
    Calls Tryz.prog 96 #[.pointer (some ⟨bf, 0, none⟩), .pointer (some ⟨ba, 0, none⟩), .pointer (some ⟨bb, 0, none⟩)] w (OutPost w (fitOut want Y)) := by
  have c0 : w.cell? ⟨bf, 0, none⟩ = some (.func (.func F) #[] #[]) := blk_cell h0 0
  have c1 : w.cell? ⟨ba, 0, none⟩ = some (.slice p n c) := blk_cell h1 0
  have c2 : w.cell? ⟨bb, 0, none⟩ = some (.slice q m d) := blk_cell h2 0
  have HC := Lib.hid hcall; have HY := Lib.hid hY; have HLD := Lib.hid LD
  clear h0 h1 h2 hcall hY LD
  go_enter Tryz.func96, Tryz.ntmps96
  go_wp2_with fail
  refine HC.out.mono ?_; rintro e w1 ⟨p', n', c', L, er, rfl, ho, b1, hF⟩
  have HT := Lib.hid (dk_told_fit (HLD.out.below b1) ho.si hF HY.out)
  clear ho hF HC HY
  generalize fitOut want Y = O at *
  cases O with
  | ok s =>
    go_wp2_with fail
    refine HT.out.mono ?_
    rintro e w2 ⟨he, b2⟩
    obtain rfl : e = .returned (.string (str s)) := he
    have b12 := b1.trans (b2.mono b1.size)
    go_wp2
    go_ret
    exact ⟨rfl, b12⟩
  | err x =>
    go_wp2_with fail
    refine HT.out.mono ?_
    rintro e w2 ⟨he, b2⟩
    obtain rfl : e = faultE x := he
    have b12 := b1.trans (b2.mono b1.size)
    go_wp2
    exact ⟨rfl, rfl, b12⟩
/-- what a function of two lists comes to, wherever the lists lie -/
def Fun2 (F : Nat) (xs ys : List Int) (want : Int) (Y : List Int) : Prop :=
  (∀ (args : Array Value) (w : World), (callFunc F args).run Tryz.prog w = .ok (.enter F args) w) ∧ ∀ (w : World) (p q : Option Addr) (n c m d : Nat), SI w p n c xs → SI w q m d ys → Calls Tryz.prog F #[.slice p n c, .slice q m d] w (RetL w (TFit want Y))
set_option maxHeartbeats 1600000 in
theorem dk_two {w : World} (LD : Laid w) {bl k F : Nat} {L : List ByteArray} (h : LineS w bl L k) (hk : k + 1 < L.length) (ok0 : numsOk (gsW L k)) (ok1 : numsOk (gsW L (k + 1))) (hz0' : (gsW L k).size ≤ 900000) (hz1 : (gsW L (k + 1)).size ≤ 900000) (hb : 8 ≤ bl)
    {want : Int} {Y : List Int} (hF : Fun2 F (numsL (gsW L k)) (numsL (gsW L (k + 1))) want Y) (hY : want = 0 → fits Y → tellable Y) :
    Calls Tryz.prog 53 #[.pointer (some ⟨bl, 0, none⟩), .func (.func F) #[] #[]] w (ReadPost w bl L (k + 2) (fun _ => True) fun w' => OutPost w' (fitOut want Y)) := by
  have HX := Lib.hid (((Below.refl w.heap.size w).alloc (Nat.le_refl _) (.cells #[.func (.func F) #[] #[]] 42)))
  have T0 := Lib.hid (blk_new w #[.func (.func F) #[] #[]] 42)
  have hlt := h.lt
  have hmf : ∀ (fn : Fn) (first cap : Array Value) (w : World), (Instr.makeFunc fn first cap).run Tryz.prog w = .ok (.func fn first cap) w := fun _ _ _ _ => rfl
  have H0 := Lib.hid h; have HLD := Lib.hid LD; have OK0 := Lib.hid ok0; have OK1 := Lib.hid ok1; have HF := Lib.hid hF; have HY := Lib.hid hY
  clear h LD ok0 ok1 hF hY
  go_enter Tryz.func53, Tryz.ntmps53
  go_wp2_with fail
  obtain ⟨bf, hbf⟩ : ∃ bf, w.heap.size = bf := ⟨_, rfl⟩
  have hx := HX.out
  have h00 := H0.out.below hx
  have hld0 := HLD.out.below hx
  rw [hbf] at T0 hlt hx ⊢
  clear HX
  generalize w.alloc (.cells #[.func (.func F) #[] #[]] 42) = W0 at *
  have hz0 := hx.size
  have hbf0 : bf < W0.heap.size := (Array.getElem?_eq_some_iff.1 T0.out).1
  have HX := Lib.hid hx
  clear hx
  refine (dk_nums hld0 h00 (by omega) OK0.out hz0' hb).mono ?_
  rintro e w1 ⟨q1, d1, rfl, s1, l1, c1, a1⟩
  have S1 := Lib.hid s1; have L1 := Lib.hid l1; have C1 := Lib.hid c1; have A1 := Lib.hid a1
  have LD1 := Lib.hid (hld0.chg c1 (fun x hx => by omega))
  clear s1 l1 c1 a1 h00 hld0
  go_wp2_with fail
  refine (dk_nums LD1.out L1.out hk OK1.out hz1 hb).mono ?_
  rintro e w2 ⟨q2, d2, rfl, s2, l2, c2, a2⟩
  have S2 := Lib.hid s2; have L2 := Lib.hid l2; have C2 := Lib.hid c2
  have S12 := Lib.hid (S1.out.chg c2 (fun a ha e => by have := A1.out a ha; omega))
  have hz2 := c2.size
  have hz1' := C1.out.size
  have T2 : Hid (w2.heap[bf]? = some (.cells #[.func (.func F) #[] #[]] 42 (0, 0))) := Lib.hid (((c2.same bf (by omega) (by omega)).trans (C1.out.same bf (by omega) (by omega))).trans T0.out)
  clear s2 l2 c2 a2
  go_wp2
  go_ret
  refine ⟨_, rfl, ⟨96, _, rfl, (fun args w => by simp [callFunc, Tryz.func96, Tryz.f96, go_sem]), fun w' hb' LD' _ => ?_⟩, ?_, ?_⟩
  · have hbb : ∀ o o2, Below w2.heap.size w2 ((w2.alloc o).alloc o2) := fun o o2 => ((Below.refl _ _).alloc (Nat.le_refl _) o).alloc (by simp) o2
    have hb2 := (hbb _ _).trans (hb'.mono (hbb _ _).size)
    have t1 := (hb'.block w2.heap.size (by simp; omega)).trans (blk_alloc (o' := .cells #[.slice q2 (numsL (gsW L (k + 1))).length d2] 35) (blk_new w2 #[.slice q1 (numsL (gsW L k)).length d1] 35))
    have h9 := blk_new (w2.alloc (.cells #[.slice q1 (numsL (gsW L k)).length d1] 35)) #[.slice q2 (numsL (gsW L (k + 1))).length d2] 35
    rw [World.size_alloc] at h9
    have t2 := (hb'.block (w2.heap.size + 1) (by simp)).trans h9
    exact dk_two1 LD' ((hb2.block bf (by omega)).trans T2.out) t1 t2 HF.out.1 (HF.out.2 w' _ _ _ _ _ _ (S12.out.below hb2) (S2.out.below hb2)) HY.out
  · exact (L2.out.below ((Below.refl _ _).alloc (Nat.le_refl _) _)).below ((Below.refl _ _).alloc (Nat.le_refl _) _)
  · have hc0 : Chg (fun x => x = bl) w W0 := Chg.of (by rw [hbf]; exact HX.out)
    exact ((((hc0.trans C1.out).trans C2.out).alloc _).alloc _)
set_option maxHeartbeats 1600000 in
theorem dk_two_bad {w : World} (LD : Laid w) {bl k F : Nat} {L : List ByteArray} (h : LineS w bl L k) (hz : ∀ j, (gsW L j).size ≤ 900000) (hb : 8 ≤ bl) (hno : ¬ (k + 1 < L.length ∧ numsOk (gsW L k) ∧ numsOk (gsW L (k + 1)))) :
    Calls Tryz.prog 53 #[.pointer (some ⟨bl, 0, none⟩), .func (.func F) #[] #[]] w (NumsBad w bl) := by
  have HX := Lib.hid (((Below.refl w.heap.size w).alloc (Nat.le_refl _) (.cells #[.func (.func F) #[] #[]] 42)))
  have h00 := Lib.hid (h.below HX.out)
  have hld0 := Lib.hid (LD.below HX.out)
  have hlt := h.lt
  have HZ := Lib.hid hz
  have hle := h.le
  clear h LD hz
  by_cases h1 : k < L.length ∧ numsOk (gsW L k)
  · obtain ⟨hk, ok0⟩ := h1
    have OK0 := Lib.hid ok0
    have HN2 := Lib.hid (show k + 1 < L.length → ¬ numsOk (gsW L (k + 1)) from fun hk2 ok1 => hno ⟨hk2, ok0, ok1⟩)
    clear ok0 hno
    go_enter Tryz.func53, Tryz.ntmps53
    go_wp2_with fail
    refine (dk_nums hld0.out h00.out hk OK0.out (HZ.out _) hb).mono ?_
    rintro e w1 ⟨q1, d1, rfl, s1, l1, c1, a1⟩
    have L1 := Lib.hid l1; have C1 := Lib.hid ((Chg.of HX.out).trans c1)
    have LD1 := Lib.hid (hld0.out.chg c1 (fun x hx => by omega))
    clear s1 l1 c1 a1 h00 hld0
    go_wp2_with fail
    refine (dk_nums_bad LD1.out L1.out (fun hk2 => ⟨HN2.out hk2, HZ.out _⟩) hb).mono ?_
    rintro e w2 ⟨rfl, c2⟩
    have C2 := Lib.hid (C1.out.trans c2)
    clear c2
    go_wp2
    exact ⟨rfl, rfl, C2.out⟩
  · have HN1 := Lib.hid (show k < L.length → ¬ numsOk (gsW L k) from fun hk ok => h1 ⟨hk, ok⟩)
    clear h1 hno
    go_enter Tryz.func53, Tryz.ntmps53
    go_wp2_with fail
    refine (dk_nums_bad hld0.out h00.out (fun hk2 => ⟨HN1.out hk2, HZ.out _⟩) hb).mono ?_
    rintro e w2 ⟨rfl, c2⟩
    have C2 := Lib.hid ((Chg.of HX.out).trans c2)
    clear c2
    go_wp2
    exact ⟨rfl, rfl, C2.out⟩
end Go.Proofs.YtgbccpfehcjhbaaGreatDoor
