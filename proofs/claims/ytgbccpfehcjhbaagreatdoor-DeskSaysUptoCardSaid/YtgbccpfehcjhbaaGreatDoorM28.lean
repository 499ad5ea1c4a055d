/- How the desk reads its lines of two lists: shape, delay; and what it does where the two lists are not there (P77). Conditions: what each theorem says. -/
import Derived.Test.YtgbccpfehcjhbaaGreatDoorM25
import Derived.Test.YtgbccpfehcjhbaaGreatDoorM17
namespace Go.Proofs.YtgbccpfehcjhbaaGreatDoor
open Go Go.RowKit
set_option linter.unusedVariables false
set_option linter.unusedSimpArgs false

set_option maxRecDepth 100000 in
set_option maxHeartbeats 1600000 in
theorem read_shape {w : World} (LD : Laid w) {bd bl k : Nat} {L : List ByteArray} (h : LineS w bl L k) (hk : k + 1 < L.length) (ok0 : numsOk (gsW L k)) (ok1 : numsOk (gsW L (k + 1))) (hz0 : (gsW L k).size ≤ 900000) (hz1 : (gsW L (k + 1)).size ≤ 900000) (hb : 8 ≤ bl) :
    Calls Tryz.prog 39 #[.pointer (some ⟨bd, 0, none⟩), .string ⟨#[115, 104, 97, 112, 101]⟩, .pointer (some ⟨bl, 0, none⟩)] w (ReadPost w bl L (k + 2) (fun _ => True) fun w' => OutPost w' (fitOut (bothErr (numsL (gsW L k)) (numsL (gsW L (k + 1)))) (convL (numsL (gsW L k)) (clsL (numsL (gsW L (k + 1))))))) := by
  have HC := Lib.hid (dk_two LD h hk ok0 ok1 hz0 hz1 hb (fun2_shape _ _) (fun h1 h2 => tellable_shape h1 h2))
  clear LD h ok0 ok1
  go_enter Tryz.func39, Tryz.ntmps39
  go_wp2_with fail
  refine HC.out.mono ?_
  rintro e w1 hP
  obtain ⟨v, rfl, hP2⟩ := hP
  have HP := Lib.hid hP2
  clear hP2
  go_wp2
  go_ret
  exact ⟨v, rfl, HP.out⟩
set_option maxRecDepth 100000 in
set_option maxHeartbeats 1600000 in
theorem read_delay {w : World} (LD : Laid w) {bd bl k : Nat} {L : List ByteArray} (h : LineS w bl L k) (hk : k + 1 < L.length) (ok0 : numsOk (gsW L k)) (ok1 : numsOk (gsW L (k + 1))) (hz0 : (gsW L k).size ≤ 900000) (hz1 : (gsW L (k + 1)).size ≤ 900000) (hb : 8 ≤ bl) :
    Calls Tryz.prog 39 #[.pointer (some ⟨bd, 0, none⟩), .string ⟨#[100, 101, 108, 97, 121]⟩, .pointer (some ⟨bl, 0, none⟩)] w (ReadPost w bl L (k + 2) (fun _ => True) fun w' => OutPost w' (fitOut (delayE (numsL (gsW L k)) (numsL (gsW L (k + 1)))) [(delayK (numsL (gsW L k)) (numsL (gsW L (k + 1))) : Int)])) := by
  have HC := Lib.hid (dk_two LD h hk ok0 ok1 hz0 hz1 hb (fun2_delay _ _) (fun h1 h2 => tellable_one (by have := delay_bd h1; omega)))
  clear LD h ok0 ok1
  go_enter Tryz.func39, Tryz.ntmps39
  go_wp2_with fail
  refine HC.out.mono ?_
  rintro e w1 hP
  obtain ⟨v, rfl, hP2⟩ := hP
  have HP := Lib.hid hP2
  clear hP2
  go_wp2
  go_ret
  exact ⟨v, rfl, HP.out⟩
set_option maxRecDepth 100000 in
set_option maxHeartbeats 1600000 in
theorem read_conv_bad {w : World} (LD : Laid w) {bd bl k : Nat} {L : List ByteArray} (h : LineS w bl L k) (hz : ∀ j, (gsW L j).size ≤ 900000) (hb : 8 ≤ bl) (hno : ¬ (k + 1 < L.length ∧ numsOk (gsW L k) ∧ numsOk (gsW L (k + 1)))) :
    Calls Tryz.prog 39 #[.pointer (some ⟨bd, 0, none⟩), .string ⟨#[99, 111, 110, 118]⟩, .pointer (some ⟨bl, 0, none⟩)] w (NumsBad w bl) := by
  have HC := Lib.hid (fun F => dk_two_bad (F := F) LD h hz hb hno)
  clear LD h hz hno
  go_enter Tryz.func39, Tryz.ntmps39
  go_wp2_with fail
  refine (HC.out _).mono ?_
  rintro e w1 ⟨rfl, c1⟩
  have HP := Lib.hid c1
  clear c1
  go_wp2
  exact ⟨rfl, rfl, HP.out⟩
set_option maxRecDepth 100000 in
set_option maxHeartbeats 1600000 in
theorem read_deconv_bad {w : World} (LD : Laid w) {bd bl k : Nat} {L : List ByteArray} (h : LineS w bl L k) (hz : ∀ j, (gsW L j).size ≤ 900000) (hb : 8 ≤ bl) (hno : ¬ (k + 1 < L.length ∧ numsOk (gsW L k) ∧ numsOk (gsW L (k + 1)))) :
    Calls Tryz.prog 39 #[.pointer (some ⟨bd, 0, none⟩), .string ⟨#[100, 101, 99, 111, 110, 118]⟩, .pointer (some ⟨bl, 0, none⟩)] w (NumsBad w bl) := by
  have HC := Lib.hid (fun F => dk_two_bad (F := F) LD h hz hb hno)
  clear LD h hz hno
  go_enter Tryz.func39, Tryz.ntmps39
  go_wp2_with fail
  refine (HC.out _).mono ?_
  rintro e w1 ⟨rfl, c1⟩
  have HP := Lib.hid c1
  clear c1
  go_wp2
  exact ⟨rfl, rfl, HP.out⟩
set_option maxRecDepth 100000 in
set_option maxHeartbeats 1600000 in
theorem read_shape_bad {w : World} (LD : Laid w) {bd bl k : Nat} {L : List ByteArray} (h : LineS w bl L k) (hz : ∀ j, (gsW L j).size ≤ 900000) (hb : 8 ≤ bl) (hno : ¬ (k + 1 < L.length ∧ numsOk (gsW L k) ∧ numsOk (gsW L (k + 1)))) :
    Calls Tryz.prog 39 #[.pointer (some ⟨bd, 0, none⟩), .string ⟨#[115, 104, 97, 112, 101]⟩, .pointer (some ⟨bl, 0, none⟩)] w (NumsBad w bl) := by
  have HC := Lib.hid (fun F => dk_two_bad (F := F) LD h hz hb hno)
  clear LD h hz hno
  go_enter Tryz.func39, Tryz.ntmps39
  go_wp2_with fail
  refine (HC.out _).mono ?_
  rintro e w1 ⟨rfl, c1⟩
  have HP := Lib.hid c1
  clear c1
  go_wp2
  exact ⟨rfl, rfl, HP.out⟩
set_option maxRecDepth 100000 in
set_option maxHeartbeats 1600000 in
theorem read_back_bad {w : World} (LD : Laid w) {bd bl k : Nat} {L : List ByteArray} (h : LineS w bl L k) (hz : ∀ j, (gsW L j).size ≤ 900000) (hb : 8 ≤ bl) (hno : ¬ (k + 1 < L.length ∧ numsOk (gsW L k) ∧ numsOk (gsW L (k + 1)))) :
    Calls Tryz.prog 39 #[.pointer (some ⟨bd, 0, none⟩), .string ⟨#[98, 97, 99, 107]⟩, .pointer (some ⟨bl, 0, none⟩)] w (NumsBad w bl) := by
  have HC := Lib.hid (fun F => dk_two_bad (F := F) LD h hz hb hno)
  clear LD h hz hno
  go_enter Tryz.func39, Tryz.ntmps39
  go_wp2_with fail
  refine (HC.out _).mono ?_
  rintro e w1 ⟨rfl, c1⟩
  have HP := Lib.hid c1
  clear c1
  go_wp2
  exact ⟨rfl, rfl, HP.out⟩
set_option maxRecDepth 100000 in
set_option maxHeartbeats 1600000 in
theorem read_delay_bad {w : World} (LD : Laid w) {bd bl k : Nat} {L : List ByteArray} (h : LineS w bl L k) (hz : ∀ j, (gsW L j).size ≤ 900000) (hb : 8 ≤ bl) (hno : ¬ (k + 1 < L.length ∧ numsOk (gsW L k) ∧ numsOk (gsW L (k + 1)))) :
    Calls Tryz.prog 39 #[.pointer (some ⟨bd, 0, none⟩), .string ⟨#[100, 101, 108, 97, 121]⟩, .pointer (some ⟨bl, 0, none⟩)] w (NumsBad w bl) := by
  have HC := Lib.hid (fun F => dk_two_bad (F := F) LD h hz hb hno)
  clear LD h hz hno
  go_enter Tryz.func39, Tryz.ntmps39
  go_wp2_with fail
  refine (HC.out _).mono ?_
  rintro e w1 ⟨rfl, c1⟩
  have HP := Lib.hid c1
  clear c1
  go_wp2
  exact ⟨rfl, rfl, HP.out⟩
end Go.Proofs.YtgbccpfehcjhbaaGreatDoor

/- The desk's line crash (P77). Conditions: what each theorem says. -/
namespace Go.Proofs.YtgbccpfehcjhbaaGreatDoor
open Go Go.RowKit
set_option linter.unusedVariables false
set_option linter.unusedSimpArgs false

theorem crL_good' {s : DS} (hg : s.Good) (a : Int) : ({ s with L := crL s.L a } : DS).Good :=
  ⟨by rw [show ({ s with L := crL s.L a } : DS).L.length = s.L.length from crL_len _ _]; exact hg.n, by rw [show ({ s with L := crL s.L a } : DS).L.length = s.L.length from crL_len _ _]; exact hg.turn, crL_good hg.good, hg.rate, hg.unit⟩
set_option maxRecDepth 100000 in
set_option maxHeartbeats 1600000 in
theorem dk_crash {w : World} (LD : Laid w) {bx bn bd g h : Nat} {v : Int} {s : DS} (D : DeskAt w bd g h s) (h1 : w.heap[bx]? = some (.cells #[.pointer (some ⟨bd, 0, none⟩)] 51 (0, 0))) (h2 : w.heap[bn]? = some (.cells #[.int .i64 v] 3 (0, 0))) (hv : 0 ≤ v ∧ v < 1000000000) :
    Calls Tryz.prog 111 #[.pointer (some ⟨bx, 0, none⟩), .pointer (some ⟨bn, 0, none⟩)] w (DeskPost w bd g h (errOut (crErr s.L v) [111, 107]) { s with L := crL s.L v }) := by
  have c1 : w.cell? ⟨bx, 0, none⟩ = some (.pointer (some ⟨bd, 0, none⟩)) := blk_cell h1 0
  have c2 : w.cell? ⟨bn, 0, none⟩ = some (.int .i64 v) := blk_cell h2 0
  have c3 : w.cell? ⟨bd, 0, none⟩ = some (.pointer (some ⟨g, 0, none⟩)) := blk_cell D.box 0
  have HD := Lib.hid D; have HLD := Lib.hid LD
  have HC := Lib.hid (world_Crash (w := w.drew) (i := v) D.wat.drew D.good.n.2 rfl rfl)
  obtain ⟨er, he⟩ : ∃ er, crErr s.L v = er := ⟨_, rfl⟩
  have HAL := Lib.hid (crL_len s.L v)
  rw [he] at HC ⊢
  clear h1 h2 D LD he
  go_enter Tryz.func111, Tryz.ntmps111
  go_wp2
  go_still_tail 5, (by kernel_rfl)
  change wpList _ _ _ _ _ w.drew
  go_wp2_with fail
  refine HC.out.mono ?_; rintro e w1 ⟨rfl, hw1, b1, o1⟩
  have HW1 := Lib.hid hw1; have HB1 := Lib.hid b1; have HO1 := Lib.hid o1
  clear hw1 b1 o1 HC
  by_cases h0 : er = 0
  · subst h0
    have HF := Lib.hid (desk_step HD.out (s' := { s with L := crL s.L v }) (crL_good' HD.out.good v) (by show WorldAt _ _ _ _ _ _ _ (crL s.L v).length _ _; rw [HAL.out]; exact HW1.out) HB1.out HO1.out)
    go_wp2_with fail
    refine dk_done.mono ?_; rintro e w2 ⟨rfl, rfl⟩
    go_wp2
    go_ret
    exact ⟨by unfold errOut; rw [if_pos rfl]; rfl, g, h, HF.out.1, HF.out.2, .inl ⟨rfl, rfl⟩⟩
  · have HF := Lib.hid (desk_step HD.out (s' := { s with L := crL s.L v }) (crL_good' HD.out.good v) (by show WorldAt _ _ _ _ _ _ _ (crL s.L v).length _ _; rw [HAL.out]; exact HW1.out) HB1.out HO1.out)
    go_wp2_with fail
    refine (dk_done_bad h0).mono ?_; rintro e w2 ⟨rfl, b2⟩
    go_wp2
    exact ⟨rfl, by unfold errOut; rw [if_neg h0]; rfl, g, h, HF.out.1.below b2, HF.out.2.then b2, .inl ⟨rfl, rfl⟩⟩
set_option maxRecDepth 100000 in
set_option maxHeartbeats 1600000 in
theorem change_crash {w : World} (LD : Laid w) {bd g hh bl k : Nat} {s : DS} {L : List ByteArray} {v : Int} (h : LineS w bl L k) (hk : k < L.length) (hv : numW (gsW L k) = some v) (hb : 8 ≤ bl) :
    Calls Tryz.prog 72 #[.pointer (some ⟨bd, 0, none⟩), .string ⟨#[99, 114, 97, 115, 104]⟩, .pointer (some ⟨bl, 0, none⟩)] w (ReadPost w bl L (k + 1) (fun w' => DeskAt w' bd g hh s) fun w' => DeskPost w' bd g hh (errOut (crErr s.L v) [111, 107]) { s with L := crL s.L v }) := by
  have hmf := mf
  have HX := Lib.hid ((Below.refl w.heap.size w).alloc (Nat.le_refl _) (.cells #[.pointer (some ⟨bd, 0, none⟩)] 51))
  have T0 := Lib.hid (blk_new w #[.pointer (some ⟨bd, 0, none⟩)] 51)
  have hlt := h.lt
  have HLD0 := Lib.hid (LD.below HX.out)
  have HC := Lib.hid (dk_num HLD0.out (h.below HX.out) hk hv hb)
  have HVB := Lib.hid (numW_lt hv)
  clear LD h hv
  go_enter Tryz.func72, Tryz.ntmps72
  go_wp2_with fail
  refine HC.out.mono ?_
  rintro e w1 ⟨rfl, l1, c1⟩
  have L1 := Lib.hid l1; have C1 := Lib.hid c1
  have hz1 := c1.size
  rw [World.size_alloc] at hz1
  have T1 : Hid (w1.heap[w.heap.size]? = some (.cells #[.pointer (some ⟨bd, 0, none⟩)] 51 (0, 0))) := Lib.hid ((c1.same w.heap.size (by simp) (by omega)).trans T0.out)
  clear l1 c1 HC
  go_wp2
  go_ret
  refine ⟨_, rfl, ⟨111, _, rfl, (fun args w => by simp [callFunc, Tryz.func111, Tryz.f111, go_sem]), fun w' hb' LD' D' => ?_⟩, ?_, ?_⟩
  · have hb1 := (Below.refl w1.heap.size w1).alloc (Nat.le_refl _) (.cells #[.int .i64 v] 3)
    exact dk_crash LD' D' (((hb1.trans (hb'.mono hb1.size)).block _ (by omega)).trans T1.out) ((hb'.block _ (by simp)).trans (blk_new w1 #[.int .i64 v] 3)) HVB.out
  · exact L1.out.below ((Below.refl _ _).alloc (Nat.le_refl _) _)
  · exact ((Chg.of HX.out).trans C1.out).alloc _
set_option maxRecDepth 100000 in
set_option maxHeartbeats 1600000 in
theorem read_crash {w : World} (LD : Laid w) {bd g hh bl k : Nat} {s : DS} {L : List ByteArray} {v : Int} (h : LineS w bl L k) (hk : k < L.length) (hv : numW (gsW L k) = some v) (hb : 8 ≤ bl) :
    Calls Tryz.prog 39 #[.pointer (some ⟨bd, 0, none⟩), .string ⟨#[99, 114, 97, 115, 104]⟩, .pointer (some ⟨bl, 0, none⟩)] w (ReadPost w bl L (k + 1) (fun w' => DeskAt w' bd g hh s) fun w' => DeskPost w' bd g hh (errOut (crErr s.L v) [111, 107]) { s with L := crL s.L v }) := by
  have HC := Lib.hid (change_crash (bd := bd) (g := g) (hh := hh) (s := s) LD h hk hv hb)
  clear h
  go_enter Tryz.func39, Tryz.ntmps39
  go_wp2_with fail
  refine HC.out.mono ?_
  rintro e w1 hP
  obtain ⟨v, rfl, hP2⟩ := hP
  have HP := Lib.hid hP2
  clear hP2
  go_wp2
  go_ret
  exact ⟨v, rfl, HP.out⟩
end Go.Proofs.YtgbccpfehcjhbaaGreatDoor

/- The desk's lines append, crash where the number is not there (P77). Conditions: what each theorem says. -/
namespace Go.Proofs.YtgbccpfehcjhbaaGreatDoor
open Go Go.RowKit
set_option linter.unusedVariables false
set_option linter.unusedSimpArgs false

set_option maxRecDepth 100000 in
set_option maxHeartbeats 1600000 in
theorem change_append_bad {w : World} (LD : Laid w) {bd bl k : Nat} {L : List ByteArray} (h : LineS w bl L k) (hno : k < L.length → numW (gsW L k) = none ∧ (gsW L k).size ≤ 1000000000) (hb : 8 ≤ bl) :
    Calls Tryz.prog 72 #[.pointer (some ⟨bd, 0, none⟩), .string ⟨#[97, 112, 112, 101, 110, 100]⟩, .pointer (some ⟨bl, 0, none⟩)] w (NumsBad w bl) := by
  have HX := Lib.hid ((Below.refl w.heap.size w).alloc (Nat.le_refl _) (.cells #[.pointer (some ⟨bd, 0, none⟩)] 51))
  have HC := Lib.hid (dk_num_bad (LD.below HX.out) (h.below HX.out) hno hb)
  clear LD h hno
  go_enter Tryz.func72, Tryz.ntmps72
  go_wp2_with fail
  refine HC.out.mono ?_
  rintro e w1 ⟨rfl, c1⟩
  have HP : Hid (Chg (fun x => x = bl) w w1) := Lib.hid ((Chg.of HX.out).trans c1)
  clear c1
  go_wp2
  exact ⟨rfl, rfl, HP.out⟩
set_option maxRecDepth 100000 in
set_option maxHeartbeats 1600000 in
theorem read_append_bad {w : World} (LD : Laid w) {bd bl k : Nat} {L : List ByteArray} (h : LineS w bl L k) (hno : k < L.length → numW (gsW L k) = none ∧ (gsW L k).size ≤ 1000000000) (hb : 8 ≤ bl) :
    Calls Tryz.prog 39 #[.pointer (some ⟨bd, 0, none⟩), .string ⟨#[97, 112, 112, 101, 110, 100]⟩, .pointer (some ⟨bl, 0, none⟩)] w (NumsBad w bl) := by
  have HC := Lib.hid (change_append_bad (bd := bd) LD h hno hb)
  clear LD h hno
  go_enter Tryz.func39, Tryz.ntmps39
  go_wp2_with fail
  refine HC.out.mono ?_
  rintro e w1 ⟨rfl, c1⟩
  have HP := Lib.hid c1
  clear c1
  go_wp2
  exact ⟨rfl, rfl, HP.out⟩
set_option maxRecDepth 100000 in
set_option maxHeartbeats 1600000 in
theorem change_crash_bad {w : World} (LD : Laid w) {bd bl k : Nat} {L : List ByteArray} (h : LineS w bl L k) (hno : k < L.length → numW (gsW L k) = none ∧ (gsW L k).size ≤ 1000000000) (hb : 8 ≤ bl) :
    Calls Tryz.prog 72 #[.pointer (some ⟨bd, 0, none⟩), .string ⟨#[99, 114, 97, 115, 104]⟩, .pointer (some ⟨bl, 0, none⟩)] w (NumsBad w bl) := by
  have HX := Lib.hid ((Below.refl w.heap.size w).alloc (Nat.le_refl _) (.cells #[.pointer (some ⟨bd, 0, none⟩)] 51))
  have HC := Lib.hid (dk_num_bad (LD.below HX.out) (h.below HX.out) hno hb)
  clear LD h hno
  go_enter Tryz.func72, Tryz.ntmps72
  go_wp2_with fail
  refine HC.out.mono ?_
  rintro e w1 ⟨rfl, c1⟩
  have HP : Hid (Chg (fun x => x = bl) w w1) := Lib.hid ((Chg.of HX.out).trans c1)
  clear c1
  go_wp2
  exact ⟨rfl, rfl, HP.out⟩
set_option maxRecDepth 100000 in
set_option maxHeartbeats 1600000 in
theorem read_crash_bad {w : World} (LD : Laid w) {bd bl k : Nat} {L : List ByteArray} (h : LineS w bl L k) (hno : k < L.length → numW (gsW L k) = none ∧ (gsW L k).size ≤ 1000000000) (hb : 8 ≤ bl) :
    Calls Tryz.prog 39 #[.pointer (some ⟨bd, 0, none⟩), .string ⟨#[99, 114, 97, 115, 104]⟩, .pointer (some ⟨bl, 0, none⟩)] w (NumsBad w bl) := by
  have HC := Lib.hid (change_crash_bad (bd := bd) LD h hno hb)
  clear LD h hno
  go_enter Tryz.func39, Tryz.ntmps39
  go_wp2_with fail
  refine HC.out.mono ?_
  rintro e w1 ⟨rfl, c1⟩
  have HP := Lib.hid c1
  clear c1
  go_wp2
  exact ⟨rfl, rfl, HP.out⟩
end Go.Proofs.YtgbccpfehcjhbaaGreatDoor

/- A line whose first word is no command (P77). Conditions: what each theorem says. -/
namespace Go.Proofs.YtgbccpfehcjhbaaGreatDoor
open Go Go.RowKit
set_option linter.unusedVariables false
set_option linter.unusedSimpArgs false

def askedL : List Bytes := [[99, 111, 110, 118], [100, 101, 99, 111, 110, 118], [115, 104, 97, 112, 101], [98, 97, 99, 107], [100, 101, 108, 97, 121], [99, 108, 111, 115, 101], [98, 117, 99, 107, 101, 116], [119, 105, 110, 100, 111, 119], [98, 111, 117, 110, 100], [114, 97, 116, 101]]
def changeL : List Bytes := [[119, 111, 114, 108, 100], [97, 112, 112, 101, 110, 100], [99, 114, 97, 115, 104], [116, 105, 99, 107], [112, 101, 101, 114, 115]]
theorem word_not {s : ByteArray} {L : List Bytes} (h : ∀ x ∈ L, s ≠ str x) {x : Bytes} (hx : x ∈ L) : (s.toList == x) = false := by
  rw [str_beq]
  exact decide_eq_false (fun e => h x hx (by rw [← str_of s, e]))
theorem word_not' {s : ByteArray} {L : List Bytes} (h : ∀ x ∈ L, s ≠ str x) {x : Bytes} (hx : x ∈ L) : ¬ s.toList = x := by
  rw [ByteArray.toList_eq]
  exact fun e => h x hx (by rw [← str_of s, e])
set_option maxRecDepth 100000 in
set_option maxHeartbeats 1600000 in
theorem change_none {w : World} {bd bl : Nat} {s : ByteArray} (h : ∀ x ∈ changeL, s ≠ str x) :
    Calls Tryz.prog 72 #[.pointer (some ⟨bd, 0, none⟩), .string s, .pointer (some ⟨bl, 0, none⟩)] w (NumsBad w bl) := by
  have HX := Lib.hid ((Below.refl w.heap.size w).alloc (Nat.le_refl _) (.cells #[.pointer (some ⟨bd, 0, none⟩)] 51))
  have e_world : (s.toList == [119, 111, 114, 108, 100]) = false := word_not h (by unfold changeL; simp)
  have f_world : ¬ s.toList = [119, 111, 114, 108, 100] := word_not' h (by unfold changeL; simp)
  have e_append : (s.toList == [97, 112, 112, 101, 110, 100]) = false := word_not h (by unfold changeL; simp)
  have f_append : ¬ s.toList = [97, 112, 112, 101, 110, 100] := word_not' h (by unfold changeL; simp)
  have e_crash : (s.toList == [99, 114, 97, 115, 104]) = false := word_not h (by unfold changeL; simp)
  have f_crash : ¬ s.toList = [99, 114, 97, 115, 104] := word_not' h (by unfold changeL; simp)
  have e_tick : (s.toList == [116, 105, 99, 107]) = false := word_not h (by unfold changeL; simp)
  have f_tick : ¬ s.toList = [116, 105, 99, 107] := word_not' h (by unfold changeL; simp)
  have e_peers : (s.toList == [112, 101, 101, 114, 115]) = false := word_not h (by unfold changeL; simp)
  have f_peers : ¬ s.toList = [112, 101, 101, 114, 115] := word_not' h (by unfold changeL; simp)
  clear h
  go_enter Tryz.func72, Tryz.ntmps72
  go_wp2_with fail
  refine dk_bad.mono ?_
  rintro e w1 ⟨rfl, b1⟩
  have HP : Hid (Chg (fun x => x = bl) w w1) := Lib.hid (Chg.of (HX.out.trans (b1.mono HX.out.size)))
  clear b1
  go_wp2
  exact ⟨rfl, rfl, HP.out⟩
set_option maxRecDepth 100000 in
set_option maxHeartbeats 1600000 in
theorem read_none {w : World} {bd bl : Nat} {s : ByteArray} (h : ∀ x ∈ askedL, s ≠ str x) (h2 : ∀ x ∈ changeL, s ≠ str x) :
    Calls Tryz.prog 39 #[.pointer (some ⟨bd, 0, none⟩), .string s, .pointer (some ⟨bl, 0, none⟩)] w (NumsBad w bl) := by
  have HC := Lib.hid (change_none (w := w) (bd := bd) (bl := bl) h2)
  have e_conv : (s.toList == [99, 111, 110, 118]) = false := word_not h (by unfold askedL; simp)
  have f_conv : ¬ s.toList = [99, 111, 110, 118] := word_not' h (by unfold askedL; simp)
  have e_deconv : (s.toList == [100, 101, 99, 111, 110, 118]) = false := word_not h (by unfold askedL; simp)
  have f_deconv : ¬ s.toList = [100, 101, 99, 111, 110, 118] := word_not' h (by unfold askedL; simp)
  have e_shape : (s.toList == [115, 104, 97, 112, 101]) = false := word_not h (by unfold askedL; simp)
  have f_shape : ¬ s.toList = [115, 104, 97, 112, 101] := word_not' h (by unfold askedL; simp)
  have e_back : (s.toList == [98, 97, 99, 107]) = false := word_not h (by unfold askedL; simp)
  have f_back : ¬ s.toList = [98, 97, 99, 107] := word_not' h (by unfold askedL; simp)
  have e_delay : (s.toList == [100, 101, 108, 97, 121]) = false := word_not h (by unfold askedL; simp)
  have f_delay : ¬ s.toList = [100, 101, 108, 97, 121] := word_not' h (by unfold askedL; simp)
  have e_close : (s.toList == [99, 108, 111, 115, 101]) = false := word_not h (by unfold askedL; simp)
  have f_close : ¬ s.toList = [99, 108, 111, 115, 101] := word_not' h (by unfold askedL; simp)
  have e_bucket : (s.toList == [98, 117, 99, 107, 101, 116]) = false := word_not h (by unfold askedL; simp)
  have f_bucket : ¬ s.toList = [98, 117, 99, 107, 101, 116] := word_not' h (by unfold askedL; simp)
  have e_window : (s.toList == [119, 105, 110, 100, 111, 119]) = false := word_not h (by unfold askedL; simp)
  have f_window : ¬ s.toList = [119, 105, 110, 100, 111, 119] := word_not' h (by unfold askedL; simp)
  have e_bound : (s.toList == [98, 111, 117, 110, 100]) = false := word_not h (by unfold askedL; simp)
  have f_bound : ¬ s.toList = [98, 111, 117, 110, 100] := word_not' h (by unfold askedL; simp)
  have e_rate : (s.toList == [114, 97, 116, 101]) = false := word_not h (by unfold askedL; simp)
  have f_rate : ¬ s.toList = [114, 97, 116, 101] := word_not' h (by unfold askedL; simp)
  clear h h2
  go_enter Tryz.func39, Tryz.ntmps39
  go_wp2_with fail
  refine HC.out.mono ?_
  rintro e w1 ⟨rfl, c1⟩
  have HP := Lib.hid c1
  clear c1
  go_wp2
  exact ⟨rfl, rfl, HP.out⟩
end Go.Proofs.YtgbccpfehcjhbaaGreatDoor
