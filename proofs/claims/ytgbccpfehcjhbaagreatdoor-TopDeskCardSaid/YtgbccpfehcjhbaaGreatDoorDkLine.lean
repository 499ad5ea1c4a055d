/- The contracts of the desk's line: word, num, end (P77). Conditions: the library's variables are laid. -/
import Derived.Test.YtgbccpfehcjhbaaGreatDoorDkNum
import Derived.Deep.QuietTactic
import Derived.BigQuiet
import Derived.StillTailTactics
import Derived.IntWalk
namespace Go.Proofs.YtgbccpfehcjhbaaGreatDoor
open Go Go.RowKit
set_option linter.unusedVariables false
set_option linter.unusedSimpArgs false

def gsW (L : List ByteArray) (j : Nat) : ByteArray := L.getD j ⟨#[]⟩
theorem gs_get {L : List ByteArray} {j : Nat} (h : j < L.length) : gsW L j = L[j] := by simp [gsW, List.getD, h]
/-- a slice of strings that is read -/
def SS (w : World) (p : Option Addr) (n c : Nat) (L : List ByteArray) : Prop := L.length = n ∧ (n ≤ c ∧ c ≤ 9223372036854775807) ∧ Row w p n (fun j => .string (gsW L j))
theorem SS.below {w w' : World} {p : Option Addr} {n c : Nat} {L : List ByteArray} (h : SS w p n c L) (hb : Below w.heap.size w w') : SS w' p n c L := ⟨h.1, h.2.1, h.2.2.below hb⟩
theorem SS.len {w : World} {p : Option Addr} {n c : Nat} {L : List ByteArray} (h : SS w p n c L) : L.length = n := h.1
theorem SS.cells {w : World} {p : Option Addr} {n c : Nat} {L : List ByteArray} (h : SS w p n c L) (hn : 0 < n) :
    ∃ b off, p = some ⟨b, off, none⟩ ∧ b < w.heap.size ∧ ∀ j, j < n → w.cell? ⟨b, off + j, none⟩ = some (.string (gsW L j)) := h.2.2 hn
theorem SS.keep {w w' : World} {p : Option Addr} {n c : Nat} {L : List ByteArray} (h : SS w p n c L) (hs : w.heap.size ≤ w'.heap.size) (e : ∀ a, p = some a → w'.heap[a.block]? = w.heap[a.block]?) : SS w' p n c L := by
  refine ⟨h.1, h.2.1, fun hn => ?_⟩
  obtain ⟨b, off, rfl, hlt, hc⟩ := h.2.2 hn
  refine ⟨b, off, rfl, Nat.lt_of_lt_of_le hlt hs, fun j hj => ?_⟩
  rw [← hc j hj]
  unfold World.cell?
  simp only [e _ rfl]
/-- a line: its words, and which comes next -/
def LineS (w : World) (bl : Nat) (L : List ByteArray) (k : Nat) : Prop :=
  ∃ p n c, w.heap[bl]? = some (.cells #[.slice p n c, .int .i64 (k : Int)] 91 (0, 0)) ∧ SS w p n c L ∧ (∀ a, p = some a → a.block ≠ bl) ∧ k ≤ n ∧ n ≤ 1000000000
theorem LineS.below {w w' : World} {bl k : Nat} {L : List ByteArray} (h : LineS w bl L k) (hb : Below w.heap.size w w') : LineS w' bl L k := by
  obtain ⟨p, n, c, h1, h2, h3, h4, h5⟩ := h
  exact ⟨p, n, c, (hb.block bl (Array.getElem?_eq_some_iff.1 h1).1).trans h1, h2.below hb, h3, h4, h5⟩
theorem LineS.lt {w : World} {bl k : Nat} {L : List ByteArray} (h : LineS w bl L k) : bl < w.heap.size := by
  obtain ⟨p, n, c, h1, _⟩ := h
  exact (Array.getElem?_eq_some_iff.1 h1).1
theorem LineS.le {w : World} {bl k : Nat} {L : List ByteArray} (h : LineS w bl L k) : k ≤ L.length := by
  obtain ⟨p, n, c, h1, h2, h3, h4, h5⟩ := h
  rw [h2.len]; exact h4

theorem line_next {w v : World} {bl n c k : Nat} {p : Option Addr} {L : List ByteArray} (h1 : w.heap[bl]? = some (.cells #[.slice p n c, .int .i64 (k : Int)] 91 (0, 0))) (h2 : SS w p n c L) (h3 : ∀ a, p = some a → a.block ≠ bl) (h4 : k < n) (h5 : n ≤ 1000000000)
    (hv : v.heap = (w.setCell ⟨bl, 1, none⟩ (.int .i64 ((k : Int) + 1))).heap) : LineS v bl L (k + 1) := by
  refine ⟨p, n, c, ?_, h2.keep (by rw [hv]; simp) (fun a ha => ?_), h3, h4, h5⟩
  · rw [hv]
    have h9 := blk_set (j := 1) (v := .int .i64 ((k : Int) + 1)) h1
    simpa using h9
  · rw [hv]
    exact Below.heap_setCell w _ _ _ (h3 a ha)
set_option maxHeartbeats 800000 in
theorem dk_word {w : World} {bl k : Nat} {L : List ByteArray} (h : LineS w bl L k) (hk : k < L.length) :
    Calls Tryz.prog 98 #[.pointer (some ⟨bl, 0, none⟩)] w fun e w' => e = .returned (.string (gsW L k)) ∧ LineS w' bl L (k + 1) ∧ Chg (fun x => x = bl) w w' := by
  obtain ⟨p, n, c, h1, h2, h3, h4, h5⟩ := h
  rw [h2.len] at hk
  obtain ⟨b, off, rfl, hlt, hc⟩ := h2.cells (by omega)
  have c0 : w.cell? ⟨bl, 0, none⟩ = some (.slice (some ⟨b, off, none⟩) n c) := blk_cell h1 0
  have c1 : w.cell? ⟨bl, 1, none⟩ = some (.int .i64 (k : Int)) := blk_cell h1 1
  have f1 : w.frozen? ⟨bl, 1, none⟩ = false := blk_free h1 1
  have ck := hc k hk
  have hne : ¬ b = bl := h3 _ rfl
  have hcap := h2.2.1
  have q1 : ((k : Int) == (n : Int)) = false := by simp; omega
  have q2 : (k : Int) < (n : Int) := by omega
  have q3 : IntKind.i64.wrap ((k : Int) + 1 - 1) = (k : Int) := by rw [show (k : Int) + 1 - 1 = k by omega]; exact IntWalk.i64_in _ (by omega)
  have H1 := Lib.hid h1; have H2 := Lib.hid h2
  clear h1 h2 h3 hc
  go_enter Tryz.func98, Tryz.ntmps98
  go_wp2
  go_quiet (fail)
  go_wp2
  go_quiet (fail)
  go_wp2
  go_ret
  exact ⟨rfl, line_next H1.out H2.out (by rintro a ⟨⟩; exact hne) hk h5 rfl, ((((Chg.refl (fun x => x = bl) w).drewN _).set _ (.inr rfl)).drewN _)⟩
theorem dk_word_bad {w : World} {bl : Nat} {L : List ByteArray} (h : LineS w bl L L.length) :
    Calls Tryz.prog 98 #[.pointer (some ⟨bl, 0, none⟩)] w fun e w' => e = faultE 9 ∧ Below w.heap.size w w' := by
  obtain ⟨p, n, c, h1, h2, h3, h4, h5⟩ := h
  rw [h2.len] at h1
  have c0 : w.cell? ⟨bl, 0, none⟩ = some (.slice p n c) := blk_cell h1 0
  have c1 : w.cell? ⟨bl, 1, none⟩ = some (.int .i64 (n : Int)) := blk_cell h1 1
  clear h1 h2 h3 h4 h5
  go_enter Tryz.func98, Tryz.ntmps98
  go_wp2
  go_quiet (fail)
  go_wp2_with fail
  refine dk_bad.mono ?_; rintro e w3 ⟨rfl, b3⟩
  have b4 : Below w.heap.size w w3 := (below_drewN (Below.refl _ w) _).trans b3
  go_wp2
  exact ⟨rfl, rfl, b4⟩
set_option maxHeartbeats 800000 in
theorem dk_num {w : World} (LD : Laid w) {bl k : Nat} {L : List ByteArray} (h : LineS w bl L k) (hk : k < L.length) {v : Int} (hv : numW (gsW L k) = some v) (hb : 8 ≤ bl) :
    Calls Tryz.prog 62 #[.pointer (some ⟨bl, 0, none⟩)] w fun e w' => e = .returned (.int .i64 v) ∧ LineS w' bl L (k + 1) ∧ Chg (fun x => x = bl) w w' := by
  have HW := Lib.hid (dk_word h hk)
  have HV := Lib.hid hv; have HLD := Lib.hid LD
  clear hv LD h
  go_enter Tryz.func62, Tryz.ntmps62
  go_wp2_with fail
  refine HW.out.mono ?_; rintro e w1 ⟨rfl, hl1, b1⟩
  have L1 := Lib.hid (HLD.out.chg b1 (fun x hx => by omega))
  have HL1 := Lib.hid hl1
  clear hl1
  go_wp2_with fail
  refine (dk_number L1.out HV.out).mono ?_; rintro e w2 ⟨rfl, b2⟩
  go_wp2
  go_ret
  exact ⟨rfl, HL1.out.below b2, b1.then b2⟩
set_option maxHeartbeats 800000 in
theorem dk_num_bad {w : World} (LD : Laid w) {bl k : Nat} {L : List ByteArray} (h : LineS w bl L k) (hv : k < L.length → numW (gsW L k) = none ∧ (gsW L k).size ≤ 1000000000) (hb : 8 ≤ bl) :
    Calls Tryz.prog 62 #[.pointer (some ⟨bl, 0, none⟩)] w fun e w' => e = faultE 9 ∧ Chg (fun x => x = bl) w w' := by
  by_cases hk : k < L.length
  · obtain ⟨hv1, hv2⟩ := hv hk
    have HW := Lib.hid (dk_word h hk)
    have HV := Lib.hid hv1; have HLD := Lib.hid LD
    clear hv hv1 LD h
    go_enter Tryz.func62, Tryz.ntmps62
    go_wp2_with fail
    refine HW.out.mono ?_; rintro e w1 ⟨rfl, hl1, b1⟩
    have L1 := Lib.hid (HLD.out.chg b1 (fun x hx => by omega))
    clear hl1
    go_wp2_with fail
    refine (dk_number_bad L1.out hv2 HV.out).mono ?_; rintro e w2 ⟨rfl, b2⟩
    go_wp2
    exact ⟨rfl, rfl, b1.then b2⟩
  · have hke := h.le
    obtain rfl : L.length = k := by omega
    have HW := Lib.hid (dk_word_bad h)
    clear hv LD h
    go_enter Tryz.func62, Tryz.ntmps62
    go_wp2_with fail
    refine HW.out.mono ?_; rintro e w1 ⟨rfl, b1⟩
    go_wp2
    exact ⟨rfl, rfl, Chg.of b1⟩
theorem dk_end {w : World} {bl : Nat} {L : List ByteArray} (h : LineS w bl L L.length) :
    Calls Tryz.prog 40 #[.pointer (some ⟨bl, 0, none⟩)] w fun e w' => e = .returned (.tuple #[]) ∧ Below w.heap.size w w' := by
  obtain ⟨p, n, c, h1, h2, h3, h4, h5⟩ := h
  rw [h2.len] at h1
  have c0 : w.cell? ⟨bl, 0, none⟩ = some (.slice p n c) := blk_cell h1 0
  have c1 : w.cell? ⟨bl, 1, none⟩ = some (.int .i64 (n : Int)) := blk_cell h1 1
  clear h1 h2 h3 h4 h5
  go_enter Tryz.func40, Tryz.ntmps40
  go_wp2
  go_quiet (fail)
  go_wp2
  go_end0
  exact ⟨rfl, below_drewN (Below.refl _ w) _⟩
theorem dk_end_bad {w : World} {bl k : Nat} {L : List ByteArray} (h : LineS w bl L k) (hk : k < L.length) :
    Calls Tryz.prog 40 #[.pointer (some ⟨bl, 0, none⟩)] w fun e w' => e = faultE 9 ∧ Below w.heap.size w w' := by
  obtain ⟨p, n, c, h1, h2, h3, h4, h5⟩ := h
  rw [h2.len] at hk
  have c0 : w.cell? ⟨bl, 0, none⟩ = some (.slice p n c) := blk_cell h1 0
  have c1 : w.cell? ⟨bl, 1, none⟩ = some (.int .i64 (k : Int)) := blk_cell h1 1
  have q1 : ((k : Int) == (n : Int)) = false := by simp; omega
  clear h1 h2 h3 h4 h5
  go_enter Tryz.func40, Tryz.ntmps40
  go_wp2
  go_quiet (fail)
  go_wp2_with fail
  refine dk_bad.mono ?_; rintro e w3 ⟨rfl, b3⟩
  have b4 : Below w.heap.size w w3 := (below_drewN (Below.refl _ w) _).trans b3
  go_wp2
  exact ⟨rfl, rfl, b4⟩
end Go.Proofs.YtgbccpfehcjhbaaGreatDoor
