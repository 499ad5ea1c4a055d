/- The contracts of piece.Put, piece.Next, piece.Got and of slices.Clone at []bool (P53, P54). No conditions beyond what each theorem says. -/
import Derived.Test.YtggpcceljipelaaPiece
import Derived.Test.YtggpcceljipelaaRow
import Derived.Lib.SliceRun
namespace Go.Proofs.Ytggpcceljipelaa
open Go Go.RowKit
set_option linter.unusedVariables false
set_option linter.unusedSimpArgs false

def encB (b : Bool) : List Value := [.bool b]
theorem encB_len (x : Bool) : (encB x).length = 1 := rfl
theorem encB_one (x : Bool) : ∀ u ∈ encB x, u.oneCell' = true := by intro u hu; simp [encB] at hu; subst hu; rfl
theorem fm_encB (L : List Bool) : L.flatMap encB = L.map Value.bool := by
  induction L with
  | nil => rfl
  | cons x r ih => rw [List.flatMap_cons, List.map_cons, ih]; rfl
theorem OwnR.ob {w : World} {B n c : Nat} {p : Option Addr} {L : List Bool} (h : OwnR 4 encB 1 w B p n c L) (hn : n ≤ 1000000) : OwnB w B p n c L := ⟨by rw [← fm_encB]; exact h.1, by omega⟩
theorem SB.sr {w : World} {p : Option Addr} {n c : Nat} {L : List Bool} (h : SB w p n c L) : SR encB 1 w p n c L := by
  refine ⟨h.1, h.2.1, fun hn => ?_⟩
  obtain ⟨b, off, rfl, hlt, hc⟩ := h.cells hn
  refine ⟨b, off, rfl, hlt, fun j hj i hi => ?_⟩
  obtain rfl : i = 0 := by omega
  rw [Nat.mul_one, Nat.add_zero, hc j hj]
  rfl

theorem blk_of {w w' : World} {g : Nat} {o : Obj} (h : w'.heap[g]? = w.heap[g]?) (k : w.heap[g]? = some o) : w'.heap[g]? = some o := h.trans k
set_option maxHeartbeats 400000 in
set_option maxRecDepth 100000 in
theorem slices_CloneB {w : World} {p : Option Addr} {n c : Nat} {xs : List Bool} (h : SB w p n c xs) (hn0 : 0 < n) (hn : n < 1000000) :
    Calls Try.prog 61 #[.slice p n c] w fun e w' => ∃ q d, e = .returned (.slice q n d) ∧ OwnB w' w.heap.size q n d xs ∧ Below w.heap.size w w' := by
  have hm := h.2.1
  obtain ⟨b, off, rfl, hlt, _⟩ := h.cells hn0
  have qT : ∀ (w : World) (a : Option Addr) (n c n' c' : Nat), (binOp .eql 42 (.slice a n c) (.slice none n' c')).run Try.prog w = .ok (.bool a.isNone) w := fun w a n c n' c' => Lib.run_eql_slice_nil w _ _ a n c n' c' Try.underlying42
  have ho : OwnR 4 encB 1 (w.alloc (.cells #[] 4)) w.heap.size (some ⟨w.heap.size, 0, none⟩) 0 0 [] := ⟨World.ownsRow_lit w #[] 0 (Nat.le_refl _) (by unfold maxLen; omega) rfl, rfl⟩
  have hb := (Below.refl w.heap.size w).alloc (Nat.le_refl _) (.cells #[] 4)
  have h1 := (h.below hb).sr
  go_enter Try.func61, Try.ntmps61
  go_wp2_with (at_builtin; refine wpL_append_R Try.tyBoolsPc rfl (by omega) (by omega) encB_len encB_one rfl rfl (B := w.heap.size) (W0 := w) (by first | rfl | simp [Act.eval]) (by first | rfl | simp [Act.eval]) ho h1 hb (by omega) (by simp) ?_; intro p' c' w3 ho1 hb3 hg1)
  go_ret
  rw [Nat.zero_add] at *
  exact ⟨_, _, rfl, OwnR.ob (by simpa using ho1) (by omega), hb3⟩

set_option maxHeartbeats 1000000 in
theorem piece_Next_bad {w : World} {s u er : Int} {p : Option Addr} {n c : Nat} (hn : n ≤ c ∧ c ≤ 9223372036854775807) (he : sErr s u n = er) (h0 : er ≠ 0) :
    Calls Try.prog 59 #[aggG s u p n c] w fun e w' => e = .returned (.tuple #[.int .i64 0, .int .i64 er]) ∧ Below w.heap.size w w' := by
  have hz : (er == 0) = false := by simp [h0]
  have hbel := (Below.refl w.heap.size w).alloc (Nat.le_refl _) (boxG s u p n c)
  go_enter Try.func59, Try.ntmps59
  go_wp2_with fail
  generalize w.alloc (boxG s u p n c) = W at *
  refine (piece_Check hn he).mono ?_; rintro e w1 ⟨rfl, b1⟩
  have T1 := hbel.trans (b1.mono hbel.size)
  go_wp2
  go_ret2
  exact ⟨rfl, T1⟩
set_option maxHeartbeats 1000000 in
theorem piece_Got_bad {w : World} {s u er : Int} {p : Option Addr} {n c : Nat} (hn : n ≤ c ∧ c ≤ 9223372036854775807) (he : sErr s u n = er) (h0 : er ≠ 0) :
    Calls Try.prog 60 #[aggG s u p n c] w fun e w' => e = .returned (.tuple #[.int .i64 0, .int .i64 er]) ∧ Below w.heap.size w w' := by
  have hz : (er == 0) = false := by simp [h0]
  have hbel := (Below.refl w.heap.size w).alloc (Nat.le_refl _) (boxG s u p n c)
  go_enter Try.func60, Try.ntmps60
  go_wp2_with fail
  generalize w.alloc (boxG s u p n c) = W at *
  refine (piece_Check hn he).mono ?_; rintro e w1 ⟨rfl, b1⟩
  have T1 := hbel.trans (b1.mono hbel.size)
  go_wp2
  go_ret2
  exact ⟨rfl, T1⟩
set_option maxHeartbeats 1000000 in
theorem piece_Next_ok {w : World} {s u : Int} {p : Option Addr} {n c i : Nat} {xs : List Bool} (h : SB w p n c xs) (he : sErr s u n = 0) (hi : FirstNo (gb xs) n i) :
    Calls Try.prog 59 #[aggG s u p n c] w fun e w' => e = .returned (.tuple #[.int .i64 (if i < n then i else 0), .int .i64 (if i < n then 0 else 5)]) ∧ Below w.heap.size w w' := by
  have hn := h.2.1
  have HE := Lib.hid he; have HI := Lib.hid hi; clear he hi
  have hbel := (Below.refl w.heap.size w).alloc (Nat.le_refl _) (boxG s u p n c)
  have hblk := Lib.hid (blk_new w #[.int .i64 s, .int .i64 u, .slice p n c] 44)
  have h1 := h.below hbel
  go_enter Try.func59, Try.ntmps59
  go_wp2_with fail
  generalize w.alloc (boxG s u p n c) = W at *
  refine (piece_Check hn HE.out).mono ?_; rintro e w1 ⟨rfl, b1⟩
  have T1 := hbel.trans (b1.mono hbel.size)
  have h2 := h1.below b1
  obtain ⟨⟨k0, k1, k2⟩, _⟩ := boxG_cells (blk_below hblk.out b1)
  clear b1 h1 hbel hblk h
  go_wp2
  go_loopw [15] (fun v wr => ∃ k : Nat, k ≤ n ∧ v = .int .i64 k ∧ k ≤ i ∧ wr = w1) (fun v _ => n - (intOf v).toNat)
  case atStart => exact ⟨0, by omega, rfl, by omega, rfl⟩
  case round =>
    obtain ⟨k, hk, rfl, hki, rfl⟩ := hrel
    by_cases hkn : k < n
    · obtain ⟨b, off, rfl, hlt, hc⟩ := h2.cells (by omega)
      have c1 := hc k hkn
      clear hc h2
      by_cases hki2 : k = i
      · subst hki2
        have hv : gb xs k = false := HI.out.2.2 hkn
        rw [hv] at c1
        go_wp2
        go_ret2
        exact ⟨by first | rfl | simp [hkn], T1⟩
      · have hv : gb xs k = true := HI.out.2.1 k (by omega)
        rw [hv] at c1
        go_wp2
        go_roundw
        case rel => exact ⟨k + 1, by omega, by go_num, by omega, by trivial⟩
        case measure => simp [intOf]; omega
    · obtain rfl : n = k := by omega
      have hin : ¬ i < n := by omega
      go_wp2
      go_ret2
      exact ⟨by first | rfl | simp [hin], T1⟩
/-- what is there of the first k pieces -/
def gotV (s u : Int) (xs : List Bool) (j : Nat) : Int := if gb xs j = true then pcV s u j else 0
set_option maxHeartbeats 1600000 in
theorem piece_Got_ok {w : World} {s u : Int} {p : Option Addr} {n c : Nat} {xs : List Bool} (h : SB w p n c xs) (he : sErr s u n = 0) :
    Calls Try.prog 60 #[aggG s u p n c] w fun e w' => e = .returned (.tuple #[.int .i64 (sumT (gotV s u xs) n), .int .i64 0]) ∧ Below w.heap.size w w' := by
  have hn := h.2.1
  obtain ⟨hw, hnm⟩ := sErr_ok he
  obtain ⟨ho, h200⟩ := wErr_zero hw
  have hn200 : n ≤ 200 := by omega
  have HBD : Hid (∀ j, j < n → 0 ≤ gotV s u xs j ∧ gotV s u xs j ≤ 1000000) := Lib.hid (fun j hj => by
    have h1 := pc_lt ho (i := j) (by have := mN_cast ho; omega)
    have h2 := iu_bd ho (i := j) (by omega)
    obtain ⟨a, b, c, d⟩ := ho
    unfold gotV pcV
    split <;> omega)
  have HO := Lib.hid ho
  have HE := Lib.hid he; clear he hw hnm ho h200
  have hbel := (Below.refl w.heap.size w).alloc (Nat.le_refl _) (boxG s u p n c)
  have hblk := Lib.hid (blk_new w #[.int .i64 s, .int .i64 u, .slice p n c] 44)
  have h1 := h.below hbel
  go_enter Try.func60, Try.ntmps60
  go_wp2_with fail
  generalize w.alloc (boxG s u p n c) = W at *
  refine (piece_Check hn HE.out).mono ?_; rintro e w1 ⟨rfl, b1⟩
  have T1 := hbel.trans (b1.mono hbel.size)
  have h2 := h1.below b1
  obtain ⟨⟨k0, k1, k2⟩, _⟩ := boxG_cells (blk_below hblk.out b1)
  clear b1 h1 hbel hblk h
  go_wp2
  go_loopw [5, 16] (fun sv v wr => ∃ k : Nat, k ≤ n ∧ v = .int .i64 k ∧ sv = .int .i64 (sumT (gotV s u xs) k) ∧ wr = w1) (fun _ v _ => n - (intOf v).toNat)
  case atStart => exact ⟨0, by omega, rfl, rfl, rfl⟩
  case round =>
    obtain ⟨k, hk, rfl, rfl, rfl⟩ := hrel
    by_cases hkn : k < n
    · obtain ⟨b, off, rfl, hlt, hc⟩ := h2.cells (by omega)
      have c1 := hc k hkn
      have hsb := sumT_bd HBD.out k (by omega)
      have hb1 := HBD.out k hkn
      have HS := Lib.hid (sumT_succ (gotV s u xs) k)
      clear hc h2
      cases hv : gb xs k with
      | false =>
        rw [hv] at c1
        have HG := Lib.hid (show gotV s u xs k = 0 by unfold gotV; rw [if_neg (by simp [hv])])
        clear hv
        go_wp2
        go_roundw
        case rel => exact ⟨k + 1, by omega, by go_num, by rw [HS.out, HG.out, Int.add_zero], by trivial⟩
        case measure => simp [intOf]; omega
      | true =>
        rw [hv] at c1
        have HG : Hid (gotV s u xs k = pcV s u k) := Lib.hid (by unfold gotV; rw [if_pos hv])
        rw [HG.out] at hb1
        clear hv
        generalize sumT (gotV s u xs) k = sm at *
        go_wp2_with fail
        refine (piece_one HO.out (i := k) (by omega)).mono ?_; rintro e w' ⟨rfl, rfl⟩
        generalize pcV s u k = pv at *
        go_wp2
        go_roundw
        case rel => exact ⟨k + 1, by omega, by go_num, by rw [HS.out, HG.out], by trivial⟩
        case measure => simp [intOf]; omega
    · obtain rfl : n = k := by omega
      go_wp2
      go_ret2
      exact ⟨rfl, T1⟩
set_option maxHeartbeats 1000000 in
theorem piece_Put_bad {w : World} {s u er i : Int} {p : Option Addr} {n c : Nat} (hn : n ≤ c ∧ c ≤ 9223372036854775807) (he : sErr s u n = er) (h0 : er ≠ 0) :
    Calls Try.prog 58 #[aggG s u p n c, .int .i64 i] w fun e w' => e = .returned (.tuple #[aggG 0 0 none 0 0, .int .i64 er]) ∧ Below w.heap.size w w' := by
  have hz : (er == 0) = false := by simp [h0]
  have hbel := ((Below.refl w.heap.size w).alloc (Nat.le_refl _) (boxG s u p n c)).alloc (by simp) (boxG 0 0 none 0 0)
  have hblk := Lib.hid (blk_alloc (o' := boxG 0 0 none 0 0) (blk_new w #[.int .i64 s, .int .i64 u, .slice p n c] 44))
  have hblk2 := blk_new (w.alloc (boxG s u p n c)) #[.int .i64 0, .int .i64 0, .slice none 0 0] 44
  rw [show (w.alloc (boxG s u p n c)).heap.size = w.heap.size + 1 by simp] at hblk2
  have HB2 := Lib.hid hblk2
  clear hblk2
  go_enter Try.func58, Try.ntmps58
  go_wp2_with fail
  generalize (w.alloc (boxG s u p n c)).alloc (boxG 0 0 none 0 0) = W at *
  refine (piece_Check hn he).mono ?_; rintro e w1 ⟨rfl, b1⟩
  have T1 := hbel.trans (b1.mono hbel.size)
  obtain ⟨⟨k0, k1, k2⟩, f0, f1, f2⟩ := boxG_cells (blk_below HB2.out b1)
  clear b1 hbel
  go_wp2
  refine bodyPost_ret (v := .tuple #[aggG 0 0 none 0 0, .int .i64 er]) (by simp [results, Try.results58, go_sem, k0, k1, k2]) rfl ?_
  exact ⟨rfl, ((T1.setCell (by simp) _).setCell (by simp) _).setCell (by simp) _⟩
set_option maxHeartbeats 1000000 in
theorem piece_Put_arg {w : World} {s u i : Int} {p : Option Addr} {n c : Nat} (hn : n ≤ c ∧ c ≤ 9223372036854775807) (he : sErr s u n = 0) (hi : i < 0 ∨ (n : Int) ≤ i) :
    Calls Try.prog 58 #[aggG s u p n c, .int .i64 i] w fun e w' => e = .returned (.tuple #[aggG 0 0 none 0 0, .int .i64 1]) ∧ Below w.heap.size w w' := by
  have hbel := ((Below.refl w.heap.size w).alloc (Nat.le_refl _) (boxG s u p n c)).alloc (by simp) (boxG 0 0 none 0 0)
  have hblk := Lib.hid (blk_alloc (o' := boxG 0 0 none 0 0) (blk_new w #[.int .i64 s, .int .i64 u, .slice p n c] 44))
  have hblk2 := blk_new (w.alloc (boxG s u p n c)) #[.int .i64 0, .int .i64 0, .slice none 0 0] 44
  rw [show (w.alloc (boxG s u p n c)).heap.size = w.heap.size + 1 by simp] at hblk2
  have HB2 := Lib.hid hblk2
  clear hblk2
  rcases (show i < 0 ∨ (0 ≤ i ∧ (n : Int) ≤ i) by omega) with h1 | ⟨h1, h2⟩
  all_goals
    clear hi
    go_enter Try.func58, Try.ntmps58
    go_wp2_with fail
    generalize (w.alloc (boxG s u p n c)).alloc (boxG 0 0 none 0 0) = W at *
    refine (piece_Check hn he).mono ?_; rintro e w1 ⟨rfl, b1⟩
    have T1 := hbel.trans (b1.mono hbel.size)
    obtain ⟨⟨j0, j1, j2⟩, _⟩ := boxG_cells (blk_below hblk.out b1)
    obtain ⟨⟨k0, k1, k2⟩, f0, f1, f2⟩ := boxG_cells (blk_below HB2.out b1)
    clear b1 hbel
    go_wp2
    refine bodyPost_ret (v := .tuple #[aggG 0 0 none 0 0, .int .i64 1]) (by simp [results, Try.results58, go_sem, k0, k1, k2]) rfl ?_
    exact ⟨rfl, ((T1.setCell (by simp) _).setCell (by simp) _).setCell (by simp) _⟩
set_option maxRecDepth 100000 in
set_option maxHeartbeats 1600000 in
theorem piece_Put_ok {w : World} {s u : Int} {p : Option Addr} {n c i : Nat} {xs : List Bool} (h : SB w p n c xs) (he : sErr s u n = 0) (hi : i < n) (hn200 : n ≤ 200) :
    Calls Try.prog 58 #[aggG s u p n c, .int .i64 i] w fun e w' => ∃ q d, e = .returned (.tuple #[aggG s u q n d, .int .i64 0]) ∧ SB w' q n d (xs.set i true) ∧ Below w.heap.size w w' := by
  have hn := h.2.1
  have hbel := ((Below.refl w.heap.size w).alloc (Nat.le_refl _) (boxG s u p n c)).alloc (by simp) (boxG 0 0 none 0 0)
  have hblk := Lib.hid (blk_alloc (o' := boxG 0 0 none 0 0) (blk_new w #[.int .i64 s, .int .i64 u, .slice p n c] 44))
  have hblk2 := blk_new (w.alloc (boxG s u p n c)) #[.int .i64 0, .int .i64 0, .slice none 0 0] 44
  rw [show (w.alloc (boxG s u p n c)).heap.size = w.heap.size + 1 by simp] at hblk2
  have HB2 := Lib.hid hblk2
  have hsz : ((w.alloc (boxG s u p n c)).alloc (boxG 0 0 none 0 0)).heap.size = w.heap.size + 2 := by simp
  have h1 := h.below hbel
  clear hblk2 h
  go_enter Try.func58, Try.ntmps58
  go_wp2_with fail
  generalize (w.alloc (boxG s u p n c)).alloc (boxG 0 0 none 0 0) = W at *
  refine (piece_Check hn he).mono ?_; rintro e w1 ⟨rfl, b1⟩
  have T1 := hbel.trans (b1.mono hbel.size)
  have h2 := (h1.below b1).sr
  have HA := Lib.hid (blk_below hblk.out b1)
  have HC := Lib.hid (blk_below HB2.out b1)
  obtain ⟨⟨j0, j1, j2⟩, g0, g1, g2⟩ := boxG_cells HA.out
  have hs1 : w.heap.size + 2 ≤ w1.heap.size := by have := b1.size; omega
  clear b1 hbel hblk HB2 h1
  go_wp2_with (at_builtin; refine wpL_append_R Try.tyBoolsPc rfl (by omega) (by omega) encB_len encB_one rfl rfl (B := w.heap.size + 2) (W0 := w1) (by first | rfl | simp [Act.eval]) (by first | rfl | simp [Act.eval]) (OwnR.nil _ _) h2 (Below.refl _ _) (by omega) (by omega) ?_; intro q' c' w2 ho2 hb2 hg2; rw [Nat.zero_add] at ho2; rw [Nat.zero_add]; (obtain ⟨g, rfl⟩ := ho2.addr (by omega)); (have hob := OwnR.ob (by simpa using ho2) (by omega)); (have ha := blk_of (hb2.block w.heap.size (by omega)) HA.out); (have hcc := blk_of (hb2.block (w.heap.size + 1) (by omega)) HC.out); (obtain ⟨⟨j0, j1, j2⟩, g0, g1, g2⟩ := boxG_cells ha); (obtain ⟨⟨k0, k1, k2⟩, f0, f1, f2⟩ := boxG_cells hcc); (have hgb := hob.blk); (have hat := hob.at (j := i) hi); (have hfr := hob.free i); (have hne1 : ¬ g = w.heap.size := by omega); (have hne2 : ¬ w.heap.size = g := by omega); (have hne3 : ¬ g = w.heap.size + 1 := by omega); (have hne4 : ¬ w.heap.size + 1 = g := by omega))
  have T2 := T1.trans (hb2.mono (by omega))
  refine bodyPost_ret (v := .tuple #[aggG s u (some ⟨g, 0, none⟩) n c', .int .i64 0]) (by simp [results, Try.results58, go_sem, k0, k1, k2, hne1, hne2, hne3, hne4]) rfl ?_
  refine ⟨_, _, rfl, ?_, ?_⟩
  · exact ((((hob.apart (g' := w.heap.size) (by omega)).set i true).apart (g' := w.heap.size + 1) (by omega)).apart (g' := w.heap.size + 1) (by omega)).apart (g' := w.heap.size + 1) (by omega) |>.sb
  · exact ((((T2.setCell (Nat.le_refl _) _).setCell (by simp; omega) _).setCell (by simp) _).setCell (by simp) _).setCell (by simp) _
end Go.Proofs.Ytggpcceljipelaa
