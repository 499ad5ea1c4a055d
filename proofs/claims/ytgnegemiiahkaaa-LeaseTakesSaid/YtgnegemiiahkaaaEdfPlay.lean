/- The contracts of edf.next, edf.play, edf.Run and edf.Late (P44, P45). Conditions: that the jobs are right ones. -/
import Derived.Test.YtgnegemiiahkaaaEdf
import Derived.Test.YtgnegemiiahkaaaEdfPlayLaw
import Derived.Deep.QuietTactic
import Derived.BigQuiet
import Derived.IntWalk
import Derived.RegionTactic
import Derived.BigRegion
import Derived.Deep.RegionLaw
namespace Go.Proofs.Ytgnegemiiahkaaa
open Go Go.RowKit
set_option linter.unusedVariables false
set_option linter.unusedSimpArgs false

theorem Try.tyIntsEp : SliceTy Try.prog 35 3 (.int .i64 0) 1 8 := ⟨Try.underlying35, by kernel_rfl⟩
set_option maxHeartbeats 3200000 in
theorem edf_next {w : World} {p q : Option Addr} {n c d t : Nat} {xs : List (Int × Int × Int)} {L : Nat → Int} (h : S3 w p n c xs) (g : SI w q n d (tab n L)) (hn : n ≤ 12) (hA : ∀ j, j < n → 0 ≤ t0 xs j ∧ t0 xs j ≤ 200 ∧ 0 ≤ t2 xs j ∧ t2 xs j ≤ 200) (hL : ∀ j, j < n → 0 ≤ L j ∧ L j ≤ 200) (ht : t ≤ 200) :
    Calls Try.prog 91 #[.slice p n c, .slice q n d, .int .i64 t] w fun e w' => e = .returned (.int .i64 (bst (t0 xs) (t2 xs) L t n)) ∧ Below w.heap.size w w' := by
  have hm := h.2.1
  have gm := g.2.1
  have HA := Lib.hid hA; have HLb := Lib.hid hL; clear hA hL
  go_enter Try.func91, Try.ntmps91
  go_wp2
  go_loopw [7, 12] (fun bv v wr => ∃ k : Nat, k ≤ n ∧ v = .int .i64 k ∧ bv = .int .i64 (bst (t0 xs) (t2 xs) L t k) ∧ Below w.heap.size w wr) (fun _ v _ => n - (intOf v).toNat)
  case atStart => exact ⟨0, by omega, rfl, rfl, Below.refl _ _⟩
  case round =>
    obtain ⟨k, hk, rfl, rfl, hb⟩ := hrel
    have hsz := hb.size
    by_cases hkn : k < n
    · obtain ⟨b, off, rfl, hlt, hc⟩ := h.cells (by omega)
      obtain ⟨b', off', rfl, hlt', hc'⟩ := g.cells (by omega)
      have c0 : wr.cell? ⟨b, off + k * 3, none⟩ = some (.int .i64 (t0 xs k)) := (bdeep hb hlt _).trans (hc k hkn).1
      have c1 : wr.cell? ⟨b, off + k * 3 + 1, none⟩ = some (.int .i64 (t1 xs k)) := (bdeep hb hlt _).trans (hc k hkn).2.1
      have c2 : wr.cell? ⟨b, off + k * 3 + 2, none⟩ = some (.int .i64 (t2 xs k)) := (bdeep hb hlt _).trans (hc k hkn).2.2
      have c3 : wr.cell? ⟨b', off' + k, none⟩ = some (.int .i64 (L k)) := by rw [bdeep hb hlt' _, hc' k hkn, gi_tab hkn]
      have hAk := HA.out k hkn
      have hLk := HLb.out k hkn
      have hlr : b < wr.heap.size := by omega
      have hlr' : b' < wr.heap.size := by omega
      have HBS := Lib.hid (bst_spec (t0 xs) (t2 xs) L t k)
      have HB := Lib.hid (hb.alloc hsz (.cells #[.int .i64 (t0 xs k), .int .i64 (t1 xs k), .int .i64 (t2 xs k)] 75))
      have HST : Hid (bst (t0 xs) (t2 xs) L t (k + 1) = if cand (t0 xs) L t k ∧ (bst (t0 xs) (t2 xs) L t k < 0 ∨ t2 xs k < t2 xs (bst (t0 xs) (t2 xs) L t k).toNat) then (k : Int) else bst (t0 xs) (t2 xs) L t k) := Lib.hid rfl
      have HDC := Lib.hid (fun (i : Nat) (hi : i < n) => (bdeep hb hlt (off + i * 3 + 2)).trans (hc i hi).2.2)
      clear hb
      by_cases h1 : t0 xs k ≤ (t : Int)
      · have q1 : decide (t0 xs k ≤ (t : Int)) = true := by simp; omega
        by_cases h2 : 0 < L k
        · have q2 : decide (0 < L k) = true := by simp; omega
          have hcd : cand (t0 xs) L t k := ⟨h1, h2⟩
          rcases HBS.out with ⟨e1, _⟩ | ⟨i, hi, e1, _, _⟩
          · have HN : Hid (bst (t0 xs) (t2 xs) L t (k + 1) = (k : Int)) := Lib.hid (by rw [HST.out, if_pos ⟨hcd, .inl (by omega)⟩])
            rw [e1]
            clear hcd e1
            clear HST HBS hc hc' h g HDC
            go_wp2
            go_quiet (fail)
            go_wp2
            go_roundw
            case rel => exact ⟨k + 1, by omega, by go_num, by rw [HN.out], below_drewN HB.out _⟩
            case measure => simp [intOf]; omega
          · have c4 : wr.cell? ⟨b, off + i * 3 + 2, none⟩ = some (.int .i64 (t2 xs i)) := HDC.out i (by omega)
            have q4 : ¬ ((i : Int) < 0) := by omega
            have q5 : (i : Int) < (n : Int) := by omega
            have q6 : i < n := by omega
            have q7 : decide ((i : Int) < 0) = false := by simp
            by_cases h3 : t2 xs k < t2 xs i
            · have q3 : decide (t2 xs k < t2 xs i) = true := by simp; omega
              have HN : Hid (bst (t0 xs) (t2 xs) L t (k + 1) = (k : Int)) := Lib.hid (by rw [HST.out, if_pos ⟨hcd, .inr (by rw [e1]; simpa using h3)⟩])
              rw [e1]
              clear hcd e1
              clear HST HBS hc hc' h g HDC
              go_wp2
              go_quiet (fail)
              go_wp2
              go_roundw
              case rel => exact ⟨k + 1, by omega, by go_num, by rw [HN.out], below_drewN HB.out _⟩
              case measure => simp [intOf]; omega
            · have q3 : decide (t2 xs k < t2 xs i) = false := by simp; omega
              have HN : Hid (bst (t0 xs) (t2 xs) L t (k + 1) = (i : Int)) := Lib.hid (by rw [HST.out, if_neg (fun h => by rcases h.2 with h | h; omega; rw [e1] at h; exact h3 (by simpa using h)), e1])
              rw [e1]
              clear hcd e1
              clear HST HBS hc hc' h g HDC
              go_wp2
              go_quiet (fail)
              go_wp2
              go_roundw
              case rel => exact ⟨k + 1, by omega, by go_num, by rw [HN.out], below_drewN HB.out _⟩
              case measure => simp [intOf]; omega
        · have q2 : decide (0 < L k) = false := by simp; omega
          have HN : Hid (bst (t0 xs) (t2 xs) L t (k + 1) = bst (t0 xs) (t2 xs) L t k) := Lib.hid (by rw [HST.out, if_neg (fun h => h2 h.1.2)])
          generalize bst (t0 xs) (t2 xs) L t k = bs at *
          clear HST HBS hc hc' h g HDC
          go_wp2
          go_quiet (fail)
          go_wp2
          go_roundw
          case rel => exact ⟨k + 1, by omega, by go_num, by rw [HN.out], below_drewN HB.out _⟩
          case measure => simp [intOf]; omega
      · have q1 : decide (t0 xs k ≤ (t : Int)) = false := by simp; omega
        have HN : Hid (bst (t0 xs) (t2 xs) L t (k + 1) = bst (t0 xs) (t2 xs) L t k) := Lib.hid (by rw [HST.out, if_neg (fun h => h1 h.1.1)])
        generalize bst (t0 xs) (t2 xs) L t k = bs at *
        clear HST HBS hc hc' h g HDC
        go_wp2
        go_quiet (fail)
        go_wp2
        go_roundw
        case rel => exact ⟨k + 1, by omega, by go_num, by rw [HN.out], below_drewN HB.out _⟩
        case measure => simp [intOf]; omega
    · obtain rfl : n = k := by omega
      go_wp2
      go_ret
      exact ⟨rfl, hb⟩
theorem tab_take {α : Type} {n m : Nat} {z : Nat → α} (h : m ≤ n) : (tab n z).take m = tab m z := by
  apply List.ext_getElem
  · simp [tab]; omega
  · intro j h1 h2; simp [tab]
theorem laterP {G H : World → Option Addr → Option Addr → Prop} {R : Prop} (f : (∀ v a b, H v a b → G v a b) → R) (p : ∀ v a b, H v a b → G v a b) : R := f p
theorem OwnI.far {w : World} {B g g' j n c : Nat} {L : List Int} {v : Value} (h : OwnI w B (some ⟨g, 0, none⟩) n c L) (hne : g ≠ g') : OwnI (w.setCell ⟨g', j, none⟩ v) B (some ⟨g, 0, none⟩) n c L := by
  refine ⟨⟨h.1.1, ?_⟩, h.2⟩
  rcases h.1.2 with h2 | ⟨g2, cap, cur, hv, hg, hh, r⟩
  · exact .inl h2
  · refine .inr ⟨g2, cap, cur, hv, hg, ?_, r⟩
    simp only [Value.slice.injEq, Option.some.injEq, Addr.mk.injEq, and_true, true_and] at hv
    obtain ⟨rfl, _⟩ := hv
    exact blk_other hh hne
theorem OwnI.farS {w : World} {B g' j n c : Nat} {p : Option Addr} {L : List Int} {v : Value} (h : OwnI w B p n c L) (hne : Sep p (some ⟨g', 0, none⟩)) : OwnI (w.setCell ⟨g', j, none⟩ v) B p n c L := by
  refine ⟨⟨h.1.1, ?_⟩, h.2⟩
  rcases h.1.2 with h2 | ⟨g2, cap, cur, hv, hg, hh, r⟩
  · exact .inl h2
  · refine .inr ⟨g2, cap, cur, hv, hg, ?_, r⟩
    simp only [Value.slice.injEq, true_and] at hv
    exact blk_other hh (hne ⟨g2, 0, none⟩ ⟨g', 0, none⟩ hv.1 rfl)
theorem made_int {P : Program} {t : TypeId} (hT : SliceTy P t 3 (.int .i64 0) 1 8) (n : Nat) (hn : n ≤ 1000000) : ∃ mw : World → World, (∀ W, (Instr.makeSlice t (.int .i64 (n : Int)) (.int .i64 (n : Int))).run P W = .ok (.slice (some ⟨W.heap.size, 0, none⟩) n n) (mw W)) ∧
    ∀ W, OwnI (mw W) W.heap.size (some ⟨W.heap.size, 0, none⟩) n n (tab n fun _ => 0) ∧ Below W.heap.size W (mw W) := by
  have h : ∀ W : World, ∃ w', (Instr.makeSlice t (.int .i64 (n : Int)) (.int .i64 (n : Int))).run P W = .ok (.slice (some ⟨W.heap.size, 0, none⟩) n n) w' ∧ OwnI w' W.heap.size (some ⟨W.heap.size, 0, none⟩) n n (tab n fun _ => 0) ∧ Below W.heap.size W w' := by
    intro W
    obtain ⟨i, hi, hz0, hz1, hz2⟩ := info_parts hT.info
    obtain ⟨w', hrun, h1, h2⟩ := run_make_full (P := P) W W.heap.size t 3 i (.int .i64 0) 1 hT.under hi hz0 hz1 .i64 .i64 n (by rw [hz2]; omega) (by unfold maxLen; omega) (Nat.le_refl _)
    have e : (madeCells (Value.int .i64 0).cells (n * 1)).toList = (tab n fun _ => (0 : Int)).map (Value.int .i64) := by
      rw [tab_const, Nat.mul_one]; simpa [Value.cells] using toList_madeCells_one (.int .i64 0) n
    rw [e] at h1
    exact ⟨w', hrun, ⟨h1, by omega⟩, (Below.refl _ _).grown h2 (Nat.le_refl _) fun k hk => by cases hk⟩
  exact ⟨fun W => Classical.choose (h W), fun W => (Classical.choose_spec (h W)).1, fun W => (Classical.choose_spec (h W)).2⟩
/-- two new lists of noughts, in two blocks -/
def TwoNew (w : World) (n : Nat) (v : World) (a b : Option Addr) : Prop :=
  OwnI v w.heap.size a n n (tab n fun _ => 0) ∧ OwnI v w.heap.size b n n (tab n fun _ => 0) ∧ Sep a b ∧ Below w.heap.size w v
theorem TwoNew.swap {w v : World} {n : Nat} {a b : Option Addr} (h : TwoNew w n v a b) : TwoNew w n v b a := ⟨h.2.1, h.1, h.2.2.1.symm, h.2.2.2⟩
theorem TwoNew.mk2 {w : World} {n : Nat} {mw : World → World} (h : ∀ W, OwnI (mw W) W.heap.size (some ⟨W.heap.size, 0, none⟩) n n (tab n fun _ => 0) ∧ Below W.heap.size W (mw W)) : TwoNew w n (mw (mw w.drew)) (some ⟨w.heap.size, 0, none⟩) (some ⟨(mw w.drew).heap.size, 0, none⟩) := by
  have h1 := h w.drew
  have h2 := h (mw w.drew)
  have hs : w.heap.size ≤ (mw w.drew).heap.size := h1.2.size
  have hl : w.heap.size < (mw w.drew).heap.size := h1.1.blk.2
  refine ⟨(show OwnI (mw w.drew) w.heap.size (some ⟨w.heap.size, 0, none⟩) n n _ from h1.1).below h2.2, OwnI.base h2.1 hs, fun a b ha hb => ?_, ((Below.drew (Below.refl _ w)).trans (show Below w.heap.size w.drew (mw w.drew) from h1.2)).trans (h2.2.mono hs)⟩
  simp only [Option.some.injEq] at ha hb
  subst ha hb
  show w.heap.size ≠ (mw w.drew).heap.size
  omega

set_option maxRecDepth 100000 in
set_option maxHeartbeats 6400000 in
theorem edf_play {w : World} {p : Option Addr} {n c : Nat} {xs : List (Int × Int × Int)} (h : S3 w p n c xs) (he : jobsErr xs = 0) :
    Calls Try.prog 75 #[.slice p n c] w fun e w' => ∃ q d q2 d2, e = .returned (.tuple #[.slice q (bz (t0 xs) (t1 xs) (t2 xs) n 200) d, .slice q2 n d2]) ∧
      SI w' q (bz (t0 xs) (t1 xs) (t2 xs) n 200) d (tab (bz (t0 xs) (t1 xs) (t2 xs) n 200) (pk (t0 xs) (t1 xs) (t2 xs) n)) ∧ SI w' q2 n d2 (tab n (dn (t0 xs) (t1 xs) (t2 xs) n 200)) ∧ Below w.heap.size w w' := by
  obtain ⟨h12, hok⟩ := jobs_ok he
  rw [h.1] at h12
  have hm := h.2.1
  have HOK : Hid (∀ j, j < n → okJob (t0 xs j) (t1 xs j) (t2 xs j)) := Lib.hid (by rw [← h.1]; exact hok)
  have HA : Hid (∀ j, j < n → 0 ≤ t0 xs j ∧ t0 xs j ≤ 200 ∧ 0 ≤ t2 xs j ∧ t2 xs j ≤ 200) := Lib.hid (fun j hj => by have := HOK.out j hj; unfold okJob at this; omega)
  have HW : Hid (∀ i, i < n → 1 ≤ t1 xs i ∧ t1 xs i ≤ 200) := Lib.hid (fun j hj => by have := HOK.out j hj; unfold okJob at this; omega)
  clear hok he
  go_enter Try.func75, Try.ntmps75
  go_wp2
  obtain ⟨mw, hrun, hmw⟩ := made_int Try.tyIntsEp n (by omega)
  have HMW := Lib.hid hmw
  clear hmw
  have HTN := Lib.hid (TwoNew.mk2 (w := w) HMW.out)
  apply laterP (H := TwoNew w n)
  · intro key
    go_region
    all_goals
      have ht := HTN.out
      generalize (some (⟨w.heap.size, 0, none⟩ : Addr)) = pA at ht ⊢
      generalize (some (⟨(mw w.drew).heap.size, 0, none⟩ : Addr)) = pB at ht ⊢
      generalize mw (mw w.drew) = v at ht ⊢
      first
        | exact key v pA pB ht
        | exact key v pB pA ht.swap
  · rintro v p4 p5 ⟨ho4, ho5, hsep, hb⟩
    clear HTN HMW hrun
    have hsv := hb.size
    go_wp2
    go_loopw [20] (fun i wr => ∃ k : Nat, k ≤ n ∧ i = .int .i64 k ∧ OwnI wr w.heap.size p4 n n (tab n fun j => if j < k then t1 xs j else 0) ∧ OwnI wr w.heap.size p5 n n (tab n fun _ => 0) ∧ Below w.heap.size w wr) (fun i _ => n - (intOf i).toNat)
    case atStart => exact ⟨0, by omega, rfl, ho4.to (fun j hj => by rw [if_neg (by omega)]), ho5, hb⟩
    case round =>
      clear ho4 ho5 hb hsv
      obtain ⟨k, hk, rfl, ho4, ho5, hb⟩ := hrel
      have hsv := hb.size
      by_cases hkn : k < n
      · obtain ⟨b, off, rfl, hlt, hc⟩ := h.cells (by omega)
        have c0 : wr.cell? ⟨b, off + k * 3, none⟩ = some (.int .i64 (t0 xs k)) := (bdeep hb hlt _).trans (hc k hkn).1
        have c1 : wr.cell? ⟨b, off + k * 3 + 1, none⟩ = some (.int .i64 (t1 xs k)) := (bdeep hb hlt _).trans (hc k hkn).2.1
        have c2 : wr.cell? ⟨b, off + k * 3 + 2, none⟩ = some (.int .i64 (t2 xs k)) := (bdeep hb hlt _).trans (hc k hkn).2.2
        obtain ⟨g4, rfl⟩ := ho4.addr (by omega)
        have c4 := ho4.at (j := k) hkn
        have f4 := ho4.free k
        have hg4 := ho4.blk
        have hq4 : ¬ g4 = wr.heap.size := by omega
        have hq4' : ¬ wr.heap.size = g4 := by omega
        have o4 := ho4.put k (t1 xs k) (z' := fun j => if j < k + 1 then t1 xs j else 0) (fun j hj => by
          by_cases e : j = k
          · subst e; rw [if_pos rfl, if_pos (by omega)]
          · rw [if_neg e]
            by_cases e2 : j < k
            · rw [if_pos e2, if_pos (by omega)]
            · rw [if_neg e2, if_neg (by omega)])
        have o5 := ho5.farS (g' := g4) (j := k) (v := .int .i64 (t1 xs k)) hsep.symm
        have hb2 := hb.setCell (p := ⟨g4, k, none⟩) hg4.1 (.int .i64 (t1 xs k))
        have hb3 := hb2.alloc hb2.size (.cells #[.int .i64 (t0 xs k), .int .i64 (t1 xs k), .int .i64 (t2 xs k)] 75)
        have o4' := o4.below ((Below.refl _ _).alloc (Nat.le_refl _) (.cells #[.int .i64 (t0 xs k), .int .i64 (t1 xs k), .int .i64 (t2 xs k)] 75))
        have o5' := o5.below ((Below.refl _ _).alloc (Nat.le_refl _) (.cells #[.int .i64 (t0 xs k), .int .i64 (t1 xs k), .int .i64 (t2 xs k)] 75))
        clear hc ho4 ho5 hb o4 o5 hb2
        go_wp2
        go_roundw
        case rel => exact ⟨k + 1, by omega, by go_num, o4', o5', hb3⟩
        case measure => simp [intOf]; omega
      · obtain rfl : n = k := by omega
        have ho4' := ho4.to (z' := lf (t0 xs) (t1 xs) (t2 xs) n 0) (fun j hj => by rw [if_pos hj]; rfl)
        have ho5' := ho5.to (z' := dn (t0 xs) (t1 xs) (t2 xs) n 0) (fun j hj => rfl)
        clear ho4 ho5
        go_wp2
        go_loopw [8, 9, 31] (fun ov bv tv wr => ∃ (t : Nat) (q : Option Addr) (d : Nat), t ≤ 200 ∧ tv = .int .i64 t ∧ ov = .slice q t d ∧ bv = .int .i64 (bz (t0 xs) (t1 xs) (t2 xs) n t) ∧ OwnI wr w.heap.size q t d (tab t (pk (t0 xs) (t1 xs) (t2 xs) n)) ∧ OwnI wr w.heap.size p4 n n (tab n (lf (t0 xs) (t1 xs) (t2 xs) n t)) ∧ OwnI wr w.heap.size p5 n n (tab n (dn (t0 xs) (t1 xs) (t2 xs) n t)) ∧ Sep q p4 ∧ Sep q p5 ∧ Below w.heap.size w wr) (fun _ _ tv _ => 200 - (intOf tv).toNat)
        case atStart => exact ⟨0, none, 0, by omega, rfl, rfl, rfl, OwnI.nil _ _, ho4', ho5', Sep.none_left, Sep.none_left, hb⟩
        case round =>
          clear ho4' ho5' hb hsv
          obtain ⟨t, q, d, ht, rfl, rfl, rfl, hoq, ho4, ho5, hs4, hs5, hb⟩ := hrel
          have hsv := hb.size
          by_cases ht2 : t < 200
          · have hbz := bz_le (t0 xs) (t1 xs) (t2 xs) n t
            have HLF := Lib.hid (lf_bd (A := t0 xs) (D := t2 xs) HW.out t)
            go_wp2_with fail
            refine (edf_next (h.below hb) ho4.si h12 HA.out HLF.out (by omega)).mono ?_; rintro e w1 ⟨rfl, b1⟩
            have hq1 := hoq.below b1; have h41 := ho4.below b1; have h51 := ho5.below b1
            have hb1 := hb.trans (b1.mono hsv)
            have hs1 := hb1.size
            have HPK : Hid (bst (t0 xs) (t2 xs) (lf (t0 xs) (t1 xs) (t2 xs) n t) t n = pk (t0 xs) (t1 xs) (t2 xs) n t) := Lib.hid rfl
            rw [HPK.out]
            have HSP := Lib.hid (pk_spec (t0 xs) (t1 xs) (t2 xs) n t)
            have HTS := Lib.hid (tab_succ t (pk (t0 xs) (t1 xs) (t2 xs) n))
            clear b1 hoq ho4 ho5 hb HPK
            rcases HSP.out with ⟨e1, _⟩ | ⟨i, hi, e1, hcd, _⟩
            · rw [e1]
              have HE1 := Lib.hid e1
              have h4e := h41.to (z' := lf (t0 xs) (t1 xs) (t2 xs) n (t + 1)) (fun j hj => by rw [lf_succ, e1, if_neg (by omega)])
              have h5e := h51.to (z' := dn (t0 xs) (t1 xs) (t2 xs) n (t + 1)) (fun j hj => by rw [dn_succ, e1, if_neg (by omega)])
              have HBZ : Hid (bz (t0 xs) (t1 xs) (t2 xs) n (t + 1) = bz (t0 xs) (t1 xs) (t2 xs) n t) := Lib.hid (by simp only [bz]; rw [e1, if_pos (by omega)])
              clear e1 h41 h51
              go_wp2_with (at_builtin; refine wpL_push_int Try.tyIntsEp rfl rfl (B := w.heap.size) (W0 := w) (by first | rfl | simp [Act.eval]) (by first | rfl | simp [Act.eval]) hq1 hb1 (by omega) hs1 ?_; intro p' c' w2 ho2 hb2 hg2 hp2)
              have k4 := h4e.keep hg2 hs4
              have k5 := h5e.keep hg2 hs5
              have s4 := Sep.push hs4 h4e hp2
              have s5 := Sep.push hs5 h5e hp2
              go_roundw
              case rel => exact ⟨t + 1, _, _, by omega, by go_num, rfl, by rw [HBZ.out], by rw [HTS.out, HE1.out]; exact ho2, k4, k5, s4, s5, hb2⟩
              case measure => simp [intOf]; omega
            · rw [e1]
              have HE1 := Lib.hid e1
              have hl0 := HLF.out i hi
              have hl1 := hcd.2
              have HBZ : Hid (bz (t0 xs) (t1 xs) (t2 xs) n (t + 1) = t + 1) := Lib.hid (by simp only [bz]; rw [e1, if_neg (by omega)])
              have q1 : ¬ ((i : Int) < 0) := by omega
              have q2 : (i : Int) < (n : Int) := by omega
              obtain ⟨lv, hlv⟩ : ∃ lv, lf (t0 xs) (t1 xs) (t2 xs) n t i = lv := ⟨_, rfl⟩
              rw [hlv] at hl0 hl1
              have HLV := Lib.hid hlv
              clear e1 hcd hlv
              by_cases hz : lv = 1
              · have hd : (lv - 1 == 0) = true := by simp; omega
                have HZ := Lib.hid (show lf (t0 xs) (t1 xs) (t2 xs) n (t + 1) i = 0 by rw [lf_succ, if_pos HE1.out, HLV.out, hz]; rfl)
                have HZ1 := Lib.hid hz
                clear hz
                go_wp2_with (at_builtin; refine wpL_push_int Try.tyIntsEp rfl rfl (B := w.heap.size) (W0 := w) (by first | rfl | simp [Act.eval]) (by first | rfl | simp [Act.eval]) hq1 hb1 (by omega) hs1 ?_; intro p' c' w2 ho2 hb2 hg2 hp2; (have k4 := h41.keep hg2 hs4); (have k5 := h51.keep hg2 hs5); (have s4 := Sep.push hs4 h41 hp2); (have s5 := Sep.push hs5 h51 hp2); (obtain ⟨g4, rfl⟩ := k4.addr (by omega)); (obtain ⟨g5, rfl⟩ := k5.addr (by omega)); (have c4 := k4.at (j := i) hi); (have f4 := k4.free i); (have c5 := k5.at (j := i) hi); (have f5 := k5.free i); rw [gi_tab hi] at c4 c5; rw [HLV.out] at c4; (have hg4 := k4.blk); (have hg5 := k5.blk); (have hne : g4 ≠ g5 := fun e => hsep ⟨g4, 0, none⟩ ⟨g5, 0, none⟩ rfl rfl e); (have hne' : ¬ g5 = g4 := fun e => hne e.symm); (clear hq1 h41 h51 hb1 hg2))
                have P4 := k4.put i (lv - 1) (z' := lf (t0 xs) (t1 xs) (t2 xs) n (t + 1)) (fun j hj => by
                  by_cases e : j = i
                  · subst e; rw [if_pos rfl, lf_succ, if_pos HE1.out, HLV.out]
                  · rw [if_neg e, lf_succ, if_neg (by rw [HE1.out]; omega)])
                have P4' := P4.far (g' := g5) (j := i) (v := .int .i64 ((t : Int) + 1)) hne
                have P5 := (k5.far (g' := g4) (j := i) (v := .int .i64 (lv - 1)) (fun e => hne e.symm)).put i ((t : Int) + 1) (z' := dn (t0 xs) (t1 xs) (t2 xs) n (t + 1)) (fun j hj => by
                  by_cases e : j = i
                  · subst e; rw [if_pos rfl, dn_succ, if_pos ⟨HE1.out, HZ.out⟩]
                  · rw [if_neg e, dn_succ, if_neg (by rw [HE1.out]; omega)])
                have PQ := (ho2.farS (g' := g4) (j := i) (v := .int .i64 (lv - 1)) s4).farS (g' := g5) (j := i) (v := .int .i64 ((t : Int) + 1)) s5
                have PB := (hb2.setCell (p := ⟨g4, i, none⟩) hg4.1 (.int .i64 (lv - 1))).setCell (p := ⟨g5, i, none⟩) hg5.1 (.int .i64 ((t : Int) + 1))
                go_roundw
                case rel => exact ⟨t + 1, _, _, by omega, by go_num, rfl, by rw [HBZ.out]; go_num, by rw [HTS.out, HE1.out]; exact PQ, P4', P5, s4, s5, PB⟩
                case measure => simp [intOf]; omega
              · have hd : (lv - 1 == 0) = false := by simp; omega
                have HZ := Lib.hid (show ¬ lf (t0 xs) (t1 xs) (t2 xs) n (t + 1) i = 0 by rw [lf_succ, if_pos HE1.out, HLV.out]; omega)
                go_wp2_with (at_builtin; refine wpL_push_int Try.tyIntsEp rfl rfl (B := w.heap.size) (W0 := w) (by first | rfl | simp [Act.eval]) (by first | rfl | simp [Act.eval]) hq1 hb1 (by omega) hs1 ?_; intro p' c' w2 ho2 hb2 hg2 hp2; (have k4 := h41.keep hg2 hs4); (have k5 := h51.keep hg2 hs5); (have s4 := Sep.push hs4 h41 hp2); (have s5 := Sep.push hs5 h51 hp2); (obtain ⟨g4, rfl⟩ := k4.addr (by omega)); (obtain ⟨g5, rfl⟩ := k5.addr (by omega)); (have c4 := k4.at (j := i) hi); (have f4 := k4.free i); (have c5 := k5.at (j := i) hi); (have f5 := k5.free i); rw [gi_tab hi] at c4 c5; rw [HLV.out] at c4; (have hg4 := k4.blk); (have hg5 := k5.blk); (have hne : g4 ≠ g5 := fun e => hsep ⟨g4, 0, none⟩ ⟨g5, 0, none⟩ rfl rfl e); (have hne' : ¬ g5 = g4 := fun e => hne e.symm); (clear hq1 h41 h51 hb1 hg2))
                have P4 := k4.put i (lv - 1) (z' := lf (t0 xs) (t1 xs) (t2 xs) n (t + 1)) (fun j hj => by
                  by_cases e : j = i
                  · subst e; rw [if_pos rfl, lf_succ, if_pos HE1.out, HLV.out]
                  · rw [if_neg e, lf_succ, if_neg (by rw [HE1.out]; omega)])
                have P5 := (k5.far (g' := g4) (j := i) (v := .int .i64 (lv - 1)) (fun e => hne e.symm)).to (z' := dn (t0 xs) (t1 xs) (t2 xs) n (t + 1)) (fun j hj => by
                  by_cases e : j = i
                  · subst e; rw [dn_succ, if_neg (fun h => HZ.out h.2)]
                  · rw [dn_succ, if_neg (by rw [HE1.out]; omega)])
                have PQ := ho2.farS (g' := g4) (j := i) (v := .int .i64 (lv - 1)) s4
                have PB := hb2.setCell (p := ⟨g4, i, none⟩) hg4.1 (.int .i64 (lv - 1))
                go_roundw
                case rel => exact ⟨t + 1, _, _, by omega, by go_num, rfl, by rw [HBZ.out]; go_num, by rw [HTS.out, HE1.out]; exact PQ, P4, P5, s4, s5, PB⟩
                case measure => simp [intOf]; omega
          · obtain rfl : t = 200 := by omega
            have hbz := bz_le (t0 xs) (t1 xs) (t2 xs) n 200
            have hcap := (hoq.si).2.1
            go_wp2
            go_ret2
            refine ⟨q, d, p5, n, rfl, ?_, ho5.si, hb⟩
            have := hoq.si.take hbz
            rw [tab_take hbz] at this
            exact this
end Go.Proofs.Ytgnegemiiahkaaa
