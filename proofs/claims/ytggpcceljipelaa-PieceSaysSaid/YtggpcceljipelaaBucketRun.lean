/- The contract of bucket.Run (P31). No conditions beyond what each theorem says. -/
import Derived.Test.YtggpcceljipelaaBucket
import Derived.Test.YtggpcceljipelaaPackets
import Derived.Test.YtggpcceljipelaaTakenLaw
namespace Go.Proofs.Ytggpcceljipelaa
open Go Go.RowKit

theorem Try.tyBools : SliceTy Try.prog 42 4 (.bool false) 1 1 := ⟨Try.underlying42, by kernel_rfl⟩
/-- two results: a new list of bools, and an error -/
def RetLB (w : World) (F : List Bool → Int → Prop) (e : Ending) (w' : World) : Prop :=
  ∃ p n c L er, e = .returned (.tuple #[.slice p n c, .int .i64 er]) ∧ OwnB w' w.heap.size p n c L ∧ Below w.heap.size w w' ∧ F L er
theorem pscan_up {xs : List (Int × Int × Int)} : ∀ {l : Int}, pscan l xs = 0 → (∀ j, j < xs.length → l ≤ t0 xs j ∧ okPkt (t0 xs j) (t1 xs j) (t2 xs j)) ∧ ∀ i j, i ≤ j → j < xs.length → t0 xs i ≤ t0 xs j := by
  induction xs with
  | nil => intro l _; exact ⟨fun j hj => by simp at hj, fun i j _ hj => by simp at hj⟩
  | cons x r ih =>
    obtain ⟨a, s, f⟩ := x
    intro l h
    unfold pscan at h
    by_cases ho : okPkt a s f
    · rw [if_neg (by simpa using ho)] at h
      by_cases hl : a < l
      · rw [if_pos hl] at h; omega
      · rw [if_neg hl] at h
        obtain ⟨i1, i2⟩ := ih h
        refine ⟨fun j hj => ?_, fun i j hij hj => ?_⟩
        · cases j with
          | zero => exact ⟨by simp only [t0, List.getD_cons_zero]; omega, by simpa [t0, t1, t2] using ho⟩
          | succ j =>
            have := i1 j (by simpa using hj)
            refine ⟨?_, by simpa [t0, t1, t2] using this.2⟩
            have h3 := this.1
            simp only [t0, List.getD_cons_succ] at h3 ⊢
            omega
        · cases j with
          | zero => obtain rfl : i = 0 := by omega
                    exact Int.le_refl _
          | succ j =>
            cases i with
            | zero =>
              have := (i1 j (by simpa using hj)).1
              simp only [t0, List.getD_cons_succ, List.getD_cons_zero] at this ⊢
              exact this
            | succ i =>
              have := i2 i j (by omega) (by simpa using hj)
              simpa only [t0, List.getD_cons_succ] using this
    · rw [if_pos ho] at h; omega
theorem pack_queue {xs : List (Int × Int × Int)} {n : Nat} (h : packErr xs = 0) (hn : xs.length = n) : n ≤ 60 ∧ QueueA (t0 xs) (t1 xs) n := by
  subst hn
  unfold packErr at h
  by_cases hl : xs.length > 60
  · rw [if_pos hl] at h; omega
  · rw [if_neg hl] at h
    obtain ⟨h1, h2⟩ := pscan_up h
    refine ⟨by omega, fun j hj => ?_, h2⟩
    have := (h1 j hj).2
    unfold okPkt at this
    omega
theorem OwnB.apart {w : World} {B g' j n c : Nat} {p : Option Addr} {L : List Bool} {v : Value} (h : OwnB w B p n c L) (hne : g' < B) : OwnB (w.setCell ⟨g', j, none⟩ v) B p n c L := by
  refine ⟨⟨h.1.1, ?_⟩, h.2⟩
  rcases h.1.2 with h2 | ⟨g2, cap, cur, hv, hg, hh, r⟩
  · exact .inl h2
  · exact .inr ⟨g2, cap, cur, hv, hg, blk_other hh (by omega), r⟩
theorem OwnB.notIn {w : World} {B n c g : Nat} {p : Option Addr} {L : List Bool} (h : OwnB w B p n c L) (hg : g < B) : (Value.slice p n c).ownBlock ≠ some g := by
  cases p with
  | none => simp [Value.ownBlock]
  | some a =>
    have := (h.1.lt a.block rfl).1
    simp only [Value.ownBlock, ne_eq, Option.some.injEq]
    omega
theorem OwnB.raise {w : World} {B B' g n c : Nat} {L : List Bool} (h : OwnB w B (some ⟨g, 0, none⟩) n c L) (hg : B' ≤ g) : OwnB w B' (some ⟨g, 0, none⟩) n c L := by
  refine ⟨⟨h.1.1, ?_⟩, h.2⟩
  rcases h.1.2 with h2 | ⟨g2, cap, cur, hv, hb, r⟩
  · exact .inl h2
  · refine .inr ⟨g2, cap, cur, hv, ?_, r⟩
    simp only [Value.slice.injEq, Option.some.injEq, Addr.mk.injEq, and_true, true_and] at hv
    omega
theorem OwnB.up {w : World} {B B' S n c : Nat} {p q : Option Addr} {L : List Bool} (h : OwnB w B p n c L) (hp : ∃ g, p = some ⟨g, 0, none⟩ ∧ (q = some ⟨g, 0, none⟩ ∨ g = S + 1)) (hq : ∀ g, q = some ⟨g, 0, none⟩ → B' ≤ g) (hS : B' ≤ S + 1) : OwnB w B' p n c L := by
  obtain ⟨g, rfl, hg⟩ := hp
  refine h.raise ?_
  rcases hg with hg | hg
  · exact hq g hg
  · omega
theorem OwnB.least {w : World} {B g n c : Nat} {p : Option Addr} {L : List Bool} (h : OwnB w B p n c L) (hp : p = some ⟨g, 0, none⟩) : B ≤ g := by
  subst hp; exact h.blk.1
/-- a struct of three numbers is stored in its box -/
theorem blk_put3 {w : World} {g : Nat} {a b c x y z : Value} {T : TypeId} (h : w.heap[g]? = some (.cells #[a, b, c] T (0, 0))) :
    (((w.setCell ⟨g, 0, none⟩ x).setCell ⟨g, 1, none⟩ y).setCell ⟨g, 2, none⟩ z).heap[g]? = some (.cells #[x, y, z] T (0, 0)) := by
  have h1 := blk_set (j := 2) (v := z) (blk_set (j := 1) (v := y) (blk_set (j := 0) (v := x) h))
  simpa using h1
theorem put3_other {w : World} {g g' : Nat} {o : Obj} {x y z : Value} (h : w.heap[g]? = some o) (hne : g ≠ g') :
    (((w.setCell ⟨g', 0, none⟩ x).setCell ⟨g', 1, none⟩ y).setCell ⟨g', 2, none⟩ z).heap[g]? = some o := blk_other (blk_other (blk_other h hne) hne) hne
theorem put3_size {w : World} {g' : Nat} {x y z : Value} : (((w.setCell ⟨g', 0, none⟩ x).setCell ⟨g', 1, none⟩ y).setCell ⟨g', 2, none⟩ z).heap.size = w.heap.size := by simp

set_option maxHeartbeats 1000000 in
theorem bucket_Run_b {w : World} {r B f : Int} {p : Option Addr} {n c : Nat} (hb : ¬ okBucket r B f) :
    Calls Try.prog 54 #[aggB r B f, .slice p n c] w fun e w' => e = .returned (.tuple #[.slice none 0 0, .int .i64 1]) ∧ Below w.heap.size w w' := by
  have hba := (Below.refl w.heap.size w).alloc (Nat.le_refl _) (.cells #[.int .i64 r, .int .i64 B, .int .i64 f] 23)
  go_enter Try.func54, Try.ntmps54
  go_wp2_with fail
  refine (bucket_Check_bad hb).mono ?_; rintro e w1 ⟨rfl, hb1⟩
  have hb2 := hba.trans (hb1.mono hba.size)
  go_wp2
  go_ret2
  exact ⟨rfl, hb2⟩
set_option maxHeartbeats 1000000 in
theorem bucket_Run_q {w : World} {r B f er : Int} {p : Option Addr} {n c : Nat} {xs : List (Int × Int × Int)} (h : S3 w p n c xs) (hb : okBucket r B f) (he : packErr xs = er) (h0 : er ≠ 0) :
    Calls Try.prog 54 #[aggB r B f, .slice p n c] w fun e w' => e = .returned (.tuple #[.slice none 0 0, .int .i64 er]) ∧ Below w.heap.size w w' := by
  have hz : (er == 0) = false := by simp [h0]
  have hba := (Below.refl w.heap.size w).alloc (Nat.le_refl _) (.cells #[.int .i64 r, .int .i64 B, .int .i64 f] 23)
  go_enter Try.func54, Try.ntmps54
  go_wp2_with fail
  refine (bucket_Check_ok hb).mono ?_; rintro e w1 ⟨rfl, hb1⟩
  have hb2 := hba.trans (hb1.mono hba.size)
  go_wp2_with fail
  refine (bucket_Packets (h.below hb2) he).mono ?_; rintro e w2 ⟨rfl, hb12⟩
  have hb3 := hb2.trans (hb12.mono hb2.size)
  go_wp2
  go_ret2
  exact ⟨rfl, hb3⟩

set_option maxHeartbeats 3200000 in
theorem bucket_Run_ok {w : World} {r B f : Int} {p : Option Addr} {n c : Nat} {xs : List (Int × Int × Int)} (h : S3 w p n c xs) (hb : okBucket r B f) (he : packErr xs = 0) :
    Calls Try.prog 54 #[aggB r B f, .slice p n c] w (RetLB w fun L er => er = 0 ∧ L = tab n (passes (t0 xs) (t1 xs) B r f)) := by
  have hm := h.2.1
  obtain ⟨h60, hQ⟩ := pack_queue he h.1
  have HQ := Lib.hid hQ; have HE := Lib.hid he; have HB := Lib.hid hb
  obtain ⟨k1, k2, k3, k4, k5, k6⟩ := hb
  clear hQ he
  have hba := (Below.refl w.heap.size w).alloc (Nat.le_refl _) (.cells #[.int .i64 r, .int .i64 B, .int .i64 f] 23)
  have hg0 := blk_new w #[.int .i64 r, .int .i64 B, .int .i64 f] 23
  have hsz0 : (w.alloc (.cells #[.int .i64 r, .int .i64 B, .int .i64 f] 23)).heap.size = w.heap.size + 1 := by simp
  go_enter Try.func54, Try.ntmps54
  go_wp2_with fail
  generalize w.alloc (.cells #[.int .i64 r, .int .i64 B, .int .i64 f] 23) = W at *
  refine (bucket_Check_ok HB.out).mono ?_; rintro e w1 ⟨rfl, hb1⟩
  have hb2 := hba.trans (hb1.mono hba.size)
  go_wp2_with fail
  refine (bucket_Packets (h.below hb2) HE.out).mono ?_; rintro e w2 ⟨rfl, hb12⟩
  have hb3 := hb2.trans (hb12.mono hb2.size)
  have HG2 := Lib.hid (blk_below (blk_below hg0 hb1) hb12)
  have hs2 : w.heap.size + 1 ≤ w2.heap.size := by have := hb1.size; have := hb12.size; omega
  clear hg0 hb1 hb12 hba hb2
  go_wp2
  go_loopw [8, 9, 26] (fun v s i wr => ∃ (k : Nat) (q : Option Addr) (d : Nat), k ≤ n ∧ i = .int .i64 k ∧ s = .int .i64 (nowA (t0 xs) k) ∧ v = .slice q k d ∧ OwnB wr (w.heap.size + 1) q k d (tab k (passes (t0 xs) (t1 xs) B r f)) ∧ Hid (wr.heap[w.heap.size]? = some (.cells #[.int .i64 r, .int .i64 B, .int .i64 (fr (t0 xs) (t1 xs) B r f k)] 23 (0, 0))) ∧ Below w.heap.size w wr ∧ w.heap.size + 1 ≤ wr.heap.size) (fun _ _ i _ => n - (intOf i).toNat)
  case atStart => exact ⟨0, none, 0, by omega, rfl, rfl, rfl, OwnB.nil _ _, HG2, hb3, hs2⟩
  case round =>
    clear hb3 hs2 HG2
    obtain ⟨k, q, d, hk, rfl, rfl, rfl, ho, HG, hb, hs⟩ := hrel
    by_cases hkn : k < n
    · obtain ⟨b, off, rfl, hlt, hc⟩ := h.cells (by omega)
      have hlr : b < wr.heap.size := by omega
      have hl0 : w.heap.size < wr.heap.size := by omega
      have c0 : wr.cell? ⟨b, off + k * 3, none⟩ = some (.int .i64 (t0 xs k)) := (bdeep hb hlt _).trans (hc k hkn).1
      have c1 : wr.cell? ⟨b, off + k * 3 + 1, none⟩ = some (.int .i64 (t1 xs k)) := (bdeep hb hlt _).trans (hc k hkn).2.1
      have c2 : wr.cell? ⟨b, off + k * 3 + 2, none⟩ = some (.int .i64 (t2 xs k)) := (bdeep hb hlt _).trans (hc k hkn).2.2
      obtain ⟨⟨x0, x1, x2⟩, y0, y1, y2⟩ := blk3 HG.out
      have hq := HQ.out.bd k hkn
      have hnow := HQ.out.now hkn
      have hfr := fr_bd (r := r) (B := B) (f := f) HQ.out k1 ⟨k5, k6⟩ k (by omega)
      have hat := at_bd (r := r) (B := B) (f := f) HQ.out k1 ⟨k5, k6⟩ hkn
      have HGA := Lib.hid (blk_alloc (o' := .cells #[.int .i64 (t0 xs k), .int .i64 (t1 xs k), .int .i64 (t2 xs k)] 64) HG.out)
      have HPA := Lib.hid (blk_new wr #[.int .i64 (t0 xs k), .int .i64 (t1 xs k), .int .i64 (t2 xs k)] 64)
      have hbA := hb.alloc hb.size (.cells #[.int .i64 (t0 xs k), .int .i64 (t1 xs k), .int .i64 (t2 xs k)] 64)
      have hoA := ho.below ((Below.refl _ wr).alloc (Nat.le_refl _) (.cells #[.int .i64 (t0 xs k), .int .i64 (t1 xs k), .int .i64 (t2 xs k)] 64))
      have hsA : wr.heap.size < (wr.alloc (.cells #[.int .i64 (t0 xs k), .int .i64 (t1 xs k), .int .i64 (t2 xs k)] 64)).heap.size := by simp
      clear hc h ho hb HG
      go_wp2_with fail
      refine (bucket_Tick_v (v := at_ (t0 xs) (t1 xs) B r f k) ⟨k1, k2, k3, k4, hfr.1, hfr.2⟩ ⟨by omega, by omega⟩ rfl).mono ?_; rintro e w3 ⟨rfl, hb3⟩
      have hG3 := blk_below HGA.out hb3
      have hP3 := blk_below HPA.out hb3
      obtain ⟨⟨u0, u1, u2⟩, v0, v1, v2⟩ := blk3 hG3
      obtain ⟨⟨p0, p1, p2⟩, _⟩ := blk3 hP3
      have hs3 := hb3.size
      have ho3 := hoA.below hb3
      have hbb3 := hbA.trans (hb3.mono hbA.size)
      have HG4 := Lib.hid (blk_put3 (x := .int .i64 r) (y := .int .i64 B) (z := .int .i64 (at_ (t0 xs) (t1 xs) B r f k)) hG3)
      have HP4 := Lib.hid (put3_other (x := .int .i64 r) (y := .int .i64 B) (z := .int .i64 (at_ (t0 xs) (t1 xs) B r f k)) hP3 (Nat.ne_of_gt hl0))
      have hl3 : w.heap.size < w3.heap.size := by omega
      have hl4 : wr.heap.size < w3.heap.size := by omega
      have hne : ¬ w.heap.size = wr.heap.size := by omega
      have hne' : ¬ wr.heap.size = w.heap.size := by omega
      have ho4 := ((ho3.apart (g' := w.heap.size) (j := 0) (v := .int .i64 r) (Nat.lt_succ_self _)).apart (g' := w.heap.size) (j := 1) (v := .int .i64 B) (Nat.lt_succ_self _)).apart (g' := w.heap.size) (j := 2) (v := .int .i64 (at_ (t0 xs) (t1 xs) B r f k)) (Nat.lt_succ_self _)
      have hb4 := ((hbb3.setCell (p := ⟨w.heap.size, 0, none⟩) (Nat.le_refl _) (.int .i64 r)).setCell (p := ⟨w.heap.size, 1, none⟩) (Nat.le_refl _) (.int .i64 B)).setCell (p := ⟨w.heap.size, 2, none⟩) (Nat.le_refl _) (.int .i64 (at_ (t0 xs) (t1 xs) B r f k))
      have hs4 := put3_size (w := w3) (g' := w.heap.size) (x := .int .i64 r) (y := .int .i64 B) (z := .int .i64 (at_ (t0 xs) (t1 xs) B r f k))
      clear hG3 hP3 hbA hoA HGA HPA hb3 ho3 hbb3
      go_wp2_with fail
      generalize (((w3.setCell ⟨w.heap.size, 0, none⟩ (.int .i64 r)).setCell ⟨w.heap.size, 1, none⟩ (.int .i64 B)).setCell ⟨w.heap.size, 2, none⟩ (.int .i64 (at_ (t0 xs) (t1 xs) B r f k))) = W4 at *
      clear u0 u1 u2 v0 v1 v2 p0 p1 p2 x0 x1 x2 y0 y1 y2 c0 c1 c2
      by_cases hle : t1 xs k ≤ at_ (t0 xs) (t1 xs) B r f k
      · have HP := Lib.hid (show passes (t0 xs) (t1 xs) B r f k = true by unfold passes; simp; exact hle)
        have HF := Lib.hid (fr_yes hle)
        refine (bucket_Take_ok ⟨k1, k2, k3, k4, hat.1, hat.2⟩ (by omega) hle).mono ?_; rintro e w5 ⟨rfl, hb5⟩
        have hG5 := blk_below HG4.out hb5
        have hb45 := hb4.trans (hb5.mono hb4.size)
        have ho5 := ho4.below hb5
        have hs5 := hb5.size
        have hl5 : w.heap.size < w5.heap.size := by omega
        obtain ⟨⟨u0, u1, u2⟩, v0, v1, v2⟩ := blk3 hG5
        have hne5 : ¬ w5.heap.size = w.heap.size := by omega
        have hne6 : ¬ w.heap.size = w5.heap.size := by omega
        have hG6 := blk_put3 (x := .int .i64 r) (y := .int .i64 B) (z := .int .i64 (at_ (t0 xs) (t1 xs) B r f k - t1 xs k)) hG5
        have ho6 := ((ho5.apart (g' := w.heap.size) (j := 0) (v := .int .i64 r) (Nat.lt_succ_self _)).apart (g' := w.heap.size) (j := 1) (v := .int .i64 B) (Nat.lt_succ_self _)).apart (g' := w.heap.size) (j := 2) (v := .int .i64 (at_ (t0 xs) (t1 xs) B r f k - t1 xs k)) (Nat.lt_succ_self _)
        have hb6 := ((hb45.setCell (p := ⟨w.heap.size, 0, none⟩) (Nat.le_refl _) (.int .i64 r)).setCell (p := ⟨w.heap.size, 1, none⟩) (Nat.le_refl _) (.int .i64 B)).setCell (p := ⟨w.heap.size, 2, none⟩) (Nat.le_refl _) (.int .i64 (at_ (t0 xs) (t1 xs) B r f k - t1 xs k))
        have hs6 := put3_size (w := w5) (g' := w.heap.size) (x := .int .i64 r) (y := .int .i64 B) (z := .int .i64 (at_ (t0 xs) (t1 xs) B r f k - t1 xs k))
        have HG7 := Lib.hid (blk_alloc (o' := .cells #[.int .i64 r, .int .i64 B, .int .i64 (at_ (t0 xs) (t1 xs) B r f k - t1 xs k)] 23) hG6)
        have ho7 := ho6.below ((Below.refl _ _).alloc (Nat.le_refl _) (.cells #[.int .i64 r, .int .i64 B, .int .i64 (at_ (t0 xs) (t1 xs) B r f k - t1 xs k)] 23))
        have hb7 := hb6.alloc hb6.size (.cells #[.int .i64 r, .int .i64 B, .int .i64 (at_ (t0 xs) (t1 xs) B r f k - t1 xs k)] 23)
        have hs7 : ((((w5.setCell ⟨w.heap.size, 0, none⟩ (.int .i64 r)).setCell ⟨w.heap.size, 1, none⟩ (.int .i64 B)).setCell ⟨w.heap.size, 2, none⟩ (.int .i64 (at_ (t0 xs) (t1 xs) B r f k - t1 xs k))).alloc (.cells #[.int .i64 r, .int .i64 B, .int .i64 (at_ (t0 xs) (t1 xs) B r f k - t1 xs k)] 23)).heap.size = w5.heap.size + 1 := by simp
        have HO7 := Lib.hid (ho7.notIn (g := w.heap.size) (Nat.lt_succ_self _))
        clear hG5 hG6 hb45 ho5 hb6 ho6 hb4 ho4 hb5
        have HL7 := Lib.hid (fun g (hp : q = some ⟨g, 0, none⟩) => ho7.least hp)
        have hob := OwnB.base ho7 (Nat.le_succ w.heap.size)
        have HT := Lib.hid (tab_succ k (passes (t0 xs) (t1 xs) B r f))
        clear ho7
        go_wp2_with (at_builtin; refine wpL_push_bool Try.tyBools rfl rfl (B := w.heap.size) (W0 := w) (by first | rfl | simp [Act.eval]) (by first | rfl | simp [Act.eval]) hob hb7 (by omega) (by omega) ?_; intro p8 c8 w8 ho8 hb8 hg8 hp8)
        have HG8 := Lib.hid ((hg8.block w.heap.size (by simp; omega) (fun e => HO7.out e.symm)).trans (blk_alloc HG7.out))
        have hs8 := hg8.size
        have ho9 := ho8.up hp8 HL7.out (by omega)
        go_roundw
        case rel => exact ⟨k + 1, _, _, by omega, by go_num, by rw [nowA_succ], rfl, by rw [HT.out, HP.out]; exact ho9, Lib.hid (by rw [HF.out]; exact HG8.out), hb8, by simp at hs8; omega⟩
        case measure => simp [intOf]; omega
      · have HP := Lib.hid (show passes (t0 xs) (t1 xs) B r f k = false by unfold passes; simp; omega)
        have HF := Lib.hid (fr_no hle)
        refine (bucket_Take_full ⟨k1, k2, k3, k4, hat.1, hat.2⟩ (by omega) (by omega)).mono ?_; rintro e w5 ⟨rfl, hb5⟩
        have hG5 := blk_below HG4.out hb5
        have hb45 := hb4.trans (hb5.mono hb4.size)
        have ho5 := ho4.below hb5
        have hs5 := hb5.size
        have hG6 := blk_alloc (o' := .cells #[.int .i64 0, .int .i64 0, .int .i64 0] 23) hG5
        have hb6 := hb45.alloc hb45.size (.cells #[.int .i64 0, .int .i64 0, .int .i64 0] 23)
        have ho6 := ho5.below ((Below.refl _ w5).alloc (Nat.le_refl _) (.cells #[.int .i64 0, .int .i64 0, .int .i64 0] 23))
        have hs6 : (w5.alloc (.cells #[.int .i64 0, .int .i64 0, .int .i64 0] 23)).heap.size = w5.heap.size + 1 := by simp
        have hl5 : w.heap.size < w5.heap.size := by omega
        obtain ⟨⟨u0, u1, u2⟩, v0, v1, v2⟩ := blk3 hG5
        have hne5 : ¬ w5.heap.size = w.heap.size := by omega
        have hne6 : ¬ w.heap.size = w5.heap.size := by omega
        have HG7 := Lib.hid hG6
        have ho7 := ho6
        have hb7 := hb6
        have hs7 := hs6
        have HO7 := Lib.hid (ho7.notIn (g := w.heap.size) (Nat.lt_succ_self _))
        clear hG5 hG6 hb45 ho5 hb6 ho6 hb4 ho4 hb5
        have HL7 := Lib.hid (fun g (hp : q = some ⟨g, 0, none⟩) => ho7.least hp)
        have hob := OwnB.base ho7 (Nat.le_succ w.heap.size)
        have HT := Lib.hid (tab_succ k (passes (t0 xs) (t1 xs) B r f))
        clear ho7
        go_wp2_with (at_builtin; refine wpL_push_bool Try.tyBools rfl rfl (B := w.heap.size) (W0 := w) (by first | rfl | simp [Act.eval]) (by first | rfl | simp [Act.eval]) hob hb7 (by omega) (by omega) ?_; intro p8 c8 w8 ho8 hb8 hg8 hp8)
        have HG8 := Lib.hid ((hg8.block w.heap.size (by simp; omega) (fun e => HO7.out e.symm)).trans (blk_alloc HG7.out))
        have hs8 := hg8.size
        have ho9 := ho8.up hp8 HL7.out (by omega)
        go_roundw
        case rel => exact ⟨k + 1, _, _, by omega, by go_num, by rw [nowA_succ], rfl, by rw [HT.out, HP.out]; exact ho9, Lib.hid (by rw [HF.out]; exact HG8.out), hb8, by simp at hs8; omega⟩
        case measure => simp [intOf]; omega
    · obtain rfl : n = k := by omega
      have ho2 := OwnB.base ho (Nat.le_succ w.heap.size)
      go_wp2
      go_ret2
      exact ⟨_, _, _, _, _, rfl, ho2, hb, rfl, rfl⟩
end Go.Proofs.Ytggpcceljipelaa
