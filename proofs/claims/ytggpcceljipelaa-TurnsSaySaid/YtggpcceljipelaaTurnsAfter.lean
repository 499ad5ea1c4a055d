/- The contract of turns.After (P40). No conditions beyond what each theorem says. -/
import Derived.Test.YtggpcceljipelaaTurnsRef
import Derived.Test.YtggpcceljipelaaTurnsQ
namespace Go.Proofs.Ytggpcceljipelaa
open Go Go.RowKit
set_option linter.unusedVariables false
set_option linter.unusedSimpArgs false

theorem Try.tyIntsTu : SliceTy Try.prog 29 3 (.int .i64 0) 1 8 := ⟨Try.underlying29, by kernel_rfl⟩
/-- what After's closure keeps: the sum, and the flow's box -/
def AftR (w0 : World) (b9 b11 : Nat) (q : Int) (p : Option Addr) (n c : Nat) (xs : List Int) (k : Nat) (w : World) : Prop :=
  w.heap[b11]? = some (.cells #[.int .i64 (pre xs k)] 3 (0, 0)) ∧ w.heap[b9]? = some (.cells #[.int .i64 q, .slice p n c] 103 (0, 0)) ∧ Below w0.heap.size w0 w
set_option maxHeartbeats 800000 in
theorem after_told {w0 : World} {b9 b10 b11 : Nat} {q : Int} {p : Option Addr} {n c : Nat} {xs : List Int} (hs : SI w0 p n c xs) (hok : OkSz xs) (h9 : w0.heap.size ≤ b9) (h10 : w0.heap.size ≤ b10) (h11 : w0.heap.size ≤ b11) (d1 : b9 ≠ b10) (d2 : b9 ≠ b11) (d3 : b10 ≠ b11) :
    Told b10 q p n c xs 83 #[.pointer (some ⟨b11, 0, none⟩), .pointer (some ⟨b9, 0, none⟩)] (AftR w0 b9 b11 q p n c xs) := by
  refine ⟨fun j w h => ⟨hs.below h.2.2, fun h0 b hb => ?_⟩, fun j w s h => ⟨h.1, h.2.1, below_drewN h.2.2 s⟩, fun j w f v h => ⟨blk_other h.1 d3.symm, blk_other h.2.1 d1, h.2.2.setCell h10 v⟩, fun j w at_ sh hj h hQ => ?_⟩
  · obtain ⟨xb, xo, hp, hlt, _⟩ := hs.cells h0
    rw [hp] at hb
    cases hb
    show xb ≠ b10
    omega
  · obtain ⟨k1, k2, hb⟩ := h
    have hl := hs.len
    have hmx := hs.2.1
    have hp := pre_bound hok (n := j) (by rw [hl]; omega)
    have h60 := hok.1
    rw [hl] at h60
    have hv := hok.2 j (by rw [hl]; exact hj)
    obtain ⟨xb, xo, rfl, hlt, hc⟩ := hs.cells (by omega)
    have x0 : w.cell? ⟨xb, xo + j, none⟩ = some (.int .i64 (gi xs j)) := (bdeep hb hlt _).trans (hc j hj)
    have c0 : w.cell? ⟨b11, 0, none⟩ = some (.int .i64 (pre xs j)) := blk_cell k1 0
    have f0 : w.frozen? ⟨b11, 0, none⟩ = false := blk_free k1 0
    have c1 : w.cell? ⟨b9, 1, none⟩ = some (.slice (some ⟨xb, xo, none⟩) n c) := blk_cell k2 1
    have hP : Hid (pre xs (j + 1) = pre xs j + gi xs j) := Lib.hid rfl
    have K1 := Lib.hid k1
    have K2 := Lib.hid k2
    have hQ2 := Lib.hid hQ
    clear hc hs hok k1 k2 hl hQ
    obtain ⟨pj, hpj⟩ : ∃ pj, pre xs j = pj := ⟨_, rfl⟩
    obtain ⟨v, hv2⟩ : ∃ v, gi xs j = v := ⟨_, rfl⟩
    rw [hpj] at hp c0 hP K1
    rw [hv2] at hv x0 hP
    have HQ1 := Lib.hid hpj
    have HQ2 := Lib.hid hv2
    clear hpj hv2
    have hne : xb ≠ b11 := by omega
    go_enter Try.func83, Try.ntmps83
    go_wp2
    go_big_region
    go_wp2
    go_end0
    refine ⟨rfl, ⟨?_, (blk_other K2.out d2 : _), (hb.setCell (p := ⟨b11, 0, none⟩) h11 _).drew⟩, (blk_other (show w.heap[b10]? = _ from hQ2) d3 : _)⟩
    have h1 := blk_set (j := 0) (v := .int .i64 (pj + v)) K1.out
    rw [hP.out]
    show (w.setCell ⟨b11, 0, none⟩ (.int .i64 (pj + v))).heap[b11]? = _
    simpa using h1

set_option maxRecDepth 100000 in
set_option maxHeartbeats 1600000 in
theorem turns_After_ok {w : World} {p : Option Addr} {n c r : Nat} {Q : Nat → Int} {F : Nat → Sl} (h : SF w p n c Q F) (he : flowsErr n Q F = 0) (hr : r ≤ 1000) {cf : Nat → Nat} (hcf : ∀ k, k < n → IsC ((r : Int) * Q k) (F k).2.2.2 (cf k)) :
    Calls Try.prog 63 #[.slice p n c, .int .i64 (r : Int)] w fun e w' => ∃ q d, e = .returned (.tuple #[.slice q n d, .int .i64 0]) ∧ OwnI w' w.heap.size q n d (tab n fun k => pre (F k).2.2.2 (cf k)) ∧ Below w.heap.size w w' := by
  have hm := h.cap
  obtain ⟨h8, hok⟩ := flows_ok he
  have HE := Lib.hid he; have HCF := Lib.hid hcf; have HOK := Lib.hid hok
  clear he hcf hok
  go_enter Try.func63, Try.ntmps63
  go_wp2_with fail
  refine (turns_Check h HE.out).mono ?_; rintro e w1 ⟨rfl, b1⟩
  have hs1 := b1.size
  go_wp2
  go_loopw [7, 25] (fun v iv wr => ∃ (k : Nat) (q : Option Addr) (d : Nat), k ≤ n ∧ iv = .int .i64 k ∧ v = .slice q k d ∧ OwnI wr w.heap.size q k d (tab k fun k => pre (F k).2.2.2 (cf k)) ∧ Below w.heap.size w wr ∧ w.heap.size ≤ wr.heap.size) (fun _ iv _ => n - (intOf iv).toNat)
  case atStart => exact ⟨0, none, 0, Nat.zero_le _, rfl, rfl, OwnI.nil _ _, b1, hs1⟩
  case round =>
    clear b1 hs1
    obtain ⟨k, q, d, hk, rfl, rfl, ho, hb, hsz⟩ := hrel
    by_cases hkn : k < n
    · obtain ⟨lb, lo, rfl, hlt, hc⟩ := (h.below hb).cells (by omega)
      obtain ⟨c0, c1⟩ := hc k hkn
      have hsi := (h.below hb).si k hkn
      obtain ⟨hq, hsz2⟩ := HOK.out k hkn
      have hck := HCF.out k hkn
      have HT := Lib.hid (tab_succ k fun k => pre (F k).2.2.2 (cf k))
      obtain ⟨⟨pa, la, ca, xs⟩, hF⟩ : ∃ f, F k = f := ⟨_, rfl⟩
      rw [hF] at c1 hsi hsz2 hck HT
      simp only at c1 hsi hsz2 hck HT
      obtain ⟨qk, hqk⟩ : ∃ qk, Q k = qk := ⟨_, rfl⟩
      rw [hqk] at c0 hq hck
      have hmx := hsi.2.1
      have HSZ := Lib.hid hsz2
      have HCK := Lib.hid hck
      clear hc hF hqk hsz2 hck
      go_wp2
      have K9 := Lib.hid (blk_alloc (o' := .cells #[.int .i64 0] 3) (blk_alloc (o' := .cells #[.int .i64 qk, .slice pa la ca, .int .i64 0, .int .i64 0] 117) (blk_new wr #[.int .i64 qk, .slice pa la ca] 103)))
      have K10 := Lib.hid (blk_alloc (o' := .cells #[.int .i64 0] 3) (blk_new (wr.alloc (.cells #[.int .i64 qk, .slice pa la ca] 103)) #[.int .i64 qk, .slice pa la ca, .int .i64 0, .int .i64 0] 117))
      have K11 := Lib.hid (blk_new ((wr.alloc (.cells #[.int .i64 qk, .slice pa la ca] 103)).alloc (.cells #[.int .i64 qk, .slice pa la ca, .int .i64 0, .int .i64 0] 117)) #[.int .i64 0] 3)
      have HB3 := Lib.hid ((((Below.refl wr.heap.size wr).alloc (Nat.le_refl _) (.cells #[.int .i64 qk, .slice pa la ca] 103)).alloc (by simp) (.cells #[.int .i64 qk, .slice pa la ca, .int .i64 0, .int .i64 0] 117)).alloc (by simp; omega) (.cells #[.int .i64 0] 3))
      simp only [World.size_alloc] at K10 K11
      generalize ((wr.alloc (.cells #[.int .i64 qk, .slice pa la ca] 103)).alloc (.cells #[.int .i64 qk, .slice pa la ca, .int .i64 0, .int .i64 0] 117)).alloc (.cells #[.int .i64 0] 3) = W3 at *
      obtain ⟨wo, hwo⟩ : ∃ x, x = wr := ⟨_, rfl⟩
      subst hwo
      have hsi2 := Lib.hid hsi
      clear hsi
      go_loopw [33] (fun jv wv => ∃ (j at_ : Nat) (sh : Int), j ≤ r ∧ jv = .int .i64 j ∧ QAt wv (wo.heap.size + 1) qk pa la ca at_ sh ∧ AftR wo wo.heap.size (wo.heap.size + 1 + 1) qk pa la ca xs at_ wv ∧ Hid (QSt ((j : Int) * qk) xs at_ sh)) (fun jv _ => r - (intOf jv).toNat)
      case atStart => exact ⟨0, 0, 0, Nat.zero_le _, rfl, K10.out, ⟨K11.out, K9.out, HB3.out⟩, Lib.hid (by simpa using QSt.zero HSZ.out)⟩
      case round =>
        clear K9 K10 K11 HB3
        obtain ⟨j, at_, sh, hj, rfl, hQ, hA, HQ⟩ := hrel
        by_cases hjr : j < r
        · have HN : Hid (((j + 1 : Nat) : Int) * qk = (j : Int) * qk + qk) := Lib.hid (by rw [Int.natCast_add, Int.add_mul]; simp)
          have hnn : 0 ≤ (j : Int) * qk := Int.mul_nonneg (by omega) (by omega)
          have HC := Lib.hid (queue_turn (fun args w => by simp [callFunc, Try.func83, Try.f83, go_sem]) (after_told (b9 := wo.heap.size) (b10 := wo.heap.size + 1) (b11 := wo.heap.size + 1 + 1) (q := qk) hsi2.out HSZ.out (Nat.le_refl _) (by omega) (by omega) (by omega) (by omega) (by omega)) hQ hA HSZ.out hq HQ.out hnn)
          clear hQ hA hnn
          go_wp2_with fail
          refine HC.out.mono ?_; rintro e w2 ⟨rfl, at2, sh2, hQ2, hA2, hS2⟩
          have HS2 := Lib.hid hS2
          clear hS2
          go_wp2
          go_roundw
          case rel => exact ⟨j + 1, at2, sh2, by omega, by go_num, hQ2, hA2, Lib.hid (by rw [HN.out]; exact HS2.out)⟩
          case measure => simp [intOf]; omega
        · obtain rfl : r = j := by omega
          have hae : at_ = cf k := isC_one HSZ.out HQ.out.1 HCK.out
          have x0 := blk_cell hA.1 0
          have hbw := hA.2.2
          have ho2 := ho.below hbw
          have hb2 := hb.trans (hbw.mono hsz)
          have hs2 : w.heap.size ≤ wr.heap.size := hb2.size
          rw [hae] at x0
          clear hQ hA ho hb hsz hbw
          generalize pre xs (cf k) = v at *
          go_wp2_with (at_builtin; refine wpL_push_int Try.tyIntsTu rfl rfl (B := w.heap.size) (W0 := w) (by first | rfl | simp [Act.eval]) (by first | rfl | simp [Act.eval]) ho2 hb2 (by omega) hs2 ?_; intro p' c' w3 ho3 hb3 hg3 _)
          go_wp2
          go_roundw
          case rel => exact ⟨k + 1, _, _, by omega, by go_num, rfl, by rw [HT.out]; exact ho3, hb3, hb3.size⟩
          case measure => simp [intOf]; omega
    · obtain rfl : n = k := by omega
      go_wp2
      go_ret2
      exact ⟨_, _, rfl, ho, hb⟩
end Go.Proofs.Ytggpcceljipelaa
