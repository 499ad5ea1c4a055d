/- The contract of headref.Order (P39). Conditions: the flows are well formed. -/
import Derived.Test.YtggpcceljipelaaTurnsRef
import Derived.Test.YtggpcceljipelaaTurnsLaw2
import Derived.Test.YtggpcceljipelaaRow
namespace Go.Proofs.Ytggpcceljipelaa
open Go Go.RowKit
set_option linter.unusedVariables false
set_option linter.unusedSimpArgs false

def enc2 (x : T2) : List Value := [.int .i64 x.1, .int .i64 x.2]
theorem enc2_len (x : T2) : (enc2 x).length = 2 := rfl
theorem enc2_one (x : T2) : ∀ u ∈ enc2 x, u.oneCell' = true := by
  intro u hu
  simp only [enc2, List.mem_cons, List.not_mem_nil, or_false] at hu
  rcases hu with rfl | rfl <;> rfl
theorem Try.tySents : SliceTy Try.prog 93 100 (.agg #[.int .i64 0, .int .i64 0]) 2 16 := ⟨Try.underlying93, by kernel_rfl⟩
abbrev OwnS (w : World) (B : Nat) (q : Option Addr) (m d : Nat) (L : List T2) : Prop := OwnR 100 enc2 2 w B q m d L
abbrev szs (F : Nat → Sl) (k : Nat) : List Int := (F k).2.2.2

theorem keep_blk {w w' : World} {o obj : Obj} {b n c : Nat} {p : Option Addr} (hb : w.heap[b]? = some o) (hg : (w.alloc obj).grownBy w' (Value.slice p n c).ownBlock) (hp : ∀ a, p = some a → a.block ≠ b) : w'.heap[b]? = some o := by
  have hlt := (Array.getElem?_eq_some_iff.1 hb).1
  rw [hg.block b (by simp; omega) (fun e => by
    cases p with
    | none => simp [Value.ownBlock] at e
    | some a => simp only [Value.ownBlock, Option.some.injEq] at e; exact hp a rfl e.symm)]
  exact blk_alloc hb
theorem off_push {w : World} {b : Nat} {p p' : Option Addr} (hp : ∀ a, p = some a → a.block ≠ b) (hlt : b ≤ w.heap.size) (h : ∃ g, p' = some ⟨g, 0, none⟩ ∧ (p = some ⟨g, 0, none⟩ ∨ g = w.heap.size + 1)) : ∀ a, p' = some a → a.block ≠ b := by
  intro a ha
  obtain ⟨g, rfl, hg⟩ := h
  cases ha
  rcases hg with hg | hg
  · exact hp _ hg
  · show g ≠ b
    omega
theorem off_new {w : World} {B m d : Nat} {q : Option Addr} {L : List T2} (ho : OwnS w B q m d L) : ∀ a, q = some a → a.block ≠ w.heap.size := by
  intro a ha e
  have := ho.1.lt a.block (by rw [ha]; rfl)
  omega

set_option maxRecDepth 100000 in
set_option maxHeartbeats 3200000 in
theorem ref_Order {w : World} {p : Option Addr} {n c : Nat} {Q : Nat → Int} {F : Nat → Sl} (hSL : SF w p n c Q F) (h8 : n ≤ 8) (hok : OkF n Q (szs F)) :
    Calls Try.prog 67 #[.slice p n c] w fun e w' => ∃ M q m d, LastM (cnt Q (szs F)) n (allN n (szs F)) M ∧ e = .returned (.slice q m d) ∧ OwnS w' w.heap.size q m d (outTo (cnt Q (szs F)) n M) ∧ Below w.heap.size w w' := by
  have hm := hSL.cap
  have HOK := Lib.hid hok
  have hall := all_le hok
  clear hok
  obtain ⟨tot, htot⟩ : ∃ tot, allN n (szs F) = tot := ⟨_, rfl⟩
  have HTOT := Lib.hid htot
  rw [htot] at hall
  clear htot
  obtain ⟨f, hf⟩ : ∃ f : Nat → Nat, f = fun k => (szs F k).length := ⟨_, rfl⟩
  have HFF := Lib.hid hf
  clear hf
  go_enter Try.func67, Try.ntmps67
  go_wp2
  go_loopw [4, 13] (fun sv iv wr => ∃ k : Nat, k ≤ n ∧ iv = .int .i64 k ∧ sv = .int .i64 (smN f k : Nat) ∧ Below w.heap.size w wr) (fun _ iv _ => n - (intOf iv).toNat)
  case atStart => exact ⟨0, Nat.zero_le _, rfl, rfl, Below.refl _ _⟩
  case round =>
    obtain ⟨k, hk, rfl, rfl, hb⟩ := hrel
    have hsz := hb.size
    by_cases hkn : k < n
    · obtain ⟨lb, lo, rfl, hlt, hc⟩ := (hSL.below hb).cells (by omega)
      obtain ⟨c0, c1⟩ := hc k hkn
      have hsi := (hSL.below hb).si k hkn
      have hl60 := (HOK.out k hkn).2.1
      have hsb : smN f k ≤ 60 * k := smN_le (fun j hj => by rw [HFF.out]; exact (HOK.out j (by omega)).2.1)
      have HS1 : Hid (smN f (k + 1) = smN f k + (szs F k).length) := Lib.hid (by rw [smN, HFF.out])
      unfold szs at hl60 HS1
      obtain ⟨⟨pa, la, ca, xs⟩, hF⟩ : ∃ f, F k = f := ⟨_, rfl⟩
      rw [hF] at c1 hsi hl60 HS1
      simp only at c1 hsi hl60 HS1
      have hll := hsi.len
      rw [hll] at hl60 HS1
      have hmx := hsi.2.1
      have hbA := hb.alloc hsz (.cells #[.int .i64 (Q k), .slice pa la ca] 103)
      clear hc hF hsi hll
      generalize Q k = qk at *
      go_wp2
      go_roundw
      case rel => exact ⟨k + 1, by omega, by go_num, by rw [HS1.out]; go_num, hbA⟩
      case measure => simp [intOf]; omega
    · obtain rfl : n = k := by omega
      have hsv : smN f n = tot := by rw [HFF.out]; exact HTOT.out
      rw [hsv]
      clear hsv
      go_wp2
      go_loopw [3, 7] (fun v mv wr => ∃ (M m : Nat) (q : Option Addr) (d : Nat), v = .slice q m d ∧ mv = .int .i64 ((M : Int) + 1) ∧ m ≤ tot ∧ OwnS wr w.heap.size q m d (outTo (cnt Q (szs F)) n M) ∧ Hid (∀ j, j < M → (outTo (cnt Q (szs F)) n j).length < tot) ∧ Below w.heap.size w wr ∧ w.heap.size ≤ wr.heap.size ∧ M ≤ 60000) (fun _ mv _ => 60002 - (intOf mv).toNat)
      case atStart => exact ⟨0, 0, none, 0, rfl, by simp, Nat.zero_le _, OwnR.nil _ _, Lib.hid (fun j hj => by omega), hb, hsz, by omega⟩
      case round =>
        clear hb hsz
        obtain ⟨M, m, q, d, rfl, rfl, hmt, ho, HJ, hb, hsz, hM6⟩ := hrel
        have hlen := ho.len
        by_cases hlt : m < tot
        · have hM : M < 60000 := out_end HOK.out (by rw [hlen, HTOT.out]; exact hlt)
          have HJ2 := Lib.hid (show ∀ j, j < M + 1 → (outTo (cnt Q (szs F)) n j).length < tot from fun j hj => by
            rcases Nat.lt_succ_iff_lt_or_eq.1 hj with h | rfl
            · exact HJ.out j h
            · rw [hlen]; exact hlt)
          have hO1 := out_le HOK.out (M + 1)
          rw [HTOT.out] at hO1
          have HO1 := Lib.hid hO1
          have HLEN := Lib.hid hlen
          clear hlen hO1
          have hwm : IntKind.i64.wrap ((M : Int) + 1 - 1) = (M : Int) := by rw [show (M : Int) + 1 - 1 = (M : Int) by omega]; exact IntWalk.i64_in _ (by omega)
          go_wp2
          go_loopw [3, 31] (fun v iv wv => ∃ (k m' : Nat) (q : Option Addr) (d : Nat), k ≤ n ∧ iv = .int .i64 k ∧ v = .slice q m' d ∧ OwnS wv w.heap.size q m' d (outTo (cnt Q (szs F)) n M ++ rndTo (cnt Q (szs F) M) (cnt Q (szs F) (M + 1)) k) ∧ Below w.heap.size w wv ∧ w.heap.size ≤ wv.heap.size) (fun _ iv _ => n - (intOf iv).toNat)
          case atStart => exact ⟨0, m, q, d, Nat.zero_le _, rfl, rfl, ho.cast (by simp [rndTo]), hb, hsz⟩
          case round =>
            clear ho hb hsz
            obtain ⟨k, m', q, d, hk, rfl, rfl, ho, hb, hsz⟩ := hrel
            by_cases hkn : k < n
            · obtain ⟨lb, lo, rfl, hlt2, hc⟩ := (hSL.below hb).cells (by omega)
              obtain ⟨c0, c1⟩ := hc k hkn
              have hsi := (hSL.below hb).si k hkn
              obtain ⟨hq, hsz2⟩ := HOK.out k hkn
              have hc0 := cnt_is HOK.out (m := M) hkn
              have hc1 := cnt_is HOK.out (m := M + 1) hkn
              have hcm := cnt_mono HOK.out (m := M) hkn
              have HR1 : Hid (rndTo (cnt Q (szs F) M) (cnt Q (szs F) (M + 1)) (k + 1) = rndTo (cnt Q (szs F) M) (cnt Q (szs F) (M + 1)) k ++ sents k (cnt Q (szs F) M k) (cnt Q (szs F) (M + 1) k)) := Lib.hid rfl
              obtain ⟨a, ha⟩ : ∃ a, cnt Q (szs F) M k = a := ⟨_, rfl⟩
              obtain ⟨b, hb'⟩ : ∃ b, cnt Q (szs F) (M + 1) k = b := ⟨_, rfl⟩
              rw [ha] at hc0 hcm HR1
              rw [hb'] at hc1 hcm HR1
              clear ha hb'
              unfold szs at hsz2 hc0 hc1
              obtain ⟨⟨pa, la, ca, xs⟩, hF⟩ : ∃ f, F k = f := ⟨_, rfl⟩
              rw [hF] at c1 hsi hsz2 hc0 hc1
              simp only at c1 hsi hsz2 hc0 hc1
              obtain ⟨qk, hqk⟩ : ∃ qk, Q k = qk := ⟨_, rfl⟩
              rw [hqk] at c0 hq hc0 hc1
              have hl60 := hsz2.1
              rw [hsi.len] at hl60
              have hbl : b ≤ la := by rw [← hsi.len]; exact hc1.1
              have HBX := Lib.hid (blk_new wr #[.int .i64 qk, .slice pa la ca] 103)
              have hbA := hb.alloc hsz (.cells #[.int .i64 qk, .slice pa la ca] 103)
              have hA := (Below.refl wr.heap.size wr).alloc (Nat.le_refl _) (.cells #[.int .i64 qk, .slice pa la ca] 103)
              have hoA := ho.alloc (.cells #[.int .i64 qk, .slice pa la ca] 103)
              have HSI := Lib.hid (hsi.below hA)
              have hltA : wr.heap.size < (wr.alloc (.cells #[.int .i64 qk, .slice pa la ca] 103)).heap.size := by simp
              have HSZ := Lib.hid hsz2; have HC0 := Lib.hid hc0; have HC1 := Lib.hid hc1
              have HFK := Lib.hid hF
              have ho0 := ho
              clear hc hF hqk hsz2 hc0 hc1 hsi ho hb hA
              obtain ⟨wo, hwo⟩ : ∃ x, x = wr := ⟨_, rfl⟩
              subst hwo
              have hoff := off_new ho0
              clear ho0
              go_wp2_with fail
              refine (ref_Count (r := M) HSI.out HSZ.out hq (by omega) rfl HC0.out).mono ?_; rintro e w2 ⟨rfl, b2⟩
              have ho2 := hoA.below b2
              have hb2 := hbA.trans (b2.mono hbA.size)
              have hs2 := hb2.size
              have k2 := blk_below HBX.out b2
              have lt2 : wo.heap.size < w2.heap.size := Nat.lt_of_lt_of_le hltA b2.size
              have BW := Lib.hid ((Below.refl wo.heap.size wo).alloc (Nat.le_refl _) (.cells #[.int .i64 qk, .slice pa la ca] 103))
              clear hoA hbA b2
              go_wp2
              go_loopw [3, 10] (fun v iv wv => ∃ (i m' : Nat) (q : Option Addr) (d : Nat), a ≤ i ∧ i ≤ b ∧ iv = .int .i64 i ∧ v = .slice q m' d ∧ OwnS wv w.heap.size q m' d (outTo (cnt Q (szs F)) n M ++ rndTo (cnt Q (szs F) M) (cnt Q (szs F) (M + 1)) k ++ sents k a i) ∧ wv.heap[wo.heap.size]? = some (.cells #[.int .i64 qk, .slice pa la ca] 103 (0, 0)) ∧ (∀ x, q = some x → x.block ≠ wo.heap.size) ∧ Below w.heap.size w wv ∧ w.heap.size ≤ wv.heap.size) (fun _ iv _ => b - (intOf iv).toNat)
              case atStart => exact ⟨a, m', q, d, Nat.le_refl _, hcm, rfl, rfl, ho2.cast (by rw [sents_self]; simp), k2, hoff, hb2, hs2⟩
              case round =>
                clear ho2 hb2 hs2 k2 hoff lt2
                obtain ⟨i, m', q, d, hai, hib, rfl, rfl, ho, k2, hoff, hb, hsz⟩ := hrel
                obtain ⟨x0, x1⟩ := (show wr.cell? ⟨wo.heap.size, 0, none⟩ = some (.int .i64 qk) ∧ wr.cell? ⟨wo.heap.size, 1, none⟩ = some (.slice pa la ca) from ⟨blk_cell k2 0, blk_cell k2 1⟩)
                have hsi := (hSL.si k hkn).below hb
                rw [HFK.out] at hsi
                simp only at hsi
                have hltw : wo.heap.size < wr.heap.size := (Array.getElem?_eq_some_iff.1 k2).1
                have hml : m' ≤ 1100 := by
                  have h1 := ho.len
                  have h2 := out_le HOK.out M
                  have h3 := rnd_len (n := k) (c0 := cnt Q (szs F) M) (c1 := cnt Q (szs F) (M + 1)) (fun j hj => cnt_mono HOK.out (by omega))
                  have h4 := smN_le (f := cnt Q (szs F) (M + 1)) (b := 60) (n := k) (fun j hj => Nat.le_trans (cnt_is HOK.out (m := M + 1) (by omega)).1 (HOK.out j (by omega)).2.1)
                  rw [HTOT.out] at h2
                  rw [List.length_append, List.length_append, sents_len _ _ _ hai] at h1
                  omega
                go_wp2_with fail
                refine (ref_Count (r := M + 1) hsi HSZ.out hq (by omega) rfl HC1.out).mono ?_; rintro e w3 ⟨rfl, b3⟩
                have ho3 := ho.below b3
                have hb3 := hb.trans (b3.mono hsz)
                have hs3 := hb3.size
                have k3 := blk_below k2 b3
                have lt3 : wo.heap.size < w3.heap.size := Nat.lt_of_lt_of_le hltw b3.size
                clear ho hb hsz k2 b3 x0 x1 hsi
                by_cases hib2 : i < b
                · go_wp2_with (at_builtin; refine wpL_push_R Try.tySents rfl (by omega) (by omega) enc2_len enc2_one rfl (B := w.heap.size) (W0 := w) (by first | rfl | simp [Act.eval]) ((k : Int), (i : Int)) (by first | rfl | simp [Act.eval]) (by first | rfl | simp [Act.eval]) ho3 hb3 (by omega) hs3 ?_; intro p' c' w4 ho4 hb4 hg4 ha4)
                  have k4 := keep_blk k3 hg4 hoff
                  have hoff4 := off_push hoff (Nat.le_of_lt lt3) ha4
                  clear ha4 hg4
                  go_wp2
                  go_roundw
                  case rel => exact ⟨i + 1, m' + 1, p', c', by omega, by omega, by go_num, rfl, ho4.cast (by rw [sents_next hai, List.append_assoc]), k4, hoff4, hb4, hb4.size⟩
                  case measure => simp [intOf]; omega
                · obtain rfl : i = b := by omega
                  go_wp2
                  go_roundw
                  case rel => exact ⟨k + 1, m', q, d, by omega, by go_num, rfl, ho3.cast (by rw [HR1.out, List.append_assoc]), hb3, hs3⟩
                  case measure => simp [intOf]; omega
            · obtain rfl : n = k := by omega
              have hml : m' ≤ tot := by rw [← ho.len]; exact HO1.out
              go_wp2
              go_roundw
              case rel => exact ⟨M + 1, m', q, d, rfl, by go_num, hml, ho, HJ2, hb, hsz, by omega⟩
              case measure => simp [intOf]; omega
        · have HLM := Lib.hid (show LastM (cnt Q (szs F)) n (allN n (szs F)) M by rw [HTOT.out]; exact ⟨HJ.out, by rw [hlen]; exact hlt⟩)
          clear hlen
          go_wp2
          go_ret
          exact ⟨M, q, m, d, HLM.out, rfl, ho, hb⟩
end Go.Proofs.Ytggpcceljipelaa
