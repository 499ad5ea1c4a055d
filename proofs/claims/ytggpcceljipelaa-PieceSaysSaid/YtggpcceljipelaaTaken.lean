/- The contracts of headref.Taken (P31) and of slices.Equal at []bool. No conditions beyond what each theorem says. -/
import Derived.Test.YtggpcceljipelaaBucketRun
import Derived.Deep.QuietTactic
import Derived.BigQuiet
import Derived.RegionTactic
import Derived.BigRegion
import Derived.WalkSmall
namespace Go.Proofs.Ytggpcceljipelaa
open Go Go.RowKit

theorem list_ext_gb {xs ys : List Bool} (hl : xs.length = ys.length) (h : ∀ j, j < xs.length → gb xs j = gb ys j) : xs = ys := by
  rw [← tab_gb xs, ← tab_gb ys, ← hl]; exact tab_congr h
theorem gb_ne_of {xs ys : List Bool} {k : Nat} (h : gb xs k ≠ gb ys k) : xs ≠ ys := fun e => h (by rw [e])
theorem eqb_of_all {xs ys : List Bool} {n : Nat} (h1 : xs.length = n) (h2 : ys.length = n) (h : ∀ j, j < n → gb xs j = gb ys j) : xs = ys :=
  list_ext_gb (by omega) (fun j hj => h j (by omega))

set_option maxHeartbeats 400000 in
theorem slices_EqualB {w : World} {p q : Option Addr} {n c m d : Nat} {xs ys : List Bool} (h : SB w p n c xs) (g : SB w q m d ys) {r : Bool} (he : decide (xs = ys) = r) :
    Calls Try.prog 56 #[.slice p n c, .slice q m d] w fun e w' => e = .returned (.bool r) ∧ Below w.heap.size w w' := by
  obtain ⟨hl, hm, hr⟩ := h
  obtain ⟨gl, gm, gr⟩ := g
  have HE := Lib.hid he; clear he
  have HL := Lib.hid hl; clear hl
  have GL := Lib.hid gl; clear gl
  by_cases h0 : n = m
  · subst h0
    go_enter Try.func56, Try.ntmps56
    go_wp2
    go_loopw [13] (fun i wr => ∃ k : Nat, k ≤ n ∧ i = .int .i64 k ∧ Below w.heap.size w wr ∧ ∀ j, j < k → gb xs j = gb ys j) (fun i _ => n - (intOf i).toNat)
    case atStart => exact ⟨0, Nat.zero_le _, rfl, Below.refl _ _, fun j hj => by omega⟩
    case round =>
      obtain ⟨k, hk, rfl, hb, H⟩ := hrel
      have HH := Lib.hid H; clear H
      by_cases hkn : k < n
      · obtain ⟨b, off, rfl, hlt, hc⟩ := hr (by omega)
        obtain ⟨b', off', rfl, hlt', hc'⟩ := gr (by omega)
        have hcell : wr.cell? ⟨b, off + k, none⟩ = some (.bool (gb xs k)) := (bdeep hb hlt _).trans (hc k hkn)
        have hcell' : wr.cell? ⟨b', off' + k, none⟩ = some (.bool (gb ys k)) := (bdeep hb hlt' _).trans (hc' k hkn)
        have HB := Lib.hid hb
        clear hc hc' hr gr hb
        by_cases heq : gb xs k = gb ys k
        · have HQ := Lib.hid heq
          rw [heq] at hcell
          clear heq
          generalize gb ys k = v at hcell hcell'
          cases v with
          | _ =>
            go_wp2
            go_quiet (fail)
            go_wp2
            go_roundw
            case rel => exact ⟨k + 1, by omega, by go_num, below_drewN HB.out _, fun j hj => by rcases Nat.lt_succ_iff_lt_or_eq.1 hj with h | rfl; exact HH.out j h; exact HQ.out⟩
            case measure => simp [intOf]; omega
        · have HQ := Lib.hid (gb_ne_of heq)
          generalize gb ys k = v at hcell' heq
          generalize gb xs k = u at hcell heq
          cases u <;> cases v <;> first
            | exact absurd rfl heq
            | (clear heq
               go_wp2
               go_quiet (fail)
               go_wp2
               go_ret
               exact ⟨ret_bool (by rw [← HE.out]; simpa using HQ.out), below_drewN HB.out _⟩)
      · have hkk : n = k := by omega
        subst hkk
        go_wp2
        go_ret
        exact ⟨ret_bool (by rw [← HE.out]; simpa using eqb_of_all HL.out GL.out HH.out), hb⟩
  · have hb : ((n : Int) == (m : Int)) = false := by simp; omega
    go_enter Try.func56, Try.ntmps56
    go_wp2
    go_ret
    exact ⟨ret_bool (by rw [← HE.out]; simp; intro e; subst e; have := HL.out; have := GL.out; omega), Below.refl _ _⟩
/-- 'append(out, v)' in a round in which the bucket's box lies in the block w.heap.size -/
theorem take_level {A S : Nat → Int} {n K : Nat} {B r f t : Int} (h : QueueA A S n) (hr : 0 ≤ r) (hf : 0 ≤ f ∧ f ≤ B) (hK : K ≤ n) (ht : nowA A K ≤ t) : 0 ≤ tickV B r (fr A S B r f K) (t - nowA A K) ∧ tickV B r (fr A S B r f K) (t - nowA A K) ≤ B := by
  have a := fr_bd h hr hf K hK
  have b := tickV_bd (d := t - nowA A K) hr (by omega) a.1 a.2
  omega
theorem place_prev {A : Nat → Int} {n t K : Nat} (hp : Place A n t 0 K) (h : t ≠ 0) : nowA A K ≤ (t : Int) - 1 := by
  unfold nowA
  split
  · omega
  · rcases hp.2.1 (K - 1) (by omega) with h | h <;> omega
/-- the level at the start of time t -/
def lvl (A S : Nat → Int) (B r f : Int) (K : Nat) (t : Nat) : Int := if t = 0 then f else tickV B r (fr A S B r f K) ((t : Int) - 1 - nowA A K)
set_option maxHeartbeats 6400000 in
theorem ref_Taken {w : World} {r B f : Int} {p : Option Addr} {n c : Nat} {xs : List (Int × Int × Int)} (h : S3 w p n c xs) (hb : okBucket r B f) (he : packErr xs = 0) :
    Calls Try.prog 57 #[aggB r B f, .slice p n c] w fun e w' => ∃ q d, e = .returned (.slice q n d) ∧ OwnB w' w.heap.size q n d (tab n (passes (t0 xs) (t1 xs) B r f)) ∧ Below w.heap.size w w' := by
  have hm := h.2.1
  obtain ⟨h60, hQ⟩ := pack_queue he h.1
  have HQ := Lib.hid hQ
  obtain ⟨k1, k2, k3, k4, k5, k6⟩ := hb
  clear hQ he
  have hba := (Below.refl w.heap.size w).alloc (Nat.le_refl _) (.cells #[.int .i64 r, .int .i64 B, .int .i64 f] 23)
  have hg0 := Lib.hid (blk_new w #[.int .i64 r, .int .i64 B, .int .i64 f] 23)
  have hsz0 : w.heap.size + 1 ≤ (w.alloc (.cells #[.int .i64 r, .int .i64 B, .int .i64 f] 23)).heap.size := by simp
  go_enter Try.func57, Try.ntmps57
  go_wp2
  go_loopw [5, 6] (fun v i wr => ∃ (t K : Nat) (q : Option Addr) (d : Nat), t ≤ 201 ∧ i = .int .i64 t ∧ Hid (Place (t0 xs) n t 0 K) ∧ (t = 0 → K = 0) ∧ v = .slice q K d ∧ OwnB wr (w.heap.size + 1) q K d (tab K (passes (t0 xs) (t1 xs) B r f)) ∧ Hid (wr.heap[w.heap.size]? = some (.cells #[.int .i64 r, .int .i64 B, .int .i64 (lvl (t0 xs) (t1 xs) B r f K t)] 23 (0, 0))) ∧ Below w.heap.size w wr ∧ w.heap.size + 1 ≤ wr.heap.size) (fun _ i _ => 201 - (intOf i).toNat)
  case atStart => exact ⟨0, 0, none, 0, by omega, rfl, Lib.hid (place_start HQ.out), fun _ => rfl, rfl, OwnB.nil _ _, hg0, hba, hsz0⟩
  case round =>
    clear hba hg0 hsz0
    obtain ⟨t, K, q, d, ht, rfl, HP, hz, rfl, ho, HG, hb, hs⟩ := hrel
    by_cases ht2 : t ≤ 200
    · have hK := HP.out.1
      have hnow := place_now HP.out (by omega)
      have hlv := take_level HQ.out k1 ⟨k5, k6⟩ hK hnow
      have hlt0 : w.heap.size < wr.heap.size := by omega
      by_cases h0 : t = 0
      · subst h0
        obtain rfl : K = 0 := hz rfl
        have HG2 := Lib.hid (show wr.heap[w.heap.size]? = some (.cells #[.int .i64 r, .int .i64 B, .int .i64 (tickV B r (fr (t0 xs) (t1 xs) B r f 0) (((0 : Nat) : Int) - nowA (t0 xs) 0))] 23 (0, 0)) by
          rw [show ((0 : Nat) : Int) - nowA (t0 xs) 0 = 0 by simp [nowA], tickV_zero (by simpa [fr] using k6)]; exact HG.out)
        go_wp2
        go_loopw [5, 27] (fun v i wr => ∃ (j K : Nat) (q : Option Addr) (d : Nat), j ≤ n ∧ i = .int .i64 j ∧ Hid (Place (t0 xs) n ((0 : Nat) : Int) j K) ∧ v = .slice q K d ∧ OwnB wr (w.heap.size + 1) q K d (tab K (passes (t0 xs) (t1 xs) B r f)) ∧ Hid (wr.heap[w.heap.size]? = some (.cells #[.int .i64 r, .int .i64 B, .int .i64 (tickV B r (fr (t0 xs) (t1 xs) B r f K) (((0 : Nat) : Int) - nowA (t0 xs) K))] 23 (0, 0))) ∧ Below w.heap.size w wr ∧ w.heap.size + 1 ≤ wr.heap.size) (fun _ i _ => n - (intOf i).toNat)
        case atStart => exact ⟨0, 0, _, _, by omega, rfl, HP, rfl, ho, HG2, hb, hs⟩
        case round =>
          clear HG hb hs ho HP hlt0 hlv hnow hK hz HG2
          obtain ⟨j, K, q, d, hj, rfl, HP, rfl, ho, HG, hb, hs⟩ := hrel
          have hK := HP.out.1
          have hnow := place_now HP.out (by omega)
          have hlv := take_level HQ.out k1 ⟨k5, k6⟩ hK hnow
          by_cases hjn : j < n
          · obtain ⟨b, off, rfl, hlt, hc⟩ := h.cells (by omega)
            have c0 : wr.cell? ⟨b, off + j * 3, none⟩ = some (.int .i64 (t0 xs j)) := (bdeep hb hlt _).trans (hc j hjn).1
            have c1 : wr.cell? ⟨b, off + j * 3 + 1, none⟩ = some (.int .i64 (t1 xs j)) := (bdeep hb hlt _).trans (hc j hjn).2.1
            have c2 : wr.cell? ⟨b, off + j * 3 + 2, none⟩ = some (.int .i64 (t2 xs j)) := (bdeep hb hlt _).trans (hc j hjn).2.2
            obtain ⟨⟨x0, x1, x2⟩, y0, y1, y2⟩ := blk3 HG.out
            have hl0 : w.heap.size < wr.heap.size := by omega
            have hne : ¬ w.heap.size = wr.heap.size := by omega
            have hne' : ¬ wr.heap.size = w.heap.size := by omega
            have hq := HQ.out.bd j hjn
            have HGA := Lib.hid (blk_alloc (o' := .cells #[.int .i64 (t0 xs j), .int .i64 (t1 xs j), .int .i64 (t2 xs j)] 64) HG.out)
            have hbA := hb.alloc hb.size (.cells #[.int .i64 (t0 xs j), .int .i64 (t1 xs j), .int .i64 (t2 xs j)] 64)
            have hoA := ho.below ((Below.refl _ wr).alloc (Nat.le_refl _) (.cells #[.int .i64 (t0 xs j), .int .i64 (t1 xs j), .int .i64 (t2 xs j)] 64))
            have hsA : (wr.alloc (.cells #[.int .i64 (t0 xs j), .int .i64 (t1 xs j), .int .i64 (t2 xs j)] 64)).heap.size = wr.heap.size + 1 := by simp
            clear hc
            by_cases hat : t0 xs j = ((0 : Nat) : Int)
            · have hpl := place_hit HQ.out HP.out hjn hat
              obtain ⟨rfl, hpl⟩ := hpl
              have HP2 := Lib.hid hpl
              have HAT : Hid (at_ (t0 xs) (t1 xs) B r f K = tickV B r (fr (t0 xs) (t1 xs) B r f K) (((0 : Nat) : Int) - nowA (t0 xs) K)) := Lib.hid (by unfold at_; rw [hat])
              have HNS := Lib.hid (show nowA (t0 xs) (K + 1) = ((0 : Nat) : Int) by rw [nowA_succ]; exact hat)
              have HFB := Lib.hid (fr_bd (r := r) (B := B) (f := f) HQ.out k1 ⟨k5, k6⟩ (K + 1) (by omega)).2
              have HT := Lib.hid (tab_succ K (passes (t0 xs) (t1 xs) B r f))
              clear hpl
              obtain ⟨lv, hlvv⟩ : ∃ lv, tickV B r (fr (t0 xs) (t1 xs) B r f K) (((0 : Nat) : Int) - nowA (t0 xs) K) = lv := ⟨_, rfl⟩
              rw [hlvv] at hlv x2
              have HLV := Lib.hid hlvv
              clear hlvv
              have hd : (t0 xs K == ((0 : Nat) : Int)) = true := by simp [hat]
              have HAT2 := Lib.hid hat
              clear hat
              by_cases hle : t1 xs K ≤ lv
              · have HPS := Lib.hid (show passes (t0 xs) (t1 xs) B r f K = true by unfold passes; rw [HAT.out, HLV.out]; simp; exact hle)
                have HF := Lib.hid (show tickV B r (fr (t0 xs) (t1 xs) B r f (K + 1)) (((0 : Nat) : Int) - nowA (t0 xs) (K + 1)) = lv - t1 xs K by
                  rw [HNS.out, Int.sub_self, tickV_zero HFB.out, fr_yes (by rw [HAT.out, HLV.out]; exact hle), HAT.out, HLV.out])
                have hG6 := blk_set (j := 2) (v := .int .i64 (lv - t1 xs K)) HG.out
                have HG7 := Lib.hid (blk_alloc (o' := .cells #[.int .i64 (t0 xs K), .int .i64 (t1 xs K), .int .i64 (t2 xs K)] 64) hG6)
                have ho6 := ho.apart (g' := w.heap.size) (j := 2) (v := .int .i64 (lv - t1 xs K)) (Nat.lt_succ_self _)
                have hb6 := hb.setCell (p := ⟨w.heap.size, 2, none⟩) (Nat.le_refl _) (.int .i64 (lv - t1 xs K))
                have ho7 := ho6.below ((Below.refl _ _).alloc (Nat.le_refl _) (.cells #[.int .i64 (t0 xs K), .int .i64 (t1 xs K), .int .i64 (t2 xs K)] 64))
                have hb7 := hb6.alloc hb6.size (.cells #[.int .i64 (t0 xs K), .int .i64 (t1 xs K), .int .i64 (t2 xs K)] 64)
                have hs7 : ((wr.setCell ⟨w.heap.size, 2, none⟩ (.int .i64 (lv - t1 xs K))).alloc (.cells #[.int .i64 (t0 xs K), .int .i64 (t1 xs K), .int .i64 (t2 xs K)] 64)).heap.size = wr.heap.size + 1 := by simp
                have HO7 := Lib.hid (ho7.notIn (g := w.heap.size) (Nat.lt_succ_self _))
                have HL7 := Lib.hid (fun g (hp : q = some ⟨g, 0, none⟩) => ho7.least hp)
                have hob := OwnB.base ho7 (Nat.le_succ w.heap.size)
                clear hG6 ho6 hb6 HGA hbA hoA hsA ho7
                go_wp2_with (at_builtin; refine wpL_push_bool Try.tyBools rfl rfl (B := w.heap.size) (W0 := w) (by first | rfl | simp [Act.eval]) (by first | rfl | simp [Act.eval]) hob hb7 (by omega) (by omega) ?_; intro p8 c8 w8 ho8 hb8 hg8 hp8)
                have HG8 := Lib.hid ((hg8.block w.heap.size (by simp; omega) (fun e => HO7.out e.symm)).trans (blk_alloc HG7.out))
                have hs8 := hg8.size
                have ho9 := ho8.up hp8 HL7.out (by omega)
                go_roundw
                case rel => exact ⟨K + 1, K + 1, _, _, by omega, by go_num, HP2, rfl, by rw [HT.out, HPS.out]; exact ho9, Lib.hid (by rw [HF.out]; exact HG8.out), hb8, by simp at hs8; omega⟩
                case measure => simp [intOf]; omega
              · have HPS := Lib.hid (show passes (t0 xs) (t1 xs) B r f K = false by unfold passes; rw [HAT.out, HLV.out]; simp; omega)
                have HF := Lib.hid (show tickV B r (fr (t0 xs) (t1 xs) B r f (K + 1)) (((0 : Nat) : Int) - nowA (t0 xs) (K + 1)) = lv by
                  rw [HNS.out, Int.sub_self, tickV_zero HFB.out, fr_no (by rw [HAT.out, HLV.out]; exact hle), HAT.out, HLV.out])
                have HO7 := Lib.hid (hoA.notIn (g := w.heap.size) (Nat.lt_succ_self _))
                have HL7 := Lib.hid (fun g (hp : q = some ⟨g, 0, none⟩) => hoA.least hp)
                have hob := OwnB.base hoA (Nat.le_succ w.heap.size)
                clear hoA
                go_wp2_with (at_builtin; refine wpL_push_bool Try.tyBools rfl rfl (B := w.heap.size) (W0 := w) (by first | rfl | simp [Act.eval]) (by first | rfl | simp [Act.eval]) hob hbA (by omega) (by omega) ?_; intro p8 c8 w8 ho8 hb8 hg8 hp8)
                have HG8 := Lib.hid ((hg8.block w.heap.size (by simp; omega) (fun e => HO7.out e.symm)).trans (blk_alloc HGA.out))
                have hs8 := hg8.size
                have ho9 := ho8.up hp8 HL7.out (by omega)
                go_roundw
                case rel => exact ⟨K + 1, K + 1, _, _, by omega, by go_num, HP2, rfl, by rw [HT.out, HPS.out]; exact ho9, Lib.hid (by rw [HF.out, ← HLV.out]; exact HG8.out), hb8, by simp at hs8; omega⟩
                case measure => simp [intOf]; omega
            · have HP2 := Lib.hid (place_miss HP.out hat)
              have hd : (t0 xs j == ((0 : Nat) : Int)) = false := by simpa using hat
              have hd2 : ¬ t0 xs j = ((0 : Nat) : Int) := hat
              have hd3 : ¬ t0 xs j = 0 := by simpa using hat
              clear hat
              go_wp2
              go_roundw
              case rel => exact ⟨j + 1, K, _, _, by omega, by go_num, HP2, rfl, hoA, HGA, hbA, by omega⟩
              case measure => simp [intOf]; omega
          · obtain rfl : n = j := by omega
            have HP2 := Lib.hid (place_next HP.out)
            go_wp2
            go_roundw
            case rel => exact ⟨0 + 1, K, _, _, by omega, by go_num, HP2, fun h => by omega, rfl, ho, Lib.hid (by unfold lvl; rw [if_neg (by omega), show ((((0 : Nat) + 1 : Nat) : Int) - 1 - nowA (t0 xs) K) = ((0 : Nat) : Int) - nowA (t0 xs) K by omega]; exact HG.out), hb, hs⟩
            case measure => first | (simp [intOf]; done) | (simp [intOf]; omega)
      · have HLS := Lib.hid (show min B (lvl (t0 xs) (t1 xs) B r f K t + r) = tickV B r (fr (t0 xs) (t1 xs) B r f K) ((t : Int) - nowA (t0 xs) K) by
          unfold lvl; rw [if_neg h0, tickV_succ k1 (by have := place_prev HP.out h0; omega)]; congr 1; omega)
        have hl1 : 0 ≤ lvl (t0 xs) (t1 xs) B r f K t ∧ lvl (t0 xs) (t1 xs) B r f K t ≤ B := by
          unfold lvl; rw [if_neg h0]
          exact take_level HQ.out k1 ⟨k5, k6⟩ hK (place_prev HP.out h0)
        obtain ⟨l1, hl1v⟩ : ∃ l1, lvl (t0 xs) (t1 xs) B r f K t = l1 := ⟨_, rfl⟩
        have HLV0 := Lib.hid hl1v
        rw [hl1v] at hl1
        have HG1 : Hid (wr.heap[w.heap.size]? = some (.cells #[.int .i64 r, .int .i64 B, .int .i64 l1] 23 (0, 0))) := Lib.hid (by rw [← hl1v]; exact HG.out)
        have HLS1 := Lib.hid (show min B (l1 + r) = tickV B r (fr (t0 xs) (t1 xs) B r f K) ((t : Int) - nowA (t0 xs) K) by rw [← hl1v]; exact HLS.out)
        clear hl1v HG HLS
        obtain ⟨⟨x0, x1, x2⟩, y0, y1, y2⟩ := blk3 HG1.out
        have h0p : 0 < t := by omega
        have hd200 : decide ((t : Int) ≤ 200) = true := by simp; omega
        by_cases hB : B ≤ l1 + r
        · have HV := Lib.hid (show B = tickV B r (fr (t0 xs) (t1 xs) B r f K) ((t : Int) - nowA (t0 xs) K) by rw [← HLS1.out]; omega)
          have HG : Hid ((wr.setCell ⟨w.heap.size, 2, none⟩ (.int .i64 B)).heap[w.heap.size]? = some (.cells #[.int .i64 r, .int .i64 B, .int .i64 (tickV B r (fr (t0 xs) (t1 xs) B r f K) ((t : Int) - nowA (t0 xs) K))] 23 (0, 0))) := Lib.hid (by rw [← HV.out]; exact blk_set (j := 2) (v := .int .i64 B) HG1.out)
          have ho' := ho.apart (g' := w.heap.size) (j := 2) (v := .int .i64 B) (Nat.lt_succ_self _)
          have hb' := hb.setCell (p := ⟨w.heap.size, 2, none⟩) (Nat.le_refl _) (.int .i64 B)
          have hs' : w.heap.size + 1 ≤ (wr.setCell ⟨w.heap.size, 2, none⟩ (.int .i64 B)).heap.size := by simp; omega
          clear HV HLS1 HLV0
          go_wp2
          go_loopw [5, 27] (fun v i wr => ∃ (j K : Nat) (q : Option Addr) (d : Nat), j ≤ n ∧ i = .int .i64 j ∧ Hid (Place (t0 xs) n ((t : Nat) : Int) j K) ∧ v = .slice q K d ∧ OwnB wr (w.heap.size + 1) q K d (tab K (passes (t0 xs) (t1 xs) B r f)) ∧ Hid (wr.heap[w.heap.size]? = some (.cells #[.int .i64 r, .int .i64 B, .int .i64 (tickV B r (fr (t0 xs) (t1 xs) B r f K) (((t : Nat) : Int) - nowA (t0 xs) K))] 23 (0, 0))) ∧ Below w.heap.size w wr ∧ w.heap.size + 1 ≤ wr.heap.size) (fun _ i _ => n - (intOf i).toNat)
          case atStart => exact ⟨0, K, _, _, by omega, rfl, HP, rfl, ho', HG, hb', hs'⟩
          case round =>
            clear HG hb hs ho HP hlt0 hlv hnow hK hz x0 x1 x2 y0 y1 y2 hB hl1 ho' hb' hs' HG1
            obtain ⟨j, K, q, d, hj, rfl, HP, rfl, ho, HG, hb, hs⟩ := hrel
            have hK := HP.out.1
            have hnow := place_now HP.out (by omega)
            have hlv := take_level HQ.out k1 ⟨k5, k6⟩ hK hnow
            by_cases hjn : j < n
            · obtain ⟨b, off, rfl, hlt, hc⟩ := h.cells (by omega)
              have c0 : wr.cell? ⟨b, off + j * 3, none⟩ = some (.int .i64 (t0 xs j)) := (bdeep hb hlt _).trans (hc j hjn).1
              have c1 : wr.cell? ⟨b, off + j * 3 + 1, none⟩ = some (.int .i64 (t1 xs j)) := (bdeep hb hlt _).trans (hc j hjn).2.1
              have c2 : wr.cell? ⟨b, off + j * 3 + 2, none⟩ = some (.int .i64 (t2 xs j)) := (bdeep hb hlt _).trans (hc j hjn).2.2
              obtain ⟨⟨x0, x1, x2⟩, y0, y1, y2⟩ := blk3 HG.out
              have hl0 : w.heap.size < wr.heap.size := by omega
              have hne : ¬ w.heap.size = wr.heap.size := by omega
              have hne' : ¬ wr.heap.size = w.heap.size := by omega
              have hq := HQ.out.bd j hjn
              have HGA := Lib.hid (blk_alloc (o' := .cells #[.int .i64 (t0 xs j), .int .i64 (t1 xs j), .int .i64 (t2 xs j)] 64) HG.out)
              have hbA := hb.alloc hb.size (.cells #[.int .i64 (t0 xs j), .int .i64 (t1 xs j), .int .i64 (t2 xs j)] 64)
              have hoA := ho.below ((Below.refl _ wr).alloc (Nat.le_refl _) (.cells #[.int .i64 (t0 xs j), .int .i64 (t1 xs j), .int .i64 (t2 xs j)] 64))
              have hsA : (wr.alloc (.cells #[.int .i64 (t0 xs j), .int .i64 (t1 xs j), .int .i64 (t2 xs j)] 64)).heap.size = wr.heap.size + 1 := by simp
              clear hc
              by_cases hat : t0 xs j = ((t : Nat) : Int)
              · have hpl := place_hit HQ.out HP.out hjn hat
                obtain ⟨rfl, hpl⟩ := hpl
                have HP2 := Lib.hid hpl
                have HAT : Hid (at_ (t0 xs) (t1 xs) B r f K = tickV B r (fr (t0 xs) (t1 xs) B r f K) (((t : Nat) : Int) - nowA (t0 xs) K)) := Lib.hid (by unfold at_; rw [hat])
                have HNS := Lib.hid (show nowA (t0 xs) (K + 1) = ((t : Nat) : Int) by rw [nowA_succ]; exact hat)
                have HFB := Lib.hid (fr_bd (r := r) (B := B) (f := f) HQ.out k1 ⟨k5, k6⟩ (K + 1) (by omega)).2
                have HT := Lib.hid (tab_succ K (passes (t0 xs) (t1 xs) B r f))
                clear hpl
                obtain ⟨lv, hlvv⟩ : ∃ lv, tickV B r (fr (t0 xs) (t1 xs) B r f K) (((t : Nat) : Int) - nowA (t0 xs) K) = lv := ⟨_, rfl⟩
                rw [hlvv] at hlv x2
                have HLV := Lib.hid hlvv
                clear hlvv
                have hd : (t0 xs K == ((t : Nat) : Int)) = true := by simp [hat]
                have HAT2 := Lib.hid hat
                clear hat
                by_cases hle : t1 xs K ≤ lv
                · have HPS := Lib.hid (show passes (t0 xs) (t1 xs) B r f K = true by unfold passes; rw [HAT.out, HLV.out]; simp; exact hle)
                  have HF := Lib.hid (show tickV B r (fr (t0 xs) (t1 xs) B r f (K + 1)) (((t : Nat) : Int) - nowA (t0 xs) (K + 1)) = lv - t1 xs K by
                    rw [HNS.out, Int.sub_self, tickV_zero HFB.out, fr_yes (by rw [HAT.out, HLV.out]; exact hle), HAT.out, HLV.out])
                  have hG6 := blk_set (j := 2) (v := .int .i64 (lv - t1 xs K)) HG.out
                  have HG7 := Lib.hid (blk_alloc (o' := .cells #[.int .i64 (t0 xs K), .int .i64 (t1 xs K), .int .i64 (t2 xs K)] 64) hG6)
                  have ho6 := ho.apart (g' := w.heap.size) (j := 2) (v := .int .i64 (lv - t1 xs K)) (Nat.lt_succ_self _)
                  have hb6 := hb.setCell (p := ⟨w.heap.size, 2, none⟩) (Nat.le_refl _) (.int .i64 (lv - t1 xs K))
                  have ho7 := ho6.below ((Below.refl _ _).alloc (Nat.le_refl _) (.cells #[.int .i64 (t0 xs K), .int .i64 (t1 xs K), .int .i64 (t2 xs K)] 64))
                  have hb7 := hb6.alloc hb6.size (.cells #[.int .i64 (t0 xs K), .int .i64 (t1 xs K), .int .i64 (t2 xs K)] 64)
                  have hs7 : ((wr.setCell ⟨w.heap.size, 2, none⟩ (.int .i64 (lv - t1 xs K))).alloc (.cells #[.int .i64 (t0 xs K), .int .i64 (t1 xs K), .int .i64 (t2 xs K)] 64)).heap.size = wr.heap.size + 1 := by simp
                  have HO7 := Lib.hid (ho7.notIn (g := w.heap.size) (Nat.lt_succ_self _))
                  have HL7 := Lib.hid (fun g (hp : q = some ⟨g, 0, none⟩) => ho7.least hp)
                  have hob := OwnB.base ho7 (Nat.le_succ w.heap.size)
                  clear hG6 ho6 hb6 HGA hbA hoA hsA ho7
                  go_wp2_with (at_builtin; refine wpL_push_bool Try.tyBools rfl rfl (B := w.heap.size) (W0 := w) (by first | rfl | simp [Act.eval]) (by first | rfl | simp [Act.eval]) hob hb7 (by omega) (by omega) ?_; intro p8 c8 w8 ho8 hb8 hg8 hp8)
                  have HG8 := Lib.hid ((hg8.block w.heap.size (by simp; omega) (fun e => HO7.out e.symm)).trans (blk_alloc HG7.out))
                  have hs8 := hg8.size
                  have ho9 := ho8.up hp8 HL7.out (by omega)
                  go_roundw
                  case rel => exact ⟨K + 1, K + 1, _, _, by omega, by go_num, HP2, rfl, by rw [HT.out, HPS.out]; exact ho9, Lib.hid (by rw [HF.out]; exact HG8.out), hb8, by simp at hs8; omega⟩
                  case measure => simp [intOf]; omega
                · have HPS := Lib.hid (show passes (t0 xs) (t1 xs) B r f K = false by unfold passes; rw [HAT.out, HLV.out]; simp; omega)
                  have HF := Lib.hid (show tickV B r (fr (t0 xs) (t1 xs) B r f (K + 1)) (((t : Nat) : Int) - nowA (t0 xs) (K + 1)) = lv by
                    rw [HNS.out, Int.sub_self, tickV_zero HFB.out, fr_no (by rw [HAT.out, HLV.out]; exact hle), HAT.out, HLV.out])
                  have HO7 := Lib.hid (hoA.notIn (g := w.heap.size) (Nat.lt_succ_self _))
                  have HL7 := Lib.hid (fun g (hp : q = some ⟨g, 0, none⟩) => hoA.least hp)
                  have hob := OwnB.base hoA (Nat.le_succ w.heap.size)
                  clear hoA
                  go_wp2_with (at_builtin; refine wpL_push_bool Try.tyBools rfl rfl (B := w.heap.size) (W0 := w) (by first | rfl | simp [Act.eval]) (by first | rfl | simp [Act.eval]) hob hbA (by omega) (by omega) ?_; intro p8 c8 w8 ho8 hb8 hg8 hp8)
                  have HG8 := Lib.hid ((hg8.block w.heap.size (by simp; omega) (fun e => HO7.out e.symm)).trans (blk_alloc HGA.out))
                  have hs8 := hg8.size
                  have ho9 := ho8.up hp8 HL7.out (by omega)
                  go_roundw
                  case rel => exact ⟨K + 1, K + 1, _, _, by omega, by go_num, HP2, rfl, by rw [HT.out, HPS.out]; exact ho9, Lib.hid (by rw [HF.out, ← HLV.out]; exact HG8.out), hb8, by simp at hs8; omega⟩
                  case measure => simp [intOf]; omega
              · have HP2 := Lib.hid (place_miss HP.out hat)
                have hd : (t0 xs j == ((t : Nat) : Int)) = false := by simpa using hat
                have hd2 : ¬ t0 xs j = ((t : Nat) : Int) := hat
                clear hat
                go_wp2
                go_roundw
                case rel => exact ⟨j + 1, K, _, _, by omega, by go_num, HP2, rfl, hoA, HGA, hbA, by omega⟩
                case measure => simp [intOf]; omega
            · obtain rfl : n = j := by omega
              have HP2 := Lib.hid (place_next HP.out)
              go_wp2
              go_roundw
              case rel => exact ⟨t + 1, K, _, _, by omega, by go_num, HP2, fun h => by omega, rfl, ho, Lib.hid (by unfold lvl; rw [if_neg (by omega), show ((((t : Nat) + 1 : Nat) : Int) - 1 - nowA (t0 xs) K) = ((t : Nat) : Int) - nowA (t0 xs) K by omega]; exact HG.out), hb, hs⟩
              case measure => first | (simp [intOf]; done) | (simp [intOf]; omega)
        · have HV := Lib.hid (show l1 + r = tickV B r (fr (t0 xs) (t1 xs) B r f K) ((t : Int) - nowA (t0 xs) K) by rw [← HLS1.out]; omega)
          have HG : Hid ((wr.setCell ⟨w.heap.size, 2, none⟩ (.int .i64 (l1 + r))).heap[w.heap.size]? = some (.cells #[.int .i64 r, .int .i64 B, .int .i64 (tickV B r (fr (t0 xs) (t1 xs) B r f K) ((t : Int) - nowA (t0 xs) K))] 23 (0, 0))) := Lib.hid (by rw [← HV.out]; exact blk_set (j := 2) (v := .int .i64 (l1 + r)) HG1.out)
          have ho' := ho.apart (g' := w.heap.size) (j := 2) (v := .int .i64 (l1 + r)) (Nat.lt_succ_self _)
          have hb' := hb.setCell (p := ⟨w.heap.size, 2, none⟩) (Nat.le_refl _) (.int .i64 (l1 + r))
          have hs' : w.heap.size + 1 ≤ (wr.setCell ⟨w.heap.size, 2, none⟩ (.int .i64 (l1 + r))).heap.size := by simp; omega
          clear HV HLS1 HLV0
          go_wp2
          go_loopw [5, 27] (fun v i wr => ∃ (j K : Nat) (q : Option Addr) (d : Nat), j ≤ n ∧ i = .int .i64 j ∧ Hid (Place (t0 xs) n ((t : Nat) : Int) j K) ∧ v = .slice q K d ∧ OwnB wr (w.heap.size + 1) q K d (tab K (passes (t0 xs) (t1 xs) B r f)) ∧ Hid (wr.heap[w.heap.size]? = some (.cells #[.int .i64 r, .int .i64 B, .int .i64 (tickV B r (fr (t0 xs) (t1 xs) B r f K) (((t : Nat) : Int) - nowA (t0 xs) K))] 23 (0, 0))) ∧ Below w.heap.size w wr ∧ w.heap.size + 1 ≤ wr.heap.size) (fun _ i _ => n - (intOf i).toNat)
          case atStart => exact ⟨0, K, _, _, by omega, rfl, HP, rfl, ho', HG, hb', hs'⟩
          case round =>
            clear HG hb hs ho HP hlt0 hlv hnow hK hz x0 x1 x2 y0 y1 y2 hB hl1 ho' hb' hs' HG1
            obtain ⟨j, K, q, d, hj, rfl, HP, rfl, ho, HG, hb, hs⟩ := hrel
            have hK := HP.out.1
            have hnow := place_now HP.out (by omega)
            have hlv := take_level HQ.out k1 ⟨k5, k6⟩ hK hnow
            by_cases hjn : j < n
            · obtain ⟨b, off, rfl, hlt, hc⟩ := h.cells (by omega)
              have c0 : wr.cell? ⟨b, off + j * 3, none⟩ = some (.int .i64 (t0 xs j)) := (bdeep hb hlt _).trans (hc j hjn).1
              have c1 : wr.cell? ⟨b, off + j * 3 + 1, none⟩ = some (.int .i64 (t1 xs j)) := (bdeep hb hlt _).trans (hc j hjn).2.1
              have c2 : wr.cell? ⟨b, off + j * 3 + 2, none⟩ = some (.int .i64 (t2 xs j)) := (bdeep hb hlt _).trans (hc j hjn).2.2
              obtain ⟨⟨x0, x1, x2⟩, y0, y1, y2⟩ := blk3 HG.out
              have hl0 : w.heap.size < wr.heap.size := by omega
              have hne : ¬ w.heap.size = wr.heap.size := by omega
              have hne' : ¬ wr.heap.size = w.heap.size := by omega
              have hq := HQ.out.bd j hjn
              have HGA := Lib.hid (blk_alloc (o' := .cells #[.int .i64 (t0 xs j), .int .i64 (t1 xs j), .int .i64 (t2 xs j)] 64) HG.out)
              have hbA := hb.alloc hb.size (.cells #[.int .i64 (t0 xs j), .int .i64 (t1 xs j), .int .i64 (t2 xs j)] 64)
              have hoA := ho.below ((Below.refl _ wr).alloc (Nat.le_refl _) (.cells #[.int .i64 (t0 xs j), .int .i64 (t1 xs j), .int .i64 (t2 xs j)] 64))
              have hsA : (wr.alloc (.cells #[.int .i64 (t0 xs j), .int .i64 (t1 xs j), .int .i64 (t2 xs j)] 64)).heap.size = wr.heap.size + 1 := by simp
              clear hc
              by_cases hat : t0 xs j = ((t : Nat) : Int)
              · have hpl := place_hit HQ.out HP.out hjn hat
                obtain ⟨rfl, hpl⟩ := hpl
                have HP2 := Lib.hid hpl
                have HAT : Hid (at_ (t0 xs) (t1 xs) B r f K = tickV B r (fr (t0 xs) (t1 xs) B r f K) (((t : Nat) : Int) - nowA (t0 xs) K)) := Lib.hid (by unfold at_; rw [hat])
                have HNS := Lib.hid (show nowA (t0 xs) (K + 1) = ((t : Nat) : Int) by rw [nowA_succ]; exact hat)
                have HFB := Lib.hid (fr_bd (r := r) (B := B) (f := f) HQ.out k1 ⟨k5, k6⟩ (K + 1) (by omega)).2
                have HT := Lib.hid (tab_succ K (passes (t0 xs) (t1 xs) B r f))
                clear hpl
                obtain ⟨lv, hlvv⟩ : ∃ lv, tickV B r (fr (t0 xs) (t1 xs) B r f K) (((t : Nat) : Int) - nowA (t0 xs) K) = lv := ⟨_, rfl⟩
                rw [hlvv] at hlv x2
                have HLV := Lib.hid hlvv
                clear hlvv
                have hd : (t0 xs K == ((t : Nat) : Int)) = true := by simp [hat]
                have HAT2 := Lib.hid hat
                clear hat
                by_cases hle : t1 xs K ≤ lv
                · have HPS := Lib.hid (show passes (t0 xs) (t1 xs) B r f K = true by unfold passes; rw [HAT.out, HLV.out]; simp; exact hle)
                  have HF := Lib.hid (show tickV B r (fr (t0 xs) (t1 xs) B r f (K + 1)) (((t : Nat) : Int) - nowA (t0 xs) (K + 1)) = lv - t1 xs K by
                    rw [HNS.out, Int.sub_self, tickV_zero HFB.out, fr_yes (by rw [HAT.out, HLV.out]; exact hle), HAT.out, HLV.out])
                  have hG6 := blk_set (j := 2) (v := .int .i64 (lv - t1 xs K)) HG.out
                  have HG7 := Lib.hid (blk_alloc (o' := .cells #[.int .i64 (t0 xs K), .int .i64 (t1 xs K), .int .i64 (t2 xs K)] 64) hG6)
                  have ho6 := ho.apart (g' := w.heap.size) (j := 2) (v := .int .i64 (lv - t1 xs K)) (Nat.lt_succ_self _)
                  have hb6 := hb.setCell (p := ⟨w.heap.size, 2, none⟩) (Nat.le_refl _) (.int .i64 (lv - t1 xs K))
                  have ho7 := ho6.below ((Below.refl _ _).alloc (Nat.le_refl _) (.cells #[.int .i64 (t0 xs K), .int .i64 (t1 xs K), .int .i64 (t2 xs K)] 64))
                  have hb7 := hb6.alloc hb6.size (.cells #[.int .i64 (t0 xs K), .int .i64 (t1 xs K), .int .i64 (t2 xs K)] 64)
                  have hs7 : ((wr.setCell ⟨w.heap.size, 2, none⟩ (.int .i64 (lv - t1 xs K))).alloc (.cells #[.int .i64 (t0 xs K), .int .i64 (t1 xs K), .int .i64 (t2 xs K)] 64)).heap.size = wr.heap.size + 1 := by simp
                  have HO7 := Lib.hid (ho7.notIn (g := w.heap.size) (Nat.lt_succ_self _))
                  have HL7 := Lib.hid (fun g (hp : q = some ⟨g, 0, none⟩) => ho7.least hp)
                  have hob := OwnB.base ho7 (Nat.le_succ w.heap.size)
                  clear hG6 ho6 hb6 HGA hbA hoA hsA ho7
                  go_wp2_with (at_builtin; refine wpL_push_bool Try.tyBools rfl rfl (B := w.heap.size) (W0 := w) (by first | rfl | simp [Act.eval]) (by first | rfl | simp [Act.eval]) hob hb7 (by omega) (by omega) ?_; intro p8 c8 w8 ho8 hb8 hg8 hp8)
                  have HG8 := Lib.hid ((hg8.block w.heap.size (by simp; omega) (fun e => HO7.out e.symm)).trans (blk_alloc HG7.out))
                  have hs8 := hg8.size
                  have ho9 := ho8.up hp8 HL7.out (by omega)
                  go_roundw
                  case rel => exact ⟨K + 1, K + 1, _, _, by omega, by go_num, HP2, rfl, by rw [HT.out, HPS.out]; exact ho9, Lib.hid (by rw [HF.out]; exact HG8.out), hb8, by simp at hs8; omega⟩
                  case measure => simp [intOf]; omega
                · have HPS := Lib.hid (show passes (t0 xs) (t1 xs) B r f K = false by unfold passes; rw [HAT.out, HLV.out]; simp; omega)
                  have HF := Lib.hid (show tickV B r (fr (t0 xs) (t1 xs) B r f (K + 1)) (((t : Nat) : Int) - nowA (t0 xs) (K + 1)) = lv by
                    rw [HNS.out, Int.sub_self, tickV_zero HFB.out, fr_no (by rw [HAT.out, HLV.out]; exact hle), HAT.out, HLV.out])
                  have HO7 := Lib.hid (hoA.notIn (g := w.heap.size) (Nat.lt_succ_self _))
                  have HL7 := Lib.hid (fun g (hp : q = some ⟨g, 0, none⟩) => hoA.least hp)
                  have hob := OwnB.base hoA (Nat.le_succ w.heap.size)
                  clear hoA
                  go_wp2_with (at_builtin; refine wpL_push_bool Try.tyBools rfl rfl (B := w.heap.size) (W0 := w) (by first | rfl | simp [Act.eval]) (by first | rfl | simp [Act.eval]) hob hbA (by omega) (by omega) ?_; intro p8 c8 w8 ho8 hb8 hg8 hp8)
                  have HG8 := Lib.hid ((hg8.block w.heap.size (by simp; omega) (fun e => HO7.out e.symm)).trans (blk_alloc HGA.out))
                  have hs8 := hg8.size
                  have ho9 := ho8.up hp8 HL7.out (by omega)
                  go_roundw
                  case rel => exact ⟨K + 1, K + 1, _, _, by omega, by go_num, HP2, rfl, by rw [HT.out, HPS.out]; exact ho9, Lib.hid (by rw [HF.out, ← HLV.out]; exact HG8.out), hb8, by simp at hs8; omega⟩
                  case measure => simp [intOf]; omega
              · have HP2 := Lib.hid (place_miss HP.out hat)
                have hd : (t0 xs j == ((t : Nat) : Int)) = false := by simpa using hat
                have hd2 : ¬ t0 xs j = ((t : Nat) : Int) := hat
                clear hat
                go_wp2
                go_roundw
                case rel => exact ⟨j + 1, K, _, _, by omega, by go_num, HP2, rfl, hoA, HGA, hbA, by omega⟩
                case measure => simp [intOf]; omega
            · obtain rfl : n = j := by omega
              have HP2 := Lib.hid (place_next HP.out)
              go_wp2
              go_roundw
              case rel => exact ⟨t + 1, K, _, _, by omega, by go_num, HP2, fun h => by omega, rfl, ho, Lib.hid (by unfold lvl; rw [if_neg (by omega), show ((((t : Nat) + 1 : Nat) : Int) - 1 - nowA (t0 xs) K) = ((t : Nat) : Int) - nowA (t0 xs) K by omega]; exact HG.out), hb, hs⟩
              case measure => first | (simp [intOf]; done) | (simp [intOf]; omega)
    · obtain rfl : t = 201 := by omega
      have hKn := place_end HQ.out HP.out
      subst hKn
      go_wp2
      go_ret
      exact ⟨_, _, rfl, OwnB.base ho (Nat.le_succ _), hb⟩
end Go.Proofs.Ytggpcceljipelaa
