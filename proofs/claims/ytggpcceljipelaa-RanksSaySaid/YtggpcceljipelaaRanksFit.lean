/- The contracts of ranks.Response, ranks.Fits and headref.Response (P48). No conditions beyond what each theorem says. -/
import Derived.Test.YtggpcceljipelaaRanks
namespace Go.Proofs.Ytggpcceljipelaa
open Go Go.RowKit

/-- i fits -/
def FitI (xs : List (Int × Int × Int)) (i : Nat) : Prop := ∃ r, RespOf (t0 xs) (t1 xs) i (t2 xs i) (some r)
theorem respR_yes {xs : List (Int × Int × Int)} {i : Nat} {r : Int} (h : RespR xs i r) (hr : ¬ t2 xs i < r) : FitI xs i ∧ RespOf (t0 xs) (t1 xs) i (t2 xs i) (some r) := by
  have := h.2.2
  rw [if_neg hr] at this
  exact ⟨⟨r, this⟩, this⟩
theorem respR_no {xs : List (Int × Int × Int)} {i : Nat} {r : Int} (h : RespR xs i r) (hr : t2 xs i < r) : ¬ FitI xs i ∧ RespOf (t0 xs) (t1 xs) i (t2 xs i) none := by
  have := h.2.2
  rw [if_pos hr] at this
  refine ⟨?_, this⟩
  rintro ⟨s, hs⟩
  have := resp_one this hs
  cases this
def allF (f : Nat → Bool) : Nat → Bool
  | 0 => true
  | k + 1 => allF f k && f k
theorem allF_true {f : Nat → Bool} : ∀ {n : Nat}, (∀ j, j < n → f j = true) → allF f n = true
  | 0, _ => rfl
  | n + 1, h => by simp only [allF]; rw [allF_true fun j hj => h j (by omega), h n (by omega)]; rfl
theorem allF_false {f : Nat → Bool} {i : Nat} : ∀ {n : Nat}, i < n → f i = false → allF f n = false
  | 0, h, _ => by omega
  | n + 1, h, hf => by
    simp only [allF]
    rcases Nat.lt_succ_iff_lt_or_eq.1 h with h' | rfl
    · rw [allF_false h' hf]; rfl
    · rw [hf]; simp
theorem fb_exists (xs : List (Int × Int × Int)) : ∃ fb : Nat → Bool, ∀ i, fb i = true ↔ FitI xs i := by
  have : ∀ i, ∃ q : Bool, q = true ↔ FitI xs i := fun i => by
    by_cases h : FitI xs i
    · exact ⟨true, by simp [h]⟩
    · exact ⟨false, by simp [h]⟩
  exact ⟨fun i => Classical.choose (this i), fun i => Classical.choose_spec (this i)⟩

set_option maxHeartbeats 1000000 in
theorem ranks_Response_bad {w : World} {p : Option Addr} {n c : Nat} {xs : List (Int × Int × Int)} {i : Int} (h : S3 w p n c xs) {er : Int} (he : tasksErr xs = er) (h0 : er ≠ 0) :
    Calls Try.prog 42 #[.slice p n c, .int .i64 i] w fun e w' => e = .returned (.tuple #[.int .i64 0, .int .i64 er]) ∧ Below w.heap.size w w' := by
  have hb : (er == 0) = false := by simp [h0]
  go_enter Try.func42, Try.ntmps42
  go_wp2_with fail
  refine (ranks_Check h he).mono ?_; rintro e w1 ⟨rfl, hb1⟩
  go_wp2
  go_ret2
  exact ⟨rfl, hb1⟩
set_option maxHeartbeats 1000000 in
theorem ranks_Response_arg {w : World} {p : Option Addr} {n c : Nat} {xs : List (Int × Int × Int)} {i : Int} (h : S3 w p n c xs) (he : tasksErr xs = 0) (hi : i < 0 ∨ (n : Int) ≤ i) :
    Calls Try.prog 42 #[.slice p n c, .int .i64 i] w fun e w' => e = .returned (.tuple #[.int .i64 0, .int .i64 1]) ∧ Below w.heap.size w w' := by
  have hm := h.2.1
  rcases (show i < 0 ∨ (0 ≤ i ∧ (n : Int) ≤ i) by omega) with h1 | ⟨h1, h2⟩
  all_goals
    clear hi
    go_enter Try.func42, Try.ntmps42
    go_wp2_with fail
    refine (ranks_Check h he).mono ?_; rintro e w1 ⟨rfl, hb1⟩
    go_wp2
    go_ret2
    exact ⟨rfl, hb1⟩

/-- what Response answers -/
def RespA (xs : List (Int × Int × Int)) (i : Nat) (v e : Int) : Prop := (RespOf (t0 xs) (t1 xs) i (t2 xs i) none ∧ v = 0 ∧ e = 8) ∨ (RespOf (t0 xs) (t1 xs) i (t2 xs i) (some v) ∧ e = 0)
def RetRA (w : World) (xs : List (Int × Int × Int)) (i : Nat) (e : Ending) (w' : World) : Prop := ∃ v er : Int, e = .returned (.tuple #[.int .i64 v, .int .i64 er]) ∧ RespA xs i v er ∧ Below w.heap.size w w'

set_option maxHeartbeats 1000000 in
theorem ranks_Response_ok {w : World} {p : Option Addr} {n c i : Nat} {xs : List (Int × Int × Int)} (h : S3 w p n c xs) (he : tasksErr xs = 0) (hi : i < n) :
    Calls Try.prog 42 #[.slice p n c, .int .i64 i] w (RetRA w xs i) := by
  have hm := h.2.1
  have hl := h.1
  obtain ⟨h5, hok⟩ := tasks_ok he
  have hok' : ∀ j, j < n → okTask (t0 xs j) (t1 xs j) (t2 xs j) := by rw [← hl]; exact hok
  rw [hl] at h5
  have HE := Lib.hid he; have HOK := Lib.hid hok'
  clear he hok hok' hl
  have d1 : ¬ (n : Int) ≤ (i : Int) := by omega
  have d2 : decide ((n : Int) ≤ (i : Int)) = false := by simp; omega
  have d3 : decide (n ≤ i) = false := by simp; omega
  go_enter Try.func42, Try.ntmps42
  go_wp2_with fail
  refine (ranks_Check h HE.out).mono ?_; rintro e w1 ⟨rfl, hb1⟩
  go_wp2_with fail
  refine (ranks_response (h.below hb1) HOK.out (by omega) hi).mono ?_; rintro e w2 ⟨r, rfl, hR, hb2⟩
  have hb12 := hb1.trans (hb2.mono hb1.size)
  have h2 := h.below hb12
  obtain ⟨b, off, rfl, hlt, hc⟩ := h2.cells (by omega)
  have c2 := (hc i hi).2.2
  clear hc h h2
  by_cases hr : t2 xs i < r
  · have HA : Hid (RespA xs i 0 8) := Lib.hid (.inl ⟨(respR_no hR hr).2, rfl, rfl⟩)
    clear hR
    go_wp2
    go_ret2
    exact ⟨_, _, rfl, HA.out, hb12⟩
  · have HA : Hid (RespA xs i r 0) := Lib.hid (.inr ⟨(respR_yes hR hr).2, rfl⟩)
    clear hR
    go_wp2
    go_ret2
    exact ⟨_, _, rfl, HA.out, hb12⟩

set_option maxHeartbeats 1000000 in
theorem ranks_Fits_bad {w : World} {p : Option Addr} {n c : Nat} {xs : List (Int × Int × Int)} (h : S3 w p n c xs) {er : Int} (he : tasksErr xs = er) (h0 : er ≠ 0) :
    Calls Try.prog 43 #[.slice p n c] w fun e w' => e = .returned (.tuple #[.bool false, .int .i64 er]) ∧ Below w.heap.size w w' := by
  have hb : (er == 0) = false := by simp [h0]
  go_enter Try.func43, Try.ntmps43
  go_wp2_with fail
  refine (ranks_Check h he).mono ?_; rintro e w1 ⟨rfl, hb1⟩
  go_wp2
  go_ret2
  exact ⟨rfl, hb1⟩

set_option maxHeartbeats 2000000 in
theorem ranks_Fits_ok {w : World} {p : Option Addr} {n c : Nat} {xs : List (Int × Int × Int)} (h : S3 w p n c xs) (he : tasksErr xs = 0) {fb : Nat → Bool} (hfb : ∀ i, fb i = true ↔ FitI xs i) :
    Calls Try.prog 43 #[.slice p n c] w fun e w' => e = .returned (.tuple #[.bool (allF fb n), .int .i64 0]) ∧ Below w.heap.size w w' := by
  have hm := h.2.1
  have hl := h.1
  obtain ⟨h5, hok⟩ := tasks_ok he
  have hok' : ∀ j, j < n → okTask (t0 xs j) (t1 xs j) (t2 xs j) := by rw [← hl]; exact hok
  rw [hl] at h5
  have HE := Lib.hid he; have HOK := Lib.hid hok'; have HFB := Lib.hid hfb
  clear he hok hok' hl hfb
  go_enter Try.func43, Try.ntmps43
  go_wp2_with fail
  refine (ranks_Check h HE.out).mono ?_; rintro e w1 ⟨rfl, hb1⟩
  have h1 := h.below hb1
  clear h
  go_wp2
  go_loopw [13] (fun i wr => ∃ k : Nat, k ≤ n ∧ i = .int .i64 k ∧ Hid (∀ j, j < k → fb j = true) ∧ Below w1.heap.size w1 wr) (fun i _ => n - (intOf i).toNat)
  case atStart => exact ⟨0, by omega, rfl, Lib.hid (fun j hj => by omega), Below.refl _ _⟩
  case round =>
    obtain ⟨k, hk, rfl, H, hb⟩ := hrel
    by_cases hkn : k < n
    · have hk1 := h1.below hb
      obtain ⟨b, off, rfl, hlt, hc⟩ := hk1.cells (by omega)
      have c2 := (hc k hkn).2.2
      have HK1 := Lib.hid hk1
      have HBB := Lib.hid (hb1.trans (hb.mono hb1.size))
      have HB0 := Lib.hid hb
      clear hc hk1 h1 hb
      go_wp2
      go_region_law (go_simp; refine (ranks_response (w := _) (by first | exact HK1.out | exact S3.below HK1.out (Below.drew (Below.refl _ _))) HOK.out (by omega) hkn).mono ?_; rintro e w2 ⟨r, rfl, hR, hb2⟩; have c2' : w2.cell? ⟨b, off + k * 3 + 2, none⟩ = some (.int .i64 (t2 xs k)) := (bdeep hb2 (by exact hlt) _).trans (by exact c2); have HR := Lib.hid hR; clear hR)
      all_goals
        have hb3 := (Below.drew HB0.out).trans (hb2.mono HB0.out.size)
        have hb4 := hb1.trans (hb3.mono hb1.size)
        clear hb2
        by_cases hr : t2 xs k < r
        · have hno : ¬ FitI xs k := (respR_no HR.out hr).1
          have hfk : fb k = false := by
            cases hq : fb k with
            | false => rfl
            | true => exact absurd ((HFB.out k).1 hq) hno
          have HFK := Lib.hid (allF_false hkn hfk)
          clear hno hfk
          go_wp2
          go_ret2
          exact ⟨ret2_bool HFK.out.symm, hb4⟩
        · have HY := Lib.hid ((HFB.out k).2 (respR_yes HR.out hr).1)
          go_wp2
          go_roundw
          case rel => exact ⟨k + 1, by omega, by go_num, Lib.hid (fun j hj => by rcases Nat.lt_succ_iff_lt_or_eq.1 hj with h | rfl; exact H.out j h; exact HY.out), hb3⟩
          case measure => simp [intOf]; omega
    · obtain rfl : n = k := by omega
      have hb2 := hb1.trans (hb.mono hb1.size)
      go_wp2
      go_ret2
      exact ⟨ret2_bool (allF_true H.out).symm, hb2⟩

/-- the reference's answer: the response, or -1 -/
def RetRef (w : World) (xs : List (Int × Int × Int)) (i : Nat) (e : Ending) (w' : World) : Prop := ∃ r : Int, e = .returned (.int .i64 r) ∧ ((r = -1 ∧ RespOf (t0 xs) (t1 xs) i (t2 xs i) none) ∨ RespOf (t0 xs) (t1 xs) i (t2 xs i) (some r)) ∧ Below w.heap.size w w'

set_option maxHeartbeats 2000000 in
theorem ref_Response {w : World} {p : Option Addr} {n c i : Nat} {xs : List (Int × Int × Int)} (h : S3 w p n c xs) (hok : ∀ j, j < n → okTask (t0 xs j) (t1 xs j) (t2 xs j)) (hn : n ≤ 5) (hi : i < n) :
    Calls Try.prog 46 #[.slice p n c, .int .i64 i] w (RetRef w xs i) := by
  have hm := h.2.1
  obtain ⟨b, off, rfl, hlt, hc⟩ := h.cells (by omega)
  have HC := Lib.hid hc; clear hc h
  have HOK := Lib.hid hok
  have HP := Lib.hid (okT_pos hok hi)
  have HBD := Lib.hid (okT_bd hok hi)
  have hti := hok i hi
  clear hok
  unfold okTask at hti
  go_enter Try.func46, Try.ntmps46
  go_wp2
  go_loopw [5] (fun v wr => ∃ r : Nat, v = .int .i64 ((r : Int) + 1) ∧ r ≤ 60 ∧ Hid (∀ s : Int, 1 ≤ s → s < (r : Int) + 1 → ask (t0 xs) (t1 xs) i s ≠ s) ∧ Below w.heap.size w wr) (fun v _ => (t2 xs i + 1 - intOf v).toNat)
  case atStart => exact ⟨0, rfl, by omega, Lib.hid (fun s h1 h2 => by omega), Below.refl _ _⟩
  case round =>
    obtain ⟨r, rfl, hr60, HB, hb⟩ := hrel
    have d1 := (bdeep hb hlt _).trans (HC.out i hi).2.1
    have d2 := (bdeep hb hlt _).trans (HC.out i hi).2.2
    have hr1 : 1 ≤ (r : Int) + 1 := by omega
    by_cases hle : (r : Int) + 1 ≤ t2 xs i
    · have hq0 : (i : Int) ≤ (n : Int) := by omega
      go_wp2
      go_loopw [6, 28] (fun v j wr => ∃ u : Nat, u ≤ i ∧ j = .int .i64 u ∧ v = .int .i64 (t1 xs i + sumT (fun k => upD ((r : Int) + 1) (t0 xs k) * t1 xs k) u) ∧ Below w.heap.size w wr) (fun _ j _ => i - (intOf j).toNat)
      case atStart => exact ⟨0, by omega, rfl, by simp [sumT], hb⟩
      case round =>
        clear hb d1 d2
        obtain ⟨u, hu, rfl, rfl, hb⟩ := hrel
        have hsz := hb.size
        have hsb := ask_bd HBD.out hr1 (by omega) u hu
        by_cases hui : u < i
        · have hlr : b < wr.heap.size := by omega
          have e0 : wr.cell? ⟨b, off + u * 3, none⟩ = some (.int .i64 (t0 xs u)) := (bdeep hb hlt _).trans (HC.out u (by omega)).1
          have e1 : wr.cell? ⟨b, off + u * 3 + 1, none⟩ = some (.int .i64 (t1 xs u)) := (bdeep hb hlt _).trans (HC.out u (by omega)).2.1
          have e2 : wr.cell? ⟨b, off + u * 3 + 2, none⟩ = some (.int .i64 (t2 xs u)) := (bdeep hb hlt _).trans (HC.out u (by omega)).2.2
          have HBn := Lib.hid ((hb.alloc hsz (.cells #[.int .i64 (t0 xs u), .int .i64 (t1 xs u), .int .i64 (t2 xs u)] 71)))
          have htu := HOK.out u (by omega)
          unfold okTask at htu
          have htb := askt_bd HBD.out hr1 (by omega) u hui
          have hud := upD_bd (r := (r : Int) + 1) (p := t0 xs u) (by omega) hr1
          have HS := Lib.hid (sumT_succ (fun k => upD ((r : Int) + 1) (t0 xs k) * t1 xs k) u)
          have hup := upD_ref (r := (r : Int) + 1) (p := t0 xs u) (by omega) (by omega)
          have hp0 : (t0 xs u == 0) = false := by simp; omega
          have hdq : 0 ≤ ((r : Int) + 1) / t0 xs u := Int.ediv_nonneg (by omega) (by omega)
          have hdq2 : ((r : Int) + 1) / t0 xs u ≤ (r : Int) + 1 := Int.ediv_le_self _ (by omega)
          have hdm := Int.ediv_mul_add_emod ((r : Int) + 1) (t0 xs u)
          have hdm0 := Int.emod_nonneg ((r : Int) + 1) (show t0 xs u ≠ 0 by omega)
          have hdm1 : ((r : Int) + 1) / t0 xs u * t0 xs u ≤ (r : Int) + 1 := by omega
          have hdm2 : 0 ≤ ((r : Int) + 1) / t0 xs u * t0 xs u := Int.mul_nonneg hdq (by omega)
          clear hdm hdm0
          generalize sumT (fun k => upD ((r : Int) + 1) (t0 xs k) * t1 xs k) u = su at *
          by_cases hlt3 : ((r : Int) + 1) / t0 xs u * t0 xs u < (r : Int) + 1
          · rw [if_pos hlt3] at hup
            rw [← hup] at htb hud
            have HU := Lib.hid hup
            clear hup hb
            go_wp2
            go_roundw
            case rel => exact ⟨u + 1, by omega, by go_num, by rw [HS.out, ← HU.out, Int.add_assoc], HBn.out⟩
            case measure => simp [intOf]; omega
          · rw [if_neg hlt3] at hup
            rw [← hup] at htb hud
            have HU := Lib.hid hup
            clear hup hb
            go_wp2
            go_roundw
            case rel => exact ⟨u + 1, by omega, by go_num, by rw [HS.out, ← HU.out, Int.add_assoc], HBn.out⟩
            case measure => simp [intOf]; omega
        · obtain rfl : i = u := by omega
          have HA := Lib.hid (show ask (t0 xs) (t1 xs) i ((r : Int) + 1) = t1 xs i + sumT (fun k => upD ((r : Int) + 1) (t0 xs k) * t1 xs k) i from rfl)
          generalize sumT (fun k => upD ((r : Int) + 1) (t0 xs k) * t1 xs k) i = su at *
          by_cases heq : t1 xs i + su = (r : Int) + 1
          · have hz : ((t1 xs i + su) == (r : Int) + 1) = true := by simp [heq]
            have HR : Hid (RespOf (t0 xs) (t1 xs) i (t2 xs i) (some ((r : Int) + 1))) := Lib.hid ⟨by omega, hle, by rw [HA.out]; exact heq, HB.out⟩
            clear heq
            go_wp2
            go_ret
            exact ⟨_, rfl, .inr HR.out, hb⟩
          · have hz : ((t1 xs i + su) == (r : Int) + 1) = false := by simp [heq]
            have HN : Hid (∀ s : Int, 1 ≤ s → s < ((r + 1 : Nat) : Int) + 1 → ask (t0 xs) (t1 xs) i s ≠ s) := Lib.hid (fun s h1 h2 => by
              by_cases e : s = (r : Int) + 1
              · subst e; rw [HA.out]; exact heq
              · exact HB.out s h1 (by omega))
            have hr61 : r + 1 ≤ 60 := by omega
            clear heq
            go_wp2
            go_roundw
            case rel => exact ⟨r + 1, by go_num, by omega, HN, hb⟩
            case measure => simp [intOf]; omega
    · have HR : Hid (RespOf (t0 xs) (t1 xs) i (t2 xs i) none) := Lib.hid (fun s h1 h2 => HB.out s h1 (by omega))
      go_wp2
      go_ret
      exact ⟨_, rfl, .inl ⟨rfl, HR.out⟩, hb⟩
end Go.Proofs.Ytggpcceljipelaa
