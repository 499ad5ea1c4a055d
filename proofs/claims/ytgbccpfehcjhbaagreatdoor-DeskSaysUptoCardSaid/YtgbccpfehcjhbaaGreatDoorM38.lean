/- The reference's Delay. No conditions. -/
import Derived.RegionTactic
import Derived.BigRegion
import Derived.Deep.RegionLaw
import Derived.Test.YtgbccpfehcjhbaaGreatDoorM12
import Derived.Test.YtgbccpfehcjhbaaGreatDoorM08
import Derived.Deep.QuietTactic
import Derived.BigQuiet
import Derived.Test.YtgbccpfehcjhbaaGreatDoorM09
import Derived.Test.YtgbccpfehcjhbaaGreatDoorM33
namespace Go.Proofs.YtgbccpfehcjhbaaGreatDoor
open Go Go.RowKit
set_option linter.unusedVariables false

theorem ref_Le {w : World} {p q : Option Addr} {n c m d : Nat} {xs ys : List Int} (h : SI w p n c xs) (g : SI w q m d ys) (hnm : n ≤ m) {r : Bool} (hr : r = true ↔ LeN n xs ys) :
    Calls Tryz.prog 121 #[.slice p n c, .slice q m d] w fun e w' => e = .returned (.bool r) ∧ ∃ k, w' = w.drewN k := by
  have hm := h.2.1
  have gm := g.2.1
  have HR := Lib.hid hr; clear hr
  go_enter Tryz.func121, Tryz.ntmps121
  go_wp2
  go_loopw [8] (fun i wr => ∃ k : Nat, k ≤ n ∧ i = .int .i64 k ∧ (∃ s, wr = w.drewN s) ∧ Hid (LeN k xs ys)) (fun i _ => n - (intOf i).toNat)
  case atStart => exact ⟨0, Nat.zero_le _, rfl, ⟨0, rfl⟩, Lib.hid fun j hj => by omega⟩
  case round =>
    obtain ⟨k, hk, rfl, ⟨s, rfl⟩, H⟩ := hrel
    by_cases hkn : k < n
    · obtain ⟨b, off, rfl, hlt, hc⟩ := h.cells (by omega)
      obtain ⟨b', off', rfl, hlt', hc'⟩ := g.cells (by omega)
      have c1 := hc k hkn
      have c2 := hc' k (by omega)
      clear hc hc' h g
      by_cases hle : gi xs k ≤ gi ys k
      · have hd : decide (gi ys k < gi xs k) = false := by simp; omega
        go_wp2
        go_quiet (fail)
        go_wp2
        go_roundw
        case rel => exact ⟨k + 1, by omega, by go_num, ⟨_, rfl⟩, Lib.hid fun j hj => by rcases Nat.lt_succ_iff_lt_or_eq.1 hj with h | rfl; exact H.out j h; exact hle⟩
        case measure => simp [intOf]; omega
      · have hd : decide (gi ys k < gi xs k) = true := by simp; omega
        go_wp2
        go_quiet (fail)
        go_wp2
        go_ret
        refine ⟨ret_bool ?_, s + nq, by simp⟩
        cases r with
        | false => rfl
        | true => exact absurd (HR.out.1 rfl k hkn) (by omega)
    · obtain rfl : n = k := by omega
      go_wp2
      go_ret
      exact ⟨ret_bool (HR.out.2 H.out).symm, _, rfl⟩

set_option maxHeartbeats 1000000 in
theorem ref_Delay {w : World} {p q : Option Addr} {n c d k : Nat} {xs ys : List Int} (h : SI w p n c xs) (g : SI w q n d ys) (hk : DelayOf n xs ys k) :
    Calls Tryz.prog 87 #[.slice p n c, .slice q n d] w fun e w' => e = .returned (.int .i64 (if k < n then (k : Int) else -1)) ∧ Below w.heap.size w w' := by
  have hm := h.2.1
  have gm := g.2.1
  obtain ⟨hk0, hk1, hk2⟩ := hk
  have HK1 := Lib.hid hk1; have HK2 := Lib.hid hk2
  clear hk1 hk2
  go_enter Tryz.func87, Tryz.ntmps87
  go_wp2
  go_loopw [8] (fun i wr => ∃ j : Nat, j ≤ k ∧ i = .int .i64 j ∧ ∃ s, wr = w.drewN s) (fun i _ => n - (intOf i).toNat)
  case atStart => exact ⟨0, Nat.zero_le _, rfl, 0, rfl⟩
  case round =>
    obtain ⟨j, hj, rfl, s, rfl⟩ := hrel
    by_cases hjn : j < n
    · obtain ⟨b, off, rfl, _, _⟩ := h.cells (by omega)
      obtain ⟨b', off', rfl, _, _⟩ := g.cells (by omega)
      have hcj : ¬ d = j := by omega
      have hw : IntKind.i64.wrap ((n : Int) - (j : Int)) = ((n - j : Nat) : Int) := by rw [IntWalk.i64_in _ (by omega)]; omega
      have hcc : ((n - j : Nat) : Int) ≤ (c : Int) := by omega
      have hj0 : (0 : Int) ≤ (j : Int) := by omega
      have hj1 : (0 : Int) ≤ ((n - j : Nat) : Int) := by omega
      have ht := h.take (k := n - j) (by omega)
      have hdr := g.drop (k := j) (by omega)
      have hjn' : (j : Int) ≤ (n : Int) := by omega
      by_cases hjk : j < k
      · have hb : Hid (false = true ↔ LeN (n - j) (xs.take (n - j)) (ys.drop j)) := Lib.hid (by rw [leN_by (by omega)]; simp [HK1.out j hjk])
        go_wp2
        go_region_law (go_simp; go_at_call 121; refine (ref_Le (r := false) (by exact ht) (by exact hdr) (Nat.le_refl _) hb.out).mono ?_; rintro e w' ⟨rfl, nq, rfl⟩)
        go_wp2
        go_roundw
        case rel => exact ⟨j + 1, by omega, by go_num, _, rfl⟩
        case measure => simp [intOf]; omega
      · obtain rfl : j = k := by omega
        have hb : Hid (LeN (n - j) (xs.take (n - j)) (ys.drop j)) := Lib.hid (by rw [leN_by (by omega)]; exact HK2.out hjn)
        go_wp2
        go_region_law (go_simp; go_at_call 121; refine (ref_Le (r := true) (by exact ht) (by exact hdr) (Nat.le_refl _) ⟨fun _ => hb.out, fun _ => rfl⟩).mono ?_; rintro e w' ⟨rfl, nq, rfl⟩)
        go_wp2
        go_ret
        exact ⟨by first | rfl | simp [hjn], below_drewN (Below.refl _ _) _⟩
    · obtain rfl : n = j := by omega
      obtain rfl : n = k := by omega
      go_wp2
      go_ret
      exact ⟨by first | rfl | simp, below_drewN (Below.refl _ _) _⟩
end Go.Proofs.YtgbccpfehcjhbaaGreatDoor

/- The contract of headref.Zip, over a function of two numbers that only reckons. Conditions: what that function answers. -/
namespace Go.Proofs.YtgbccpfehcjhbaaGreatDoor
open Go Go.RowKit

set_option maxHeartbeats 1000000 in
set_option maxRecDepth 100000 in
theorem ref_Zip {w : World} {p q : Option Addr} {n c d : Nat} {xs ys : List Int} (h : SI w p n c xs) (g : SI w q n d ys) (hn : n ≤ 1000) {F : Nat} {op : Int → Int → Int}
    (hF : ∀ (args : Array Value) (w : World), (callFunc F args).run Tryz.prog w = .ok (.enter F args) w)
    (hcall : ∀ (k : Nat) (w' : World), k < n → Calls Tryz.prog F #[.int .i64 (gi xs k), .int .i64 (gi ys k)] w' fun e w'' => e = .returned (.int .i64 (op (gi xs k) (gi ys k))) ∧ w' = w'') :
    Calls Tryz.prog 85 #[.slice p n c, .slice q n d, .func (.func F) #[] #[]] w (RetS w (tab n fun k => op (gi xs k) (gi ys k))) := by
  have hm := h.2.1
  have gm := g.2.1
  have HC := Lib.hid hcall; clear hcall
  go_enter Tryz.func85, Tryz.ntmps85
  go_wp2
  go_loopw [7, 11] (fun v i wr => ∃ (k : Nat) (p' : Option Addr) (c' : Nat), k ≤ n ∧ i = .int .i64 k ∧ v = .slice p' k c' ∧ OwnI wr w.heap.size p' k c' (tab k fun k => op (gi xs k) (gi ys k)) ∧ Below w.heap.size w wr) (fun _ i _ => n - (intOf i).toNat)
  case atStart => exact ⟨0, _, _, by omega, rfl, rfl, OwnI.nil _ _, Below.refl _ _⟩
  case round =>
    obtain ⟨k, p', c', hk, rfl, rfl, ho, hb⟩ := hrel
    have hsz := hb.size
    by_cases hkn : k < n
    · obtain ⟨b, off, rfl, hlt, hc⟩ := h.cells (by omega)
      obtain ⟨b', off', rfl, hlt', hc'⟩ := g.cells (by omega)
      have c1 : wr.cell? ⟨b, off + k, none⟩ = some (.int .i64 (gi xs k)) := (bdeep hb hlt _).trans (hc _ hkn)
      have c2 : wr.cell? ⟨b', off' + k, none⟩ = some (.int .i64 (gi ys k)) := (bdeep hb hlt' _).trans (hc' _ hkn)
      have HK := HC.out k
      have hcl : Hid (∀ w', Calls Tryz.prog F #[.int .i64 (gi xs k), .int .i64 (gi ys k)] w' fun e w'' => e = .returned (.int .i64 (op (gi xs k) (gi ys k))) ∧ w' = w'') := Lib.hid fun w' => HK w' hkn
      clear hc hc' h g HC HK
      go_wp2
      go_region_law (first | (refine step_push_int Tryz.tyInts rfl rfl (B := w.heap.size) (W0 := w) rfl rfl (by exact ho.1.alloc _) (by exact (hb.alloc hsz _).drew) (by exact blk_new _ _ _) (by omega) (by simp; omega) ?_; intro p2 c2 w2 ho2 hb2) | (go_simp; refine (hcl.out _).mono ?_; rintro e w' ⟨rfl, rfl⟩))
      all_goals
        go_wp2
        go_roundw
        case rel => exact ⟨k + 1, _, _, by omega, by go_num, rfl, by rw [tab_succ]; exact ho2, hb2⟩
        case measure => simp [intOf]; omega
    · obtain rfl : n = k := by omega
      go_wp2
      go_ret
      exact ⟨_, _, _, rfl, ho, hb⟩
end Go.Proofs.YtgbccpfehcjhbaaGreatDoor

/- The reference's answers to lines of curves (P77). Conditions: what each theorem says. -/
namespace Go.Proofs.YtgbccpfehcjhbaaGreatDoor
open Go Go.RowKit
set_option linter.unusedVariables false
set_option linter.unusedSimpArgs false

theorem curve_Max {xs : List Int} (h : 0 < xs.length) : ∃ m, (∀ j, j < xs.length → gi xs j ≤ m) ∧ ∃ j, j < xs.length ∧ gi xs j = m := max_exists xs _ h
theorem reckon1 {w : World} {a b : Int} (ha : -1000000000 ≤ a ∧ a ≤ 1000000000) (hb : -1000000000 ≤ b ∧ b ≤ 1000000000) :
    Calls Tryz.prog 86 #[.int .i64 a, .int .i64 b] w fun e w' => e = .returned (.int .i64 (a - b)) ∧ w = w' := by
  go_enter Tryz.func86, Tryz.ntmps86
  go_wp2
  go_ret
  exact ⟨by first | rfl | (rw [show IntKind.i64.wrap (a - b) = a - b from IntWalk.i64_in _ (by omega)]; rfl), rfl⟩
theorem mxf_max {f : Nat → Int} {m : Int} : ∀ {n : Nat}, (∀ j, j < n → f j ≤ m) → (∃ j, j < n ∧ f j = m) → mxf 0 f n = max 0 m := by
  intro n h1 h2
  have a : mxf 0 f n ≤ max 0 m := mxf_le (by omega) (fun u hu => by have := h1 u hu; omega)
  obtain ⟨j, hj, rfl⟩ := h2
  have b := (mxf_ge (s := 0) (e := f) (m := n))
  have c := b.2 j hj
  have d := b.1
  omega
theorem back_max {xs ys : List Int} {n : Nat} {m : Int} (hn : xs.length = n) (h1 : ∀ j, j < n → gi (tab n fun k => gi xs k - gi ys k) j ≤ m) (h2 : ∃ j, j < n ∧ gi (tab n fun k => gi xs k - gi ys k) j = m) : max 0 m = backV xs ys := by
  unfold backV
  rw [hn]
  refine (mxf_max (fun j hj => ?_) ?_).symm
  · have := h1 j hj
    rw [gi_tab hj] at this
    exact this
  · obtain ⟨j, hj, e⟩ := h2
    rw [gi_tab hj] at e
    exact ⟨j, hj, e⟩
set_option maxRecDepth 100000 in
set_option maxHeartbeats 3200000 in
theorem reckon_conv {w : World} {b n0 d0 n1 d1 cl : Nat} {p0 p1 : Option Addr} {N : Value} {xs ys : List Int} (c0 : w.cell? ⟨b, 0, none⟩ = some (.slice p0 n0 d0)) (c1 : w.cell? ⟨b, 1, none⟩ = some (.slice p1 n1 d1)) (s0 : SI w p0 n0 d0 xs) (s1 : SI w p1 n1 d1 ys) :
    Calls Tryz.prog 46 #[.string ⟨#[99, 111, 110, 118]⟩, .slice (some ⟨b, 0, none⟩) 2 cl, N] w (TextPost w (textOf (fitOut (bothErr xs ys) (convL xs ys)))) := by
  have S0 := Lib.hid s0; have S1 := Lib.hid s1
  obtain ⟨er, he⟩ : ∃ er, curveErr xs = er := ⟨_, rfl⟩
  have HEC := Lib.hid he
  have HC0 := Lib.hid (ref_Curve s0 he)
  have hcb := curveErr_bd xs
  rw [he] at hcb
  by_cases h0 : er = 0
  · subst h0
    obtain ⟨e2, he2⟩ : ∃ e2, bothErr xs ys = e2 := ⟨_, rfl⟩
    have hbb := bothErr_bd xs ys
    rw [he2] at hbb
    by_cases h2 : e2 = 0
    · subst h2
      have HB := Lib.hid he2
      obtain ⟨k1, k2, k3⟩ := bothErr_ok he2
      obtain rfl : n1 = n0 := by rw [← s0.len, ← s1.len]; exact k3.symm
      have CX := Lib.hid (curve_of k1 s0.len); have CY := Lib.hid (curve_of k2 s1.len)
      clear s0 s1 he he2 k1 k2 k3
      go_enter Tryz.func46, Tryz.ntmps46
      go_wp2_with fail
      refine HC0.out.mono ?_; rintro e w' ⟨rfl, rfl⟩
      go_wp2
      go_quiet (fail)

      go_wp2_with fail
      refine (ref_Curves (S0.out.below (below_drewN (Below.refl _ _) _)) (S1.out.below (below_drewN (Below.refl _ _) _)) HB.out).mono ?_; rintro e w' ⟨rfl, rfl⟩
      have S0D := Lib.hid (S0.out.below (below_drewN (Below.refl _ w) nq)); have S1D := Lib.hid (S1.out.below (below_drewN (Below.refl _ w) nq))
      go_wp2_with fail
      refine (ref_Conv S0D.out S1D.out CX.out.pos (by have := CX.out.le; omega) (M := 1000000) (by omega) CX.out.bd CY.out.bd).mono ?_
      rintro e w1 ⟨p', n', c', rfl, ho, b1⟩
      have HT := Lib.hid (ref_told ho.si (fun hf => told0_conv HB.out hf))
      clear ho
      go_wp2_with fail
      refine HT.out.mono ?_; rintro e w2 ⟨rfl, rfl⟩
      go_wp2
      go_ret
      exact ⟨by rw [HB.out]; rfl, (below_drewN (Below.refl _ _) _).trans b1⟩
    · have HE2 := Lib.hid he2
      clear s0 s1 he he2
      go_enter Tryz.func46, Tryz.ntmps46
      go_wp2_with fail
      refine HC0.out.mono ?_; rintro e w' ⟨rfl, rfl⟩
      go_wp2
      go_quiet (fail)
      go_wp2_with fail
      refine (ref_Curves (S0.out.below (below_drewN (Below.refl _ _) _)) (S1.out.below (below_drewN (Below.refl _ _) _)) HE2.out).mono ?_; rintro e w' ⟨rfl, rfl⟩
      go_wp2_with fail
      refine (ref_fault (by omega)).mono ?_; rintro e w2 ⟨rfl, rfl⟩
      go_wp2
      go_ret
      exact ⟨by rw [HE2.out, fitOut_err h2]; rfl, below_drewN (Below.refl _ _) _⟩
  · have HBE : Hid (bothErr xs ys = er) := Lib.hid (by unfold bothErr; rw [he, if_pos h0])
    clear s0 s1 he
    go_enter Tryz.func46, Tryz.ntmps46
    go_wp2_with fail
    refine HC0.out.mono ?_; rintro e w' ⟨rfl, rfl⟩
    go_wp2_with fail
    refine (ref_fault (by omega)).mono ?_; rintro e w2 ⟨rfl, rfl⟩
    go_wp2
    go_ret
    exact ⟨by rw [HBE.out, fitOut_err h0]; rfl, Below.refl _ _⟩
set_option maxRecDepth 100000 in
set_option maxHeartbeats 3200000 in
theorem reckon_deconv {w : World} {b n0 d0 n1 d1 cl : Nat} {p0 p1 : Option Addr} {N : Value} {xs ys : List Int} (c0 : w.cell? ⟨b, 0, none⟩ = some (.slice p0 n0 d0)) (c1 : w.cell? ⟨b, 1, none⟩ = some (.slice p1 n1 d1)) (s0 : SI w p0 n0 d0 xs) (s1 : SI w p1 n1 d1 ys) :
    Calls Tryz.prog 46 #[.string ⟨#[100, 101, 99, 111, 110, 118]⟩, .slice (some ⟨b, 0, none⟩) 2 cl, N] w (TextPost w (textOf (fitOut (bothErr xs ys) (dcvL xs ys)))) := by
  have S0 := Lib.hid s0; have S1 := Lib.hid s1
  obtain ⟨er, he⟩ : ∃ er, curveErr xs = er := ⟨_, rfl⟩
  have HEC := Lib.hid he
  have HC0 := Lib.hid (ref_Curve s0 he)
  have hcb := curveErr_bd xs
  rw [he] at hcb
  by_cases h0 : er = 0
  · subst h0
    obtain ⟨e2, he2⟩ : ∃ e2, bothErr xs ys = e2 := ⟨_, rfl⟩
    have hbb := bothErr_bd xs ys
    rw [he2] at hbb
    by_cases h2 : e2 = 0
    · subst h2
      have HB := Lib.hid he2
      obtain ⟨k1, k2, k3⟩ := bothErr_ok he2
      obtain rfl : n1 = n0 := by rw [← s0.len, ← s1.len]; exact k3.symm
      have CX := Lib.hid (curve_of k1 s0.len); have CY := Lib.hid (curve_of k2 s1.len)
      clear s0 s1 he he2 k1 k2 k3
      go_enter Tryz.func46, Tryz.ntmps46
      go_wp2_with fail
      refine HC0.out.mono ?_; rintro e w' ⟨rfl, rfl⟩
      go_wp2
      go_quiet (fail)

      go_wp2_with fail
      refine (ref_Curves (S0.out.below (below_drewN (Below.refl _ _) _)) (S1.out.below (below_drewN (Below.refl _ _) _)) HB.out).mono ?_; rintro e w' ⟨rfl, rfl⟩
      have S0D := Lib.hid (S0.out.below (below_drewN (Below.refl _ w) nq)); have S1D := Lib.hid (S1.out.below (below_drewN (Below.refl _ w) nq))
      go_wp2_with fail
      refine (ref_Deconv S0D.out S1D.out CX.out CY.out).mono ?_
      rintro e w1 ⟨p', n', c', rfl, ho, b1⟩
      have HT := Lib.hid (ref_told ho.si (fun hf => told0_deconv HB.out))
      clear ho
      go_wp2_with fail
      refine HT.out.mono ?_; rintro e w2 ⟨rfl, rfl⟩
      go_wp2
      go_ret
      exact ⟨by rw [HB.out]; rfl, (below_drewN (Below.refl _ _) _).trans b1⟩
    · have HE2 := Lib.hid he2
      clear s0 s1 he he2
      go_enter Tryz.func46, Tryz.ntmps46
      go_wp2_with fail
      refine HC0.out.mono ?_; rintro e w' ⟨rfl, rfl⟩
      go_wp2
      go_quiet (fail)
      go_wp2_with fail
      refine (ref_Curves (S0.out.below (below_drewN (Below.refl _ _) _)) (S1.out.below (below_drewN (Below.refl _ _) _)) HE2.out).mono ?_; rintro e w' ⟨rfl, rfl⟩
      go_wp2_with fail
      refine (ref_fault (by omega)).mono ?_; rintro e w2 ⟨rfl, rfl⟩
      go_wp2
      go_ret
      exact ⟨by rw [HE2.out, fitOut_err h2]; rfl, below_drewN (Below.refl _ _) _⟩
  · have HBE : Hid (bothErr xs ys = er) := Lib.hid (by unfold bothErr; rw [he, if_pos h0])
    clear s0 s1 he
    go_enter Tryz.func46, Tryz.ntmps46
    go_wp2_with fail
    refine HC0.out.mono ?_; rintro e w' ⟨rfl, rfl⟩
    go_wp2_with fail
    refine (ref_fault (by omega)).mono ?_; rintro e w2 ⟨rfl, rfl⟩
    go_wp2
    go_ret
    exact ⟨by rw [HBE.out, fitOut_err h0]; rfl, Below.refl _ _⟩
set_option maxRecDepth 100000 in
set_option maxHeartbeats 3200000 in
theorem reckon_shape {w : World} {b n0 d0 n1 d1 cl : Nat} {p0 p1 : Option Addr} {N : Value} {xs ys : List Int} (c0 : w.cell? ⟨b, 0, none⟩ = some (.slice p0 n0 d0)) (c1 : w.cell? ⟨b, 1, none⟩ = some (.slice p1 n1 d1)) (s0 : SI w p0 n0 d0 xs) (s1 : SI w p1 n1 d1 ys) :
    Calls Tryz.prog 46 #[.string ⟨#[115, 104, 97, 112, 101]⟩, .slice (some ⟨b, 0, none⟩) 2 cl, N] w (TextPost w (textOf (fitOut (bothErr xs ys) (convL xs (clsL ys))))) := by
  have S0 := Lib.hid s0; have S1 := Lib.hid s1
  obtain ⟨er, he⟩ : ∃ er, curveErr xs = er := ⟨_, rfl⟩
  have HEC := Lib.hid he
  have HC0 := Lib.hid (ref_Curve s0 he)
  have hcb := curveErr_bd xs
  rw [he] at hcb
  by_cases h0 : er = 0
  · subst h0
    obtain ⟨e2, he2⟩ : ∃ e2, bothErr xs ys = e2 := ⟨_, rfl⟩
    have hbb := bothErr_bd xs ys
    rw [he2] at hbb
    by_cases h2 : e2 = 0
    · subst h2
      have HB := Lib.hid he2
      obtain ⟨k1, k2, k3⟩ := bothErr_ok he2
      obtain rfl : n1 = n0 := by rw [← s0.len, ← s1.len]; exact k3.symm
      have CX := Lib.hid (curve_of k1 s0.len); have CY := Lib.hid (curve_of k2 s1.len)
      clear s0 s1 he he2 k1 k2 k3
      go_enter Tryz.func46, Tryz.ntmps46
      go_wp2_with fail
      refine HC0.out.mono ?_; rintro e w' ⟨rfl, rfl⟩
      go_wp2
      go_quiet (fail)

      go_wp2_with fail
      refine (ref_Curves (S0.out.below (below_drewN (Below.refl _ _) _)) (S1.out.below (below_drewN (Below.refl _ _) _)) HB.out).mono ?_; rintro e w' ⟨rfl, rfl⟩
      have S0D := Lib.hid (S0.out.below (below_drewN (Below.refl _ w) nq)); have S1D := Lib.hid (S1.out.below (below_drewN (Below.refl _ w) nq))
      go_wp2_with fail
      refine (ref_Closure S1D.out CY.out).mono ?_
      rintro e w1 ⟨p', n', c', rfl, ho, b1⟩
      have CZ := cls_curve CY.out
      have S0E := Lib.hid (S0D.out.below b1)
      obtain rfl : n' = n1 := by have := ho.len; rw [← this]; unfold clsL; rw [tab_length]; exact CY.out.len
      have CZL : (clsL ys).length = n' := by unfold clsL; rw [tab_length]; exact CY.out.len
      have HC := Lib.hid (ref_Conv S0E.out ho.si CX.out.pos (by have := CX.out.le; omega) (M := 1000000) (by omega) CX.out.bd (curve_of CZ CZL).bd)
      clear ho CZ CZL
      go_wp2_with fail
      refine HC.out.mono ?_
      rintro e w2 ⟨p', n', c', rfl, ho, b2⟩
      have HT := Lib.hid (ref_told ho.si (fun hf => told0_shape HB.out hf))
      clear ho
      go_wp2_with fail
      refine HT.out.mono ?_; rintro e w2 ⟨rfl, rfl⟩
      go_wp2
      go_ret
      exact ⟨by rw [HB.out]; rfl, (below_drewN (Below.refl _ _) _).trans (b1.trans (b2.mono b1.size))⟩
    · have HE2 := Lib.hid he2
      clear s0 s1 he he2
      go_enter Tryz.func46, Tryz.ntmps46
      go_wp2_with fail
      refine HC0.out.mono ?_; rintro e w' ⟨rfl, rfl⟩
      go_wp2
      go_quiet (fail)
      go_wp2_with fail
      refine (ref_Curves (S0.out.below (below_drewN (Below.refl _ _) _)) (S1.out.below (below_drewN (Below.refl _ _) _)) HE2.out).mono ?_; rintro e w' ⟨rfl, rfl⟩
      go_wp2_with fail
      refine (ref_fault (by omega)).mono ?_; rintro e w2 ⟨rfl, rfl⟩
      go_wp2
      go_ret
      exact ⟨by rw [HE2.out, fitOut_err h2]; rfl, below_drewN (Below.refl _ _) _⟩
  · have HBE : Hid (bothErr xs ys = er) := Lib.hid (by unfold bothErr; rw [he, if_pos h0])
    clear s0 s1 he
    go_enter Tryz.func46, Tryz.ntmps46
    go_wp2_with fail
    refine HC0.out.mono ?_; rintro e w' ⟨rfl, rfl⟩
    go_wp2_with fail
    refine (ref_fault (by omega)).mono ?_; rintro e w2 ⟨rfl, rfl⟩
    go_wp2
    go_ret
    exact ⟨by rw [HBE.out, fitOut_err h0]; rfl, Below.refl _ _⟩
set_option maxRecDepth 100000 in
set_option maxHeartbeats 3200000 in
theorem reckon_back {w : World} {b n0 d0 n1 d1 cl : Nat} {p0 p1 : Option Addr} {N : Value} {xs ys : List Int} (c0 : w.cell? ⟨b, 0, none⟩ = some (.slice p0 n0 d0)) (c1 : w.cell? ⟨b, 1, none⟩ = some (.slice p1 n1 d1)) (s0 : SI w p0 n0 d0 xs) (s1 : SI w p1 n1 d1 ys) :
    Calls Tryz.prog 46 #[.string ⟨#[98, 97, 99, 107]⟩, .slice (some ⟨b, 0, none⟩) 2 cl, N] w (TextPost w (textOf (fitOut (bothErr xs ys) [backV xs ys]))) := by
  have S0 := Lib.hid s0; have S1 := Lib.hid s1
  obtain ⟨er, he⟩ : ∃ er, curveErr xs = er := ⟨_, rfl⟩
  have HEC := Lib.hid he
  have HC0 := Lib.hid (ref_Curve s0 he)
  have hcb := curveErr_bd xs
  rw [he] at hcb
  by_cases h0 : er = 0
  · subst h0
    obtain ⟨e2, he2⟩ : ∃ e2, bothErr xs ys = e2 := ⟨_, rfl⟩
    have hbb := bothErr_bd xs ys
    rw [he2] at hbb
    by_cases h2 : e2 = 0
    · subst h2
      have HB := Lib.hid he2
      obtain ⟨k1, k2, k3⟩ := bothErr_ok he2
      obtain rfl : n1 = n0 := by rw [← s0.len, ← s1.len]; exact k3.symm
      have CX := Lib.hid (curve_of k1 s0.len); have CY := Lib.hid (curve_of k2 s1.len)
      clear s0 s1 he he2 k1 k2 k3
      go_enter Tryz.func46, Tryz.ntmps46
      go_wp2_with fail
      refine HC0.out.mono ?_; rintro e w' ⟨rfl, rfl⟩
      go_wp2
      go_quiet (fail)

      go_wp2_with fail
      refine (ref_Curves (S0.out.below (below_drewN (Below.refl _ _) _)) (S1.out.below (below_drewN (Below.refl _ _) _)) HB.out).mono ?_; rintro e w' ⟨rfl, rfl⟩
      have S0D := Lib.hid (S0.out.below (below_drewN (Below.refl _ w) nq)); have S1D := Lib.hid (S1.out.below (below_drewN (Below.refl _ w) nq))
      go_wp2_with fail
      refine (ref_Zip (op := fun a b => a - b) S0D.out S1D.out (by have := CX.out.le; omega) (F := 86) (fun args w => by simp [callFunc, Tryz.func86, Tryz.f86, go_sem]) (fun k w' hk => reckon1 (by have := CX.out.bd k hk; omega) (by have := CY.out.bd k hk; omega))).mono ?_
      rintro e w1 ⟨p', n', c', rfl, ho, b1⟩
      obtain rfl : n' = n1 := by have := ho.len; rw [tab_length] at this; omega
      obtain ⟨m, hm1, hm2⟩ := max_exists (tab n' fun k => gi xs k - gi ys k) n' CX.out.pos
      have HM := Lib.hid (slices_Max ho.si CX.out.pos hm1 hm2)
      have HBV : Hid (max 0 m = backV xs ys) := Lib.hid (back_max CX.out.len hm1 hm2)
      have hbd := back_bd HB.out
      rw [← HBV.out] at hbd
      have HD := Lib.hid (fun w => ref_dec (w := w) (n := max 0 m) (by omega) (by omega))
      have HF : Hid (fitOut 0 [backV xs ys] = .ok (okS [backV xs ys])) := Lib.hid (fitOut_ok rfl (fits_one (by rw [← HBV.out]; omega)))
      clear ho hm1 hm2 hbd
      go_wp2_with fail
      refine HM.out.mono ?_; rintro e w2 ⟨rfl, rfl⟩
      go_wp2_with fail
      all_goals
        refine (HD.out _).mono ?_
        rintro e w2 ⟨T, rfl, rfl, ht, HE⟩
        have g1 : ¬ 9223372036854775807 < 3 + T.size := by omega
        go_wp2
        go_ret
        exact ⟨by rw [HB.out, HF.out, ← HBV.out]; show _ = Ending.returned (.string (str (okS [max 0 m]))); rw [HE.out]; rfl, (below_drewN (Below.refl _ _) _).trans b1⟩
    · have HE2 := Lib.hid he2
      clear s0 s1 he he2
      go_enter Tryz.func46, Tryz.ntmps46
      go_wp2_with fail
      refine HC0.out.mono ?_; rintro e w' ⟨rfl, rfl⟩
      go_wp2
      go_quiet (fail)
      go_wp2_with fail
      refine (ref_Curves (S0.out.below (below_drewN (Below.refl _ _) _)) (S1.out.below (below_drewN (Below.refl _ _) _)) HE2.out).mono ?_; rintro e w' ⟨rfl, rfl⟩
      go_wp2_with fail
      refine (ref_fault (by omega)).mono ?_; rintro e w2 ⟨rfl, rfl⟩
      go_wp2
      go_ret
      exact ⟨by rw [HE2.out, fitOut_err h2]; rfl, below_drewN (Below.refl _ _) _⟩
  · have HBE : Hid (bothErr xs ys = er) := Lib.hid (by unfold bothErr; rw [he, if_pos h0])
    clear s0 s1 he
    go_enter Tryz.func46, Tryz.ntmps46
    go_wp2_with fail
    refine HC0.out.mono ?_; rintro e w' ⟨rfl, rfl⟩
    go_wp2_with fail
    refine (ref_fault (by omega)).mono ?_; rintro e w2 ⟨rfl, rfl⟩
    go_wp2
    go_ret
    exact ⟨by rw [HBE.out, fitOut_err h0]; rfl, Below.refl _ _⟩
set_option maxRecDepth 100000 in
set_option maxHeartbeats 3200000 in
theorem reckon_delay {w : World} {b n0 d0 n1 d1 cl : Nat} {p0 p1 : Option Addr} {N : Value} {xs ys : List Int} (c0 : w.cell? ⟨b, 0, none⟩ = some (.slice p0 n0 d0)) (c1 : w.cell? ⟨b, 1, none⟩ = some (.slice p1 n1 d1)) (s0 : SI w p0 n0 d0 xs) (s1 : SI w p1 n1 d1 ys) :
    Calls Tryz.prog 46 #[.string ⟨#[100, 101, 108, 97, 121]⟩, .slice (some ⟨b, 0, none⟩) 2 cl, N] w (TextPost w (textOf (fitOut (delayE xs ys) [(delayK xs ys : Int)]))) := by
  have S0 := Lib.hid s0; have S1 := Lib.hid s1
  obtain ⟨er, he⟩ : ∃ er, curveErr xs = er := ⟨_, rfl⟩
  have HEC := Lib.hid he
  have HC0 := Lib.hid (ref_Curve s0 he)
  have hcb := curveErr_bd xs
  rw [he] at hcb
  by_cases h0 : er = 0
  · subst h0
    obtain ⟨e2, he2⟩ : ∃ e2, bothErr xs ys = e2 := ⟨_, rfl⟩
    have hbb := bothErr_bd xs ys
    rw [he2] at hbb
    by_cases h2 : e2 = 0
    · subst h2
      have HB := Lib.hid he2
      obtain ⟨k1, k2, k3⟩ := bothErr_ok he2
      obtain rfl : n1 = n0 := by rw [← s0.len, ← s1.len]; exact k3.symm
      have CX := Lib.hid (curve_of k1 s0.len); have CY := Lib.hid (curve_of k2 s1.len)
      clear s0 s1 he he2 k1 k2 k3
      go_enter Tryz.func46, Tryz.ntmps46
      go_wp2_with fail
      refine HC0.out.mono ?_; rintro e w' ⟨rfl, rfl⟩
      go_wp2
      go_quiet (fail)

      go_wp2_with fail
      refine (ref_Curves (S0.out.below (below_drewN (Below.refl _ _) _)) (S1.out.below (below_drewN (Below.refl _ _) _)) HB.out).mono ?_; rintro e w' ⟨rfl, rfl⟩
      have S0D := Lib.hid (S0.out.below (below_drewN (Below.refl _ w) nq)); have S1D := Lib.hid (S1.out.below (below_drewN (Below.refl _ w) nq))
      go_wp2_with fail
      have hkk := delayK_is xs ys
      rw [CX.out.len] at hkk
      refine (ref_Delay S0D.out S1D.out hkk).mono ?_
      have hk1 := hkk.1
      clear hkk
      rintro e w1 ⟨rfl, b1⟩
      have hn61 := CX.out.le
      by_cases hkn : delayK xs ys < n1
      · have HDE : Hid (delayE xs ys = 0) := Lib.hid (by unfold delayE; rw [if_neg (fun k => k HB.out), CX.out.len, if_pos hkn])
        have HF : Hid (fitOut 0 [(delayK xs ys : Int)] = .ok (okS [(delayK xs ys : Int)])) := Lib.hid (fitOut_ok rfl (fits_one (by omega)))
        rw [if_pos hkn]
        obtain ⟨k, hk⟩ : ∃ k, delayK xs ys = k := ⟨_, rfl⟩
        rw [hk] at HF hkn ⊢
        have HKK := Lib.hid hk
        have HD := Lib.hid (fun w => ref_dec (w := w) (n := (k : Int)) (by omega) (by omega))
        have g0 : ¬ (k : Int) < 0 := by omega
        clear hk
        go_wp2_with fail
        refine (HD.out _).mono ?_
        rintro e w2 ⟨T, rfl, rfl, ht, HE⟩
        have g1 : ¬ 9223372036854775807 < 3 + T.size := by omega
        go_wp2
        go_ret
        exact ⟨by rw [HDE.out, HKK.out, HF.out]; show _ = Ending.returned (.string (str (okS [(k : Int)]))); rw [HE.out]; rfl, (below_drewN (Below.refl _ _) _).trans b1⟩
      · have HDE : Hid (delayE xs ys = 5) := Lib.hid (by unfold delayE; rw [if_neg (fun k => k HB.out), CX.out.len, if_neg hkn])
        rw [if_neg hkn]
        go_wp2_with fail
        refine (ref_fault (by omega)).mono ?_; rintro e w2 ⟨rfl, rfl⟩
        go_wp2
        go_ret
        exact ⟨by rw [HDE.out, fitOut_err (by omega)]; rfl, (below_drewN (Below.refl _ _) _).trans b1⟩
    · have HE2 := Lib.hid he2
      clear s0 s1 he he2
      go_enter Tryz.func46, Tryz.ntmps46
      go_wp2_with fail
      refine HC0.out.mono ?_; rintro e w' ⟨rfl, rfl⟩
      go_wp2
      go_quiet (fail)
      go_wp2_with fail
      refine (ref_Curves (S0.out.below (below_drewN (Below.refl _ _) _)) (S1.out.below (below_drewN (Below.refl _ _) _)) HE2.out).mono ?_; rintro e w' ⟨rfl, rfl⟩
      go_wp2_with fail
      refine (ref_fault (by omega)).mono ?_; rintro e w2 ⟨rfl, rfl⟩
      go_wp2
      go_ret
      exact ⟨by rw [show delayE xs ys = bothErr xs ys from by unfold delayE; rw [if_pos (by rw [HE2.out]; exact h2)], HE2.out, fitOut_err h2]; rfl, below_drewN (Below.refl _ _) _⟩
  · have HBE : Hid (bothErr xs ys = er) := Lib.hid (by unfold bothErr; rw [he, if_pos h0])
    clear s0 s1 he
    go_enter Tryz.func46, Tryz.ntmps46
    go_wp2_with fail
    refine HC0.out.mono ?_; rintro e w' ⟨rfl, rfl⟩
    go_wp2_with fail
    refine (ref_fault (by omega)).mono ?_; rintro e w2 ⟨rfl, rfl⟩
    go_wp2
    go_ret
    exact ⟨by rw [show delayE xs ys = bothErr xs ys from by unfold delayE; rw [if_pos (by rw [HBE.out]; exact h0)], HBE.out, fitOut_err h0]; rfl, Below.refl _ _⟩
end Go.Proofs.YtgbccpfehcjhbaaGreatDoor
