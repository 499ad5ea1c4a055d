/- The contracts of shape.look, shape.made, shape.Bucket, shape.Line, shape.Stair, headlaw.made and the law's three functions (P18 to P20). No conditions beyond what each theorem says. -/
import Derived.Test.YtgbccpfehcjhbaaGreatDoorM09
import Derived.Test.YtgbccpfehcjhbaaGreatDoorM21
import Derived.Deep.QuietTactic
import Derived.BigQuiet
import Derived.IntWalk
import Derived.Test.YtgbccpfehcjhbaaGreatDoorM07
namespace Go.Proofs.YtgbccpfehcjhbaaGreatDoor
open Go Go.RowKit

def shErr (h r : Int) (P : Prop) [Decidable P] : Int := if h < 0 ∨ 60 < h ∨ r < 0 ∨ 10000 < r ∨ P then 1 else 0
theorem shErr_ok {h r : Int} {P : Prop} [Decidable P] (he : shErr h r P = 0) : 0 ≤ h ∧ h ≤ 60 ∧ 0 ≤ r ∧ r ≤ 10000 ∧ ¬ P := by
  unfold shErr at he
  by_cases hh : h < 0 ∨ 60 < h ∨ r < 0 ∨ 10000 < r ∨ P
  · rw [if_pos hh] at he; omega
  · refine ⟨by omega, by omega, by omega, by omega, fun hp => hh ?_⟩
    exact .inr (.inr (.inr (.inr hp)))
theorem shErr_one {h r : Int} {P : Prop} [Decidable P] (hh : h < 0 ∨ 60 < h ∨ r < 0 ∨ 10000 < r ∨ P) : shErr h r P = 1 := by unfold shErr; rw [if_pos hh]
def badLook (h r : Int) : Prop := h < 0 ∨ 60 < h ∨ r < 0 ∨ 10000 < r
theorem badLook_ways {h r : Int} (hb : badLook h r) : h < 0 ∨ (0 ≤ h ∧ 60 < h) ∨ (0 ≤ h ∧ h ≤ 60 ∧ r < 0) ∨ (0 ≤ h ∧ h ≤ 60 ∧ 0 ≤ r ∧ 10000 < r) := by unfold badLook at hb; omega

set_option maxHeartbeats 400000 in
theorem shape_look_bad {w : World} {h r : Int} (hb : badLook h r) :
    Calls Tryz.prog 101 #[.int .i64 h, .int .i64 r] w fun e w' => e = .returned (.int .i64 1) ∧ w = w' := by
  rcases badLook_ways hb with h1 | ⟨h1, h2⟩ | ⟨h1, h2, h3⟩ | ⟨h1, h2, h3, h4⟩
  all_goals
    clear hb
    go_enter Tryz.func101, Tryz.ntmps101
    go_wp2
    go_ret
    exact ⟨rfl, rfl⟩
set_option maxHeartbeats 400000 in
theorem shape_look_ok {w : World} {h r : Int} (hb : ¬ badLook h r) :
    Calls Tryz.prog 101 #[.int .i64 h, .int .i64 r] w fun e w' => e = .returned (.int .i64 0) ∧ w = w' := by
  obtain ⟨h1, h2, h3, h4⟩ : 0 ≤ h ∧ h ≤ 60 ∧ 0 ≤ r ∧ r ≤ 10000 := by unfold badLook at hb; omega
  clear hb
  go_enter Tryz.func101, Tryz.ntmps101
  go_wp2
  go_ret
  exact ⟨rfl, rfl⟩

set_option maxHeartbeats 1000000 in
theorem shape_made {w : World} {h : Nat} (hh : h ≤ 60) {F : Nat} {cap : Array Value} {op : Nat → Int}
    (hF : ∀ (args : Array Value) (w : World), (callFunc F args).run Tryz.prog w = .ok (.enter F args) w)
    (hcall : ∀ (w' : World) (k : Nat), k ≤ h → Below w.heap.size w w' → Calls Tryz.prog F (#[.int .i64 k] ++ cap) w' fun e w'' => e = .returned (.int .i64 (op k)) ∧ Below w.heap.size w w'' ∧ Below w'.heap.size w' w'') :
    Calls Tryz.prog 102 #[.int .i64 h, .func (.func F) #[] cap] w (RetL w (FitOf 0 (tab (h + 1) op))) := by
  have HC := Lib.hid hcall; clear hcall
  go_enter Tryz.func102, Tryz.ntmps102
  go_wp2_with (at_make; refine wpL_make_int Tryz.tyInts rfl rfl (B := w.heap.size) (W0 := w) (h + 1) rfl rfl (by simp) (by simp) (Below.refl _ _) (by omega) (Nat.le_refl _) ?_; intro g w1 hg hown hbel hb0)
  clear hb0
  go_loopw [13] (fun i wr => ∃ k : Nat, k ≤ h + 1 ∧ i = .int .i64 k ∧ OwnI wr w.heap.size (some ⟨g, 0, none⟩) (h + 1) (h + 1) (tab (h + 1) fun j => if j < k then op j else 0) ∧ Below w.heap.size w wr) (fun i _ => h + 1 - (intOf i).toNat)
  case atStart => exact ⟨0, Nat.zero_le _, rfl, hown.to (fun j _ => (if_neg (by omega)).symm), hbel⟩
  case round =>
    obtain ⟨k, hk, rfl, ho, hb⟩ := hrel
    clear hown hbel
    by_cases hkn : k ≤ h
    · have g1 : (k : Int) < (h : Int) + 1 := by omega
      have g2 : (k : Int) < ((h + 1 : Nat) : Int) := by omega
      go_wp2_with fail
      refine (HC.out _ k hkn hb).mono ?_; rintro e w2 ⟨rfl, hb2, hb3⟩
      have ho2 := ho.below hb3
      have f3 := ho2.free k
      have c3 := ho2.at (j := k) (by omega)
      clear hb3 ho hb
      go_wp2
      go_roundw
      case rel =>
        refine ⟨k + 1, by omega, by go_num, ho2.put k _ fun j _ => ?_, hb2.setCell hg _⟩
        by_cases e : j = k
        · subst e; rw [if_pos rfl, if_pos (by omega)]
        · rw [if_neg e]
          by_cases e2 : j < k
          · rw [if_pos e2, if_pos (by omega)]
          · rw [if_neg e2, if_neg (by omega)]
      case measure => simp [intOf]; omega
    · obtain rfl : k = h + 1 := by omega
      have g1 : ¬ ((h + 1 : Nat) : Int) < (h : Int) + 1 := by omega
      have g2 : ¬ ((h + 1 : Nat) : Int) < ((h + 1 : Nat) : Int) := by omega
      have ho2 := ho.to (z' := op) fun j hj => if_pos hj
      clear ho
      by_cases hf : fits (tab (h + 1) op)
      · have HF := Lib.hid hf; clear hf
        go_wp2_with fail
        refine (curve_Fit_ok ho2.si HF.out).mono ?_; rintro e w' ⟨rfl, rfl⟩
        go_wp2
        go_ret2
        exact ⟨_, _, _, _, _, rfl, ho2, hb, .inr (.inr ⟨rfl, HF.out, rfl, rfl⟩)⟩
      · have HF := Lib.hid hf; clear hf
        go_wp2_with fail
        refine (curve_Fit_big ho2.si HF.out).mono ?_; rintro e w' ⟨rfl, rfl⟩
        go_wp2
        go_ret2
        exact ⟨_, _, _, [], _, rfl, OwnI.nil _ _, hb, .inr (.inl ⟨rfl, HF.out, rfl, rfl⟩)⟩

/-- the two captured variables in their boxes -/
theorem two_boxes (w : World) (v u : Value) (t1 t2 : TypeId) :
    ((w.alloc (.cells #[v] t1)).alloc (.cells #[u] t2)).cell? ⟨w.heap.size, 0, none⟩ = some v ∧ ((w.alloc (.cells #[v] t1)).alloc (.cells #[u] t2)).cell? ⟨w.heap.size + 1, 0, none⟩ = some u ∧
    Below w.heap.size w ((w.alloc (.cells #[v] t1)).alloc (.cells #[u] t2)) ∧ ((w.alloc (.cells #[v] t1)).alloc (.cells #[u] t2)).heap.size = w.heap.size + 2 := by
  refine ⟨?_, ?_, ((Below.refl _ _).alloc (Nat.le_refl _) _).alloc (by simp) _, by simp⟩
  · rw [World.cell?_alloc_past _ _ _ (by simp), World.cell?_alloc_at _ _ _ _ rfl]; rfl
  · rw [World.cell?_alloc_at _ _ _ _ (by simp)]; rfl

def bucketV (r n : Int) (t : Nat) : Int := if t = 0 then 0 else n + r * (t : Int)
def lineV (r n : Int) (t : Nat) : Int := r * max 0 ((t : Int) - n)
def stairV (r n : Int) (t : Nat) : Int := r * (((t : Int) + n - 1) / n)
theorem rt_bd {r : Int} {t : Int} (h0 : 0 ≤ r) (h1 : r ≤ 10000) (t0 : 0 ≤ t) (ht : t ≤ 60) : 0 ≤ r * t ∧ r * t ≤ 600000 := by
  refine ⟨Int.mul_nonneg h0 t0, ?_⟩
  have := Int.mul_le_mul h1 ht (by omega) (by omega)
  omega
theorem tr_bd {r : Int} {t : Int} (h0 : 0 ≤ r) (h1 : r ≤ 10000) (t0 : 0 ≤ t) (ht : t ≤ 60) : 0 ≤ t * r ∧ t * r ≤ 600000 := by
  rw [Int.mul_comm]; exact rt_bd h0 h1 t0 ht

set_option maxHeartbeats 400000 in
theorem shape_Bucket1 {w : World} {a a' t : Nat} {r n : Int} (ht : t ≤ 60) (hr0 : 0 ≤ r) (hr1 : r ≤ 10000) (hn0 : 0 ≤ n) (hn1 : n ≤ 1000000) (h1 : w.cell? ⟨a, 0, none⟩ = some (.int .i64 n)) (h2 : w.cell? ⟨a', 0, none⟩ = some (.int .i64 r)) :
    Calls Tryz.prog 103 #[.int .i64 t, .pointer (some ⟨a, 0, none⟩), .pointer (some ⟨a', 0, none⟩)] w fun e w' => e = .returned (.int .i64 (bucketV r n t)) ∧ w = w' := by
  have hp := rt_bd hr0 hr1 (t := (t : Int)) (by omega) (by omega)
  by_cases h0 : t = 0
  · subst h0
    go_enter Tryz.func103, Tryz.ntmps103
    go_wp2
    go_ret
    exact ⟨rfl, rfl⟩
  · have hz : ((t : Int) == 0) = false := by simp; omega
    have HV := Lib.hid (show bucketV r n t = n + r * (t : Int) by unfold bucketV; rw [if_neg h0])
    go_enter Tryz.func103, Tryz.ntmps103
    go_wp2
    go_ret
    exact ⟨ret_int (by rw [HV.out]), rfl⟩

theorem stair_bd {n : Int} {t : Nat} (ht : t ≤ 60) (hn0 : 1 ≤ n) : 0 ≤ ((t : Int) + n - 1) / n ∧ ((t : Int) + n - 1) / n ≤ 60 := by
  have := up_bd (a := (t : Int)) (b := n) (by omega) hn0
  omega
set_option maxHeartbeats 1000000 in
theorem shape_Bucket {w : World} {h r n : Int} :
    Calls Tryz.prog 64 #[.int .i64 h, .int .i64 r, .int .i64 n] w (RetL w (FitOf (shErr h r (n < 0 ∨ 1000000 < n)) (tab (h.toNat + 1) (bucketV r n)))) := by
  obtain ⟨k1, k2, kb, ks⟩ := two_boxes w (.int .i64 r) (.int .i64 n) 3 3
  by_cases hb : badLook h r
  · have HE := Lib.hid (shErr_one (P := n < 0 ∨ 1000000 < n) (show h < 0 ∨ 60 < h ∨ r < 0 ∨ 10000 < r ∨ n < 0 ∨ 1000000 < n by unfold badLook at hb; omega))
    go_enter Tryz.func64, Tryz.ntmps64
    go_wp2_with fail
    generalize ((w.alloc (.cells #[.int .i64 r] 3)).alloc (.cells #[.int .i64 n] 3)) = W at *
    refine (shape_look_bad hb).mono ?_; rintro e w' ⟨rfl, rfl⟩
    go_wp2
    go_ret2
    exact ⟨_, _, _, [], _, rfl, OwnI.nil _ _, kb, .inl ⟨by rw [HE.out]; omega, by rw [HE.out], rfl⟩⟩
  · rcases (show n < 0 ∨ (0 ≤ n ∧ 1000000 < n) ∨ (0 ≤ n ∧ n ≤ 1000000) by omega) with n1 | ⟨n1, n2⟩ | ⟨n1, n2⟩
    · have HE := Lib.hid (shErr_one (P := n < 0 ∨ 1000000 < n) (show h < 0 ∨ 60 < h ∨ r < 0 ∨ 10000 < r ∨ n < 0 ∨ 1000000 < n by omega))
      go_enter Tryz.func64, Tryz.ntmps64
      go_wp2_with fail
      generalize ((w.alloc (.cells #[.int .i64 r] 3)).alloc (.cells #[.int .i64 n] 3)) = W at *
      refine (shape_look_ok hb).mono ?_; rintro e w' ⟨rfl, rfl⟩
      go_wp2
      go_ret2
      exact ⟨_, _, _, [], _, rfl, OwnI.nil _ _, kb, .inl ⟨by rw [HE.out]; omega, by rw [HE.out], rfl⟩⟩
    · have HE := Lib.hid (shErr_one (P := n < 0 ∨ 1000000 < n) (show h < 0 ∨ 60 < h ∨ r < 0 ∨ 10000 < r ∨ n < 0 ∨ 1000000 < n by omega))
      go_enter Tryz.func64, Tryz.ntmps64
      go_wp2_with fail
      generalize ((w.alloc (.cells #[.int .i64 r] 3)).alloc (.cells #[.int .i64 n] 3)) = W at *
      refine (shape_look_ok hb).mono ?_; rintro e w' ⟨rfl, rfl⟩
      go_wp2
      go_ret2
      exact ⟨_, _, _, [], _, rfl, OwnI.nil _ _, kb, .inl ⟨by rw [HE.out]; omega, by rw [HE.out], rfl⟩⟩
    · obtain ⟨h1, h2, h3, h4⟩ : 0 ≤ h ∧ h ≤ 60 ∧ 0 ≤ r ∧ r ≤ 10000 := by unfold badLook at hb; omega
      obtain ⟨h, rfl⟩ := Int.eq_ofNat_of_zero_le h1
      have HE := Lib.hid (show shErr (h : Int) r (n < 0 ∨ 1000000 < n) = 0 by unfold shErr; rw [if_neg (by omega)])
      have HBB := Lib.hid hb; clear hb
      go_enter Tryz.func64, Tryz.ntmps64
      go_wp2_with fail
      generalize ((w.alloc (.cells #[.int .i64 r] 3)).alloc (.cells #[.int .i64 n] 3)) = W at *
      refine (shape_look_ok HBB.out).mono ?_; rintro e w' ⟨rfl, rfl⟩
      have K1 := Lib.hid k1; have K2 := Lib.hid k2
      go_wp2_with fail
      refine (shape_made (w := W) (h := h) (by omega) (op := bucketV r n) (fun args w => by simp [callFunc, Tryz.func103, Tryz.f103, go_sem]) fun w' t ht hb => ?_).mono ?_
      · refine (shape_Bucket1 (by omega) h3 h4 n1 n2 ((bdeep hb (show w.heap.size + 1 < W.heap.size by omega) 0).trans K2.out) ((bdeep hb (show w.heap.size < W.heap.size by omega) 0).trans K1.out)).mono ?_
        rintro e w2 ⟨rfl, rfl⟩
        exact ⟨rfl, hb, Below.refl _ _⟩
      · rintro e w2 ⟨p2, m2, c2, L2, er2, rfl, ho2, hb2, hF2⟩
        have HF := Lib.hid hF2
        have hb3 := kb.trans (hb2.mono kb.size)
        have ho3 := ho2.base kb.size
        clear k1 k2 hF2
        go_wp2
        go_ret2
        exact ⟨_, _, _, _, _, rfl, ho3, hb3, by rw [HE.out]; simpa using HF.out⟩


end Go.Proofs.YtgbccpfehcjhbaaGreatDoor

/- The desk's line bucket: what it does (P77). Conditions: what each theorem says. -/
namespace Go.Proofs.YtgbccpfehcjhbaaGreatDoor
open Go Go.RowKit
set_option linter.unusedVariables false
set_option linter.unusedSimpArgs false

set_option maxHeartbeats 800000 in
theorem dk_bucket1 {w : World} (LD : Laid w) {ba bb bc : Nat} {h r n : Int} (h1 : w.heap[ba]? = some (.cells #[.int .i64 h] 3 (0, 0))) (h2 : w.heap[bb]? = some (.cells #[.int .i64 r] 3 (0, 0))) (h3 : w.heap[bc]? = some (.cells #[.int .i64 n] 3 (0, 0)))
    (hT : shErr h r (n < 0 ∨ 1000000 < n) = 0 → fits (tab (h.toNat + 1) (bucketV r n)) → tellable (tab (h.toNat + 1) (bucketV r n))) :
    Calls Tryz.prog 63 #[.pointer (some ⟨ba, 0, none⟩), .pointer (some ⟨bb, 0, none⟩), .pointer (some ⟨bc, 0, none⟩)] w (OutPost w (fitOut (shErr h r (n < 0 ∨ 1000000 < n)) (tab (h.toNat + 1) (bucketV r n)))) := by
  have c1 : w.cell? ⟨ba, 0, none⟩ = some (.int .i64 h) := blk_cell h1 0
  have c2 : w.cell? ⟨bb, 0, none⟩ = some (.int .i64 r) := blk_cell h2 0
  have c3 : w.cell? ⟨bc, 0, none⟩ = some (.int .i64 n) := blk_cell h3 0
  have HC := Lib.hid (shape_Bucket (w := w) (h := h) (r := r) (n := n))
  have HY := Lib.hid hT
  have HLD := Lib.hid LD
  obtain ⟨want, hw⟩ : ∃ x, shErr h r (n < 0 ∨ 1000000 < n) = x := ⟨_, rfl⟩
  obtain ⟨Y, hY⟩ : ∃ x, tab (h.toNat + 1) (bucketV r n) = x := ⟨_, rfl⟩
  rw [hw, hY] at HC HY ⊢
  clear h1 h2 h3 hT LD hw hY
  go_enter Tryz.func63, Tryz.ntmps63
  go_wp2_with fail
  refine HC.out.mono ?_; rintro e w1 ⟨p', n', c', L, er, rfl, ho, b1, hF⟩
  have HT := Lib.hid (dk_told_fit (HLD.out.below b1) ho.si (TFit.of hF) HY.out)
  clear ho hF HC HY
  generalize fitOut want Y = O at *
  cases O with
  | ok s =>
    go_wp2_with fail
    refine HT.out.mono ?_
    rintro e w2 ⟨he, b2⟩
    obtain rfl : e = .returned (.string (str s)) := he
    have b12 := b1.trans (b2.mono b1.size)
    go_wp2
    go_ret
    exact ⟨rfl, b12⟩
  | err x =>
    go_wp2_with fail
    refine HT.out.mono ?_
    rintro e w2 ⟨he, b2⟩
    obtain rfl : e = faultE x := he
    have b12 := b1.trans (b2.mono b1.size)
    go_wp2
    exact ⟨rfl, rfl, b12⟩
end Go.Proofs.YtgbccpfehcjhbaaGreatDoor
