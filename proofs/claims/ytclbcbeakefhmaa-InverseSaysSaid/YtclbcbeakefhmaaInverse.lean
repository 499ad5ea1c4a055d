/- The contracts of inverse.Lower, inverse.Upper, headref.First and headref.Last (P16, P17). No conditions. -/
import Derived.Test.YtclbcbeakefhmaaSearch
import Derived.Test.YtclbcbeakefhmaaCurveFacts
import Derived.Deep.QuietTactic
import Derived.BigQuiet
namespace Go.Proofs.Ytclbcbeakefhmaa
open Go Go.RowKit

def invErr (xs : List Int) (y : Int) : Int := if curveErr xs ≠ 0 then curveErr xs else if y < 0 ∨ 1000000 < y then 1 else 0

set_option maxHeartbeats 400000 in
theorem inverse_look {w : World} {p : Option Addr} {n c : Nat} {xs : List Int} {y : Int} (h : SI w p n c xs) {er : Int} (he : invErr xs y = er) :
    Calls Try.prog 56 #[.slice p n c, .int .i64 y] w fun e w' => e = .returned (.int .i64 er) ∧ w = w' := by
  by_cases h0 : curveErr xs = 0
  · have H0 := Lib.hid h0
    by_cases h1 : y < 0
    · obtain rfl : 1 = er := by rw [← he]; unfold invErr; simp [h0, h1]
      clear he h0
      have b1 : decide (y < 0) = true := by simp; omega
      go_enter Try.func56, Try.ntmps56
      go_wp2_with fail
      refine (curve_Check h H0.out).mono ?_; rintro e w' ⟨rfl, rfl⟩
      go_wp2
      go_ret
      exact ⟨rfl, rfl⟩
    by_cases h2 : 1000000 < y
    · obtain rfl : 1 = er := by rw [← he]; unfold invErr; simp [h0, h2]
      clear he h0
      have b1 : decide (y < 0) = false := by simp; omega
      have b2 : decide (1000000 < y) = true := by simp; omega
      go_enter Try.func56, Try.ntmps56
      go_wp2_with fail
      refine (curve_Check h H0.out).mono ?_; rintro e w' ⟨rfl, rfl⟩
      go_wp2
      go_ret
      exact ⟨rfl, rfl⟩
    obtain rfl : 0 = er := by rw [← he]; unfold invErr; simp [h0, h1, h2]
    clear he h0
    have b1 : decide (y < 0) = false := by simp; omega
    have b2 : decide (1000000 < y) = false := by simp; omega
    go_enter Try.func56, Try.ntmps56
    go_wp2_with fail
    refine (curve_Check h H0.out).mono ?_; rintro e w' ⟨rfl, rfl⟩
    go_wp2
    go_ret
    exact ⟨rfl, rfl⟩
  · obtain rfl : curveErr xs = er := by rw [← he]; unfold invErr; simp [h0]
    clear he
    generalize hx : curveErr xs = ex at *
    have H1 := Lib.hid hx; clear hx
    have hb := bne_false_of h0
    go_enter Try.func56, Try.ntmps56
    go_wp2_with fail
    refine (curve_Check h H1.out).mono ?_; rintro e w' ⟨rfl, rfl⟩
    go_wp2
    go_ret
    exact ⟨rfl, rfl⟩

def lowP (xs : List Int) (y : Int) (t : Nat) : Bool := decide (y ≤ gi xs t)
def upP (xs : List Int) (y : Int) (t : Nat) : Bool := decide (y < gi xs t)

set_option maxHeartbeats 400000 in
theorem inverse_Lower1 {w : World} {p : Option Addr} {n c a a' t : Nat} {xs : List Int} {y : Int} (h : SI w p n c xs) (ht : t < n) (h1 : w.cell? ⟨a, 0, none⟩ = some (.slice p n c)) (h2 : w.cell? ⟨a', 0, none⟩ = some (.int .i64 y)) :
    Calls Try.prog 58 #[.int .i64 t, .pointer (some ⟨a, 0, none⟩), .pointer (some ⟨a', 0, none⟩)] w fun e w' => e = .returned (.bool (lowP xs y t)) ∧ Below w.heap.size w w' := by
  obtain ⟨b, off, rfl, hlt, hc⟩ := h.cells (by omega)
  have hm := h.2.1
  have hcell := hc t ht
  clear h hc
  go_enter Try.func58, Try.ntmps58
  go_wp2
  go_quiet (fail)
  go_wp2
  go_ret
  exact ⟨rfl, below_drewN (Below.refl _ _) _⟩
set_option maxHeartbeats 400000 in
theorem inverse_Upper1 {w : World} {p : Option Addr} {n c a a' t : Nat} {xs : List Int} {y : Int} (h : SI w p n c xs) (ht : t < n) (h1 : w.cell? ⟨a, 0, none⟩ = some (.slice p n c)) (h2 : w.cell? ⟨a', 0, none⟩ = some (.int .i64 y)) :
    Calls Try.prog 59 #[.int .i64 t, .pointer (some ⟨a, 0, none⟩), .pointer (some ⟨a', 0, none⟩)] w fun e w' => e = .returned (.bool (upP xs y t)) ∧ Below w.heap.size w w' := by
  obtain ⟨b, off, rfl, hlt, hc⟩ := h.cells (by omega)
  have hm := h.2.1
  have hcell := hc t ht
  clear h hc
  go_enter Try.func59, Try.ntmps59
  go_wp2
  go_quiet (fail)
  go_wp2
  go_ret
  exact ⟨rfl, below_drewN (Below.refl _ _) _⟩

/-- the two captured variables in their boxes -/
theorem two_boxes (w : World) (v u : Value) (t1 t2 : TypeId) :
    ((w.alloc (.cells #[v] t1)).alloc (.cells #[u] t2)).cell? ⟨w.heap.size, 0, none⟩ = some v ∧ ((w.alloc (.cells #[v] t1)).alloc (.cells #[u] t2)).cell? ⟨w.heap.size + 1, 0, none⟩ = some u ∧
    Below w.heap.size w ((w.alloc (.cells #[v] t1)).alloc (.cells #[u] t2)) ∧ ((w.alloc (.cells #[v] t1)).alloc (.cells #[u] t2)).heap.size = w.heap.size + 2 := by
  refine ⟨?_, ?_, ((Below.refl _ _).alloc (Nat.le_refl _) _).alloc (by simp) _, by simp⟩
  · rw [World.cell?_alloc_past _ _ _ (by simp), World.cell?_alloc_at _ _ _ _ rfl]; rfl
  · rw [World.cell?_alloc_at _ _ _ _ (by simp)]; rfl

set_option maxHeartbeats 400000 in
theorem inverse_Lower {w : World} {p : Option Addr} {n c : Nat} {xs : List Int} {y : Int} (h : SI w p n c xs) (hn : n ≤ 1000) (he : invErr xs y = 0) :
    Calls Try.prog 22 #[.slice p n c, .int .i64 y] w fun e w' => ∃ i : Nat, e = .returned (.tuple #[.int .i64 i, .int .i64 0]) ∧ Border (lowP xs y) n i ∧ Below w.heap.size w w' := by
  have HE := Lib.hid he; clear he
  go_enter Try.func22, Try.ntmps22
  go_wp2_with fail
  obtain ⟨k1, k2, kb, ks⟩ := two_boxes w (.slice p n c) (.int .i64 y) 25 3
  generalize hW : ((w.alloc (.cells #[.slice p n c] 25)).alloc (.cells #[.int .i64 y] 3)) = W at *
  clear hW
  refine (inverse_look (h.below kb) HE.out).mono ?_; rintro e w' ⟨rfl, rfl⟩
  go_wp2_with fail
  refine (sort_Search (pr := lowP xs y) hn (fun args w => by simp [callFunc, Try.func58, Try.f58, go_sem]) fun w' t ht hb => ?_).mono ?_
  · refine (inverse_Lower1 (h.below (kb.trans (hb.mono (by omega)))) ht ((bdeep hb (by omega) _).trans k1) ((bdeep hb (by omega) _).trans k2)).mono ?_
    rintro e w2 ⟨rfl, hb2⟩
    exact ⟨rfl, hb.trans (hb2.mono hb.size)⟩
  · rintro e w2 ⟨i, rfl, hi, hb⟩
    have HI := Lib.hid hi; clear hi k1 k2 ks
    go_wp2
    go_ret2
    exact ⟨i, rfl, HI.out, kb.trans (hb.mono kb.size)⟩
set_option maxHeartbeats 400000 in
theorem inverse_Upper {w : World} {p : Option Addr} {n c : Nat} {xs : List Int} {y : Int} (h : SI w p n c xs) (hn : n ≤ 1000) (he : invErr xs y = 0) :
    Calls Try.prog 23 #[.slice p n c, .int .i64 y] w fun e w' => ∃ i : Nat, e = .returned (.tuple #[.int .i64 ((i : Int) - 1), .int .i64 0]) ∧ Border (upP xs y) n i ∧ Below w.heap.size w w' := by
  have HE := Lib.hid he; clear he
  go_enter Try.func23, Try.ntmps23
  go_wp2_with fail
  obtain ⟨k1, k2, kb, ks⟩ := two_boxes w (.slice p n c) (.int .i64 y) 25 3
  generalize hW : ((w.alloc (.cells #[.slice p n c] 25)).alloc (.cells #[.int .i64 y] 3)) = W at *
  clear hW
  refine (inverse_look (h.below kb) HE.out).mono ?_; rintro e w' ⟨rfl, rfl⟩
  go_wp2_with fail
  refine (sort_Search (pr := upP xs y) hn (fun args w => by simp [callFunc, Try.func59, Try.f59, go_sem]) fun w' t ht hb => ?_).mono ?_
  · refine (inverse_Upper1 (h.below (kb.trans (hb.mono (by omega)))) ht ((bdeep hb (by omega) _).trans k1) ((bdeep hb (by omega) _).trans k2)).mono ?_
    rintro e w2 ⟨rfl, hb2⟩
    exact ⟨rfl, hb.trans (hb2.mono hb.size)⟩
  · rintro e w2 ⟨i, rfl, hi, hb⟩
    have hin := hi.1
    have HI := Lib.hid hi; clear hi k1 k2 ks
    go_wp2
    go_ret2
    exact ⟨i, rfl, HI.out, kb.trans (hb.mono kb.size)⟩
set_option maxHeartbeats 400000 in
theorem inverse_Lower_bad {w : World} {p : Option Addr} {n c : Nat} {xs : List Int} {y : Int} (h : SI w p n c xs) {er : Int} (he : invErr xs y = er) (h0 : er ≠ 0) :
    Calls Try.prog 22 #[.slice p n c, .int .i64 y] w fun e w' => e = .returned (.tuple #[.int .i64 0, .int .i64 er]) ∧ Below w.heap.size w w' := by
  have HE := Lib.hid he; clear he
  have hb := bne_false_of h0
  go_enter Try.func22, Try.ntmps22
  go_wp2_with fail
  obtain ⟨k1, k2, kb, ks⟩ := two_boxes w (.slice p n c) (.int .i64 y) 25 3
  generalize hW : ((w.alloc (.cells #[.slice p n c] 25)).alloc (.cells #[.int .i64 y] 3)) = W at *
  clear hW
  refine (inverse_look (h.below kb) HE.out).mono ?_; rintro e w' ⟨rfl, rfl⟩
  go_wp2
  go_ret2
  exact ⟨rfl, kb⟩
set_option maxHeartbeats 400000 in
theorem inverse_Upper_bad {w : World} {p : Option Addr} {n c : Nat} {xs : List Int} {y : Int} (h : SI w p n c xs) {er : Int} (he : invErr xs y = er) (h0 : er ≠ 0) :
    Calls Try.prog 23 #[.slice p n c, .int .i64 y] w fun e w' => e = .returned (.tuple #[.int .i64 0, .int .i64 er]) ∧ Below w.heap.size w w' := by
  have HE := Lib.hid he; clear he
  have hb := bne_false_of h0
  go_enter Try.func23, Try.ntmps23
  go_wp2_with fail
  obtain ⟨k1, k2, kb, ks⟩ := two_boxes w (.slice p n c) (.int .i64 y) 25 3
  generalize hW : ((w.alloc (.cells #[.slice p n c] 25)).alloc (.cells #[.int .i64 y] 3)) = W at *
  clear hW
  refine (inverse_look (h.below kb) HE.out).mono ?_; rintro e w' ⟨rfl, rfl⟩
  go_wp2
  go_ret2
  exact ⟨rfl, kb⟩

-- the first place of a test, and the last place behind which it holds always
set_option maxHeartbeats 400000 in
theorem ref_First {w : World} {p : Option Addr} {n c : Nat} {xs : List Int} {y : Int} (h : SI w p n c xs) {i : Nat} (h1 : ∀ j, j < i → gi xs j < y) (h2 : i < n → y ≤ gi xs i) (hi : i ≤ n) :
    Calls Try.prog 24 #[.slice p n c, .int .i64 y] w fun e w' => e = .returned (.int .i64 i) ∧ w = w' := by
  have hm := h.2.1
  have H1 := Lib.hid h1; clear h1
  go_enter Try.func24, Try.ntmps24
  go_wp2
  go_loop [9] (fun s => ∃ k : Nat, k ≤ i ∧ s = .int .i64 k) (fun s => n - (intOf s).toNat)
  case atStart => exact ⟨0, Nat.zero_le _, rfl⟩
  case round =>
    obtain ⟨k, hk, rfl⟩ := hrel
    by_cases hkn : k < n
    · obtain ⟨b, off, rfl, hlt, hc⟩ := h.cells (by omega)
      have hcell := hc k hkn
      clear hc h
      by_cases hki : k = i
      · subst hki
        have := h2 hkn
        clear h2
        go_wp2
        go_ret
        exact ⟨rfl, rfl⟩
      · have := H1.out k (by omega)
        clear h2
        go_wp2
        go_round
        case rel => exact ⟨k + 1, by omega, by go_num⟩
        case measure => simp [intOf]; omega
    · obtain rfl : n = k := by omega
      obtain rfl : n = i := by omega
      go_wp2
      go_ret
      exact ⟨rfl, rfl⟩

set_option maxHeartbeats 400000 in
theorem ref_Last {w : World} {p : Option Addr} {n c : Nat} {xs : List Int} {y : Int} (h : SI w p n c xs) {i : Nat} (h1 : ∀ j, i ≤ j → j < n → y < gi xs j) (h2 : 0 < i → gi xs (i - 1) ≤ y) (hi : i ≤ n) :
    Calls Try.prog 25 #[.slice p n c, .int .i64 y] w fun e w' => e = .returned (.int .i64 ((i : Int) - 1)) ∧ w = w' := by
  have hm := h.2.1
  have H1 := Lib.hid h1; clear h1
  go_enter Try.func25, Try.ntmps25
  go_wp2
  go_loop [5] (fun s => ∃ k : Nat, i ≤ k ∧ k ≤ n ∧ s = .int .i64 ((k : Int) - 1)) (fun s => (intOf s + 1).toNat)
  case atStart => exact ⟨n, hi, Nat.le_refl _, rfl⟩
  case round =>
    obtain ⟨k, hk, hkn, rfl⟩ := hrel
    by_cases hk0 : 0 < k
    · obtain ⟨b, off, rfl, hlt, hc⟩ := h.cells (by omega)
      have hcell := hc (k - 1) (by omega)
      clear hc h
      obtain ⟨j, rfl⟩ : ∃ j, k = j + 1 := ⟨k - 1, by omega⟩
      rw [Nat.add_sub_cancel] at hcell
      rw [show (((j + 1 : Nat) : Int) - 1) = (j : Int) by omega]
      by_cases hki : j + 1 = i
      · subst hki
        have := h2 (by omega)
        rw [Nat.add_sub_cancel] at this
        clear h2
        go_wp2
        go_ret
        exact ⟨ret_int (by omega), rfl⟩
      · have := H1.out j (by omega) (by omega)
        clear h2
        go_wp2
        go_round
        case rel => exact ⟨j, by omega, by omega, rfl⟩
        case measure => simp [intOf]
    · obtain rfl : k = 0 := by omega
      obtain rfl : i = 0 := by omega
      go_wp2
      go_ret
      exact ⟨rfl, rfl⟩
end Go.Proofs.Ytclbcbeakefhmaa
