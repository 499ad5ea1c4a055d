/- The contracts of point.Late and point.Up (P8). No conditions. -/
import Derived.Test.YtclbcbeakefhmaaDeconv
namespace Go.Proofs.Ytclbcbeakefhmaa
open Go Go.RowKit

/-- P8: later by d -/
def lateL (xs : List Int) (d : Nat) : List Int := tab xs.length fun t => if d ≤ t then gi xs (t - d) else 0
def upL (xs : List Int) (k : Int) : List Int := tab xs.length fun t => gi xs t + k
def lateErr (xs : List Int) (d : Int) : Int := if curveErr xs ≠ 0 then curveErr xs else if d < 0 then 1 else 0
def upErr (xs : List Int) (k : Int) : Int := if curveErr xs ≠ 0 then curveErr xs else if k < 0 ∨ 1000000 < k then 1 else 0

theorem late_fits {xs : List Int} {n d : Nat} (hx : Curve xs n) : fits (lateL xs d) := by
  intro j hj
  unfold lateL at hj ⊢
  rw [tab_length] at hj
  rw [gi_tab hj]
  rw [hx.len] at hj
  split
  · exact (hx.bd _ (by omega)).2
  · omega

set_option maxHeartbeats 1000000 in
theorem point_Late_ok {w : World} {p : Option Addr} {n c d : Nat} {xs : List Int} (h : SI w p n c xs) (hx : Curve xs n) (he : curveErr xs = 0) :
    Calls Try.prog 39 #[.slice p n c, .int .i64 d] w (RetL w (FitOf 0 (lateL xs d))) := by
  have hft := Lib.hid (late_fits (d := d) hx)
  obtain ⟨hl, hpos, h61, hbd, _⟩ := hx
  have HE := Lib.hid he; clear he
  have HL := Lib.hid hl; clear hl
  obtain ⟨b, off, hp, hlt, hc⟩ := h.cells hpos
  subst hp
  have hd0 : decide ((d : Int) < 0) = false := by simp
  go_enter Try.func39, Try.ntmps39
  go_wp2_with fail
  refine (curve_Check h HE.out).mono ?_; rintro e w' ⟨rfl, rfl⟩
  clear h
  go_wp2_with (at_make; refine wpL_make_int Try.tyInts rfl rfl (B := w.heap.size) (W0 := w) n rfl rfl rfl rfl (Below.refl _ _) (by omega) (Nat.le_refl _) ?_; intro g w1 hg hown hbel hb0)
  clear hb0
  go_loopw [21] (fun i wr => ∃ k : Nat, k ≤ n ∧ i = .int .i64 k ∧ OwnI wr w.heap.size (some ⟨g, 0, none⟩) n n (tab n fun j => if j < k then (if d ≤ j then gi xs (j - d) else 0) else 0) ∧ Below w.heap.size w wr) (fun i _ => n - (intOf i).toNat)
  case atStart => exact ⟨0, Nat.zero_le _, rfl, by simpa using hown, hbel⟩
  case round =>
    obtain ⟨k, hk, rfl, ho, hb⟩ := hrel
    clear hown hbel
    by_cases hkn : k < n
    · have c3 := ho.at hkn
      rw [gi_tab hkn, if_neg (Nat.lt_irrefl k)] at c3
      have f3 := ho.free k
      by_cases hdk : d ≤ k
      · have c1 : wr.cell? ⟨b, off + (k - d), none⟩ = some (.int .i64 (gi xs (k - d))) := (bdeep hb hlt _).trans (hc _ (by omega))
        go_wp2
        go_roundw
        case rel =>
          refine ⟨k + 1, by omega, by go_num, ho.put k _ fun j hj => ?_, hb.setCell hg _⟩
          by_cases e : j = k
          · subst e; rw [if_pos rfl, if_pos (show j < j + 1 by omega), if_pos hdk]
          · rw [if_neg e]
            by_cases e2 : j < k
            · rw [if_pos e2, if_pos (show j < k + 1 by omega)]
            · rw [if_neg e2, if_neg (show ¬ j < k + 1 by omega)]
        case measure => simp [intOf]; omega
      · go_wp2
        go_roundw
        case rel =>
          refine ⟨k + 1, by omega, by go_num, ho.to fun j hj => ?_, hb⟩
          by_cases e : j = k
          · subst e; rw [if_neg (Nat.lt_irrefl j), if_pos (show j < j + 1 by omega), if_neg hdk]
          · by_cases e2 : j < k
            · rw [if_pos e2, if_pos (show j < k + 1 by omega)]
            · rw [if_neg e2, if_neg (show ¬ j < k + 1 by omega)]
        case measure => simp [intOf]; omega
    · obtain rfl : n = k := by omega
      go_wp2
      go_ret2
      exact ⟨_, _, _, _, _, rfl, ho, hb, .inr (.inr ⟨rfl, hft.out, rfl, by unfold lateL; rw [HL.out]; exact tab_congr fun j hj => if_pos hj⟩)⟩

set_option maxHeartbeats 400000 in
theorem point_Late_bad {w : World} {p : Option Addr} {n c : Nat} {d : Int} {xs : List Int} (h : SI w p n c xs) {er : Int} (he : lateErr xs d = er) (h0 : er ≠ 0) :
    Calls Try.prog 39 #[.slice p n c, .int .i64 d] w fun e w' => e = .returned (.tuple #[.slice none 0 0, .int .i64 er]) ∧ w = w' := by
  by_cases hc : curveErr xs = 0
  · by_cases hd : d < 0
    · obtain rfl : 1 = er := by rw [← he]; unfold lateErr; rw [if_neg (by simp [hc]), if_pos hd]
      have HC := Lib.hid hc; clear hc he
      go_enter Try.func39, Try.ntmps39
      go_wp2_with fail
      refine (curve_Check h HC.out).mono ?_; rintro e w' ⟨rfl, rfl⟩
      go_wp2
      go_ret2
      exact ⟨rfl, rfl⟩
    · exact absurd (by rw [← he]; unfold lateErr; rw [if_neg (by simp [hc]), if_neg hd]) h0
  · obtain rfl : curveErr xs = er := by rw [← he]; unfold lateErr; rw [if_pos hc]
    clear he
    generalize hx : curveErr xs = ex at *
    have H1 := Lib.hid hx; clear hx
    have hb := bne_false_of hc
    go_enter Try.func39, Try.ntmps39
    go_wp2_with fail
    refine (curve_Check h H1.out).mono ?_; rintro e w' ⟨rfl, rfl⟩
    go_wp2
    go_ret2
    exact ⟨rfl, rfl⟩

set_option maxHeartbeats 1000000 in
theorem point_Up_ok {w : World} {p : Option Addr} {n c : Nat} {u : Int} {xs : List Int} (h : SI w p n c xs) (hx : Curve xs n) (he : curveErr xs = 0) (hu0 : 0 ≤ u) (hu1 : u ≤ 1000000) :
    Calls Try.prog 40 #[.slice p n c, .int .i64 u] w (RetL w (FitOf 0 (upL xs u))) := by
  obtain ⟨hl, hpos, h61, hbd, _⟩ := hx
  have HE := Lib.hid he; clear he
  have HL := Lib.hid hl; clear hl
  obtain ⟨b, off, hp, hlt, hc⟩ := h.cells hpos
  subst hp
  have hd0 : decide (u < 0) = false := by simp; omega
  have hd1 : decide (1000000 < u) = false := by simp; omega
  go_enter Try.func40, Try.ntmps40
  go_wp2_with fail
  refine (curve_Check h HE.out).mono ?_; rintro e w' ⟨rfl, rfl⟩
  clear h
  go_wp2_with (at_make; refine wpL_make_int Try.tyInts rfl rfl (B := w.heap.size) (W0 := w) n rfl rfl rfl rfl (Below.refl _ _) (by omega) (Nat.le_refl _) ?_; intro g w1 hg hown hbel hb0)
  clear hb0
  go_loopw [25] (fun i wr => ∃ k : Nat, k ≤ n ∧ i = .int .i64 k ∧ OwnI wr w.heap.size (some ⟨g, 0, none⟩) n n (tab n fun j => if j < k then gi xs j + u else 0) ∧ Below w.heap.size w wr) (fun i _ => n - (intOf i).toNat)
  case atStart => exact ⟨0, Nat.zero_le _, rfl, by simpa using hown, hbel⟩
  case round =>
    obtain ⟨k, hk, rfl, ho, hb⟩ := hrel
    clear hown hbel
    by_cases hkn : k < n
    · have c3 := ho.at hkn
      rw [gi_tab hkn, if_neg (Nat.lt_irrefl k)] at c3
      have f3 := ho.free k
      have c1 : wr.cell? ⟨b, off + k, none⟩ = some (.int .i64 (gi xs k)) := (bdeep hb hlt _).trans (hc _ hkn)
      have b1 := hbd k hkn
      go_wp2
      go_roundw
      case rel =>
        refine ⟨k + 1, by omega, by go_num, ho.put k _ fun j hj => ?_, hb.setCell hg _⟩
        by_cases e : j = k
        · subst e; rw [if_pos rfl, if_pos (show j < j + 1 by omega)]
        · rw [if_neg e]
          by_cases e2 : j < k
          · rw [if_pos e2, if_pos (show j < k + 1 by omega)]
          · rw [if_neg e2, if_neg (show ¬ j < k + 1 by omega)]
      case measure => simp [intOf]; omega
    · obtain rfl : n = k := by omega
      have ho2 : OwnI wr w.heap.size (some ⟨g, 0, none⟩) n n (upL xs u) := by unfold upL; rw [HL.out]; exact ho.to fun j hj => if_pos hj
      clear ho
      by_cases hf : fits (upL xs u)
      · have HF := Lib.hid hf; clear hf
        go_wp2_with fail
        refine (curve_Fit_ok ho2.si HF.out).mono ?_; rintro e w' ⟨rfl, rfl⟩
        go_wp2
        go_ret2
        exact ⟨_, _, _, _, _, rfl, ho2, hb, .inr (.inr ⟨rfl, HF.out, rfl, rfl⟩)⟩
      · have HF := Lib.hid hf; clear hf
        go_wp2_with fail
        refine (curve_Fit_big ho2.si HF.out).mono ?_; rintro e w' ⟨rfl, rfl⟩
        go_wp2
        go_ret2
        exact ⟨_, _, _, [], _, rfl, OwnI.nil _ _, hb, .inr (.inl ⟨rfl, HF.out, rfl, rfl⟩)⟩

set_option maxHeartbeats 400000 in
theorem point_Up_bad {w : World} {p : Option Addr} {n c : Nat} {u : Int} {xs : List Int} (h : SI w p n c xs) {er : Int} (he : upErr xs u = er) (h0 : er ≠ 0) :
    Calls Try.prog 40 #[.slice p n c, .int .i64 u] w fun e w' => e = .returned (.tuple #[.slice none 0 0, .int .i64 er]) ∧ w = w' := by
  by_cases hc : curveErr xs = 0
  · by_cases hd : u < 0
    · obtain rfl : 1 = er := by rw [← he]; unfold upErr; rw [if_neg (by simp [hc]), if_pos (.inl hd)]
      have HC := Lib.hid hc; clear hc he
      go_enter Try.func40, Try.ntmps40
      go_wp2_with fail
      refine (curve_Check h HC.out).mono ?_; rintro e w' ⟨rfl, rfl⟩
      go_wp2
      go_ret2
      exact ⟨rfl, rfl⟩
    · by_cases hd2 : 1000000 < u
      · obtain rfl : 1 = er := by rw [← he]; unfold upErr; rw [if_neg (by simp [hc]), if_pos (.inr hd2)]
        have HC := Lib.hid hc; clear hc he
        go_enter Try.func40, Try.ntmps40
        go_wp2_with fail
        refine (curve_Check h HC.out).mono ?_; rintro e w' ⟨rfl, rfl⟩
        go_wp2
        go_ret2
        exact ⟨rfl, rfl⟩
      · exact absurd (by rw [← he]; unfold upErr; rw [if_neg (by simp [hc]), if_neg (by omega)]) h0
  · obtain rfl : curveErr xs = er := by rw [← he]; unfold upErr; rw [if_pos hc]
    clear he
    generalize hx : curveErr xs = ex at *
    have H1 := Lib.hid hx; clear hx
    have hb := bne_false_of hc
    go_enter Try.func40, Try.ntmps40
    go_wp2_with fail
    refine (curve_Check h H1.out).mono ?_; rintro e w' ⟨rfl, rfl⟩
    go_wp2
    go_ret2
    exact ⟨rfl, rfl⟩
end Go.Proofs.Ytclbcbeakefhmaa
