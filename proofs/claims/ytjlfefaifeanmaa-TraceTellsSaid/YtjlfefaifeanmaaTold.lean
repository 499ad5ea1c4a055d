/- The contracts of slices.Max at []int, headref.Fits and headlaw.told. No conditions (told: that the answer is the one that must be). -/
import Derived.Test.YtjlfefaifeanmaaFit
import Derived.Test.YtjlfefaifeanmaaEqual
namespace Go.Proofs.Ytjlfefaifeanmaa
open Go Go.RowKit

set_option maxHeartbeats 400000 in
theorem slices_Max {w : World} {p : Option Addr} {n c : Nat} {xs : List Int} (h : SI w p n c xs) (hn : 0 < n) {m : Int} (hub : ∀ j, j < n → gi xs j ≤ m) (hat : ∃ j, j < n ∧ gi xs j = m) :
    Calls Try.prog 91 #[.slice p n c] w fun e w' => e = .returned (.int .i64 m) ∧ w = w' := by
  obtain ⟨hl, hm, hr⟩ := h
  have HU := Lib.hid hub; clear hub
  have HA := Lib.hid hat; clear hat
  have HL := Lib.hid hl; clear hl
  obtain ⟨b, off, rfl, hlt, hc⟩ := hr hn
  have hc0 : w.cell? ⟨b, off, none⟩ = some (.int .i64 (gi xs 0)) := hc 0 hn
  have hb : decide ((n : Int) < 1) = false := by simp; omega
  go_enter Try.func91, Try.ntmps91
  go_wp2
  go_loop [3, 4] (fun t i => ∃ (k : Nat) (v : Int), 1 ≤ k ∧ k ≤ n ∧ i = .int .i64 k ∧ t = .int .i64 v ∧ (∃ j, j < k ∧ gi xs j = v) ∧ ∀ j, j < k → gi xs j ≤ v) (fun _ i => n - (intOf i).toNat)
  case atStart => exact ⟨1, gi xs 0, by omega, by omega, rfl, rfl, ⟨0, by omega, rfl⟩, fun j hj => by obtain rfl : j = 0 := (by omega); exact Int.le_refl _⟩
  case round =>
    obtain ⟨k, v, h1, hk, rfl, rfl, HV, HH⟩ := hrel
    have H1 := Lib.hid HV; have H2 := Lib.hid HH; clear HV HH
    by_cases hkn : k < n
    · have hcell := hc k hkn
      clear hc hr
      go_wp2
      go_round
      case rel =>
        refine ⟨k + 1, _, by omega, by omega, by go_num, rfl, ?_, fun j hj => ?_⟩
        · by_cases hv : gi xs k ≤ v
          · obtain ⟨j, hj, e⟩ := H1.out
            exact ⟨j, by omega, by rw [e]; omega⟩
          · exact ⟨k, by omega, by omega⟩
        · rcases Nat.lt_succ_iff_lt_or_eq.1 hj with h | rfl
          · have := H2.out j h; omega
          · omega
      case measure => simp [intOf]; omega
    · have hkk : n = k := by omega
      subst hkk
      go_wp2
      go_ret
      refine ⟨ret_int ?_, rfl⟩
      obtain ⟨j, hj, e⟩ := H1.out
      obtain ⟨j', hj', e'⟩ := HA.out
      have a1 := HU.out j hj
      have a2 := H2.out j' hj'
      omega

theorem max_exists (xs : List Int) (n : Nat) (hn : 0 < n) : ∃ m, (∀ j, j < n → gi xs j ≤ m) ∧ ∃ j, j < n ∧ gi xs j = m := by
  induction n with
  | zero => omega
  | succ n ih =>
    by_cases h : n = 0
    · subst h
      exact ⟨gi xs 0, fun j hj => by obtain rfl : j = 0 := (by omega); exact Int.le_refl _, 0, by omega, rfl⟩
    · obtain ⟨m, h1, j, hj, e⟩ := ih (by omega)
      by_cases hm : gi xs n ≤ m
      · refine ⟨m, fun i hi => ?_, j, by omega, e⟩
        rcases Nat.lt_succ_iff_lt_or_eq.1 hi with h | rfl
        · exact h1 i h
        · exact hm
      · refine ⟨gi xs n, fun i hi => ?_, n, by omega, rfl⟩
        rcases Nat.lt_succ_iff_lt_or_eq.1 hi with h | rfl
        · have := h1 i h; omega
        · omega

set_option maxHeartbeats 400000 in
theorem ref_Fits_ok {w : World} {p : Option Addr} {n c : Nat} {xs : List Int} (h : SI w p n c xs) (hf : fits xs) :
    Calls Try.prog 68 #[.slice p n c] w fun e w' => e = .returned (.tuple #[.slice p n c, .int .i64 0]) ∧ w = w' := by
  by_cases h0 : 0 < n
  · obtain ⟨m, h1, h2⟩ := max_exists xs n h0
    have hm : m ≤ 1000000 := by obtain ⟨j, hj, e⟩ := h2; have := hf j (by rw [h.1]; exact hj); omega
    have hb : decide ((0 : Int) < (n : Int)) = true := by simp; omega
    have H1 := Lib.hid h1; have H2 := Lib.hid h2; have HF := Lib.hid hf; clear h1 h2 hf
    go_enter Try.func68, Try.ntmps68
    go_wp2_with fail
    refine (slices_Max h h0 H1.out H2.out).mono ?_; rintro e w' ⟨rfl, rfl⟩
    go_wp2
    go_ret2
    exact ⟨rfl, rfl⟩
  · have hn0 : n = 0 := by omega
    subst hn0
    go_enter Try.func68, Try.ntmps68
    go_wp2_with fail
    go_ret2
    exact ⟨rfl, rfl⟩

set_option maxHeartbeats 400000 in
theorem ref_Fits_big {w : World} {p : Option Addr} {n c : Nat} {xs : List Int} (h : SI w p n c xs) (hf : ¬ fits xs) :
    Calls Try.prog 68 #[.slice p n c] w fun e w' => e = .returned (.tuple #[.slice none 0 0, .int .i64 2]) ∧ w = w' := by
  have h0 : 0 < n := by
    apply Nat.pos_of_ne_zero
    rintro rfl
    exact hf fun j hj => by rw [h.1] at hj; omega
  obtain ⟨m, h1, h2⟩ := max_exists xs n h0
  have hm : 1000000 < m := by
    apply Int.not_le.1
    intro hm
    exact hf fun j hj => by rw [h.1] at hj; have := h1 j hj; omega
  have hb : decide ((0 : Int) < (n : Int)) = true := by simp; omega
  have H1 := Lib.hid h1; have H2 := Lib.hid h2; have HF := Lib.hid hf; clear h1 h2 hf
  go_enter Try.func68, Try.ntmps68
  go_wp2_with fail
  refine (slices_Max h h0 H1.out H2.out).mono ?_; rintro e w' ⟨rfl, rfl⟩
  go_wp2
  go_ret2
  exact ⟨rfl, rfl⟩

/-- what was answered is what must be: told answers true -/
theorem told_yes {w : World} {p q : Option Addr} {n c m d : Nat} {L Y : List Int} {er want : Int} (h : SI w p n c L) (g : SI w q m d Y) (hF : FitOf want Y L er) :
    Calls Try.prog 17 #[.slice p n c, .int .i64 er, .slice q m d, .int .i64 want] w fun e w' => e = .returned (.bool true) ∧ Below w.heap.size w w' := by
  rcases hF with ⟨h1, rfl, rfl⟩ | ⟨rfl, h2, rfl, rfl⟩ | ⟨rfl, h2, rfl, rfl⟩
  · obtain rfl : 0 = n := h.1
    have hb := bne_false_of h1
    go_enter Try.func17, Try.ntmps17
    go_wp2
    go_ret
    exact ⟨rfl, Below.refl _ _⟩
  · obtain rfl : 0 = n := h.1
    have H2 := Lib.hid h2; clear h2
    go_enter Try.func17, Try.ntmps17
    go_wp2_with fail
    refine (ref_Fits_big g H2.out).mono ?_; rintro e w' ⟨rfl, rfl⟩
    go_wp2
    go_ret
    exact ⟨rfl, Below.refl _ _⟩
  · have H2 := Lib.hid h2; clear h2
    go_enter Try.func17, Try.ntmps17
    go_wp2_with fail
    refine (ref_Fits_ok g H2.out).mono ?_; rintro e w' ⟨rfl, rfl⟩
    go_wp2_with fail
    refine (slices_Equal h g (r := true) (by simp)).mono ?_; rintro e w1 ⟨rfl, hb1⟩
    go_wp2
    go_ret
    exact ⟨rfl, hb1⟩
end Go.Proofs.Ytjlfefaifeanmaa
