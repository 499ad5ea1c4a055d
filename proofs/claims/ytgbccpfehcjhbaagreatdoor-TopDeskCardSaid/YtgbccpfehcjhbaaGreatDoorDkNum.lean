/- The contract of desk.number (P77). Conditions: the library's variables are laid. -/
import Derived.Test.YtgbccpfehcjhbaaGreatDoorDkLib
namespace Go.Proofs.YtgbccpfehcjhbaaGreatDoor
open Go Go.RowKit
set_option linter.unusedVariables false
set_option linter.unusedSimpArgs false

theorem bytesWorld_any {w w' : World} {t : TypeId} (h : w' = w ∨ ∃ x, w' = Lib.bytesWorld w t x) : Below w.heap.size w w' := by
  rcases h with rfl | ⟨x, rfl⟩
  · exact Below.refl _ _
  · exact Lib.bytesWorld_below _ _ _
theorem dk_Atoi_ok {w : World} {s : ByteArray} (hs : s.size ≤ 1000000000) {v : Int} (h : Lib.atoiAll s.data.toList = .ok v) :
    Calls Tryz.prog 129 #[.string s] w fun e w' => e = .returned (.tuple #[.int .i64 v, .nilIface]) ∧ Below w.heap.size w w' :=
  (Tryz.strconv_Atoi_ok s (by omega) v h w).mono fun e w' ⟨he, hw⟩ => ⟨he, bytesWorld_any hw⟩
def AtoiBad (w : World) (e : Ending) (w' : World) : Prop := ∃ (n : Int) (T : TypeId) (a : Addr), e = .returned (.tuple #[.int .i64 n, .iface T (.pointer (some a))]) ∧ Below w.heap.size w w'
theorem dk_Atoi_bad {w : World} (L : Laid w) {s : ByteArray} (hs : s.size ≤ 1000000000) (h : ∀ v, Lib.atoiAll s.data.toList ≠ .ok v) :
    Calls Tryz.prog 129 #[.string s] w (AtoiBad w) := by
  rcases (show (∃ v, Lib.atoiAll s.data.toList = .ok v) ∨ Lib.atoiAll s.data.toList = Lib.NumEnd.syntax ∨ Lib.atoiAll s.data.toList = Lib.NumEnd.range by
    rcases Lib.atoiAll s.data.toList with v | _ | _
    · exact .inl ⟨v, rfl⟩
    · exact .inr (.inl rfl)
    · exact .inr (.inr rfl)) with ⟨v, hc⟩ | hc | hc
  · exact absurd hc (h v)
  · obtain ⟨te, pe, hv⟩ := L.es
    exact (Tryz.strconv_Atoi_syntax s (by omega) hc _ w hv (.inr ⟨te, pe, rfl⟩)).mono fun e w' ⟨N, he, _, _, hb⟩ => ⟨_, _, _, he, hb⟩
  · obtain ⟨te, pe, hv⟩ := L.er
    exact (Tryz.strconv_Atoi_range s (by omega) hc _ w hv (.inr ⟨te, pe, rfl⟩)).mono fun e w' ⟨N, he, _, _, hb⟩ => ⟨_, _, _, he, hb⟩
set_option maxHeartbeats 800000 in
theorem dk_number {w : World} (L : Laid w) {s : ByteArray} {v : Int} (h : numW s = some v) :
    Calls Tryz.prog 99 #[.string s] w fun e w' => e = .returned (.int .i64 v) ∧ Below w.heap.size w w' := by
  obtain ⟨h1, h2, h3, h4⟩ := numW_some h
  have h5 := numW_lt h
  have HA := Lib.hid (dk_Atoi_ok (w := w) (by omega) h1)
  have HI := Lib.hid (fun (w1 : World) (L1 : Laid w1) => dk_Itoa (w := w1) L1 (n := v) (by omega) (by omega))
  rw [← h4] at HI
  have HL := Lib.hid L
  clear h1 h4 h L
  have q1 : decide ((s.size : Int) ≤ 9) = true := by simp; omega
  have q2 : decide ((9 : Int) < (s.size : Int)) = false := by simp; omega
  have q3 : decide (v < 0) = false := by simp; omega
  go_enter Tryz.func99, Tryz.ntmps99
  go_wp2_with fail
  refine HA.out.mono ?_; rintro e w1 ⟨rfl, b1⟩
  have L1 := Lib.hid (HL.out.below b1)
  go_wp2_with fail
  refine (HI.out _ L1.out).mono ?_; rintro e w2 ⟨rfl, b2⟩
  have b12 := b1.trans (b2.mono b1.size)
  go_wp2
  go_ret
  exact ⟨rfl, b12⟩
set_option maxHeartbeats 800000 in
theorem dk_number_bad {w : World} (L : Laid w) {s : ByteArray} (hs : s.size ≤ 1000000000) (h : numW s = none) :
    Calls Tryz.prog 99 #[.string s] w fun e w' => e = faultE 9 ∧ Below w.heap.size w w' := by
  have HL := Lib.hid L
  by_cases hok : ∃ v, Lib.atoiAll s.data.toList = .ok v
  · obtain ⟨v, hv⟩ := hok
    have hvb := Lib.atoiAll_bounds hv
    have HA := Lib.hid (dk_Atoi_ok (w := w) hs hv)
    have hno : ¬ (s.size ≤ 9 ∧ 0 ≤ v ∧ s = str (Lib.itoa v)) := fun hc => by
      unfold numW at h
      rw [hv] at h
      simp only at h
      rw [if_pos hc] at h
      cases h
    clear h hv L
    by_cases h9 : s.size ≤ 9
    · have q2 : decide ((9 : Int) < (s.size : Int)) = false := by simp; omega
      by_cases h0 : 0 ≤ v
      · have q3 : decide (v < 0) = false := by simp; omega
        have HI := Lib.hid (fun (w1 : World) (L1 : Laid w1) => dk_Itoa (w := w1) L1 (n := v) (by omega) (by omega))
        have hne : ¬ s = str (Lib.itoa v) := fun e => hno ⟨h9, h0, e⟩
        generalize str (Lib.itoa v) = t at *
        have q4 := str_ne hne
        clear hno
        go_enter Tryz.func99, Tryz.ntmps99
        go_wp2_with fail
        refine HA.out.mono ?_; rintro e w1 ⟨rfl, b1⟩
        have L1 := Lib.hid (HL.out.below b1)
        go_wp2_with fail
        refine (HI.out _ L1.out).mono ?_; rintro e w2 ⟨rfl, b2⟩
        have b12 := b1.trans (b2.mono b1.size)
        go_wp2_with fail
        refine dk_bad.mono ?_; rintro e w3 ⟨rfl, b3⟩
        have b13 := b12.trans (b3.mono b12.size)
        go_wp2
        exact ⟨rfl, rfl, b13⟩
      · have q3 : decide (v < 0) = true := by simp; omega
        clear hno
        go_enter Tryz.func99, Tryz.ntmps99
        go_wp2_with fail
        refine HA.out.mono ?_; rintro e w1 ⟨rfl, b1⟩
        go_wp2_with fail
        refine dk_bad.mono ?_; rintro e w3 ⟨rfl, b3⟩
        have b13 := b1.trans (b3.mono b1.size)
        go_wp2
        exact ⟨rfl, rfl, b13⟩
    · have q2 : decide ((9 : Int) < (s.size : Int)) = true := by simp; omega
      clear hno
      go_enter Tryz.func99, Tryz.ntmps99
      go_wp2_with fail
      refine HA.out.mono ?_; rintro e w1 ⟨rfl, b1⟩
      go_wp2_with fail
      refine dk_bad.mono ?_; rintro e w3 ⟨rfl, b3⟩
      have b13 := b1.trans (b3.mono b1.size)
      go_wp2
      exact ⟨rfl, rfl, b13⟩
  · have HA := Lib.hid (dk_Atoi_bad L hs (fun v e => hok ⟨v, e⟩))
    clear h hok L
    go_enter Tryz.func99, Tryz.ntmps99
    go_wp2_with fail
    refine HA.out.mono ?_; rintro e w1 ⟨n, T, a, rfl, b1⟩
    go_wp2_with fail
    refine dk_bad.mono ?_; rintro e w3 ⟨rfl, b3⟩
    have b13 := b1.trans (b3.mono b1.size)
    go_wp2
    exact ⟨rfl, rfl, b13⟩
end Go.Proofs.YtgbccpfehcjhbaaGreatDoor
