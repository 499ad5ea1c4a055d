/- The contracts of fair.Check, headref.Weights and fair.less (P41, P42). No conditions beyond what each theorem says. -/
import Derived.Test.YtgnegemiiahkaaaFairLaw
import Derived.Test.YtgnegemiiahkaaaPackets
import Derived.Test.YtgnegemiiahkaaaIndexFunc
import Derived.Test.YtgnegemiiahkaaaOpen
namespace Go.Proofs.Ytgnegemiiahkaaa
open Go Go.RowKit
set_option linter.unusedVariables false
set_option linter.unusedSimpArgs false

def badW (x : Int) : Bool := decide (x < 1 ∨ 8 < x)
/-- P41 -/
noncomputable def fairErr (ws : List Int) (xs : List (Int × Int × Int)) : Int := if ws.length ≠ 8 then 4 else if ∃ i, i < ws.length ∧ badW (gi ws i) = true then 1 else packErr xs
theorem fair_ok {ws : List Int} {xs : List (Int × Int × Int)} (h : fairErr ws xs = 0) : ws.length = 8 ∧ (∀ i, i < 8 → 1 ≤ gi ws i ∧ gi ws i ≤ 8) ∧ packErr xs = 0 := by
  unfold fairErr at h
  split at h
  · cases h
  · split at h
    · cases h
    · rename_i h1 h2
      have h8 : ws.length = 8 := Classical.not_not.1 h1
      refine ⟨h8, fun i hi => ?_, h⟩
      have : ¬ badW (gi ws i) = true := fun h => h2 ⟨i, by omega, h⟩
      unfold badW at this
      simp at this
      omega
theorem pscan_ok : ∀ (xs : List (Int × Int × Int)) (l : Int), pscan l xs = 0 → ∀ x ∈ xs, okPkt x.1 x.2.1 x.2.2
  | [], _, _ => fun x hx => by simp at hx
  | (a, s, f) :: r, l, h => by
    unfold pscan at h
    split at h
    · cases h
    · split at h
      · cases h
      · rename_i h1 _
        intro x hx
        rcases List.mem_cons.1 hx with rfl | hx
        · exact Classical.not_not.1 h1
        · exact pscan_ok r _ h x hx
/-- the packets and weights that came in -/
def pkOf (ws : List Int) (xs : List (Int × Int × Int)) : PK := { n := xs.length, A := t0 xs, S := t1 xs, fl := fun i => (t2 xs i).toNat, W := gi ws }
theorem pk_ok {ws : List Int} {xs : List (Int × Int × Int)} (h : fairErr ws xs = 0) : (pkOf ws xs).Ok ∧ ∀ i, i < xs.length → 0 ≤ t2 xs i ∧ t2 xs i ≤ 7 := by
  obtain ⟨h8, hw, hp⟩ := fair_ok h
  unfold packErr at hp
  split at hp
  · cases hp
  · rename_i h60
    have hx : ∀ i, i < xs.length → okPkt (t0 xs i) (t1 xs i) (t2 xs i) := fun i hi => by
      have h1 := pscan_ok xs _ hp xs[i] (List.getElem_mem hi)
      have e : xs[i] = (t0 xs i, t1 xs i, t2 xs i) := by simp [t0, t1, t2, hi]
      rw [e] at h1; exact h1
    unfold okPkt at hx
    refine ⟨⟨by show xs.length ≤ 60; omega, fun i hi => ?_, fun i hi => ?_, fun i hi => ?_, hw⟩, fun i hi => ?_⟩
    · have := hx i hi; exact ⟨this.1, this.2.1⟩
    · have := hx i hi; exact ⟨this.2.2.1, this.2.2.2.1⟩
    · have := hx i hi; show (t2 xs i).toNat < 8; omega
    · have := hx i hi; omega

set_option maxHeartbeats 800000 in
theorem fair_Check {w : World} {p q : Option Addr} {n c m d : Nat} {ws : List Int} {xs : List (Int × Int × Int)} (g : SI w p n c ws) (h : S3 w q m d xs) {er : Int} (he : fairErr ws xs = er) :
    Calls Try.prog 19 #[.slice p n c, .slice q m d] w fun e w' => e = .returned (.int .i64 er) ∧ Below w.heap.size w w' := by
  have hm := g.2.1
  have HL := Lib.hid g.len
  have HE := Lib.hid he
  clear he
  by_cases h8 : n = 8
  · subst h8
    go_enter Try.func19, Try.ntmps19
    go_wp2
    go_loopw [12] (fun iv wr => ∃ k : Nat, k ≤ 8 ∧ iv = .int .i64 k ∧ Hid (∀ j, j < k → badW (gi ws j) = false) ∧ wr = w) (fun iv _ => 8 - (intOf iv).toNat)
    case atStart => exact ⟨0, by omega, rfl, Lib.hid (fun j hj => by omega), rfl⟩
    case round =>
      obtain ⟨k, hk, rfl, HJ, rfl⟩ := hrel
      by_cases hk8 : k < 8
      · obtain ⟨b, off, rfl, hlt, hc⟩ := g.cells (by omega)
        have c0 := hc k hk8
        obtain ⟨v, hv⟩ : ∃ v, gi ws k = v := ⟨_, rfl⟩
        rw [hv] at c0
        have HV := Lib.hid hv
        clear hc hv
        by_cases hbad : v < 1 ∨ 8 < v
        · obtain rfl : er = 1 := by rw [← HE.out]; unfold fairErr; rw [if_neg (by rw [HL.out]; simp), if_pos ⟨k, by rw [HL.out]; exact hk8, by rw [HV.out]; unfold badW; exact decide_eq_true hbad⟩]
          rcases (show v < 1 ∨ (1 ≤ v ∧ 8 < v) by omega) with g1 | ⟨g1, g2⟩
          all_goals
            clear hbad
            go_wp2
            go_ret
            exact ⟨rfl, Below.refl _ _⟩
        · have g2 : 1 ≤ v ∧ v ≤ 8 := by omega
          have HB := Lib.hid (show badW (gi ws k) = false by rw [HV.out]; unfold badW; exact decide_eq_false hbad)
          clear hbad
          go_wp2
          go_roundw
          case rel => exact ⟨k + 1, by omega, by go_num, Lib.hid (fun j hj => by rcases Nat.lt_succ_iff_lt_or_eq.1 hj with h | rfl; exact HJ.out j h; exact HB.out), trivial⟩
          case measure => simp [intOf]; omega
      · obtain rfl : k = 8 := by omega
        have HP := Lib.hid (show packErr xs = er by
          rw [← HE.out]; unfold fairErr; rw [if_neg (by rw [HL.out]; simp), if_neg]
          rintro ⟨j, hj, hj2⟩; rw [HL.out] at hj; rw [HJ.out j hj] at hj2; cases hj2)
        go_wp2_with fail
        refine (bucket_Packets h HP.out).mono ?_; rintro e w1 ⟨rfl, b1⟩
        go_wp2
        go_ret
        exact ⟨rfl, b1⟩
  · obtain rfl : er = 4 := by rw [← HE.out]; unfold fairErr; rw [if_pos (by rw [HL.out]; exact h8)]
    have hz : ((n : Int) == 8) = false := by simp; omega
    go_enter Try.func19, Try.ntmps19
    go_wp2
    go_ret
    exact ⟨rfl, Below.refl _ _⟩

theorem within_8 {w : World} {x : Int} {r : Bool} (h : decide (1 ≤ x ∧ x ≤ 8) = r) :
    Calls Try.prog 60 #[.int .i64 x, .int .i64 1, .int .i64 8] w fun e w' => e = .returned (.bool r) ∧ w = w' := by
  by_cases h1 : 1 ≤ x
  · by_cases h2 : x ≤ 8
    · obtain rfl : r = true := by rw [← h]; simp; omega
      have q1 : decide (1 ≤ x) = true := by simp; omega
      have q2 : decide (x ≤ 8) = true := by simp; omega
      go_enter Try.func60, Try.ntmps60
      go_wp2
      go_ret
      exact ⟨rfl, rfl⟩
    · obtain rfl : r = false := by rw [← h]; simp; omega
      have q1 : decide (1 ≤ x) = true := by simp; omega
      have q2 : decide (x ≤ 8) = false := by simp; omega
      go_enter Try.func60, Try.ntmps60
      go_wp2
      go_ret
      exact ⟨rfl, rfl⟩
  · obtain rfl : r = false := by rw [← h]; simp; omega
    have q1 : decide (1 ≤ x) = false := by simp; omega
    go_enter Try.func60, Try.ntmps60
    go_wp2
    go_ret
    exact ⟨rfl, rfl⟩
theorem weights_bad {w : World} {x : Int} : Calls Try.prog 59 #[.int .i64 x] w fun e w' => e = .returned (.bool (badW x)) ∧ w = w' := by
  have h : decide (1 ≤ x ∧ x ≤ 8) = !badW x := by
    unfold badW
    by_cases h1 : x < 1 ∨ 8 < x
    · rw [decide_eq_true h1, decide_eq_false (by omega)]; rfl
    · rw [decide_eq_false h1, decide_eq_true (by omega)]; rfl
  generalize badW x = bb at *
  have HC := Lib.hid (within_8 (w := w) h)
  clear h
  cases bb
  all_goals
    go_enter Try.func59, Try.ntmps59
    go_wp2_with fail
    refine HC.out.mono ?_; rintro e w' ⟨rfl, rfl⟩
    go_wp2
    go_ret
    exact ⟨rfl, rfl⟩
set_option maxHeartbeats 800000 in
theorem ref_Weights {w : World} {p q : Option Addr} {n c m d : Nat} {ws : List Int} {xs : List (Int × Int × Int)} (g : SI w p n c ws) (h : S3 w q m d xs) {er : Int} (he : fairErr ws xs = er) :
    Calls Try.prog 18 #[.slice p n c, .slice q m d] w fun e w' => e = .returned (.int .i64 er) ∧ Below w.heap.size w w' := by
  have hm := g.2.1
  have HL := Lib.hid g.len
  have HE := Lib.hid he
  clear he
  by_cases h8 : n = 8
  · subst h8
    obtain ⟨i, hi⟩ := firstP_exists (fun i => badW (gi ws i)) 8
    obtain ⟨bd, hbd⟩ : ∃ bd, decide (i < 8) = bd := ⟨_, rfl⟩
    have HC := Lib.hid (slices_ContainsFunc g hi (F := 59) (cap := #[]) (fun args w => by simp [callFunc, Try.func59, Try.f59, go_sem]) (fun w' k hk hb => (weights_bad).mono (fun e w'' h => ⟨h.1, by rw [← h.2]; exact hb⟩)))
    rw [hbd] at HC
    have HI := Lib.hid hi
    have HBD := Lib.hid hbd
    clear hi hbd
    cases bd with
    | true =>
      have hin : i < 8 := of_decide_eq_true HBD.out
      obtain rfl : er = 1 := by rw [← HE.out]; unfold fairErr; rw [if_neg (by rw [HL.out]; simp), if_pos ⟨i, by rw [HL.out]; exact hin, HI.out.2.2 hin⟩]
      go_enter Try.func18, Try.ntmps18
      go_wp2_with fail
      refine HC.out.mono ?_; rintro e w1 ⟨rfl, b1⟩
      go_wp2
      go_ret
      exact ⟨rfl, b1⟩
    | false =>
      have hin : ¬ i < 8 := of_decide_eq_false HBD.out
      have HP := Lib.hid (show packErr xs = er by
        rw [← HE.out]; unfold fairErr; rw [if_neg (by rw [HL.out]; simp), if_neg]
        rintro ⟨j, hj, hj2⟩
        rw [HL.out] at hj
        have := HI.out.2.1 j (by omega)
        simp only at this
        rw [this] at hj2; cases hj2)
      go_enter Try.func18, Try.ntmps18
      go_wp2_with fail
      refine HC.out.mono ?_; rintro e w1 ⟨rfl, b1⟩
      go_wp2_with fail
      refine (ref_Queue (h.below b1) HP.out).mono ?_; rintro e w2 ⟨rfl, b2⟩
      have hb2 := b1.trans (b2.mono b1.size)
      go_wp2
      go_ret
      exact ⟨rfl, hb2⟩
  · obtain rfl : er = 4 := by rw [← HE.out]; unfold fairErr; rw [if_pos (by rw [HL.out]; exact h8)]
    have hz : ((n : Int) == 8) = false := by simp; omega
    go_enter Try.func18, Try.ntmps18
    go_wp2
    go_ret
    exact ⟨rfl, Below.refl _ _⟩
theorem fair_less {w : World} {a b : Int} {i j : Nat} {r : Bool} (h : decide (a < b ∨ (a = b ∧ i < j)) = r) :
    Calls Try.prog 57 #[.agg #[.int .i64 a, .int .i64 (i : Int)], .agg #[.int .i64 b, .int .i64 (j : Int)]] w fun e w' => e = .returned (.bool r) ∧ Below w.heap.size w w' := by
  have hb := ((Below.refl w.heap.size w).alloc (Nat.le_refl _) (.cells #[.int .i64 a, .int .i64 (i : Int)] 100)).alloc (by simp) (.cells #[.int .i64 b, .int .i64 (j : Int)] 100)
  by_cases h1 : a < b
  · obtain rfl : r = true := by rw [← h]; simp; omega
    have q1 : decide (a < b) = true := by simp; omega
    go_enter Try.func57, Try.ntmps57
    go_wp2
    go_ret
    exact ⟨rfl, hb⟩
  · have q1 : decide (a < b) = false := by simp; omega
    by_cases h2 : a = b
    · subst h2
      by_cases h3 : i < j
      · obtain rfl : r = true := by rw [← h]; simp; omega
        have q2 : decide ((i : Int) < (j : Int)) = true := by simp; omega
        have q3 : decide (i < j) = true := by simp; omega
        go_enter Try.func57, Try.ntmps57
        go_wp2
        go_ret
        exact ⟨rfl, hb⟩
      · obtain rfl : r = false := by rw [← h]; simp; omega
        have q2 : decide ((i : Int) < (j : Int)) = false := by simp; omega
        have q3 : decide (i < j) = false := by simp; omega
        go_enter Try.func57, Try.ntmps57
        go_wp2
        go_ret
        exact ⟨rfl, hb⟩
    · obtain rfl : r = false := by rw [← h]; simp; omega
      have q2 : (a == b) = false := by simp; omega
      go_enter Try.func57, Try.ntmps57
      go_wp2
      go_ret
      exact ⟨rfl, hb⟩
end Go.Proofs.Ytgnegemiiahkaaa
