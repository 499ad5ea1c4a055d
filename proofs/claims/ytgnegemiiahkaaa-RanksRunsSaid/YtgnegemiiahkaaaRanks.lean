/- The contracts of ranks.Check, ranks.response, ranks.Response, ranks.Fits, headref.Tasks and headref.Response (P47, P48). No conditions beyond what each theorem says. -/
import Derived.Test.YtgnegemiiahkaaaRows
import Derived.Test.YtgnegemiiahkaaaS3
import Derived.Test.YtgnegemiiahkaaaRanksLaw
import Derived.Deep.QuietTactic
import Derived.BigQuiet
import Derived.RegionTactic
import Derived.BigRegion
import Derived.Deep.RegionLaw
import Derived.IntWalk
namespace Go.Proofs.Ytgnegemiiahkaaa
open Go Go.RowKit

def okTask (p c d : Int) : Prop := 1 ≤ p ∧ p ≤ 60 ∧ 1 ≤ c ∧ c ≤ d ∧ d ≤ p
theorem not_task {p c d : Int} (h : ¬ okTask p c d) : p < 1 ∨ (1 ≤ p ∧ 60 < p) ∨ (1 ≤ p ∧ p ≤ 60 ∧ c < 1) ∨ (1 ≤ p ∧ p ≤ 60 ∧ 1 ≤ c ∧ d < c) ∨ (1 ≤ p ∧ p ≤ 60 ∧ 1 ≤ c ∧ c ≤ d ∧ p < d) := by unfold okTask at h; omega
def okTasks (xs : List (Int × Int × Int)) : Prop := ∀ j, j < xs.length → okTask (t0 xs j) (t1 xs j) (t2 xs j)
instance (p c d : Int) : Decidable (okTask p c d) := by unfold okTask; infer_instance
instance (xs : List (Int × Int × Int)) : Decidable (okTasks xs) := by unfold okTasks; infer_instance
/-- P47 -/
def tasksErr (xs : List (Int × Int × Int)) : Int := if xs.length > 5 then 2 else if okTasks xs then 0 else 1
theorem tasks_ok {xs : List (Int × Int × Int)} (h : tasksErr xs = 0) : xs.length ≤ 5 ∧ okTasks xs := by
  unfold tasksErr at h
  by_cases h1 : xs.length > 5
  · rw [if_pos h1] at h; omega
  · rw [if_neg h1] at h
    by_cases h2 : okTasks xs
    · exact ⟨by omega, h2⟩
    · rw [if_neg h2] at h; omega
theorem tasks_bad {xs : List (Int × Int × Int)} {j : Nat} (h5 : ¬ xs.length > 5) (hj : j < xs.length) (h : ¬ okTask (t0 xs j) (t1 xs j) (t2 xs j)) : tasksErr xs = 1 := by
  unfold tasksErr
  rw [if_neg h5, if_neg]
  intro hn
  exact h (hn j hj)
theorem tasks_end {xs : List (Int × Int × Int)} (h5 : ¬ xs.length > 5) (h : okTasks xs) : tasksErr xs = 0 := by
  unfold tasksErr
  rw [if_neg h5, if_pos h]

set_option maxHeartbeats 1600000 in
theorem ranks_Check {w : World} {p : Option Addr} {n c : Nat} {xs : List (Int × Int × Int)} (h : S3 w p n c xs) {er : Int} (he : tasksErr xs = er) :
    Calls Try.prog 70 #[.slice p n c] w fun e w' => e = .returned (.int .i64 er) ∧ Below w.heap.size w w' := by
  have hl := h.1
  have hm := h.2.1
  have HE := Lib.hid he; clear he
  have HL := Lib.hid hl; clear hl
  by_cases h5 : 5 < n
  · have hb1 : decide ((5 : Int) < (n : Int)) = true := by simp; omega
    go_enter Try.func70, Try.ntmps70
    go_wp2
    go_ret
    exact ⟨ret_int (by rw [← HE.out]; unfold tasksErr; rw [HL.out, if_pos h5]), Below.refl _ _⟩
  have hb1 : decide ((5 : Int) < (n : Int)) = false := by simp; omega
  have H5 := Lib.hid (show ¬ xs.length > 5 by rw [HL.out]; exact h5)
  go_enter Try.func70, Try.ntmps70
  go_wp2
  go_loopw [10] (fun i wr => ∃ k : Nat, k ≤ n ∧ i = .int .i64 k ∧ Hid (∀ j, j < k → okTask (t0 xs j) (t1 xs j) (t2 xs j)) ∧ Below w.heap.size w wr) (fun i _ => n - (intOf i).toNat)
  case atStart => exact ⟨0, Nat.zero_le _, rfl, Lib.hid (fun j hj => by omega), Below.refl _ _⟩
  case round =>
    obtain ⟨k, hk, rfl, H, hb⟩ := hrel
    have hsz := hb.size
    by_cases hkn : k < n
    · obtain ⟨b, off, rfl, hlt, hc⟩ := h.cells (by omega)
      have hlr : b < wr.heap.size := by omega
      have c0 : wr.cell? ⟨b, off + k * 3, none⟩ = some (.int .i64 (t0 xs k)) := (bdeep hb hlt _).trans (hc k hkn).1
      have c1 : wr.cell? ⟨b, off + k * 3 + 1, none⟩ = some (.int .i64 (t1 xs k)) := (bdeep hb hlt _).trans (hc k hkn).2.1
      have c2 : wr.cell? ⟨b, off + k * 3 + 2, none⟩ = some (.int .i64 (t2 xs k)) := (bdeep hb hlt _).trans (hc k hkn).2.2
      have HBn := Lib.hid ((hb.alloc hsz (.cells #[.int .i64 (t0 xs k), .int .i64 (t1 xs k), .int .i64 (t2 xs k)] 66)))
      have HKL := Lib.hid (show k < xs.length by rw [HL.out]; exact hkn)
      by_cases hok : okTask (t0 xs k) (t1 xs k) (t2 xs k)
      · have hok' := Lib.hid hok
        obtain ⟨o1, o2, o3, o4, o5⟩ := hok
        clear hc h hb
        go_wp2
        go_roundw
        case rel => exact ⟨k + 1, by omega, by go_num, Lib.hid (fun j hj => by rcases Nat.lt_succ_iff_lt_or_eq.1 hj with h | rfl; exact H.out j h; exact hok'.out), HBn.out⟩
        case measure => simp [intOf]; omega
      · have hno := Lib.hid (tasks_bad H5.out HKL.out hok)
        clear hc h hb
        rcases not_task hok with g1 | ⟨g1, g2⟩ | ⟨g1, g2, g3⟩ | ⟨g1, g2, g3, g4⟩ | ⟨g1, g2, g3, g4, g5⟩
        all_goals
          clear hok
          try have g8 : decide (t0 xs k ≤ 60) = false := by simp; omega
          go_wp2
          go_ret
          exact ⟨ret_int (by rw [← HE.out, hno.out]), HBn.out⟩
    · obtain rfl : n = k := by omega
      go_wp2
      go_ret
      exact ⟨ret_int (by rw [← HE.out, tasks_end H5.out (fun j hj => H.out j (by rw [HL.out] at hj; exact hj))]), hb⟩

set_option maxHeartbeats 1600000 in
theorem ref_Tasks {w : World} {p : Option Addr} {n c : Nat} {xs : List (Int × Int × Int)} (h : S3 w p n c xs) {er : Int} (he : tasksErr xs = er) :
    Calls Try.prog 34 #[.slice p n c] w fun e w' => e = .returned (.int .i64 er) ∧ Below w.heap.size w w' := by
  have hl := h.1
  have hm := h.2.1
  have HE := Lib.hid he; clear he
  have HL := Lib.hid hl; clear hl
  by_cases h5 : 5 < n
  · have hb1 : decide ((5 : Int) < (n : Int)) = true := by simp; omega
    go_enter Try.func34, Try.ntmps34
    go_wp2
    go_ret
    exact ⟨ret_int (by rw [← HE.out]; unfold tasksErr; rw [HL.out, if_pos h5]), Below.refl _ _⟩
  have hb1 : decide ((5 : Int) < (n : Int)) = false := by simp; omega
  have H5 := Lib.hid (show ¬ xs.length > 5 by rw [HL.out]; exact h5)
  go_enter Try.func34, Try.ntmps34
  go_wp2
  go_loopw [10] (fun i wr => ∃ k : Nat, k ≤ n ∧ i = .int .i64 k ∧ Hid (∀ j, j < k → okTask (t0 xs j) (t1 xs j) (t2 xs j)) ∧ Below w.heap.size w wr) (fun i _ => n - (intOf i).toNat)
  case atStart => exact ⟨0, Nat.zero_le _, rfl, Lib.hid (fun j hj => by omega), Below.refl _ _⟩
  case round =>
    obtain ⟨k, hk, rfl, H, hb⟩ := hrel
    have hsz := hb.size
    by_cases hkn : k < n
    · obtain ⟨b, off, rfl, hlt, hc⟩ := h.cells (by omega)
      have hlr : b < wr.heap.size := by omega
      have c0 : wr.cell? ⟨b, off + k * 3, none⟩ = some (.int .i64 (t0 xs k)) := (bdeep hb hlt _).trans (hc k hkn).1
      have c1 : wr.cell? ⟨b, off + k * 3 + 1, none⟩ = some (.int .i64 (t1 xs k)) := (bdeep hb hlt _).trans (hc k hkn).2.1
      have c2 : wr.cell? ⟨b, off + k * 3 + 2, none⟩ = some (.int .i64 (t2 xs k)) := (bdeep hb hlt _).trans (hc k hkn).2.2
      have HBn := Lib.hid ((hb.alloc hsz (.cells #[.int .i64 (t0 xs k), .int .i64 (t1 xs k), .int .i64 (t2 xs k)] 66)))
      have HKL := Lib.hid (show k < xs.length by rw [HL.out]; exact hkn)
      by_cases hok : okTask (t0 xs k) (t1 xs k) (t2 xs k)
      · have hok' := Lib.hid hok
        obtain ⟨o1, o2, o3, o4, o5⟩ := hok
        clear hc h hb
        go_wp2
        go_roundw
        case rel => exact ⟨k + 1, by omega, by go_num, Lib.hid (fun j hj => by rcases Nat.lt_succ_iff_lt_or_eq.1 hj with h | rfl; exact H.out j h; exact hok'.out), HBn.out⟩
        case measure => simp [intOf]; omega
      · have hno := Lib.hid (tasks_bad H5.out HKL.out hok)
        clear hc h hb
        rcases not_task hok with g1 | ⟨g1, g2⟩ | ⟨g1, g2, g3⟩ | ⟨g1, g2, g3, g4⟩ | ⟨g1, g2, g3, g4, g5⟩
        all_goals
          clear hok
          try have g8 : decide (t0 xs k ≤ 60) = false := by simp; omega
          go_wp2
          go_ret
          exact ⟨ret_int (by rw [← HE.out, hno.out]), HBn.out⟩
    · obtain rfl : n = k := by omega
      go_wp2
      go_ret
      exact ⟨ret_int (by rw [← HE.out, tasks_end H5.out (fun j hj => H.out j (by rw [HL.out] at hj; exact hj))]), hb⟩


theorem ranks_up {w : World} {a b : Int} (ha : 1 ≤ a ∧ a ≤ 100000) (hb : 1 ≤ b ∧ b ≤ 100000) :
    Calls Try.prog 109 #[.int .i64 a, .int .i64 b] w fun e w' => e = .returned (.int .i64 (upD a b)) ∧ w' = w := by
  have h0 : (b == 0) = false := by simp; omega
  have h1 : 0 ≤ a + b - 1 := by omega
  obtain ⟨a1, a2⟩ := ha
  obtain ⟨b1, b2⟩ := hb
  go_enter Try.func109, Try.ntmps109
  go_wp2
  go_ret
  exact ⟨rfl, rfl⟩

theorem okT_pos {xs : List (Int × Int × Int)} {n i : Nat} (hok : ∀ j, j < n → okTask (t0 xs j) (t1 xs j) (t2 xs j)) (hi : i < n) : ∀ j, j ≤ i → 1 ≤ t0 xs j ∧ 1 ≤ t1 xs j := fun j hj => by
  have := hok j (by omega)
  unfold okTask at this; omega
theorem okT_bd {xs : List (Int × Int × Int)} {n i : Nat} (hok : ∀ j, j < n → okTask (t0 xs j) (t1 xs j) (t2 xs j)) (hi : i < n) : ∀ j, j < i → 1 ≤ t0 xs j ∧ 1 ≤ t1 xs j ∧ t1 xs j ≤ 60 := fun j hj => by
  have := hok j (by omega)
  unfold okTask at this; omega

/-- what ranks.response answers: the response, or what is above Due -/
def RespR (xs : List (Int × Int × Int)) (i : Nat) (r : Int) : Prop :=
  0 ≤ r ∧ r ≤ 100000 ∧ RespOf (t0 xs) (t1 xs) i (t2 xs i) (if t2 xs i < r then none else some r)
def RetResp (w : World) (xs : List (Int × Int × Int)) (i : Nat) (e : Ending) (w' : World) : Prop := ∃ r : Int, e = .returned (.int .i64 r) ∧ RespR xs i r ∧ Below w.heap.size w w'

set_option maxHeartbeats 1600000 in
theorem ranks_response {w : World} {p : Option Addr} {n c i : Nat} {xs : List (Int × Int × Int)} (h : S3 w p n c xs) (hok : ∀ j, j < n → okTask (t0 xs j) (t1 xs j) (t2 xs j)) (hn : n ≤ 5) (hi : i < n) :
    Calls Try.prog 87 #[.slice p n c, .int .i64 i] w (RetResp w xs i) := by
  have hm := h.2.1
  obtain ⟨b, off, rfl, hlt, hc⟩ := h.cells (by omega)
  have HC := Lib.hid hc; clear hc h
  have HOK := Lib.hid hok
  have hP := okT_pos hok hi
  have HP := Lib.hid hP
  have HBD := Lib.hid (okT_bd hok hi)
  have hti := hok i hi
  clear hok hP
  unfold okTask at hti
  have c1 := (HC.out i hi).2.1
  go_enter Try.func87, Try.ntmps87
  go_wp2
  go_loopw [5] (fun v wr => ∃ r : Int, v = .int .i64 r ∧ r ≤ 100000 ∧ Hid (Below1 (t0 xs) (t1 xs) i r) ∧ Below w.heap.size w wr) (fun v _ => (t2 xs i + 1 - intOf v).toNat)
  case atStart => exact ⟨_, rfl, by omega, Lib.hid (below_start HP.out), Below.refl _ _⟩
  case round =>
    obtain ⟨r, rfl, hr5, HB, hb⟩ := hrel
    have hr1 := HB.out.1
    have d1 := (bdeep hb hlt _).trans (HC.out i hi).2.1
    have d2 := (bdeep hb hlt _).trans (HC.out i hi).2.2
    by_cases hle : r ≤ t2 xs i
    · have hq0 : (i : Int) ≤ (n : Int) := by omega
      go_wp2
      go_loopw [6, 30] (fun v j wr => ∃ u : Nat, u ≤ i ∧ j = .int .i64 u ∧ v = .int .i64 (t1 xs i + sumT (fun k => upD r (t0 xs k) * t1 xs k) u) ∧ Below w.heap.size w wr) (fun _ j _ => i - (intOf j).toNat)
      case atStart => exact ⟨0, by omega, rfl, by simp [sumT], hb⟩
      case round =>
        clear hb d1 d2
        obtain ⟨u, hu, rfl, rfl, hb⟩ := hrel
        have hsz := hb.size
        have hsb := ask_bd HBD.out hr1 (by omega) u hu
        by_cases hui : u < i
        · have hlr : b < wr.heap.size := by omega
          have e0 : wr.cell? ⟨b, off + u * 3, none⟩ = some (.int .i64 (t0 xs u)) := (bdeep hb hlt _).trans (HC.out u (by omega)).1
          have e1 : wr.cell? ⟨b, off + u * 3 + 1, none⟩ = some (.int .i64 (t1 xs u)) := (bdeep hb hlt _).trans (HC.out u (by omega)).2.1
          have e2 : wr.cell? ⟨b, off + u * 3 + 2, none⟩ = some (.int .i64 (t2 xs u)) := (bdeep hb hlt _).trans (HC.out u (by omega)).2.2
          have HBn := Lib.hid ((hb.alloc hsz (.cells #[.int .i64 (t0 xs u), .int .i64 (t1 xs u), .int .i64 (t2 xs u)] 66)))
          have htu := HOK.out u (by omega)
          unfold okTask at htu
          have htb := askt_bd HBD.out hr1 (by omega) u hui
          have HS := Lib.hid (sumT_succ (fun k => upD r (t0 xs k) * t1 xs k) u)
          generalize sumT (fun k => upD r (t0 xs k) * t1 xs k) u = su at *
          have q1 : IntKind.i64.wrap (upD r (t0 xs u) * t1 xs u) = upD r (t0 xs u) * t1 xs u := IntWalk.i64_in _ (by omega)
          have q2 : IntKind.i64.wrap (t1 xs i + su + upD r (t0 xs u) * t1 xs u) = t1 xs i + su + upD r (t0 xs u) * t1 xs u := IntWalk.i64_in _ (by omega)
          clear hb c1
          go_wp2
          go_quiet ((refine (Calls.quiet_of_same (ranks_up ⟨by omega, by omega⟩ ⟨by omega, by omega⟩))))
          clear q1 q2
          go_wp2
          go_roundw
          case rel => exact ⟨u + 1, by omega, by go_num, by rw [HS.out, Int.add_assoc], below_drewN HBn.out _⟩
          case measure => simp [intOf]; omega
        · obtain rfl : i = u := by omega
          have HA := Lib.hid (show ask (t0 xs) (t1 xs) i r = t1 xs i + sumT (fun k => upD r (t0 xs k) * t1 xs k) i from rfl)
          generalize sumT (fun k => upD r (t0 xs k) * t1 xs k) i = su at *
          have hge := HB.out.2.1
          rw [HA.out] at hge
          by_cases heq : t1 xs i + su = r
          · have hz : ((t1 xs i + su) == r) = true := by simp [heq]
            have HR : Hid (RespR xs i r) := Lib.hid ⟨by omega, by omega, by rw [if_neg (by omega)]; exact below_end HB.out hle (by rw [HA.out]; exact heq)⟩
            clear heq
            go_wp2
            go_ret
            exact ⟨r, rfl, HR.out, hb⟩
          · have hz : ((t1 xs i + su) == r) = false := by simp [heq]
            have HN : Hid (Below1 (t0 xs) (t1 xs) i (t1 xs i + su)) := Lib.hid (by rw [← HA.out]; exact below_step (fun j hj => HP.out j (by omega)) HB.out)
            have hlt2 : r < t1 xs i + su := by omega
            clear heq
            go_wp2
            go_roundw
            case rel => exact ⟨_, rfl, by omega, HN, hb⟩
            case measure => simp [intOf]; omega
    · have HR : Hid (RespR xs i r) := Lib.hid ⟨by omega, hr5, by rw [if_pos (by omega)]; exact below_over HB.out (by omega)⟩
      go_wp2
      go_ret
      exact ⟨r, rfl, HR.out, hb⟩

end Go.Proofs.Ytgnegemiiahkaaa
