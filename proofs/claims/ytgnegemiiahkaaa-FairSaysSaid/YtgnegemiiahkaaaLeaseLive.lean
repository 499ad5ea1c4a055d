/- The contracts of lease.Live, lease.Pin and lease.Cut (P61, P62). No conditions beyond what each theorem says. -/
import Derived.Test.YtgnegemiiahkaaaLease
namespace Go.Proofs.Ytgnegemiiahkaaa
open Go Go.RowKit
set_option linter.unusedVariables false
set_option linter.unusedSimpArgs false

theorem Try.tyLeases : SliceTy Try.prog 22 33 (.agg #[.int .i64 0, .int .i64 0, .int .i64 0]) 3 24 := ⟨Try.underlying22, by kernel_rfl⟩
/-- P61 -/
def alive (now : Int) (xs : List (Int × Int × Int)) : List (Int × Int × Int) := xs.filter fun x => decide (now < x.2.1)
theorem lscan_ok : ∀ (xs : List (Int × Int × Int)) (l : Int), lscan l xs = 0 → (∀ x ∈ xs, okLs x.1 x.2.1 x.2.2) ∧ (l ≤ 7 → (xs.length : Int) ≤ 7 - l)
  | [], l, _ => ⟨fun x hx => by simp at hx, fun h => by simp; omega⟩
  | (a, u, p) :: r, l, h => by
    unfold lscan at h
    by_cases hok : okLs a u p
    · rw [if_neg (by simp [hok])] at h
      by_cases hle : a ≤ l
      · rw [if_pos hle] at h; omega
      · rw [if_neg hle] at h
        obtain ⟨h1, h2⟩ := lscan_ok r a h
        have h3 := h2 hok.2.1
        refine ⟨fun x hx => ?_, fun _ => by simp; omega⟩
        rcases List.mem_cons.1 hx with rfl | hx
        · exact hok
        · exact h1 x hx
    · rw [if_pos hok] at h; omega
theorem lease_ok {xs : List (Int × Int × Int)} (h : leaseErr xs = 0) : (∀ x ∈ xs, okLs x.1 x.2.1 x.2.2) ∧ xs.length ≤ 8 := by
  obtain ⟨h1, h2⟩ := lscan_ok xs (-1) h
  exact ⟨h1, by have := h2 (by omega); omega⟩
theorem take_push {xs : List (Int × Int × Int)} {k : Nat} (h : k < xs.length) : xs.take (k + 1) = xs.take k ++ [(t0 xs k, t1 xs k, t2 xs k)] := by
  have e : xs[k] = (t0 xs k, t1 xs k, t2 xs k) := by simp [t0, t1, t2, h]
  rw [← e, List.take_add_one, List.getElem?_eq_getElem h]; rfl
theorem alive_len (now : Int) (xs : List (Int × Int × Int)) : (alive now xs).length ≤ xs.length := List.length_filter_le _ _
/-- the least of the pins, from s on -/
def pm (s : Int) (L : List (Int × Int × Int)) : Nat → Int
  | 0 => s
  | k + 1 => min (pm s L k) (t2 L k)
theorem pm_same {s : Int} {L : List (Int × Int × Int)} (h : t2 L 0 ≤ s) : ∀ k, pm s L (k + 1) = pm (t2 L 0) L (k + 1)
  | 0 => by simp only [pm]; omega
  | k + 1 => by rw [pm, pm_same h k]; rfl
theorem pm_le {s : Int} {L : List (Int × Int × Int)} : ∀ {k j : Nat}, j < k → pm s L k ≤ t2 L j
  | k + 1, j, h => by
    rw [pm]
    rcases Nat.lt_succ_iff_lt_or_eq.1 h with h | rfl
    · have := pm_le (s := s) (L := L) h; omega
    · omega
theorem pm_is {s : Int} {L : List (Int × Int × Int)} : ∀ (k : Nat), pm s L k = s ∨ ∃ j, j < k ∧ pm s L k = t2 L j
  | 0 => .inl rfl
  | k + 1 => by
    rw [pm]
    rcases Int.le_total (pm s L k) (t2 L k) with h | h
    · rw [Int.min_eq_left h]
      rcases pm_is (s := s) (L := L) k with e | ⟨j, hj, e⟩
      · exact .inl e
      · exact .inr ⟨j, by omega, e⟩
    · rw [Int.min_eq_right h]; exact .inr ⟨k, by omega, rfl⟩
theorem t2_mem {L : List (Int × Int × Int)} {j : Nat} (h : j < L.length) : (t0 L j, t1 L j, t2 L j) ∈ L := by
  have : L[j] = (t0 L j, t1 L j, t2 L j) := by simp [t0, t1, t2, h]
  rw [← this]; exact List.getElem_mem h
theorem alive_pin {now : Int} {xs : List (Int × Int × Int)} (h : leaseErr xs = 0) {j : Nat} (hj : j < (alive now xs).length) : 0 ≤ t2 (alive now xs) j ∧ t2 (alive now xs) j ≤ 1000000 := by
  have h1 := t2_mem hj
  have h2 := (lease_ok h).1 _ (List.mem_filter.1 h1).1
  unfold okLs at h2
  simp only at h2
  omega

theorem lease_Live_bad {w : World} {p : Option Addr} {n c : Nat} {xs : List (Int × Int × Int)} (h : S3 w p n c xs) {er now : Int} (he : leaseErr xs = er) (h0 : er ≠ 0) :
    Calls Try.prog 11 #[.slice p n c, .int .i64 now] w fun e w' => e = .returned (.tuple #[.slice none 0 0, .int .i64 er]) ∧ Below w.heap.size w w' := by
  have hb : (er == 0) = false := by simp [h0]
  go_enter Try.func11, Try.ntmps11
  go_wp2_with fail
  refine (lease_Check h he).mono ?_; rintro e w' ⟨rfl, b1⟩
  go_wp2
  go_ret2
  exact ⟨rfl, b1⟩
set_option maxHeartbeats 1600000 in
theorem lease_Live_ok {w : World} {p : Option Addr} {n c : Nat} {xs : List (Int × Int × Int)} (h : S3 w p n c xs) {now : Int} (he : leaseErr xs = 0) :
    Calls Try.prog 11 #[.slice p n c, .int .i64 now] w fun e w' => ∃ q m d, e = .returned (.tuple #[.slice q m d, .int .i64 0]) ∧ S3 w' q m d (alive now xs) ∧ Below w.heap.size w w' := by
  have hl := h.1
  have hm := h.2.1
  have h8 := (lease_ok he).2
  rw [hl] at h8
  have HL := Lib.hid hl
  have HE := Lib.hid he; clear hl he
  go_enter Try.func11, Try.ntmps11
  go_wp2_with fail
  refine (lease_Check h HE.out).mono ?_; rintro e w1 ⟨rfl, b1⟩
  go_wp2
  go_loopw [7, 17] (fun v i wr => ∃ (k m : Nat) (q : Option Addr) (d : Nat), k ≤ n ∧ m ≤ k ∧ i = .int .i64 k ∧ v = .slice q m d ∧ OwnR 33 enc3 3 wr w.heap.size q m d (alive now (xs.take k)) ∧ Below w.heap.size w wr) (fun _ i _ => n - (intOf i).toNat)
  case atStart => exact ⟨0, 0, none, 0, Nat.zero_le _, Nat.le_refl _, rfl, rfl, OwnR.nil _ _, b1⟩
  case round =>
    clear b1
    obtain ⟨k, m, q, d, hk, hmk, rfl, rfl, ho, hb⟩ := hrel
    have hsz := hb.size
    by_cases hkn : k < n
    · obtain ⟨b, off, rfl, hlt, hc⟩ := h.cells (by omega)
      have c0 : wr.cell? ⟨b, off + k * 3, none⟩ = some (.int .i64 (t0 xs k)) := (bdeep hb hlt _).trans (hc k hkn).1
      have c1 : wr.cell? ⟨b, off + k * 3 + 1, none⟩ = some (.int .i64 (t1 xs k)) := (bdeep hb hlt _).trans (hc k hkn).2.1
      have c2 : wr.cell? ⟨b, off + k * 3 + 2, none⟩ = some (.int .i64 (t2 xs k)) := (bdeep hb hlt _).trans (hc k hkn).2.2
      have HT := Lib.hid (take_push (xs := xs) (k := k) (by rw [HL.out]; exact hkn))
      have hbA := hb.alloc hsz (boxL (t0 xs k) (t1 xs k) (t2 xs k))
      have hoA := ho.alloc (boxL (t0 xs k) (t1 xs k) (t2 xs k))
      have hszA := hbA.size
      clear hc
      by_cases hgt : now < t1 xs k
      · have HG := Lib.hid hgt
        have hd : decide (now < t1 xs k) = true := by simp; omega
        clear hb ho
        go_wp2_with (at_builtin; refine wpL_push_R Try.tyLeases rfl (by omega) (by omega) enc3_len enc3_one rfl (B := w.heap.size) (W0 := w) rfl (t0 xs k, t1 xs k, t2 xs k) (by first | rfl | simp [Act.eval]) (by first | rfl | simp [Act.eval]) hoA hbA (by omega) hszA ?_; intro p8 c8 w8 ho8 hb8 hg8 hp8)
        have hoN : OwnR 33 enc3 3 w8 w.heap.size p8 (m + 1) c8 (alive now (xs.take (k + 1))) := ho8.cast (by
          rw [HT.out]; simp [alive, List.filter_append, HG.out])
        go_roundw
        case rel => exact ⟨k + 1, m + 1, _, _, by omega, by omega, by go_num, rfl, hoN, hb8⟩
        case measure => simp [intOf]; omega
      · have hd : decide (now < t1 xs k) = false := by simp; omega
        have HG := Lib.hid hgt
        clear hb ho
        have hoN := hoA.cast (show alive now (xs.take k) = alive now (xs.take (k + 1)) by
          rw [HT.out]; simp [alive, List.filter_append]; omega)
        go_wp2
        go_roundw
        case rel => exact ⟨k + 1, m, _, _, by omega, by omega, by go_num, rfl, hoN, hbA⟩
        case measure => simp [intOf]; omega
    · obtain rfl : n = k := by omega
      have hoN := ho.cast (show alive now (xs.take n) = alive now xs by rw [← HL.out, List.take_length])
      go_wp2
      go_ret2
      exact ⟨_, _, _, rfl, (hoN.sr enc3_len).s3, hb⟩

/-- P61 -/
theorem lease_Pin_bad {w : World} {p : Option Addr} {n c : Nat} {xs : List (Int × Int × Int)} (h : S3 w p n c xs) {er now : Int} (he : leaseErr xs = er) (h0 : er ≠ 0) :
    Calls Try.prog 12 #[.slice p n c, .int .i64 now] w fun e w' => e = .returned (.tuple #[.int .i64 0, .int .i64 er]) ∧ Below w.heap.size w w' := by
  have hb : (er == 0) = false := by simp [h0]
  go_enter Try.func12, Try.ntmps12
  go_wp2_with fail
  refine (lease_Live_bad h he h0).mono ?_; rintro e w' ⟨rfl, b1⟩
  go_wp2
  go_ret2
  exact ⟨rfl, b1⟩
theorem lease_Pin_none {w : World} {p : Option Addr} {n c : Nat} {xs : List (Int × Int × Int)} (h : S3 w p n c xs) {now : Int} (he : leaseErr xs = 0) (h0 : (alive now xs).length = 0) :
    Calls Try.prog 12 #[.slice p n c, .int .i64 now] w fun e w' => e = .returned (.tuple #[.int .i64 0, .int .i64 5]) ∧ Below w.heap.size w w' := by
  go_enter Try.func12, Try.ntmps12
  go_wp2_with fail
  refine (lease_Live_ok h he).mono ?_; rintro e w' ⟨q, m, d, rfl, h1, b1⟩
  obtain rfl : m = 0 := by rw [← h1.1]; exact h0
  go_wp2
  go_ret2
  exact ⟨rfl, b1⟩
set_option maxHeartbeats 1600000 in
theorem lease_Pin_ok {w : World} {p : Option Addr} {n c : Nat} {xs : List (Int × Int × Int)} (h : S3 w p n c xs) {now : Int} (he : leaseErr xs = 0) (h0 : (alive now xs).length ≠ 0) {v : Int} (hv : pm 1099511627776 (alive now xs) (alive now xs).length = v) :
    Calls Try.prog 12 #[.slice p n c, .int .i64 now] w fun e w' => e = .returned (.tuple #[.int .i64 v, .int .i64 0]) ∧ Below w.heap.size w w' := by
  have h8 := (lease_ok he).2
  have ha8 := alive_len now xs
  have HA := Lib.hid (fun (j : Nat) (hj : j < (alive now xs).length) => alive_pin he hj)
  have HE := Lib.hid he; clear he
  have HV : Hid (pm (t2 (alive now xs) 0) (alive now xs) (alive now xs).length = v) := Lib.hid (by
    obtain ⟨m, hm⟩ : ∃ m, (alive now xs).length = m + 1 := ⟨(alive now xs).length - 1, by omega⟩
    rw [← hv, hm, ← pm_same (s := 1099511627776)]
    have := HA.out 0 (by omega); omega)
  clear hv
  have HLV := lease_Live_ok h HE.out (now := now)
  obtain ⟨L, hL⟩ : ∃ L, L = alive now xs := ⟨_, rfl⟩
  rw [← hL] at HLV h0 HA HV ha8
  clear hL
  have HP0 : Hid (0 < L.length) := Lib.hid (by omega)
  go_enter Try.func12, Try.ntmps12
  go_wp2_with fail
  refine HLV.mono ?_; rintro e w1 ⟨q, m, d, rfl, h1, b1⟩
  have hl1 := h1.1
  have hm1 := h1.2.1
  subst hl1
  have hs1 := b1.size
  obtain ⟨b, off, rfl, hlt, hc⟩ := h1.cells HP0.out
  have z2 : w1.cell? ⟨b, off + 2, none⟩ = some (.int .i64 (t2 L 0)) := by simpa using (hc 0 HP0.out).2.2
  have hpos := HP0.out
  have hne : (L.length : Int) ≠ 0 := by omega
  have hne2 : ((L.length : Int) == 0) = false := beq_eq_false_iff_ne.2 hne
  have HC := Lib.hid hc
  clear hc h1
  go_wp2
  go_loopw [8, 29] (fun v i wr => ∃ k : Nat, k ≤ L.length ∧ i = .int .i64 k ∧ v = .int .i64 (pm (t2 L 0) L k) ∧ Below w1.heap.size w1 wr) (fun _ i _ => L.length - (intOf i).toNat)
  case atStart => exact ⟨0, Nat.zero_le _, rfl, rfl, Below.refl _ _⟩
  case round =>
    clear z2
    obtain ⟨k, hk, rfl, rfl, hb⟩ := hrel
    have hsz := hb.size
    by_cases hkn : k < L.length
    · have c0 : wr.cell? ⟨b, off + k * 3, none⟩ = some (.int .i64 (t0 L k)) := (bdeep hb hlt _).trans (HC.out k hkn).1
      have c1 : wr.cell? ⟨b, off + k * 3 + 1, none⟩ = some (.int .i64 (t1 L k)) := (bdeep hb hlt _).trans (HC.out k hkn).2.1
      have c2 : wr.cell? ⟨b, off + k * 3 + 2, none⟩ = some (.int .i64 (t2 L k)) := (bdeep hb hlt _).trans (HC.out k hkn).2.2
      have hbA := hb.alloc hsz (boxL (t0 L k) (t1 L k) (t2 L k))
      have HP := Lib.hid (show pm (t2 L 0) L (k + 1) = min (pm (t2 L 0) L k) (t2 L k) from rfl)
      generalize hpk : pm (t2 L 0) L k = u at *
      clear hpk hb
      go_wp2
      all_goals
        go_roundw
        case rel => exact ⟨k + 1, by omega, by go_num, by rw [HP.out]; first | (congr 1; omega) | rfl, hbA⟩
        case measure => simp [intOf]; omega
    · obtain rfl : L.length = k := by omega
      go_wp2
      go_ret2
      exact ⟨by rw [← HV.out]; rfl, b1.trans (hb.mono hs1)⟩

/-- P62 -/
theorem lease_Cut_bad {w : World} {p : Option Addr} {n c : Nat} {xs : List (Int × Int × Int)} (h : S3 w p n c xs) {er now to : Int} (he : leaseErr xs = er) (h0 : er ≠ 0) :
    Calls Try.prog 13 #[.slice p n c, .int .i64 now, .int .i64 to] w fun e w' => e = .returned (.tuple #[.slice none 0 0, .int .i64 er]) ∧ Below w.heap.size w w' := by
  have hb : (er == 0) = false := by simp [h0]
  go_enter Try.func13, Try.ntmps13
  go_wp2_with fail
  refine (lease_Live_bad h he h0).mono ?_; rintro e w' ⟨rfl, b1⟩
  go_wp2
  go_ret2
  exact ⟨rfl, b1⟩
theorem lease_Cut_arg {w : World} {p : Option Addr} {n c : Nat} {xs : List (Int × Int × Int)} (h : S3 w p n c xs) {now to : Int} (he : leaseErr xs = 0) (h0 : to < 0 ∨ 1000000 < to) :
    Calls Try.prog 13 #[.slice p n c, .int .i64 now, .int .i64 to] w fun e w' => e = .returned (.tuple #[.slice none 0 0, .int .i64 1]) ∧ Below w.heap.size w w' := by
  by_cases h1 : to < 0
  · go_enter Try.func13, Try.ntmps13
    go_wp2_with fail
    refine (lease_Live_ok h he).mono ?_; rintro e w' ⟨q, m, d, rfl, h2, b1⟩
    clear h0
    go_wp2
    go_ret2
    exact ⟨rfl, b1⟩
  · have h3 : 1000000 < to := by omega
    go_enter Try.func13, Try.ntmps13
    go_wp2_with fail
    refine (lease_Live_ok h he).mono ?_; rintro e w' ⟨q, m, d, rfl, h2, b1⟩
    clear h0
    go_wp2
    go_ret2
    exact ⟨rfl, b1⟩
/-- the end of Cut -/
def CutEnd (w : World) (L : List (Int × Int × Int)) (to : Int) (e : Ending) (w' : World) : Prop :=
  (pm 1099511627776 L L.length < to → e = .returned (.tuple #[.slice none 0 0, .int .i64 7])) ∧
  (to ≤ pm 1099511627776 L L.length → ∃ q m d, e = .returned (.tuple #[.slice q m d, .int .i64 0]) ∧ S3 w' q m d L) ∧ Below w.heap.size w w'
set_option maxHeartbeats 1600000 in
theorem lease_Cut_ok {w : World} {p : Option Addr} {n c : Nat} {xs : List (Int × Int × Int)} (h : S3 w p n c xs) {now to : Int} (he : leaseErr xs = 0) (h1 : 0 ≤ to) (h2 : to ≤ 1000000) :
    Calls Try.prog 13 #[.slice p n c, .int .i64 now, .int .i64 to] w fun e w' => CutEnd w (alive now xs) to e w' := by
  have h8 := (lease_ok he).2
  have ha8 := alive_len now xs
  have HE := Lib.hid he; clear he
  have HLV := lease_Live_ok h HE.out (now := now)
  obtain ⟨L, hL⟩ : ∃ L, L = alive now xs := ⟨_, rfl⟩
  rw [← hL] at HLV ha8 ⊢
  clear hL
  go_enter Try.func13, Try.ntmps13
  go_wp2_with fail
  refine HLV.mono ?_; rintro e w1 ⟨q, m, d, rfl, g, b1⟩
  have hl1 := g.1
  have hm1 := g.2.1
  subst hl1
  have hs1 := b1.size
  go_wp2
  go_loopw [29] (fun i wr => ∃ k : Nat, k ≤ L.length ∧ i = .int .i64 k ∧ Hid (∀ j, j < k → to ≤ t2 L j) ∧ Below w1.heap.size w1 wr) (fun i _ => L.length - (intOf i).toNat)
  case atStart => exact ⟨0, Nat.zero_le _, rfl, Lib.hid (fun j hj => by omega), Below.refl _ _⟩
  case round =>
    obtain ⟨k, hk, rfl, HJ, hb⟩ := hrel
    have hsz := hb.size
    by_cases hkn : k < L.length
    · obtain ⟨b, off, rfl, hlt, hc⟩ := g.cells (by omega)
      have c0 : wr.cell? ⟨b, off + k * 3, none⟩ = some (.int .i64 (t0 L k)) := (bdeep hb hlt _).trans (hc k hkn).1
      have c1 : wr.cell? ⟨b, off + k * 3 + 1, none⟩ = some (.int .i64 (t1 L k)) := (bdeep hb hlt _).trans (hc k hkn).2.1
      have c2 : wr.cell? ⟨b, off + k * 3 + 2, none⟩ = some (.int .i64 (t2 L k)) := (bdeep hb hlt _).trans (hc k hkn).2.2
      have hbA := hb.alloc hsz (boxL (t0 L k) (t1 L k) (t2 L k))
      clear hc hb
      by_cases hlq : t2 L k < to
      · go_wp2
        go_ret2
        have := pm_le (s := 1099511627776) (L := L) hkn
        exact ⟨fun _ => rfl, fun h => by omega, b1.trans (hbA.mono hs1)⟩
      · go_wp2
        go_roundw
        case rel => exact ⟨k + 1, by omega, by go_num, Lib.hid (fun j hj => by rcases Nat.lt_succ_iff_lt_or_eq.1 hj with h | rfl; exact HJ.out j h; omega), hbA⟩
        case measure => simp [intOf]; omega
    · obtain rfl : L.length = k := by omega
      go_wp2
      go_ret2
      refine ⟨fun h => ?_, fun _ => ⟨_, _, _, rfl, g.below hb⟩, b1.trans (hb.mono hs1)⟩
      rcases pm_is (s := 1099511627776) (L := L) L.length with e | ⟨j, hj, e⟩
      · omega
      · have := HJ.out j hj; omega
end Go.Proofs.Ytgnegemiiahkaaa
