/- The contract of prio.Run (P36), and its law. No conditions beyond what each theorem says. -/
import Derived.Test.YtgbccpfehcjhbaaGoes
namespace Go.Proofs.Ytgbccpfehcjhbaa
open Go Go.RowKit

/-- what goes out of the first -/
def gov (a : Nat → Int) (r : Int) (k : Nat) : Int := lq a r 0 k + a k - lq a r 0 (k + 1)
theorem gov_bd {a : Nat → Int} {r : Int} {n k : Nat} {b : Int} (hr : 0 ≤ r) (hb : 0 ≤ b) (h : ∀ j, j < n → 0 ≤ a j ∧ a j ≤ b) (hk : k < n) : 0 ≤ gov a r k ∧ gov a r k ≤ r := by
  have h1 := lq_bd (r := r) (l := 0) (c := 0) hr hb (by omega) h k (by omega)
  have h2 := h k hk
  unfold gov
  simp only [lq]
  omega
/-- what waits of the second -/
def pq (a b : Nat → Int) (r : Int) : Nat → Int
  | 0 => 0
  | k + 1 => pq a b r k + b k - min (pq a b r k + b k) (r - gov a r k)
theorem pq_sum {a b : Nat → Int} {r : Int} {n : Nat} {M : Int} (hr : 0 ≤ r) (hM : 0 ≤ M) (ha : ∀ j, j < n → 0 ≤ a j ∧ a j ≤ M) (hb : ∀ j, j < n → 0 ≤ b j ∧ b j ≤ M) : ∀ k, k ≤ n → 0 ≤ pq a b r k ∧ lq a r 0 k + pq a b r k = lq (fun j => a j + b j) r 0 k
  | 0, _ => by simp [pq, lq]
  | k + 1, hk => by
    obtain ⟨h1, h2⟩ := pq_sum hr hM ha hb k (by omega)
    have h3 := ha k (by omega)
    have h4 := hb k (by omega)
    have h5 := lq_bd (r := r) (l := 0) (c := 0) hr hM (by omega) ha k (by omega)
    have h6 := gov_bd hr hM ha (k := k) (by omega)
    simp only [pq, lq]
    unfold gov at *
    simp only [lq] at *
    omega
/-- what goes out of the second -/
def sev (a b : Nat → Int) (r : Int) (k : Nat) : Int := min (pq a b r k + b k) (r - gov a r k)
theorem sev_diff {a b : Nat → Int} {r : Int} {n : Nat} {M : Int} (hr : 0 ≤ r) (hM : 0 ≤ M) (ha : ∀ j, j < n → 0 ≤ a j ∧ a j ≤ M) (hb : ∀ j, j < n → 0 ≤ b j ∧ b j ≤ M) {k : Nat} (hk : k < n) :
    gov (fun j => a j + b j) r k - gov a r k = sev a b r k := by
  obtain ⟨h1, h2⟩ := pq_sum hr hM ha hb k (by omega)
  obtain ⟨h3, h4⟩ := pq_sum hr hM ha hb (k + 1) (by omega)
  have h5 : pq a b r (k + 1) = pq a b r k + b k - sev a b r k := rfl
  have h6 : (fun j => a j + b j) k = a k + b k := rfl
  unfold gov at *
  omega
theorem pq_bd {a b : Nat → Int} {r : Int} {n : Nat} {M : Int} (hr : 0 ≤ r) (hM : 0 ≤ M) (ha : ∀ j, j < n → 0 ≤ a j ∧ a j ≤ M) (hb : ∀ j, j < n → 0 ≤ b j ∧ b j ≤ M) : ∀ k, k ≤ n → 0 ≤ pq a b r k ∧ pq a b r k ≤ M * (k : Int)
  | 0, _ => by simp [pq]
  | k + 1, hk => by
    have h0 := pq_sum hr hM ha hb (k + 1) hk
    obtain ⟨h1, h2⟩ := pq_bd hr hM ha hb k (by omega)
    have h4 := hb k (by omega)
    have h6 := gov_bd hr hM ha (k := k) (by omega)
    have e : M * ((k + 1 : Nat) : Int) = M * (k : Int) + M := by rw [Int.natCast_succ, Int.mul_add, Int.mul_one]
    refine ⟨h0.1, ?_⟩
    simp only [pq]
    omega

def prioErr (xs ys : List Int) (r : Int) : Int := if lineErr xs r ≠ 0 then lineErr xs r else if traceErr ys ≠ 0 then traceErr ys else if xs.length = ys.length then 0 else 4
theorem prio_ways {xs ys : List Int} {r er : Int} (he : prioErr xs ys r = er) (h0 : er ≠ 0) : lineErr xs r = er ∨ (lineErr xs r = 0 ∧ traceErr ys = er) ∨ (lineErr xs r = 0 ∧ traceErr ys = 0 ∧ xs.length ≠ ys.length ∧ er = 4) := by
  unfold prioErr at he
  by_cases h1 : lineErr xs r = 0
  · rw [if_neg (by simp [h1])] at he
    by_cases h2 : traceErr ys = 0
    · rw [if_neg (by simp [h2])] at he
      by_cases h3 : xs.length = ys.length
      · rw [if_pos h3] at he; exact absurd he.symm h0
      · rw [if_neg h3] at he; exact .inr (.inr ⟨h1, h2, h3, he.symm⟩)
    · rw [if_pos h2] at he; exact .inr (.inl ⟨h1, he⟩)
  · rw [if_pos h1] at he; exact .inl he
theorem prio_ok {xs ys : List Int} {r : Int} (he : prioErr xs ys r = 0) : lineErr xs r = 0 ∧ traceErr ys = 0 ∧ xs.length = ys.length := by
  unfold prioErr at he
  by_cases h1 : lineErr xs r = 0
  · rw [if_neg (by simp [h1])] at he
    by_cases h2 : traceErr ys = 0
    · rw [if_neg (by simp [h2])] at he
      by_cases h3 : xs.length = ys.length
      · exact ⟨h1, h2, h3⟩
      · rw [if_neg h3] at he; omega
    · rw [if_pos h2] at he; omega
  · rw [if_pos h1] at he; omega

set_option maxHeartbeats 1000000 in
theorem prio_Run_bad {w : World} {p q : Option Addr} {n c m d : Nat} {xs ys : List Int} {r : Int} (h : SI w p n c xs) (g : SI w q m d ys) {er : Int} (he : prioErr xs ys r = er) (h0 : er ≠ 0) :
    Calls Try.prog 12 #[.slice p n c, .slice q m d, .int .i64 r] w fun e w' => e = .returned (.tuple #[.slice none 0 0, .slice none 0 0, .int .i64 er]) ∧ Below w.heap.size w w' := by
  have hb := bne_false_of h0
  rcases prio_ways he h0 with h1 | ⟨h1, h2⟩ | ⟨h1, h2, h3, rfl⟩
  · have H1 := Lib.hid h1; clear h1 he
    go_enter Try.func12, Try.ntmps12
    go_wp2_with fail
    refine (line_Run_bad h H1.out h0).mono ?_; rintro e w' ⟨rfl, rfl⟩
    go_wp2
    go_ret3
    exact ⟨rfl, Below.refl _ _⟩
  · have H1 := Lib.hid h1; have H2 := Lib.hid h2; clear h1 h2 he
    go_enter Try.func12, Try.ntmps12
    go_wp2_with fail
    refine (line_Run_ok h H1.out).mono ?_; rintro e w1 ⟨p1, n1, c1, L1, p2, n2, c2, L2, er1, rfl, ho1, ho2, hb1, rfl, rfl, rfl⟩
    go_wp2_with fail
    refine (trace_Check (g.below hb1) H2.out).mono ?_; rintro e w' ⟨rfl, rfl⟩
    go_wp2
    go_ret3
    exact ⟨rfl, hb1⟩
  · have hne : ¬ n = m := by rw [← h.1, ← g.1]; exact h3
    have hz : ((n : Int) == (m : Int)) = false := by simp; omega
    have H1 := Lib.hid h1; have H2 := Lib.hid h2; clear h1 h2 h3 he
    go_enter Try.func12, Try.ntmps12
    go_wp2_with fail
    refine (line_Run_ok h H1.out).mono ?_; rintro e w1 ⟨p1, n1, c1, L1, p2, n2, c2, L2, er1, rfl, ho1, ho2, hb1, rfl, rfl, rfl⟩
    go_wp2_with fail
    refine (trace_Check (g.below hb1) H2.out).mono ?_; rintro e w' ⟨rfl, rfl⟩
    go_wp2
    go_ret3
    exact ⟨rfl, hb1⟩

set_option maxHeartbeats 1600000 in
theorem prio_Run_ok {w : World} {p q : Option Addr} {n c d : Nat} {xs ys : List Int} {r : Int} (h : SI w p n c xs) (g : SI w q n d ys) (he : prioErr xs ys r = 0) :
    Calls Try.prog 12 #[.slice p n c, .slice q n d, .int .i64 r] w (RetLL w fun L L2 er => er = 0 ∧ L = goesL xs r ∧ L2 = tab n (sev (gi xs) (gi ys) r)) := by
  obtain ⟨hle, hty, _⟩ := prio_ok he
  obtain ⟨htx, r0, r1⟩ := line_ok hle
  obtain ⟨h60, hokx⟩ := trace_ok htx
  obtain ⟨_, hoky⟩ := trace_ok hty
  have hl := h.1
  have hm := h.2.1
  have gm := g.2.1
  have hbx : ∀ j, j < n → 0 ≤ gi xs j ∧ gi xs j ≤ 10000 := by rw [← hl]; exact hokx
  have hby : ∀ j, j < n → 0 ≤ gi ys j ∧ gi ys j ≤ 10000 := by rw [← g.1]; exact hoky
  rw [hl] at h60
  have HL := Lib.hid hl; have H1 := Lib.hid hle; have H2 := Lib.hid hty; have HBX := Lib.hid hbx; have HBY := Lib.hid hby
  clear hl he hle hty htx hokx hoky hbx hby
  go_enter Try.func12, Try.ntmps12
  go_wp2_with fail
  refine (line_Run_ok h H1.out).mono ?_; rintro e w1 ⟨p1, n1, c1, L1, p2, n2, c2, L2, er1, rfl, ho1, ho2, hb1, rfl, rfl, rfl⟩
  have g1 := g.below hb1
  go_wp2_with fail
  refine (trace_Check g1 H2.out).mono ?_; rintro e w' ⟨rfl, rfl⟩
  have hn1 := ho1.len
  unfold goesL at hn1
  rw [tab_length, HL.out] at hn1
  subst hn1
  have s1 := ho1.si
  unfold goesL at s1
  rw [HL.out] at s1
  clear ho2 g h
  go_wp2
  go_loopw [13, 14, 40] (fun v s i wr => ∃ (k : Nat) (q : Option Addr) (d : Nat), k ≤ n ∧ i = .int .i64 k ∧ s = .int .i64 (pq (gi xs) (gi ys) r k) ∧ v = .slice q k d ∧ OwnI wr w1.heap.size q k d (tab k (sev (gi xs) (gi ys) r)) ∧ Below w1.heap.size w1 wr) (fun _ _ i _ => n - (intOf i).toNat)
  case atStart => exact ⟨0, _, _, Nat.zero_le _, rfl, rfl, rfl, OwnI.nil _ _, Below.refl _ _⟩
  case round =>
    obtain ⟨k, q', d', hk, rfl, rfl, rfl, ho, hb⟩ := hrel
    have hsz := hb.size
    by_cases hkn : k < n
    · obtain ⟨b, off, rfl, hlt, hc⟩ := g1.cells (by omega)
      obtain ⟨b', off', rfl, hlt', hc'⟩ := s1.cells (by omega)
      have e1 : wr.cell? ⟨b, off + k, none⟩ = some (.int .i64 (gi ys k)) := (bdeep hb hlt _).trans (hc _ hkn)
      have e2 : wr.cell? ⟨b', off' + k, none⟩ = some (.int .i64 (gov (gi xs) r k)) := (bdeep hb hlt' _).trans ((hc' _ hkn).trans (by rw [gi_tab hkn]; rfl))
      have b1 := HBY.out k hkn
      have b2 := gov_bd r0 (by omega) HBX.out hkn
      have b3 := pq_bd r0 (by omega) HBX.out HBY.out k hk
      have HST := Lib.hid (show pq (gi xs) (gi ys) r (k + 1) = pq (gi xs) (gi ys) r k + gi ys k - min (pq (gi xs) (gi ys) r k + gi ys k) (r - gov (gi xs) r k) from rfl)
      have HSV := Lib.hid (show sev (gi xs) (gi ys) r k = min (pq (gi xs) (gi ys) r k + gi ys k) (r - gov (gi xs) r k) from rfl)
      have HT := Lib.hid (tab_succ k (sev (gi xs) (gi ys) r))
      generalize pq (gi xs) (gi ys) r k = qk at *
      generalize gov (gi xs) r k = ok at *
      clear hc hc' g1 s1 ho1
      by_cases hlt2 : r - ok < qk + gi ys k
      all_goals
        go_wp2_with (at_builtin; refine wpL_push_int Try.tyInts rfl rfl (B := w1.heap.size) (W0 := w1) (by first | rfl | simp [Act.eval]) (by first | rfl | simp [Act.eval]) ho hb (by omega) hsz ?_; intro p' c' w3 ho1 hb3 hg1 _)
        all_goals
          go_roundw
          case rel => exact ⟨k + 1, _, _, by omega, by go_num, by rw [HST.out]; try first | rfl | (congr 1; omega), rfl, by rw [HT.out, HSV.out]; exact ho1.cast (by first | rfl | (congr 2; omega)), hb3⟩
          case measure => simp [intOf]; omega
    · obtain rfl : n = k := by omega
      have hb2 := hb1.trans (hb.mono hb1.size)
      have ho1' := ho1.below hb
      have ho2 := ho.base hb1.size
      go_wp2
      go_ret3
      exact ⟨_, _, _, _, _, _, _, _, _, rfl, ho1', ho2, hb2, rfl, rfl, rfl⟩
end Go.Proofs.Ytgbccpfehcjhbaa
