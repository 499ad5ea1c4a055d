/- The contracts of catch.look, catch.Bound, headref.times and headref.By (P65). No conditions beyond what each theorem says. -/
import Derived.Test.YtgbccpfehcjhbaaGreatDoorM21
import Derived.Deep.QuietTactic
import Derived.BigQuiet
import Derived.IntWalk
namespace Go.Proofs.YtgbccpfehcjhbaaGreatDoor
open Go Go.RowKit

def badRL (r l : Int) : Prop := r < 0 ∨ 10000 < r ∨ l < 0 ∨ 1000000 < l
instance (r l : Int) : Decidable (badRL r l) := by unfold badRL; infer_instance
theorem badRL_ways {r l : Int} (h : badRL r l) : r < 0 ∨ (0 ≤ r ∧ 10000 < r) ∨ (0 ≤ r ∧ r ≤ 10000 ∧ l < 0) ∨ (0 ≤ r ∧ r ≤ 10000 ∧ 0 ≤ l ∧ 1000000 < l) := by unfold badRL at h; omega
theorem not_badRL {r l : Int} (h : ¬ badRL r l) : 0 ≤ r ∧ r ≤ 10000 ∧ 0 ≤ l ∧ l ≤ 1000000 := by unfold badRL at h; omega

set_option maxHeartbeats 400000 in
theorem catch_look_bad {w : World} {r l : Int} (h : badRL r l) :
    Calls Tryz.prog 105 #[.int .i64 r, .int .i64 l] w fun e w' => e = .returned (.int .i64 1) ∧ w = w' := by
  rcases badRL_ways h with h1 | ⟨h1, h2⟩ | ⟨h1, h2, h3⟩ | ⟨h1, h2, h3, h4⟩
  all_goals
    clear h
    go_enter Tryz.func105, Tryz.ntmps105
    go_wp2
    go_ret
    exact ⟨rfl, rfl⟩
set_option maxHeartbeats 400000 in
theorem catch_look_ok {w : World} {r l : Int} (h : ¬ badRL r l) :
    Calls Tryz.prog 105 #[.int .i64 r, .int .i64 l] w fun e w' => e = .returned (.int .i64 0) ∧ w = w' := by
  obtain ⟨h1, h2, h3, h4⟩ := not_badRL h
  clear h
  go_enter Tryz.func105, Tryz.ntmps105
  go_wp2
  go_ret
  exact ⟨rfl, rfl⟩

/-- by d one is there -/
def byP (xs : List Int) (r l : Int) (d : Nat) : Bool := decide (l + gi xs d ≤ r * (d : Int))
theorem byP_true {xs : List Int} {r l : Int} {d : Nat} : byP xs r l d = true ↔ l + gi xs d ≤ r * (d : Int) := by simp [byP]
theorem byP_false {xs : List Int} {r l : Int} {d : Nat} : byP xs r l d = false ↔ ¬ l + gi xs d ≤ r * (d : Int) := by simp [byP]
theorem prod_bd {r : Int} {k : Nat} (h0 : 0 ≤ r) (h1 : r ≤ 10000) (hk : k ≤ 1000) : 0 ≤ r * (k : Int) ∧ r * (k : Int) ≤ 10000000 := by
  refine ⟨Int.mul_nonneg h0 (by omega), ?_⟩
  have := Int.mul_le_mul h1 (show (k : Int) ≤ 1000 by omega) (by omega) (by omega)
  omega

set_option maxHeartbeats 400000 in
theorem catch_Bound_ok {w : World} {p : Option Addr} {n c : Nat} {xs : List Int} {r l : Int} {i : Nat} (h : SI w p n c xs) (hc0 : curveErr xs = 0) (hr : ¬ badRL r l) (hi : FirstP (byP xs r l) n i) :
    Calls Tryz.prog 69 #[.slice p n c, .int .i64 r, .int .i64 l] w fun e w' => e = .returned (.tuple #[.int .i64 (if i < n then i else 0), .int .i64 (if i < n then 0 else 5)]) ∧ w = w' := by
  have hx := curve_of hc0 h.1
  have hn61 := hx.le
  have hm := h.2.1
  have HC := Lib.hid hc0; have HX := Lib.hid hx; have HI := Lib.hid hi; have HR := Lib.hid hr
  have hin := hi.1
  clear hc0 hx hi hr
  go_enter Tryz.func69, Tryz.ntmps69
  go_wp2_with fail
  refine (curve_Check h HC.out).mono ?_; rintro e w' ⟨rfl, rfl⟩
  go_wp2_with fail
  refine (catch_look_ok HR.out).mono ?_; rintro e w' ⟨rfl, rfl⟩
  go_wp2
  go_loop [25] (fun v => ∃ k : Nat, k ≤ i ∧ v = .int .i64 k) (fun v => n - (intOf v).toNat)
  case atStart => exact ⟨0, by omega, rfl⟩
  case round =>
    obtain ⟨k, hk, rfl⟩ := hrel
    by_cases hkn : k < n
    · obtain ⟨b, off, rfl, hlt, hc⟩ := h.cells (by omega)
      have hcell := hc k hkn
      have b1 := HX.out.bd k hkn
      obtain ⟨r0, r1, l0, l1⟩ := not_badRL HR.out
      have b2 := prod_bd (k := k) r0 r1 (by omega)
      clear hc h
      by_cases hki : k < i
      · have hb := byP_false.1 (HI.out.2.1 k hki)
        go_wp2
        go_round
        case rel => exact ⟨k + 1, by omega, by go_num⟩
        case measure => simp [intOf]; omega
      · obtain rfl : i = k := by omega
        have hb := byP_true.1 (HI.out.2.2 hkn)
        go_wp2
        go_ret2
        exact ⟨by first | rfl | (rw [if_pos hkn, if_pos hkn]), rfl⟩
    · obtain rfl : i = k := by omega
      go_wp2
      go_ret2
      exact ⟨by first | rfl | (rw [if_neg hkn, if_neg hkn]), rfl⟩

def boundErr (xs : List Int) (r l : Int) : Int := if curveErr xs ≠ 0 then curveErr xs else if badRL r l then 1 else 0

set_option maxHeartbeats 400000 in
theorem catch_Bound_bad {w : World} {p : Option Addr} {n c : Nat} {xs : List Int} {r l : Int} (h : SI w p n c xs) {er : Int} (he : boundErr xs r l = er) (h0 : er ≠ 0) :
    Calls Tryz.prog 69 #[.slice p n c, .int .i64 r, .int .i64 l] w fun e w' => e = .returned (.tuple #[.int .i64 0, .int .i64 er]) ∧ w = w' := by
  by_cases hc0 : curveErr xs = 0
  · have hb : badRL r l := by
      apply Classical.byContradiction
      intro hb
      unfold boundErr at he
      rw [if_neg (by simp [hc0]), if_neg hb] at he
      exact h0 he.symm
    obtain rfl : 1 = er := by rw [← he]; unfold boundErr; rw [if_neg (by simp [hc0]), if_pos hb]
    have HC := Lib.hid hc0; have HB := Lib.hid hb; clear hc0 he hb h0
    go_enter Tryz.func69, Tryz.ntmps69
    go_wp2_with fail
    refine (curve_Check h HC.out).mono ?_; rintro e w' ⟨rfl, rfl⟩
    go_wp2_with fail
    refine (catch_look_bad HB.out).mono ?_; rintro e w' ⟨rfl, rfl⟩
    go_wp2
    go_ret2
    exact ⟨rfl, rfl⟩
  · obtain ⟨er', he'⟩ : ∃ er', curveErr xs = er' := ⟨_, rfl⟩
    obtain rfl : er' = er := by rw [← he]; unfold boundErr; rw [if_pos hc0, he']
    have hb := bne_false_of h0
    have HC := Lib.hid he'; clear hc0 he he'
    go_enter Tryz.func69, Tryz.ntmps69
    go_wp2_with fail
    refine (curve_Check h HC.out).mono ?_; rintro e w' ⟨rfl, rfl⟩
    go_wp2
    go_ret2
    exact ⟨rfl, rfl⟩

set_option maxHeartbeats 400000 in
theorem ref_times {w : World} {n : Nat} (hn : n ≤ 1000) :
    Calls Tryz.prog 133 #[.int .i64 n] w (RetS w (tab n fun k => (k : Int))) := by
  go_enter Tryz.func133, Tryz.ntmps133
  go_wp2
  go_loopw [3, 6] (fun v i wr => ∃ (k : Nat) (q : Option Addr) (d : Nat), k ≤ n ∧ i = .int .i64 k ∧ v = .slice q k d ∧ OwnI wr w.heap.size q k d (tab k fun k => (k : Int)) ∧ Below w.heap.size w wr) (fun _ i _ => n - (intOf i).toNat)
  case atStart => exact ⟨0, _, _, Nat.zero_le _, rfl, rfl, OwnI.nil _ _, Below.refl _ _⟩
  case round =>
    obtain ⟨k, q, d, hk, rfl, rfl, ho, hb⟩ := hrel
    have hsz := hb.size
    by_cases hkn : k < n
    · have HTT := Lib.hid (tab_succ k fun k => (k : Int))
      go_wp2_with (at_builtin; refine wpL_push_int Tryz.tyInts rfl rfl (B := w.heap.size) (W0 := w) (by first | rfl | simp [Act.eval]) (by first | rfl | simp [Act.eval]) ho hb (by omega) hsz ?_; intro p' c' w3 ho1 hb3 hg1 _)
      go_roundw
      case rel => exact ⟨k + 1, _, _, by omega, by go_num, rfl, by rw [HTT.out]; exact ho1, hb3⟩
      case measure => simp [intOf]; omega
    · obtain rfl : n = k := by omega
      go_wp2
      go_ret
      exact ⟨_, _, _, rfl, ho, hb⟩

theorem three_boxes (w : World) (v u z : Value) (t1 t2 t3 : TypeId) :
    (((w.alloc (.cells #[v] t1)).alloc (.cells #[u] t2)).alloc (.cells #[z] t3)).cell? ⟨w.heap.size, 0, none⟩ = some v ∧ (((w.alloc (.cells #[v] t1)).alloc (.cells #[u] t2)).alloc (.cells #[z] t3)).cell? ⟨w.heap.size + 1, 0, none⟩ = some u ∧
    (((w.alloc (.cells #[v] t1)).alloc (.cells #[u] t2)).alloc (.cells #[z] t3)).cell? ⟨w.heap.size + 2, 0, none⟩ = some z ∧
    Below w.heap.size w (((w.alloc (.cells #[v] t1)).alloc (.cells #[u] t2)).alloc (.cells #[z] t3)) ∧ (((w.alloc (.cells #[v] t1)).alloc (.cells #[u] t2)).alloc (.cells #[z] t3)).heap.size = w.heap.size + 3 := by
  refine ⟨?_, ?_, ?_, (((Below.refl _ _).alloc (Nat.le_refl _) _).alloc (by simp) _).alloc (by simp; omega) _, by simp⟩
  · rw [World.cell?_alloc_past _ _ _ (by simp; omega), World.cell?_alloc_past _ _ _ (by simp), World.cell?_alloc_at _ _ _ _ rfl]; rfl
  · rw [World.cell?_alloc_past _ _ _ (by simp), World.cell?_alloc_at _ _ _ _ (by simp)]; rfl
  · rw [World.cell?_alloc_at _ _ _ _ (by simp)]; rfl

set_option maxHeartbeats 400000 in
theorem ref_By1 {w : World} {p : Option Addr} {n c a a' a'' t : Nat} {xs : List Int} {r l : Int} (h : SI w p n c xs) (ht : t < n) (hn : n ≤ 1000) (hbd : 0 ≤ gi xs t ∧ gi xs t ≤ 1000000) (hr : 0 ≤ r ∧ r ≤ 100000) (hl : 0 ≤ l ∧ l ≤ 1000000) (h1 : w.cell? ⟨a, 0, none⟩ = some (.int .i64 r)) (h2 : w.cell? ⟨a', 0, none⟩ = some (.int .i64 l)) (h3 : w.cell? ⟨a'', 0, none⟩ = some (.slice p n c)) :
    Calls Tryz.prog 134 #[.int .i64 t, .pointer (some ⟨a, 0, none⟩), .pointer (some ⟨a', 0, none⟩), .pointer (some ⟨a'', 0, none⟩)] w fun e w' => e = .returned (.bool (byP xs r l t)) ∧ Below w.heap.size w w' := by
  obtain ⟨b, off, rfl, hlt, hc⟩ := h.cells (by omega)
  have hm := h.2.1
  have hcell := hc t ht
  have b2 : 0 ≤ r * (t : Int) ∧ r * (t : Int) ≤ 100000000 := by
    refine ⟨Int.mul_nonneg hr.1 (by omega), ?_⟩
    have := Int.mul_le_mul hr.2 (show (t : Int) ≤ 1000 by omega) (by omega) (by omega)
    omega
  have q1 : IntKind.i64.wrap (r * (t : Int)) = r * (t : Int) := IntWalk.i64_in _ (by omega)
  have q2 : IntKind.i64.wrap (l + gi xs t) = l + gi xs t := IntWalk.i64_in _ (by omega)
  clear h hc
  go_enter Tryz.func134, Tryz.ntmps134
  go_wp2
  go_quiet (fail)
  clear q1 q2
  go_wp2
  go_ret
  exact ⟨rfl, below_drewN (Below.refl _ _) _⟩

set_option maxHeartbeats 1000000 in
theorem ref_By {w : World} {p : Option Addr} {n c : Nat} {xs : List Int} {r l : Int} {i : Nat} (h : SI w p n c xs) (hn : n ≤ 1000) (hbd : ∀ j, j < n → 0 ≤ gi xs j ∧ gi xs j ≤ 1000000) (hr : 0 ≤ r ∧ r ≤ 100000) (hl : 0 ≤ l ∧ l ≤ 1000000) (hi : FirstP (byP xs r l) n i) :
    Calls Tryz.prog 118 #[.slice p n c, .int .i64 r, .int .i64 l] w fun e w' => e = .returned (.int .i64 (if i < n then i else -1)) ∧ Below w.heap.size w w' := by
  have hm := h.2.1
  have HI := Lib.hid hi; have HBD := Lib.hid hbd; clear hi hbd
  go_enter Tryz.func118, Tryz.ntmps118
  go_wp2_with fail
  obtain ⟨k1, k2, k3, kb, ks⟩ := three_boxes w (.slice p n c) (.int .i64 r) (.int .i64 l) 35 3 3
  generalize hW : (((w.alloc (.cells #[.slice p n c] 35)).alloc (.cells #[.int .i64 r] 3)).alloc (.cells #[.int .i64 l] 3)) = W at *
  clear hW
  refine (ref_times hn).mono ?_; rintro e w1 ⟨q, m, d, rfl, ho, hb1⟩
  have hlen := ho.len
  rw [tab_length] at hlen
  subst hlen
  have hs := ho.si
  have HG := Lib.hid (fun (k : Nat) (hk : k < n) => show gi (tab n fun k => (k : Int)) k = (k : Int) from gi_tab hk)
  have h1 := h.below (kb.trans (hb1.mono (by omega)))
  have e1 := (bdeep hb1 (show w.heap.size < W.heap.size by omega) 0).trans k1
  have e2 := (bdeep hb1 (show w.heap.size + 1 < W.heap.size by omega) 0).trans k2
  have e3 := (bdeep hb1 (show w.heap.size + 2 < W.heap.size by omega) 0).trans k3
  have hz1 := hb1.size
  clear k1 k2 k3 ho
  have H1 := Lib.hid h1; have E1 := Lib.hid e1; have E2 := Lib.hid e2; have E3 := Lib.hid e3
  clear h1 e1 e2 e3
  go_wp2_with fail
  refine (slices_IndexFunc (pr := byP xs r l) (i := i) hs HI.out (fun args w => by simp [callFunc, Tryz.func134, Tryz.f134, go_sem]) fun w' t ht hb => ?_).mono ?_
  · rw [HG.out t ht]
    refine (ref_By1 (H1.out.below hb) ht hn (HBD.out t ht) hr hl ((bdeep hb (by omega) _).trans E2.out) ((bdeep hb (by omega) _).trans E3.out) ((bdeep hb (by omega) _).trans E1.out)).mono ?_
    rintro e w2 ⟨rfl, hb2⟩
    exact ⟨rfl, hb.trans (hb2.mono hb.size)⟩
  · rintro e w2 ⟨rfl, hb⟩
    have hbb := kb.trans ((hb1.trans (hb.mono hz1)).mono kb.size)
    go_wp2
    all_goals
      go_ret
      exact ⟨rfl, hbb⟩
end Go.Proofs.YtgbccpfehcjhbaaGreatDoor

/- The plain law of a planned rate (P66): the least that is enough. No program is in sight. No conditions. -/
namespace Go.Proofs.YtgbccpfehcjhbaaGreatDoor
open Go Go.RowKit

/-- what t asks, rounded up -/
def cst (L : Nat → Int) (l : Int) (t : Nat) : Int := (l + L t + (t : Int) - 1) / (t : Int)
/-- the least of the first k, as the program keeps it -/
def rb (L : Nat → Int) (l : Int) : Nat → Int
  | 0 => -1
  | k + 1 => if rb L l k < 0 ∨ cst L l (k + 1) < rb L l k then cst L l (k + 1) else rb L l k
theorem cst_bd {L : Nat → Int} {l : Int} {n t : Nat} (hl : 0 ≤ l ∧ l ≤ 1000000) (hL : ∀ j, j < n → 0 ≤ L j ∧ L j ≤ 1000000) (h1 : 1 ≤ t) (ht : t < n) : 0 ≤ cst L l t ∧ cst L l t ≤ 2000000 := by
  have a := hL t ht
  have b := up_bd (a := l + L t) (b := (t : Int)) (by omega) (by omega)
  unfold cst; omega
theorem rb_bd {L : Nat → Int} {l : Int} {n : Nat} (hl : 0 ≤ l ∧ l ≤ 1000000) (hL : ∀ j, j < n → 0 ≤ L j ∧ L j ≤ 1000000) : ∀ k, k < n → -1 ≤ rb L l k ∧ rb L l k ≤ 2000000 ∧ (0 < k → 0 ≤ rb L l k)
  | 0, _ => ⟨by simp [rb], by simp [rb], fun h => by omega⟩
  | k + 1, hk => by
    have a := rb_bd hl hL k (by omega)
    have b := cst_bd (t := k + 1) hl hL (by omega) hk
    simp only [rb]
    split <;> exact ⟨by omega, by omega, fun _ => by omega⟩
theorem rb_le {L : Nat → Int} {l : Int} {n : Nat} (hl : 0 ≤ l ∧ l ≤ 1000000) (hL : ∀ j, j < n → 0 ≤ L j ∧ L j ≤ 1000000) : ∀ k, k < n → ∀ t, 1 ≤ t → t ≤ k → rb L l k ≤ cst L l t
  | 0, _, t, h1, h2 => by omega
  | k + 1, hk, t, h1, h2 => by
    have a := rb_bd hl hL k (by omega)
    have b := cst_bd (t := k + 1) hl hL (by omega) hk
    simp only [rb]
    by_cases e : t = k + 1
    · subst e; split <;> omega
    · have c := rb_le hl hL k (by omega) t h1 (by omega)
      split
      · rename_i h; rcases h with h | h
        · have := a.2.2 (by omega); omega
        · omega
      · exact c
theorem rb_at {L : Nat → Int} {l : Int} : ∀ k, 0 < k → ∃ t, 1 ≤ t ∧ t ≤ k ∧ rb L l k = cst L l t
  | 0, h => by omega
  | k + 1, _ => by
    by_cases hh : rb L l k < 0 ∨ cst L l (k + 1) < rb L l k
    · exact ⟨k + 1, by omega, by omega, by simp only [rb]; rw [if_pos hh]⟩
    · by_cases h0 : k = 0
      · subst h0; exact absurd (.inl (by simp [rb])) hh
      · obtain ⟨t, h1, h2, h3⟩ := rb_at (L := L) (l := l) k (by omega)
        exact ⟨t, h1, by omega, by simp only [rb]; rw [if_neg hh]; exact h3⟩
theorem cst_le {L : Nat → Int} {l c : Int} {t : Nat} (h1 : 1 ≤ t) : cst L l t ≤ c ↔ l + L t ≤ c * (t : Int) := by
  have := up_lt (a := l + L t) (b := (t : Int)) (k := c) (by omega)
  unfold cst
  omega

/-- by d one is there, at rate c -/
def OkR (L : Nat → Int) (l : Int) (d : Nat) (c : Int) : Prop := ∃ t, t ≤ d ∧ l + L t ≤ c * (t : Int)
theorem okR_mono {L : Nat → Int} {l c c' : Int} {d : Nat} (h : OkR L l d c) (hc : c ≤ c') : OkR L l d c' := by
  obtain ⟨t, h1, h2⟩ := h
  have := Int.mul_le_mul_of_nonneg_right hc (show 0 ≤ (t : Int) by omega)
  exact ⟨t, h1, by omega⟩
theorem okR_zero {L : Nat → Int} {l c : Int} {d : Nat} (h : l + L 0 = 0) : OkR L l d c := ⟨0, by omega, by simp; omega⟩
theorem okR_rb {L : Nat → Int} {l c : Int} {n d : Nat} (hl : 0 ≤ l ∧ l ≤ 1000000) (hL : ∀ j, j < n → 0 ≤ L j ∧ L j ≤ 1000000) (hd : d < n) (h : l + L 0 ≠ 0) : OkR L l d c ↔ 0 < d ∧ rb L l d ≤ c := by
  have h0 := hL 0 (by omega)
  constructor
  · rintro ⟨t, h1, h2⟩
    have ht : t ≠ 0 := by rintro rfl; simp at h2; omega
    exact ⟨by omega, Int.le_trans (rb_le hl hL d hd t (by omega) h1) ((cst_le (by omega)).2 h2)⟩
  · rintro ⟨h1, h2⟩
    obtain ⟨t, h3, h4, h5⟩ := rb_at (L := L) (l := l) d h1
    exact ⟨t, h4, (cst_le h3).1 (by omega)⟩
/-- the border of what is enough, up to 10000 -/
def BorderR (L : Nat → Int) (l : Int) (d : Nat) (x : Int) : Prop := 0 ≤ x ∧ x ≤ 10001 ∧ (∀ c, 0 ≤ c → c < x → ¬ OkR L l d c) ∧ ∀ c, x ≤ c → c ≤ 10000 → OkR L l d c
/-- what the program answers -/
def RateOf (L : Nat → Int) (l : Int) (d : Nat) (v e : Int) : Prop :=
  (l + L 0 = 0 ∧ v = 0 ∧ e = 0) ∨ (l + L 0 ≠ 0 ∧ (rb L l d < 0 ∨ 10000 < rb L l d) ∧ v = 0 ∧ e = 5) ∨ (l + L 0 ≠ 0 ∧ 0 ≤ rb L l d ∧ rb L l d ≤ 10000 ∧ v = rb L l d ∧ e = 0)
theorem rateOf_exists (L : Nat → Int) (l : Int) (d : Nat) : ∃ v e, RateOf L l d v e := by
  by_cases h : l + L 0 = 0
  · exact ⟨0, 0, .inl ⟨h, rfl, rfl⟩⟩
  · by_cases h1 : rb L l d < 0 ∨ 10000 < rb L l d
    · exact ⟨0, 5, .inr (.inl ⟨h, h1, rfl, rfl⟩)⟩
    · exact ⟨_, 0, .inr (.inr ⟨h, by omega, by omega, rfl, rfl⟩)⟩
theorem border_rate {L : Nat → Int} {l x v e : Int} {n d : Nat} (hl : 0 ≤ l ∧ l ≤ 1000000) (hL : ∀ j, j < n → 0 ≤ L j ∧ L j ≤ 1000000) (hd : d < n) (hb : BorderR L l d x) (hr : RateOf L l d v e) :
    (10000 < x ∧ v = 0 ∧ e = 5) ∨ (x ≤ 10000 ∧ v = x ∧ e = 0) := by
  obtain ⟨h1, h2, h3, h4⟩ := hb
  rcases hr with ⟨g1, rfl, rfl⟩ | ⟨g1, g2, rfl, rfl⟩ | ⟨g1, g2, g3, rfl, rfl⟩
  · have : ¬ 0 < x := fun h => h3 0 (by omega) h (okR_zero g1)
    exact .inr ⟨by omega, by omega, rfl⟩
  · refine .inl ⟨?_, rfl, rfl⟩
    apply Int.not_le.1
    intro hx
    obtain ⟨a, b⟩ := (okR_rb hl hL hd g1).1 (h4 x (Int.le_refl x) hx)
    have := (rb_bd hl hL d hd).2.2 a
    omega
  · have hd0 : 0 < d := by
      apply Nat.pos_of_ne_zero
      rintro rfl
      simp [rb] at g2
    have a : ¬ rb L l d < x := fun h => h3 _ g2 h ((okR_rb hl hL hd g1).2 ⟨hd0, Int.le_refl _⟩)
    refine .inr ⟨by omega, ?_, rfl⟩
    have b := ((okR_rb hl hL hd g1).1 (h4 x (Int.le_refl x) (by omega))).2
    omega
theorem first_ok {xs : List Int} {l c : Int} {n d i : Nat} (hd : d < n) (hi : FirstP (byP xs c l) n i) : OkR (gi xs) l d c ↔ i ≤ d := by
  obtain ⟨h1, h2, h3⟩ := hi
  constructor
  · rintro ⟨t, g1, g2⟩
    apply Nat.not_lt.1
    intro hlt
    have := h2 t (by omega)
    rw [byP_false] at this
    exact this g2
  · intro h
    exact ⟨i, h, byP_true.1 (h3 (by omega))⟩
end Go.Proofs.YtgbccpfehcjhbaaGreatDoor
