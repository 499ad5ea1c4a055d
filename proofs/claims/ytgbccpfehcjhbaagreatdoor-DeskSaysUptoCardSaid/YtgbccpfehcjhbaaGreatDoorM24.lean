/- The contracts of closure.Of, closure.Is, headref.Closure and headref.Sub (P12, P13), and that the two closures are one. No conditions. -/
import Derived.Test.YtgbccpfehcjhbaaGreatDoorM08
import Derived.Test.YtgbccpfehcjhbaaGreatDoorM09
import Derived.Deep.QuietTactic
import Derived.BigQuiet
namespace Go.Proofs.YtgbccpfehcjhbaaGreatDoor
open Go Go.RowKit

/-- the closure by its last piece, as a list that grows: of times 0 .. t -/
def clL (f : Nat → Int) : Nat → List Int
  | 0 => [0]
  | t + 1 => clL f t ++ [mnf 1099511627776 (fun s => gi (clL f t) (t - s) + f (s + 1)) (t + 1)]
def cl (f : Nat → Int) (t : Nat) : Int := gi (clL f t) t

theorem clL_length (f : Nat → Int) (t : Nat) : (clL f t).length = t + 1 := by
  induction t with
  | zero => rfl
  | succ t ih => simp [clL, ih]
theorem clL_gi (f : Nat → Int) (m t : Nat) (h : t ≤ m) : gi (clL f m) t = cl f t := by
  induction m with
  | zero => obtain rfl : t = 0 := by omega
            rfl
  | succ m ih =>
    by_cases e : t = m + 1
    · subst e; rfl
    · rw [← ih (by omega)]
      exact gi_append_left (by rw [clL_length]; omega)
theorem cl_zero (f : Nat → Int) : cl f 0 = 0 := rfl
theorem cl_succ (f : Nat → Int) (t : Nat) : cl f (t + 1) = mnf 1099511627776 (fun s => cl f (t - s) + f (s + 1)) (t + 1) := by
  have h : cl f (t + 1) = mnf 1099511627776 (fun s => gi (clL f t) (t - s) + f (s + 1)) (t + 1) := by
    unfold cl
    show gi (clL f t ++ [_]) (t + 1) = _
    have := gi_append_one (xs := clL f t) (x := mnf 1099511627776 (fun s => gi (clL f t) (t - s) + f (s + 1)) (t + 1))
    rwa [clL_length] at this
  rw [h]
  exact mnf_congr fun u hu => by rw [clL_gi _ _ _ (by omega)]
theorem clL_tab (f : Nat → Int) (t : Nat) : clL f t = tab (t + 1) (cl f) := by
  apply list_ext_gi
  · rw [clL_length, tab_length]
  · intro j hj
    rw [clL_length] at hj
    rw [clL_gi _ _ _ (by omega), gi_tab hj]

theorem cl_le (f : Nat → Int) (t s : Nat) (hs : s ≤ t) : cl f (t + 1) ≤ cl f (t - s) + f (s + 1) := by
  rw [cl_succ]
  exact (mnf_le (s := 1099511627776) (e := fun s => cl f (t - s) + f (s + 1)) (m := t + 1)).2 s (by omega)

section
variable {f : Nat → Int} {n : Nat} (hb : ∀ j, j < n → 0 ≤ f j ∧ f j ≤ 1000000)
include hb
theorem cl_bd (t : Nat) (ht : t < n) : 0 ≤ cl f t ∧ cl f t ≤ 1000000 ∧ (0 < t → cl f t ≤ f t) := by
  induction t using Nat.strongRecOn with
  | _ t ih =>
    cases t with
    | zero => exact ⟨by rw [cl_zero]; omega, by rw [cl_zero]; omega, fun h => by omega⟩
    | succ t =>
      have h1 : cl f (t + 1) ≤ f (t + 1) := by
        rw [cl_succ]
        have := (mnf_le (s := 1099511627776) (e := fun s => cl f (t - s) + f (s + 1)) (m := t + 1)).2 t (by omega)
        simp only [Nat.sub_self, cl_zero] at this
        omega
      have h2 : 0 ≤ cl f (t + 1) := by
        rw [cl_succ]
        refine le_mnf (by omega) fun u hu => ?_
        have a := ih (t - u) (by omega) (by omega)
        have b := hb (u + 1) (by omega)
        omega
      have := hb (t + 1) ht
      exact ⟨h2, by omega, fun _ => h1⟩
/-- the last piece that serves -/
theorem cl_last (t : Nat) (ht : t + 1 < n) : ∃ s, s ≤ t ∧ cl f (t + 1) = cl f (t - s) + f (s + 1) := by
  have h1 := cl_bd hb (t + 1) ht
  rcases mnf_at (s := 1099511627776) (e := fun s => cl f (t - s) + f (s + 1)) (m := t + 1) with h | ⟨u, hu, h⟩
  · rw [← cl_succ] at h; omega
  · exact ⟨u, by omega, by rw [cl_succ]; exact h⟩
theorem cl_sub (a b : Nat) (h : a + b < n) : cl f (a + b) ≤ cl f a + cl f b := by
  induction a using Nat.strongRecOn with
  | _ a ih =>
    cases a with
    | zero => rw [cl_zero, Nat.zero_add]; omega
    | succ a =>
      obtain ⟨s, hs, e⟩ := cl_last hb a (by omega)
      have h1 := cl_le f (a + b) s (by omega)
      have h2 := ih (a - s) (by omega) (by omega)
      rw [show a + 1 + b = a + b + 1 by omega, e]
      rw [show a + b - s = a - s + b by omega] at h1
      omega
/-- the closure in the program's way: from f t, by two pieces of itself -/
theorem cl_two (t : Nat) (h0 : 0 < t) (ht : t < n) : mnf (f t) (fun s => cl f (s + 1) + cl f (t - (s + 1))) (t - 1) = cl f t := by
  obtain ⟨t, rfl⟩ : ∃ k, t = k + 1 := ⟨t - 1, by omega⟩
  rw [Nat.add_sub_cancel]
  apply Int.le_antisymm
  · obtain ⟨s, hs, e⟩ := cl_last hb t ht
    have hm := mnf_le (s := f (t + 1)) (e := fun s => cl f (s + 1) + cl f (t + 1 - (s + 1))) (m := t)
    by_cases h : s = t
    · subst h
      rw [e, Nat.sub_self, cl_zero]
      omega
    · have := hm.2 s (by omega)
      have := (cl_bd hb (s + 1) (by omega)).2.2 (by omega)
      rw [e]
      simp only [show t + 1 - (s + 1) = t - s by omega] at *
      omega
  · refine le_mnf ((cl_bd hb (t + 1) ht).2.2 (by omega)) fun u hu => ?_
    have := cl_sub hb (u + 1) (t + 1 - (u + 1)) (by omega)
    rwa [show u + 1 + (t + 1 - (u + 1)) = t + 1 by omega] at this
end

def clsL (xs : List Int) : List Int := tab xs.length (cl (gi xs))

set_option maxHeartbeats 1000000 in
theorem closure_Of_ok {w : World} {p : Option Addr} {n c : Nat} {xs : List Int} (h : SI w p n c xs) (hx : Curve xs n) (he : curveErr xs = 0) :
    Calls Tryz.prog 61 #[.slice p n c] w (RetL w fun L er => er = 0 ∧ L = clsL xs) := by
  obtain ⟨hl, hpos, h61, hbd, _⟩ := hx
  have HE := Lib.hid he; clear he
  have HL := Lib.hid hl; clear hl
  have HBD := Lib.hid hbd
  obtain ⟨b, off, hp, hlt, hc⟩ := h.cells hpos
  subst hp
  go_enter Tryz.func61, Tryz.ntmps61
  go_wp2_with fail
  refine (curve_Check h HE.out).mono ?_; rintro e w' ⟨rfl, rfl⟩
  clear h
  go_wp2_with (at_make; refine wpL_make_int Tryz.tyInts rfl rfl (B := w.heap.size) (W0 := w) n rfl rfl rfl rfl (Below.refl _ _) (by omega) (Nat.le_refl _) ?_; intro g w1 hg hown hbel hb0)
  clear hb0
  go_loopw [6] (fun i wr => ∃ k : Nat, 1 ≤ k ∧ k ≤ n ∧ i = .int .i64 k ∧ OwnI wr w.heap.size (some ⟨g, 0, none⟩) n n (tab n fun j => if j < k then cl (gi xs) j else 0) ∧ Below w.heap.size w wr) (fun i _ => n - (intOf i).toNat)
  case atStart =>
    refine ⟨1, Nat.le_refl _, by omega, rfl, hown.to fun j _ => ?_, hbel⟩
    by_cases e : j < 1
    · obtain rfl : j = 0 := by omega
      rw [if_pos e, cl_zero]
    · rw [if_neg e]
  case round =>
    obtain ⟨k, hk1, hk, rfl, ho, hb⟩ := hrel
    clear hown hbel
    by_cases hkn : k < n
    · obtain ⟨wo, rfl⟩ : ∃ wo : World, wo = wr := ⟨_, rfl⟩
      have c1 : wo.cell? ⟨b, off + k, none⟩ = some (.int .i64 (gi xs k)) := (bdeep hb hlt _).trans (hc _ hkn)
      have b1 := hbd k hkn
      have f3 := ho.free k
      have c2 := ho.at hkn
      rw [gi_tab hkn, if_neg (Nat.lt_irrefl k)] at c2
      go_wp2
      go_loopw [7] (fun i wr => ∃ u : Nat, u < k ∧ i = .int .i64 (u + 1 : Nat) ∧ OwnI wr w.heap.size (some ⟨g, 0, none⟩) n n (tab n fun j => if j < k then cl (gi xs) j else if j = k then mnf (gi xs k) (fun s => cl (gi xs) (s + 1) + cl (gi xs) (k - (s + 1))) u else 0) ∧ Below w.heap.size w wr) (fun i _ => k - (intOf i).toNat)
      case atStart =>
        refine ⟨0, by omega, rfl, ho.put k _ fun j _ => ?_, hb.setCell hg _⟩
        by_cases e : j = k
        · subst e; simp [mnf]
        · by_cases e2 : j < k <;> simp [e, e2]
      case round =>
        obtain ⟨u, hu, rfl, ho', hb'⟩ := hrel
        clear ho hb c1 c2 f3
        by_cases hun : u + 1 < k
        · have c3 := ho'.at hkn
          rw [gi_tab hkn] at c3
          simp only [Nat.lt_irrefl, if_true, if_false] at c3
          have c4 := ho'.at (j := u + 1) (by omega)
          rw [gi_tab (by omega), if_pos hun] at c4
          have c5 := ho'.at (j := k - (u + 1)) (by omega)
          rw [gi_tab (by omega), if_pos (by omega)] at c5
          have f3 := ho'.free k
          have b2 := cl_bd HBD.out (u + 1) (by omega)
          have b3 := cl_bd HBD.out (k - (u + 1)) (by omega)
          have b2' := b2.1; have b2'' := b2.2.1; have b3' := b3.1; have b3'' := b3.2.1
          clear b2 b3
          have hst : Hid (mnf (gi xs k) (fun s => cl (gi xs) (s + 1) + cl (gi xs) (k - (s + 1))) (u + 1) = min (mnf (gi xs k) (fun s => cl (gi xs) (s + 1) + cl (gi xs) (k - (s + 1))) u) (cl (gi xs) (u + 1) + cl (gi xs) (k - (u + 1)))) := Lib.hid rfl
          generalize hx1 : cl (gi xs) (u + 1) = x1 at *
          generalize hx2 : cl (gi xs) (k - (u + 1)) = x2 at *
          have HX1 := Lib.hid hx1; have HX2 := Lib.hid hx2; clear hx1 hx2
          go_wp2
          go_region
          all_goals
            go_wp2
            go_roundw
            case rel =>
              refine ⟨u + 1, by omega, by go_num, (ho'.put k _ fun j hj => ?_).drew, (hb'.setCell hg _).drew⟩
              by_cases e : j = k
              · subst e
                rw [if_pos rfl, if_neg (Nat.lt_irrefl _), if_pos rfl, hst.out]
                omega
              · simp only [if_neg e]
            case measure => simp [intOf]; omega
        · obtain rfl : k = u + 1 := by omega
          go_wp2
          go_roundw
          case rel =>
            refine ⟨u + 1 + 1, by omega, by omega, by go_num, ho'.to fun j hj => ?_, hb'⟩
            by_cases e : j < u + 1
            · rw [if_pos e, if_pos (by omega)]
            · by_cases e2 : j = u + 1
              · subst e2
                rw [if_neg (by omega), if_pos rfl, if_pos (by omega)]
                exact cl_two HBD.out (u + 1) (by omega) (by omega)
              · rw [if_neg e, if_neg e2, if_neg (by omega)]
          case measure => simp [intOf]; omega
    · obtain rfl : n = k := by omega
      go_wp2
      go_ret2
      exact ⟨_, _, _, _, _, rfl, ho.to fun j hj => if_pos hj, hb, rfl, by unfold clsL; rw [HL.out]⟩

set_option maxHeartbeats 1000000 in
theorem ref_Closure {w : World} {p : Option Addr} {n c : Nat} {xs : List Int} (h : SI w p n c xs) (hx : Curve xs n) :
    Calls Tryz.prog 79 #[.slice p n c] w (RetS w (clsL xs)) := by
  obtain ⟨hl, hpos, h61, hbd, _⟩ := hx
  have HL := Lib.hid hl; clear hl
  have HBD := Lib.hid hbd
  obtain ⟨b, off, hp, hlt, hc⟩ := h.cells hpos
  subst hp
  clear h
  have hown := OwnI.lit1 w (Nat.le_refl _) 0
  have hbel := (Below.refl w.heap.size w).alloc (Nat.le_refl _) (.cells #[.int .i64 0] 3)
  go_enter Tryz.func79, Tryz.ntmps79
  go_wp2
  go_loopw [3, 4] (fun v i wr => ∃ (t : Nat) (p : Option Addr) (c : Nat), 1 ≤ t ∧ t ≤ n ∧ i = .int .i64 t ∧ v = .slice p t c ∧ OwnI wr w.heap.size p t c (clL (gi xs) (t - 1)) ∧ Below w.heap.size w wr) (fun _ i _ => n - (intOf i).toNat)
  case atStart => exact ⟨1, _, _, by omega, by omega, rfl, rfl, hown, hbel⟩
  case round =>
    obtain ⟨t, p, c', ht1, ht, rfl, rfl, ho, hb⟩ := hrel
    clear hown hbel
    by_cases htn : t < n
    · obtain ⟨wo, rfl⟩ : ∃ wo : World, wo = wr := ⟨_, rfl⟩
      obtain ⟨g, rfl⟩ := ho.addr (by omega)
      have hsz := hb.size
      go_wp2
      go_loopw [5, 6] (fun v i wr => ∃ (u : Nat) (x : Int), 1 ≤ u ∧ u ≤ t + 1 ∧ i = .int .i64 u ∧ v = .int .i64 x ∧ Hid (x = mnf 1099511627776 (fun s => gi (clL (gi xs) (t - 1)) (t - 1 - s) + gi xs (s + 1)) (u - 1)) ∧ ∃ s, wr = wo.drewN s) (fun _ i _ => n + 1 - (intOf i).toNat)
      case atStart => exact ⟨1, _, by omega, by omega, rfl, rfl, Lib.hid rfl, 0, rfl⟩
      case round =>
        obtain ⟨u, x, hu1, hu, rfl, rfl, HX, s, rfl⟩ := hrel
        have hx0 : 0 ≤ x ∧ x ≤ 1099511627776 := by
          rw [HX.out]
          refine mnf_bd (by omega) fun v hv => ?_
          rw [clL_gi _ _ _ (by omega)]
          have a1 := cl_bd HBD.out (t - 1 - v) (by omega)
          have a2 := HBD.out (v + 1) (by omega)
          omega
        by_cases hun : u ≤ t
        · have c1 := ho.at (j := t - u) (by omega)
          have c2 : wo.cell? ⟨b, off + u, none⟩ = some (.int .i64 (gi xs u)) := (bdeep hb hlt _).trans (hc _ (by omega))
          have b1 := hbd u (by omega)
          have b2 : 0 ≤ gi (clL (gi xs) (t - 1)) (t - u) ∧ gi (clL (gi xs) (t - 1)) (t - u) ≤ 1000000 := by
            rw [clL_gi _ _ _ (by omega)]
            have := cl_bd HBD.out (t - u) (by omega)
            exact ⟨this.1, this.2.1⟩
          have hst : Hid (mnf 1099511627776 (fun s => gi (clL (gi xs) (t - 1)) (t - 1 - s) + gi xs (s + 1)) (u + 1 - 1) = min x (gi (clL (gi xs) (t - 1)) (t - u) + gi xs u)) := by
            rw [HX.out]
            obtain ⟨u, rfl⟩ : ∃ v, u = v + 1 := ⟨u - 1, by omega⟩
            rw [show t - (u + 1) = t - 1 - u by omega]
            exact Lib.hid rfl
          generalize hy : gi (clL (gi xs) (t - 1)) (t - u) = y at *
          clear hy
          go_wp2
          go_quiet (fail)
          go_wp2
          all_goals
            go_roundw
            case rel => exact ⟨u + 1, _, by omega, by omega, by go_num, rfl, Lib.hid (by rw [hst.out]; omega), _, rfl⟩
            case measure => simp [intOf]; omega
        · obtain rfl : u = t + 1 := by omega
          go_wp2_with (at_builtin; refine wpL_push_int Tryz.tyInts rfl rfl (B := w.heap.size) (W0 := w) rfl rfl (ho.drewN s) (below_drewN hb s) (by omega) hsz ?_; intro p' c'' w1 ho1 hb1 hg1 _)
          go_roundw
          case rel =>
            refine ⟨t + 1, _, _, by omega, by omega, by go_num, rfl, ?_, hb1⟩
            obtain ⟨k, rfl⟩ : ∃ k, t = k + 1 := ⟨t - 1, by omega⟩
            rw [Nat.add_sub_cancel]
            show OwnI w1 _ p' _ _ (clL (gi xs) k ++ [mnf 1099511627776 (fun s => gi (clL (gi xs) k) (k - s) + gi xs (s + 1)) (k + 1)])
            have := HX.out
            simp only [Nat.add_sub_cancel] at this ho1
            rw [← this]
            exact ho1
          case measure => simp [intOf]; omega
    · obtain rfl : n = t := by omega
      go_wp2
      go_ret
      refine ⟨_, _, _, rfl, ?_, hb⟩
      have e : clL (gi xs) (n - 1) = clsL xs := by unfold clsL; rw [clL_tab, HL.out, show n - 1 + 1 = n by omega]
      rw [← e]; exact ho

/-- P13 -/
def SubAdd (xs : List Int) (n : Nat) : Prop := (∀ a b, a + b < n → gi xs (a + b) ≤ gi xs a + gi xs b) ∧ gi xs 0 = 0

theorem closure_fits {xs : List Int} {n : Nat} (hx : Curve xs n) : fits (clsL xs) := by
  intro j hj
  unfold clsL at hj ⊢
  rw [tab_length] at hj
  rw [gi_tab hj]
  rw [hx.len] at hj
  exact (cl_bd hx.bd j hj).2.1

set_option maxHeartbeats 400000 in
theorem closure_Of {w : World} {p : Option Addr} {n c : Nat} {xs : List Int} (h : SI w p n c xs) {er : Int} (he : curveErr xs = er) :
    Calls Tryz.prog 61 #[.slice p n c] w (RetL w (FitOf er (clsL xs))) := by
  by_cases h0 : er = 0
  · subst h0
    refine (closure_Of_ok h (curve_of he h.1) he).mono ?_
    rintro e w' ⟨p', n', c', L, er, rfl, ho, hb, rfl, rfl⟩
    exact ⟨_, _, _, _, _, rfl, ho, hb, .inr (.inr ⟨rfl, closure_fits (curve_of he h.1), rfl, rfl⟩)⟩
  · have hb := bne_false_of h0
    have HE := Lib.hid he; clear he
    go_enter Tryz.func61, Tryz.ntmps61
    go_wp2_with fail
    refine (curve_Check h HE.out).mono ?_; rintro e w' ⟨rfl, rfl⟩
    go_wp2
    go_ret2
    exact ⟨_, _, _, [], _, rfl, OwnI.nil _ _, Below.refl _ _, .inl ⟨h0, rfl, rfl⟩⟩

end Go.Proofs.YtgbccpfehcjhbaaGreatDoor
