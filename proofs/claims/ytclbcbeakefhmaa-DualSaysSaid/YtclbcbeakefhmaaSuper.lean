/- The contracts of dual.Super and headref.Super (P15), and that the two are one. No conditions. -/
import Derived.Test.YtclbcbeakefhmaaDual
import Derived.Deep.QuietTactic
import Derived.BigQuiet
namespace Go.Proofs.Ytclbcbeakefhmaa
open Go Go.RowKit

/-- the closure by its last piece, as a list that grows: of times 0 .. t -/
def spL (f : Nat → Int) : Nat → List Int
  | 0 => [0]
  | t + 1 => spL f t ++ [mxf 0 (fun s => gi (spL f t) (t - s) + f (s + 1)) (t + 1)]
def sp (f : Nat → Int) (t : Nat) : Int := gi (spL f t) t

theorem spL_length (f : Nat → Int) (t : Nat) : (spL f t).length = t + 1 := by
  induction t with
  | zero => rfl
  | succ t ih => simp [spL, ih]
theorem spL_gi (f : Nat → Int) (m t : Nat) (h : t ≤ m) : gi (spL f m) t = sp f t := by
  induction m with
  | zero => obtain rfl : t = 0 := by omega
            rfl
  | succ m ih =>
    by_cases e : t = m + 1
    · subst e; rfl
    · rw [← ih (by omega)]
      exact gi_append_left (by rw [spL_length]; omega)
theorem sp_zero (f : Nat → Int) : sp f 0 = 0 := rfl
theorem sp_succ (f : Nat → Int) (t : Nat) : sp f (t + 1) = mxf 0 (fun s => sp f (t - s) + f (s + 1)) (t + 1) := by
  have h : sp f (t + 1) = mxf 0 (fun s => gi (spL f t) (t - s) + f (s + 1)) (t + 1) := by
    unfold sp
    show gi (spL f t ++ [_]) (t + 1) = _
    have := gi_append_one (xs := spL f t) (x := mxf 0 (fun s => gi (spL f t) (t - s) + f (s + 1)) (t + 1))
    rwa [spL_length] at this
  rw [h]
  exact mxf_congr fun u hu => by rw [spL_gi _ _ _ (by omega)]
theorem spL_tab (f : Nat → Int) (t : Nat) : spL f t = tab (t + 1) (sp f) := by
  apply list_ext_gi
  · rw [spL_length, tab_length]
  · intro j hj
    rw [spL_length] at hj
    rw [spL_gi _ _ _ (by omega), gi_tab hj]

theorem sp_ge (f : Nat → Int) (t s : Nat) (hs : s ≤ t) : sp f (t - s) + f (s + 1) ≤ sp f (t + 1) := by
  rw [sp_succ]
  exact (mxf_ge (s := 0) (e := fun s => sp f (t - s) + f (s + 1)) (m := t + 1)).2 s (by omega)

section
variable {f : Nat → Int} {n : Nat} (hb : ∀ j, j < n → 0 ≤ f j ∧ f j ≤ 1000000)
include hb
theorem sp_bd (t : Nat) (ht : t < n) : 0 ≤ sp f t ∧ sp f t ≤ 1000000 * t ∧ (0 < t → f t ≤ sp f t) := by
  induction t using Nat.strongRecOn with
  | _ t ih =>
    cases t with
    | zero => exact ⟨by rw [sp_zero]; omega, by rw [sp_zero]; omega, fun h => by omega⟩
    | succ t =>
      have h1 : f (t + 1) ≤ sp f (t + 1) := by
        have := sp_ge f t t (Nat.le_refl _)
        rw [Nat.sub_self, sp_zero] at this
        omega
      have h2 : sp f (t + 1) ≤ 1000000 * ((t + 1 : Nat) : Int) := by
        rw [sp_succ]
        refine mxf_le (by omega) fun u hu => ?_
        have a := ih (t - u) (by omega) (by omega)
        have b := hb (u + 1) (by omega)
        omega
      have := hb (t + 1) ht
      exact ⟨by omega, h2, fun _ => h1⟩
/-- the last piece that serves -/
theorem sp_last (t : Nat) (ht : t + 1 < n) : ∃ s, s ≤ t ∧ sp f (t + 1) = sp f (t - s) + f (s + 1) := by
  rcases mxf_at (s := 0) (e := fun s => sp f (t - s) + f (s + 1)) (m := t + 1) with h | ⟨u, hu, h⟩
  · refine ⟨0, by omega, ?_⟩
    have h1 := sp_ge f t 0 (by omega)
    have a := sp_bd hb t (by omega)
    have b := hb 1 (by omega)
    rw [← sp_succ] at h
    rw [Nat.sub_zero, Nat.zero_add] at h1 ⊢
    omega
  · exact ⟨u, by omega, by rw [sp_succ]; exact h⟩
theorem sp_sub (a b : Nat) (h : a + b < n) : sp f a + sp f b ≤ sp f (a + b) := by
  induction a using Nat.strongRecOn with
  | _ a ih =>
    cases a with
    | zero => rw [sp_zero, Nat.zero_add]; omega
    | succ a =>
      obtain ⟨s, hs, e⟩ := sp_last hb a (by omega)
      have h1 := sp_ge f (a + b) s (by omega)
      have h2 := ih (a - s) (by omega) (by omega)
      rw [show a + 1 + b = a + b + 1 by omega, e]
      rw [show a + b - s = a - s + b by omega] at h1
      omega
/-- in the program's way: from f t, by two pieces of itself -/
theorem sp_two (t : Nat) (h0 : 0 < t) (ht : t < n) : mxf (f t) (fun s => sp f (s + 1) + sp f (t - (s + 1))) (t - 1) = sp f t := by
  obtain ⟨t, rfl⟩ : ∃ k, t = k + 1 := ⟨t - 1, by omega⟩
  rw [Nat.add_sub_cancel]
  apply Int.le_antisymm
  · refine mxf_le ((sp_bd hb (t + 1) ht).2.2 (by omega)) fun u hu => ?_
    have := sp_sub hb (u + 1) (t + 1 - (u + 1)) (by omega)
    rwa [show u + 1 + (t + 1 - (u + 1)) = t + 1 by omega] at this
  · obtain ⟨s, hs, e⟩ := sp_last hb t ht
    have hm := mxf_ge (s := f (t + 1)) (e := fun s => sp f (s + 1) + sp f (t + 1 - (s + 1))) (m := t)
    by_cases h : s = t
    · subst h
      rw [e, Nat.sub_self, sp_zero]
      omega
    · have := hm.2 s (by omega)
      have := (sp_bd hb (s + 1) (by omega)).2.2 (by omega)
      rw [e]
      simp only [show t + 1 - (s + 1) = t - s by omega] at *
      omega
end

def spsL (xs : List Int) : List Int := tab xs.length (sp (gi xs))

set_option maxHeartbeats 1000000 in
theorem dual_Super_ok {w : World} {p : Option Addr} {n c : Nat} {xs : List Int} (h : SI w p n c xs) (hx : Curve xs n) (he : curveErr xs = 0) :
    Calls Try.prog 50 #[.slice p n c] w (RetL w (FitOf 0 (spsL xs))) := by
  obtain ⟨hl, hpos, h61, hbd, _⟩ := hx
  have HE := Lib.hid he; clear he
  have HL := Lib.hid hl; clear hl
  have HBD := Lib.hid hbd
  obtain ⟨b, off, hp, hlt, hc⟩ := h.cells hpos
  subst hp
  go_enter Try.func50, Try.ntmps50
  go_wp2_with fail
  refine (curve_Check h HE.out).mono ?_; rintro e w' ⟨rfl, rfl⟩
  clear h
  go_wp2_with (at_make; refine wpL_make_int Try.tyInts rfl rfl (B := w.heap.size) (W0 := w) n rfl rfl rfl rfl (Below.refl _ _) (by omega) (Nat.le_refl _) ?_; intro g w1 hg hown hbel hb0)
  clear hb0
  go_loopw [6] (fun i wr => ∃ k : Nat, 1 ≤ k ∧ k ≤ n ∧ i = .int .i64 k ∧ OwnI wr w.heap.size (some ⟨g, 0, none⟩) n n (tab n fun j => if j < k then sp (gi xs) j else 0) ∧ Below w.heap.size w wr) (fun i _ => n - (intOf i).toNat)
  case atStart =>
    refine ⟨1, Nat.le_refl _, by omega, rfl, hown.to fun j _ => ?_, hbel⟩
    by_cases e : j < 1
    · obtain rfl : j = 0 := by omega
      rw [if_pos e, sp_zero]
    · rw [if_neg e]
  case round =>
    obtain ⟨k, hk1, hk, rfl, ho, hb⟩ := hrel
    clear hown hbel
    by_cases hkn : k < n
    · obtain ⟨wo, rfl⟩ : ∃ wo : World, wo = wr := ⟨_, rfl⟩
      have c1 : wo.cell? ⟨b, off + k, none⟩ = some (.int .i64 (gi xs k)) := (bdeep hb hlt _).trans (hc _ hkn)
      have b1 := hbd k hkn
      have f3 := ho.free k
      have c2 := ho.at hkn
      rw [gi_tab hkn, if_neg (Nat.lt_irrefl k)] at c2
      go_wp2
      go_loopw [7] (fun i wr => ∃ u : Nat, u < k ∧ i = .int .i64 (u + 1 : Nat) ∧ OwnI wr w.heap.size (some ⟨g, 0, none⟩) n n (tab n fun j => if j < k then sp (gi xs) j else if j = k then mxf (gi xs k) (fun s => sp (gi xs) (s + 1) + sp (gi xs) (k - (s + 1))) u else 0) ∧ Below w.heap.size w wr) (fun i _ => k - (intOf i).toNat)
      case atStart =>
        refine ⟨0, by omega, rfl, ho.put k _ fun j _ => ?_, hb.setCell hg _⟩
        by_cases e : j = k
        · subst e; simp [mxf]
        · by_cases e2 : j < k <;> simp [e, e2]
      case round =>
        obtain ⟨u, hu, rfl, ho', hb'⟩ := hrel
        clear ho hb c1 c2 f3
        by_cases hun : u + 1 < k
        · have c3 := ho'.at hkn
          rw [gi_tab hkn] at c3
          simp only [Nat.lt_irrefl, if_true, if_false] at c3
          have c4 := ho'.at (j := u + 1) (by omega)
          rw [gi_tab (by omega), if_pos hun] at c4
          have c5 := ho'.at (j := k - (u + 1)) (by omega)
          rw [gi_tab (by omega), if_pos (by omega)] at c5
          have f3 := ho'.free k
          have b2 := sp_bd HBD.out (u + 1) (by omega)
          have b3 := sp_bd HBD.out (k - (u + 1)) (by omega)
          have b2' := b2.1; have b2'' : sp (gi xs) (u + 1) ≤ 100000000 := by have := b2.2.1; omega
          have b3' := b3.1; have b3'' : sp (gi xs) (k - (u + 1)) ≤ 100000000 := by have := b3.2.1; omega
          clear b2 b3
          have hst : Hid (mxf (gi xs k) (fun s => sp (gi xs) (s + 1) + sp (gi xs) (k - (s + 1))) (u + 1) = max (mxf (gi xs k) (fun s => sp (gi xs) (s + 1) + sp (gi xs) (k - (s + 1))) u) (sp (gi xs) (u + 1) + sp (gi xs) (k - (u + 1)))) := Lib.hid rfl
          generalize hx1 : sp (gi xs) (u + 1) = x1 at *
          generalize hx2 : sp (gi xs) (k - (u + 1)) = x2 at *
          have HX1 := Lib.hid hx1; have HX2 := Lib.hid hx2; clear hx1 hx2
          go_wp2
          go_region
          all_goals
            go_wp2
            go_roundw
            case rel =>
              refine ⟨u + 1, by omega, by go_num, (ho'.put k _ fun j hj => ?_).drew, (hb'.setCell hg _).drew⟩
              by_cases e : j = k
              · subst e
                rw [if_pos rfl, if_neg (Nat.lt_irrefl _), if_pos rfl, hst.out]
                omega
              · simp only [if_neg e]
            case measure => simp [intOf]; omega
        · obtain rfl : k = u + 1 := by omega
          go_wp2
          go_roundw
          case rel =>
            refine ⟨u + 1 + 1, by omega, by omega, by go_num, ho'.to fun j hj => ?_, hb'⟩
            by_cases e : j < u + 1
            · rw [if_pos e, if_pos (by omega)]
            · by_cases e2 : j = u + 1
              · subst e2
                rw [if_neg (by omega), if_pos rfl, if_pos (by omega)]
                exact sp_two HBD.out (u + 1) (by omega) (by omega)
              · rw [if_neg e, if_neg e2, if_neg (by omega)]
          case measure => simp [intOf]; omega
    · obtain rfl : n = k := by omega
      have ho2 : OwnI wr w.heap.size (some ⟨g, 0, none⟩) n n (spsL xs) := by unfold spsL; rw [HL.out]; exact ho.to fun j hj => if_pos hj
      clear ho
      by_cases hf : fits (spsL xs)
      · have HF := Lib.hid hf; clear hf
        go_wp2_with fail
        refine (curve_Fit_ok ho2.si HF.out).mono ?_; rintro e w' ⟨rfl, rfl⟩
        go_wp2
        go_ret2
        exact ⟨_, _, _, _, _, rfl, ho2, hb, .inr (.inr ⟨rfl, HF.out, rfl, rfl⟩)⟩
      · have HF := Lib.hid hf; clear hf
        go_wp2_with fail
        refine (curve_Fit_big ho2.si HF.out).mono ?_; rintro e w' ⟨rfl, rfl⟩
        go_wp2
        go_ret2
        exact ⟨_, _, _, [], _, rfl, OwnI.nil _ _, hb, .inr (.inl ⟨rfl, HF.out, rfl, rfl⟩)⟩

set_option maxHeartbeats 1000000 in
theorem ref_Super {w : World} {p : Option Addr} {n c : Nat} {xs : List Int} (h : SI w p n c xs) (hx : Curve xs n) :
    Calls Try.prog 52 #[.slice p n c] w (RetS w (spsL xs)) := by
  obtain ⟨hl, hpos, h61, hbd, _⟩ := hx
  have HL := Lib.hid hl; clear hl
  have HBD := Lib.hid hbd
  obtain ⟨b, off, hp, hlt, hc⟩ := h.cells hpos
  subst hp
  clear h
  have hown := OwnI.lit1 w (Nat.le_refl _) 0
  have hbel := (Below.refl w.heap.size w).alloc (Nat.le_refl _) (.cells #[.int .i64 0] 3)
  go_enter Try.func52, Try.ntmps52
  go_wp2
  go_loopw [3, 4] (fun v i wr => ∃ (t : Nat) (p : Option Addr) (c : Nat), 1 ≤ t ∧ t ≤ n ∧ i = .int .i64 t ∧ v = .slice p t c ∧ OwnI wr w.heap.size p t c (spL (gi xs) (t - 1)) ∧ Below w.heap.size w wr) (fun _ i _ => n - (intOf i).toNat)
  case atStart => exact ⟨1, _, _, by omega, by omega, rfl, rfl, hown, hbel⟩
  case round =>
    obtain ⟨t, p, c', ht1, ht, rfl, rfl, ho, hb⟩ := hrel
    clear hown hbel
    by_cases htn : t < n
    · obtain ⟨wo, rfl⟩ : ∃ wo : World, wo = wr := ⟨_, rfl⟩
      obtain ⟨g, rfl⟩ := ho.addr (by omega)
      have hsz := hb.size
      go_wp2
      go_loopw [5, 6] (fun v i wr => ∃ (u : Nat) (x : Int), 1 ≤ u ∧ u ≤ t + 1 ∧ i = .int .i64 u ∧ v = .int .i64 x ∧ Hid (x = mxf 0 (fun s => gi (spL (gi xs) (t - 1)) (t - 1 - s) + gi xs (s + 1)) (u - 1)) ∧ ∃ s, wr = wo.drewN s) (fun _ i _ => n + 1 - (intOf i).toNat)
      case atStart => exact ⟨1, _, by omega, by omega, rfl, rfl, Lib.hid rfl, 0, rfl⟩
      case round =>
        obtain ⟨u, x, hu1, hu, rfl, rfl, HX, s, rfl⟩ := hrel
        have hx0 : 0 ≤ x ∧ x ≤ 100000000 := by
          rw [HX.out]
          refine mxf_bd (by omega) fun v hv => ?_
          rw [spL_gi _ _ _ (by omega)]
          have a1 := sp_bd HBD.out (t - 1 - v) (by omega)
          have a2 := HBD.out (v + 1) (by omega)
          omega
        by_cases hun : u ≤ t
        · have c1 := ho.at (j := t - u) (by omega)
          have c2 : wo.cell? ⟨b, off + u, none⟩ = some (.int .i64 (gi xs u)) := (bdeep hb hlt _).trans (hc _ (by omega))
          have b1 := hbd u (by omega)
          have b2 : 0 ≤ gi (spL (gi xs) (t - 1)) (t - u) ∧ gi (spL (gi xs) (t - 1)) (t - u) ≤ 100000000 := by
            rw [spL_gi _ _ _ (by omega)]
            have := sp_bd HBD.out (t - u) (by omega)
            omega
          have hst : Hid (mxf 0 (fun s => gi (spL (gi xs) (t - 1)) (t - 1 - s) + gi xs (s + 1)) (u + 1 - 1) = max x (gi (spL (gi xs) (t - 1)) (t - u) + gi xs u)) := by
            rw [HX.out]
            obtain ⟨u, rfl⟩ : ∃ v, u = v + 1 := ⟨u - 1, by omega⟩
            rw [show t - (u + 1) = t - 1 - u by omega]
            exact Lib.hid rfl
          generalize hy : gi (spL (gi xs) (t - 1)) (t - u) = y at *
          clear hy
          go_wp2
          go_quiet (fail)
          go_wp2
          all_goals
            go_roundw
            case rel => exact ⟨u + 1, _, by omega, by omega, by go_num, rfl, Lib.hid (by rw [hst.out]; omega), _, rfl⟩
            case measure => simp [intOf]; omega
        · obtain rfl : u = t + 1 := by omega
          go_wp2_with (at_builtin; refine wpL_push_int Try.tyInts rfl rfl (B := w.heap.size) (W0 := w) rfl rfl (ho.drewN s) (below_drewN hb s) (by omega) hsz ?_; intro p' c'' w1 ho1 hb1 hg1 _)
          go_roundw
          case rel =>
            refine ⟨t + 1, _, _, by omega, by omega, by go_num, rfl, ?_, hb1⟩
            obtain ⟨k, rfl⟩ : ∃ k, t = k + 1 := ⟨t - 1, by omega⟩
            rw [Nat.add_sub_cancel]
            show OwnI w1 _ p' _ _ (spL (gi xs) k ++ [mxf 0 (fun s => gi (spL (gi xs) k) (k - s) + gi xs (s + 1)) (k + 1)])
            have := HX.out
            simp only [Nat.add_sub_cancel] at this ho1
            rw [← this]
            exact ho1
          case measure => simp [intOf]; omega
    · obtain rfl : n = t := by omega
      go_wp2
      go_ret
      refine ⟨_, _, _, rfl, ?_, hb⟩
      have e : spL (gi xs) (n - 1) = spsL xs := by unfold spsL; rw [spL_tab, HL.out, show n - 1 + 1 = n by omega]
      rw [← e]; exact ho

set_option maxHeartbeats 400000 in
theorem dual_Super {w : World} {p : Option Addr} {n c : Nat} {xs : List Int} (h : SI w p n c xs) {er : Int} (he : curveErr xs = er) :
    Calls Try.prog 50 #[.slice p n c] w (RetL w (FitOf er (spsL xs))) := by
  by_cases h0 : er = 0
  · subst h0
    exact dual_Super_ok h (curve_of he h.1) he
  · have hb := bne_false_of h0
    have HE := Lib.hid he; clear he
    go_enter Try.func50, Try.ntmps50
    go_wp2_with fail
    refine (curve_Check h HE.out).mono ?_; rintro e w' ⟨rfl, rfl⟩
    go_wp2
    go_ret2
    exact ⟨_, _, _, [], _, rfl, OwnI.nil _ _, Below.refl _ _, .inl ⟨h0, rfl, rfl⟩⟩
end Go.Proofs.Ytclbcbeakefhmaa
