/- The contracts of conv.plain, conv.Of and headref.Conv: the min-plus convolution (P9). No conditions. -/
import Derived.Test.YtgbccpfehcjhbaaGreatDoorDeconv
import Derived.Test.YtgbccpfehcjhbaaGreatDoorRepeat
namespace Go.Proofs.YtgbccpfehcjhbaaGreatDoor
open Go Go.RowKit

/-- f(s) + g(t-s) -/
def conve (f g : Nat → Int) (t s : Nat) : Int := f s + g (t - s)
def convv (f g : Nat → Int) (t : Nat) : Int := mnf 1099511627776 (conve f g t) (t + 1)
def convL (f g : List Int) : List Int := tab f.length (convv (gi f) (gi g))

theorem conve_bd {f g : Nat → Int} {n t s : Nat} {b : Int} (hf : ∀ j, j < n → 0 ≤ f j ∧ f j ≤ b) (hg : ∀ j, j < n → 0 ≤ g j ∧ g j ≤ b) (ht : t < n) (hs : s ≤ t) : 0 ≤ conve f g t s ∧ conve f g t s ≤ 2 * b := by
  have := hf s (by omega); have := hg (t - s) (by omega)
  unfold conve; omega

set_option maxHeartbeats 1000000 in
theorem conv_plain {w : World} {p q : Option Addr} {n c d : Nat} {xs ys : List Int} (h : SI w p n c xs) (g : SI w q n d ys) (hpos : 0 < n) (hn : n ≤ 1000)
    {M : Int} (hM : M ≤ 500000000000) (hbd : ∀ j, j < n → 0 ≤ gi xs j ∧ gi xs j ≤ M) (gbd : ∀ j, j < n → 0 ≤ gi ys j ∧ gi ys j ≤ M) :
    Calls Tryz.prog 34 #[.slice p n c, .slice q n d] w (RetS w (convL xs ys)) := by
  have hl := h.1
  have HL := Lib.hid hl; clear hl
  obtain ⟨b, off, hp, hlt, hc⟩ := h.cells hpos
  obtain ⟨b', off', hq, hlt', hc'⟩ := g.cells hpos
  subst hp
  subst hq
  have c0 : w.cell? ⟨b, off, none⟩ = some (.int .i64 (gi xs 0)) := hc 0 hpos
  clear h g
  go_enter Tryz.func34, Tryz.ntmps34
  go_wp2_with (at_make; refine wpL_make_int Tryz.tyInts rfl rfl (B := w.heap.size) (W0 := w) n rfl rfl rfl rfl (Below.refl _ _) (by omega) (Nat.le_refl _) ?_; intro g w1 hg hown hbel hb0)
  clear hb0
  go_loopw [13] (fun i wr => ∃ k : Nat, k ≤ n ∧ i = .int .i64 k ∧ OwnI wr w.heap.size (some ⟨g, 0, none⟩) n n (tab n fun j => if j < k then convv (gi xs) (gi ys) j else 0) ∧ Below w.heap.size w wr) (fun i _ => n - (intOf i).toNat)
  case atStart => exact ⟨0, Nat.zero_le _, rfl, by simpa using hown, hbel⟩
  case round =>
    obtain ⟨k, hk, rfl, ho, hb⟩ := hrel
    clear hown hbel
    by_cases hkn : k < n
    · obtain ⟨wo, rfl⟩ : ∃ wo : World, wo = wr := ⟨_, rfl⟩
      have d0 : wo.cell? ⟨b, off, none⟩ = some (.int .i64 (gi xs 0)) := (bdeep hb hlt _).trans c0
      have d1 : wo.cell? ⟨b', off' + k, none⟩ = some (.int .i64 (gi ys k)) := (bdeep hb hlt' _).trans (hc' _ hkn)
      have d2 := ho.at hkn
      rw [gi_tab hkn, if_neg (Nat.lt_irrefl k)] at d2
      have d3 := ho.free k
      have b0 := hbd 0 hpos
      have b1 := gbd k hkn
      go_wp2
      go_region
      go_wp2
      go_loopw [29] (fun i wr => ∃ u : Nat, u ≤ k + 1 ∧ i = .int .i64 u ∧ OwnI wr w.heap.size (some ⟨g, 0, none⟩) n n (tab n fun j => if j < k then convv (gi xs) (gi ys) j else if j = k then mnf (gi xs 0 + gi ys k) (conve (gi xs) (gi ys) k) u else 0) ∧ Below w.heap.size w wr) (fun i _ => (k + 1) - (intOf i).toNat)
      case atStart =>
        refine ⟨0, Nat.zero_le _, rfl, (ho.put k _ fun j _ => ?_).drew, (hb.setCell hg _).drew⟩
        by_cases e : j = k
        · subst e; simp [mnf]
        · by_cases e2 : j < k <;> simp [e, e2]
      case round =>
        obtain ⟨u, hu, rfl, ho', hb'⟩ := hrel
        clear ho hb d0 d1 d2 d3
        by_cases hun : u < k + 1
        · have c1 : wr.cell? ⟨b, off + u, none⟩ = some (.int .i64 (gi xs u)) := (bdeep hb' hlt _).trans (hc _ (by omega))
          have c2 : wr.cell? ⟨b', off' + (k - u), none⟩ = some (.int .i64 (gi ys (k - u))) := (bdeep hb' hlt' _).trans (hc' _ (by omega))
          have c3 := ho'.at hkn
          rw [gi_tab hkn, if_neg (Nat.lt_irrefl k), if_pos rfl] at c3
          have f3 := ho'.free k
          have b1 := hbd u (by omega)
          have b2 := gbd (k - u) (by omega)
          have hst : Hid (mnf (gi xs 0 + gi ys k) (conve (gi xs) (gi ys) k) (u + 1) = min (mnf (gi xs 0 + gi ys k) (conve (gi xs) (gi ys) k) u) (gi xs u + gi ys (k - u))) := Lib.hid rfl
          generalize hx : mnf (gi xs 0 + gi ys k) (conve (gi xs) (gi ys) k) u = x at *
          have HX := Lib.hid hx; clear hx
          go_wp2
          go_region
          all_goals
            go_wp2
            go_roundw
            case rel =>
              refine ⟨u + 1, by omega, by go_num, (ho'.put k _ fun j hj => ?_).drew, (hb'.setCell hg _).drew⟩
              by_cases e : j = k
              · subst e
                rw [if_pos rfl, if_neg (Nat.lt_irrefl _), if_pos rfl, hst.out]
                omega
              · simp only [if_neg e]
            case measure => simp [intOf]; omega
        · obtain rfl : u = k + 1 := by omega
          go_wp2
          go_roundw
          case rel =>
            refine ⟨k + 1, by omega, by go_num, ho'.to fun j hj => ?_, hb'⟩
            by_cases e : j < k
            · rw [if_pos e, if_pos (by omega)]
            · by_cases e2 : j = k
              · subst e2
                rw [if_neg e, if_pos rfl, if_pos (by omega)]
                exact mnf_start (e := conve (gi xs) (gi ys) j) (by omega) (show gi xs 0 + gi ys j ≤ 1099511627776 by have := hbd 0 hpos; have := gbd j hkn; omega)
              · rw [if_neg e, if_neg e2, if_neg (by omega)]
          case measure => simp [intOf]; omega
    · obtain rfl : n = k := by omega
      go_wp2
      go_ret
      exact ⟨_, _, _, rfl, by unfold convL; rw [HL.out]; exact ho.to fun j hj => if_pos hj, hb⟩

set_option maxHeartbeats 400000 in
theorem conv_Of {w : World} {p q : Option Addr} {n m c d : Nat} {xs ys : List Int} (h : SI w p n c xs) (g : SI w q m d ys) {er : Int} (he : bothErr xs ys = er) :
    Calls Tryz.prog 14 #[.slice p n c, .slice q m d] w (RetL w (FitOf er (convL xs ys))) := by
  by_cases h0 : er = 0
  · subst h0
    obtain ⟨h1, h2, h3⟩ := bothErr_ok he
    obtain rfl : n = m := by rw [← h.1, ← g.1, h3]
    have hx := curve_of h1 h.1
    have hy := curve_of h2 g.1
    have HE := Lib.hid he; have HX := Lib.hid hx; have HY := Lib.hid hy
    clear he h1 h2 h3 hx hy
    by_cases hf : fits (convL xs ys)
    · have HF := Lib.hid hf; clear hf
      go_enter Tryz.func14, Tryz.ntmps14
      go_wp2_with fail
      refine (curve_Both h g HE.out).mono ?_; rintro e w' ⟨rfl, rfl⟩
      go_wp2_with fail
      refine (conv_plain h g HX.out.pos (by have := HX.out.le; omega) (M := 1000000) (by omega) HX.out.bd HY.out.bd).mono ?_; rintro e w1 ⟨p1, n1, c1, rfl, ho, hb⟩
      go_wp2_with fail
      refine (curve_Fit_ok ho.si HF.out).mono ?_; rintro e w' ⟨rfl, rfl⟩
      go_wp2
      go_ret2
      exact ⟨_, _, _, _, _, rfl, ho, hb, .inr (.inr ⟨rfl, HF.out, rfl, rfl⟩)⟩
    · have HF := Lib.hid hf; clear hf
      go_enter Tryz.func14, Tryz.ntmps14
      go_wp2_with fail
      refine (curve_Both h g HE.out).mono ?_; rintro e w' ⟨rfl, rfl⟩
      go_wp2_with fail
      refine (conv_plain h g HX.out.pos (by have := HX.out.le; omega) (M := 1000000) (by omega) HX.out.bd HY.out.bd).mono ?_; rintro e w1 ⟨p1, n1, c1, rfl, ho, hb⟩
      go_wp2_with fail
      refine (curve_Fit_big ho.si HF.out).mono ?_; rintro e w' ⟨rfl, rfl⟩
      go_wp2
      go_ret2
      exact ⟨_, _, _, [], _, rfl, OwnI.nil _ _, hb, .inr (.inl ⟨rfl, HF.out, rfl, rfl⟩)⟩
  · have hb := bne_false_of h0
    have HE := Lib.hid he; clear he
    go_enter Tryz.func14, Tryz.ntmps14
    go_wp2_with fail
    refine (curve_Both h g HE.out).mono ?_; rintro e w' ⟨rfl, rfl⟩
    go_wp2
    go_ret2
    exact ⟨_, _, _, [], _, rfl, OwnI.nil _ _, Below.refl _ _, .inl ⟨h0, rfl, rfl⟩⟩

set_option maxHeartbeats 1000000 in
theorem ref_Conv {w : World} {p q : Option Addr} {n c d : Nat} {xs ys : List Int} (h : SI w p n c xs) (g : SI w q n d ys) (hpos : 0 < n) (hn : n ≤ 1000)
    {M : Int} (hM : M ≤ 500000000000) (hbd : ∀ j, j < n → 0 ≤ gi xs j ∧ gi xs j ≤ M) (gbd : ∀ j, j < n → 0 ≤ gi ys j ∧ gi ys j ≤ M) :
    Calls Tryz.prog 82 #[.slice p n c, .slice q n d] w (RetS w (convL xs ys)) := by
  have hl := h.1
  have HL := Lib.hid hl; clear hl
  obtain ⟨b, off, hp, hlt, hc⟩ := h.cells hpos
  obtain ⟨b', off', hq, hlt', hc'⟩ := g.cells hpos
  subst hp
  subst hq
  clear h g
  go_enter Tryz.func82, Tryz.ntmps82
  go_wp2_with fail
  refine (slices_Repeat1 (v := 1099511627776) (n := n) hpos hn).mono ?_
  rintro e w1 ⟨g, rfl, hg, hown, hbel⟩
  go_wp2
  go_loopw [16] (fun i wr => ∃ k : Nat, k ≤ n ∧ i = .int .i64 k ∧ OwnI wr w.heap.size (some ⟨g, 0, none⟩) n n (tab n fun j => mnf 1099511627776 (conve (gi xs) (gi ys) j) (min k (j + 1))) ∧ Below w.heap.size w wr) (fun i _ => n - (intOf i).toNat)
  case atStart => exact ⟨0, Nat.zero_le _, rfl, hown.to fun j _ => by rw [Nat.zero_min]; rfl, hbel⟩
  case round =>
    obtain ⟨k, hk, rfl, ho, hb⟩ := hrel
    clear hown hbel
    by_cases hkn : k < n
    · obtain ⟨wo, rfl⟩ : ∃ wo : World, wo = wr := ⟨_, rfl⟩
      have c1 : wo.cell? ⟨b, off + k, none⟩ = some (.int .i64 (gi xs k)) := (bdeep hb hlt _).trans (hc _ (by omega))
      have b1 := hbd k (by omega)
      go_wp2
      go_loopw [23] (fun i wr => ∃ u : Nat, u ≤ n ∧ i = .int .i64 u ∧ OwnI wr w.heap.size (some ⟨g, 0, none⟩) n n (tab n fun j => if k ≤ j ∧ j < k + u then mnf 1099511627776 (conve (gi xs) (gi ys) j) (k + 1) else mnf 1099511627776 (conve (gi xs) (gi ys) j) (min k (j + 1))) ∧ Below w.heap.size w wr) (fun i _ => n - (intOf i).toNat)
      case atStart => exact ⟨0, Nat.zero_le _, rfl, ho.to fun j _ => by rw [if_neg (by omega)], hb⟩
      case round =>
        obtain ⟨u, hu, rfl, ho', hb'⟩ := hrel
        clear ho hb c1
        by_cases hun : u < n
        · have c2 : wr.cell? ⟨b', off' + u, none⟩ = some (.int .i64 (gi ys u)) := (bdeep hb' hlt' _).trans (hc' _ (by omega))
          have b2 := gbd u (by omega)
          by_cases huk : k + u < n
          · have c3 := ho'.at huk
            rw [gi_tab huk, if_neg (by omega), show min k (k + u + 1) = k by omega] at c3
            have f3 := ho'.free (k + u)
            have hst : Hid (mnf 1099511627776 (conve (gi xs) (gi ys) (k + u)) (k + 1) = min (mnf 1099511627776 (conve (gi xs) (gi ys) (k + u)) k) (gi xs k + gi ys u)) := by
              refine Lib.hid ?_
              rw [mnf_succ]
              show min _ (gi xs k + gi ys (k + u - k)) = _
              rw [show k + u - k = u by omega]
            generalize hv : mnf 1099511627776 (conve (gi xs) (gi ys) (k + u)) k = v at *
            have HV := Lib.hid hv; clear hv
            have hg1 : decide ((k : Int) + (u : Int) < (n : Int)) = true := by simp; omega
            have hg2 : (k : Int) + (u : Int) < (n : Int) := by omega
            go_wp2
            · go_roundw
              case rel =>
                refine ⟨u + 1, by omega, by go_num, ho'.put (k + u) _ fun j hj => ?_, hb'.setCell hg _⟩
                by_cases e : j = k + u
                · subst e; rw [if_pos rfl, if_pos (show k ≤ k + u ∧ k + u < k + (u + 1) by omega), hst.out]; omega
                · rw [if_neg e]
                  by_cases e2 : k ≤ j ∧ j < k + u
                  · rw [if_pos e2, if_pos (by omega)]
                  · rw [if_neg e2, if_neg (by omega)]
              case measure => simp [intOf]; omega
            · go_roundw
              case rel =>
                refine ⟨u + 1, by omega, by go_num, ho'.to fun j hj => ?_, hb'⟩
                by_cases e : j = k + u
                · subst e; rw [if_neg (by omega), if_pos (by omega), hst.out, show min k (k + u + 1) = k by omega, HV.out]; omega
                · by_cases e2 : k ≤ j ∧ j < k + u
                  · rw [if_pos e2, if_pos (by omega)]
                  · rw [if_neg e2, if_neg (by omega)]
              case measure => simp [intOf]; omega
          · have hg1 : decide ((k : Int) + (u : Int) < (n : Int)) = false := by simp; omega
            have hg2 : ¬ (k : Int) + (u : Int) < (n : Int) := by omega
            go_wp2
            go_roundw
            case rel =>
              refine ⟨u + 1, by omega, by go_num, ho'.to fun j hj => ?_, hb'⟩
              by_cases e2 : k ≤ j ∧ j < k + u
              · rw [if_pos e2, if_pos (by omega)]
              · rw [if_neg e2, if_neg (by omega)]
            case measure => simp [intOf]; omega
        · obtain rfl : n = u := by omega
          go_wp2
          go_roundw
          case rel =>
            refine ⟨k + 1, by omega, by go_num, ho'.to fun j hj => ?_, hb'⟩
            by_cases e : k ≤ j
            · rw [if_pos (by omega), show min (k + 1) (j + 1) = k + 1 by omega]
            · rw [if_neg (by omega), show min (k + 1) (j + 1) = min k (j + 1) by omega]
          case measure => simp [intOf]; omega
    · obtain rfl : n = k := by omega
      go_wp2
      go_ret
      exact ⟨_, _, _, rfl, by unfold convL; rw [HL.out]; exact ho.to fun j hj => by rw [show min n (j + 1) = j + 1 by omega]; rfl, hb⟩
end Go.Proofs.YtgbccpfehcjhbaaGreatDoor
