/- The contracts of conv.plain, conv.Of and headref.Conv: the min-plus convolution (P9). No conditions. -/
import Derived.Test.YtgbccpfehcjhbaaGreatDoorM09
import Derived.Test.YtgbccpfehcjhbaaGreatDoorM10
import Derived.Test.YtgbccpfehcjhbaaGreatDoorM08
namespace Go.Proofs.YtgbccpfehcjhbaaGreatDoor
open Go Go.RowKit

/-- f(s) + g(t-s) -/
def conve (f g : Nat → Int) (t s : Nat) : Int := f s + g (t - s)
def convv (f g : Nat → Int) (t : Nat) : Int := mnf 1099511627776 (conve f g t) (t + 1)
def convL (f g : List Int) : List Int := tab f.length (convv (gi f) (gi g))

theorem conve_bd {f g : Nat → Int} {n t s : Nat} {b : Int} (hf : ∀ j, j < n → 0 ≤ f j ∧ f j ≤ b) (hg : ∀ j, j < n → 0 ≤ g j ∧ g j ≤ b) (ht : t < n) (hs : s ≤ t) : 0 ≤ conve f g t s ∧ conve f g t s ≤ 2 * b := by
  have := hf s (by omega); have := hg (t - s) (by omega)
  unfold conve; omega

set_option maxHeartbeats 1000000 in
theorem conv_plain {w : World} {p q : Option Addr} {n c d : Nat} {xs ys : List Int} (h : SI w p n c xs) (g : SI w q n d ys) (hpos : 0 < n) (hn : n ≤ 1000)
    {M : Int} (hM : M ≤ 500000000000) (hbd : ∀ j, j < n → 0 ≤ gi xs j ∧ gi xs j ≤ M) (gbd : ∀ j, j < n → 0 ≤ gi ys j ∧ gi ys j ≤ M) :
    Calls Tryz.prog 34 #[.slice p n c, .slice q n d] w (RetS w (convL xs ys)) := by
  have hl := h.1
  have HL := Lib.hid hl; clear hl
  obtain ⟨b, off, hp, hlt, hc⟩ := h.cells hpos
  obtain ⟨b', off', hq, hlt', hc'⟩ := g.cells hpos
  subst hp
  subst hq
  have c0 : w.cell? ⟨b, off, none⟩ = some (.int .i64 (gi xs 0)) := hc 0 hpos
  clear h g
  go_enter Tryz.func34, Tryz.ntmps34
  go_wp2_with (at_make; refine wpL_make_int Tryz.tyInts rfl rfl (B := w.heap.size) (W0 := w) n rfl rfl rfl rfl (Below.refl _ _) (by omega) (Nat.le_refl _) ?_; intro g w1 hg hown hbel hb0)
  clear hb0
  go_loopw [13] (fun i wr => ∃ k : Nat, k ≤ n ∧ i = .int .i64 k ∧ OwnI wr w.heap.size (some ⟨g, 0, none⟩) n n (tab n fun j => if j < k then convv (gi xs) (gi ys) j else 0) ∧ Below w.heap.size w wr) (fun i _ => n - (intOf i).toNat)
  case atStart => exact ⟨0, Nat.zero_le _, rfl, by simpa using hown, hbel⟩
  case round =>
    obtain ⟨k, hk, rfl, ho, hb⟩ := hrel
    clear hown hbel
    by_cases hkn : k < n
    · obtain ⟨wo, rfl⟩ : ∃ wo : World, wo = wr := ⟨_, rfl⟩
      have d0 : wo.cell? ⟨b, off, none⟩ = some (.int .i64 (gi xs 0)) := (bdeep hb hlt _).trans c0
      have d1 : wo.cell? ⟨b', off' + k, none⟩ = some (.int .i64 (gi ys k)) := (bdeep hb hlt' _).trans (hc' _ hkn)
      have d2 := ho.at hkn
      rw [gi_tab hkn, if_neg (Nat.lt_irrefl k)] at d2
      have d3 := ho.free k
      have b0 := hbd 0 hpos
      have b1 := gbd k hkn
      go_wp2
      go_region
      go_wp2
      go_loopw [29] (fun i wr => ∃ u : Nat, u ≤ k + 1 ∧ i = .int .i64 u ∧ OwnI wr w.heap.size (some ⟨g, 0, none⟩) n n (tab n fun j => if j < k then convv (gi xs) (gi ys) j else if j = k then mnf (gi xs 0 + gi ys k) (conve (gi xs) (gi ys) k) u else 0) ∧ Below w.heap.size w wr) (fun i _ => (k + 1) - (intOf i).toNat)
      case atStart =>
        refine ⟨0, Nat.zero_le _, rfl, (ho.put k _ fun j _ => ?_).drew, (hb.setCell hg _).drew⟩
        by_cases e : j = k
        · subst e; simp [mnf]
        · by_cases e2 : j < k <;> simp [e, e2]
      case round =>
        obtain ⟨u, hu, rfl, ho', hb'⟩ := hrel
        clear ho hb d0 d1 d2 d3
        by_cases hun : u < k + 1
        · have c1 : wr.cell? ⟨b, off + u, none⟩ = some (.int .i64 (gi xs u)) := (bdeep hb' hlt _).trans (hc _ (by omega))
          have c2 : wr.cell? ⟨b', off' + (k - u), none⟩ = some (.int .i64 (gi ys (k - u))) := (bdeep hb' hlt' _).trans (hc' _ (by omega))
          have c3 := ho'.at hkn
          rw [gi_tab hkn, if_neg (Nat.lt_irrefl k), if_pos rfl] at c3
          have f3 := ho'.free k
          have b1 := hbd u (by omega)
          have b2 := gbd (k - u) (by omega)
          have hst : Hid (mnf (gi xs 0 + gi ys k) (conve (gi xs) (gi ys) k) (u + 1) = min (mnf (gi xs 0 + gi ys k) (conve (gi xs) (gi ys) k) u) (gi xs u + gi ys (k - u))) := Lib.hid rfl
          generalize hx : mnf (gi xs 0 + gi ys k) (conve (gi xs) (gi ys) k) u = x at *
          have HX := Lib.hid hx; clear hx
          go_wp2
          go_region
          all_goals
            go_wp2
            go_roundw
            case rel =>
              refine ⟨u + 1, by omega, by go_num, (ho'.put k _ fun j hj => ?_).drew, (hb'.setCell hg _).drew⟩
              by_cases e : j = k
              · subst e
                rw [if_pos rfl, if_neg (Nat.lt_irrefl _), if_pos rfl, hst.out]
                omega
              · simp only [if_neg e]
            case measure => simp [intOf]; omega
        · obtain rfl : u = k + 1 := by omega
          go_wp2
          go_roundw
          case rel =>
            refine ⟨k + 1, by omega, by go_num, ho'.to fun j hj => ?_, hb'⟩
            by_cases e : j < k
            · rw [if_pos e, if_pos (by omega)]
            · by_cases e2 : j = k
              · subst e2
                rw [if_neg e, if_pos rfl, if_pos (by omega)]
                exact mnf_start (e := conve (gi xs) (gi ys) j) (by omega) (show gi xs 0 + gi ys j ≤ 1099511627776 by have := hbd 0 hpos; have := gbd j hkn; omega)
              · rw [if_neg e, if_neg e2, if_neg (by omega)]
          case measure => simp [intOf]; omega
    · obtain rfl : n = k := by omega
      go_wp2
      go_ret
      exact ⟨_, _, _, rfl, by unfold convL; rw [HL.out]; exact ho.to fun j hj => if_pos hj, hb⟩

set_option maxHeartbeats 400000 in
theorem conv_Of {w : World} {p q : Option Addr} {n m c d : Nat} {xs ys : List Int} (h : SI w p n c xs) (g : SI w q m d ys) {er : Int} (he : bothErr xs ys = er) :
    Calls Tryz.prog 14 #[.slice p n c, .slice q m d] w (RetL w (FitOf er (convL xs ys))) := by
  by_cases h0 : er = 0
  · subst h0
    obtain ⟨h1, h2, h3⟩ := bothErr_ok he
    obtain rfl : n = m := by rw [← h.1, ← g.1, h3]
    have hx := curve_of h1 h.1
    have hy := curve_of h2 g.1
    have HE := Lib.hid he; have HX := Lib.hid hx; have HY := Lib.hid hy
    clear he h1 h2 h3 hx hy
    by_cases hf : fits (convL xs ys)
    · have HF := Lib.hid hf; clear hf
      go_enter Tryz.func14, Tryz.ntmps14
      go_wp2_with fail
      refine (curve_Both h g HE.out).mono ?_; rintro e w' ⟨rfl, rfl⟩
      go_wp2_with fail
      refine (conv_plain h g HX.out.pos (by have := HX.out.le; omega) (M := 1000000) (by omega) HX.out.bd HY.out.bd).mono ?_; rintro e w1 ⟨p1, n1, c1, rfl, ho, hb⟩
      go_wp2_with fail
      refine (curve_Fit_ok ho.si HF.out).mono ?_; rintro e w' ⟨rfl, rfl⟩
      go_wp2
      go_ret2
      exact ⟨_, _, _, _, _, rfl, ho, hb, .inr (.inr ⟨rfl, HF.out, rfl, rfl⟩)⟩
    · have HF := Lib.hid hf; clear hf
      go_enter Tryz.func14, Tryz.ntmps14
      go_wp2_with fail
      refine (curve_Both h g HE.out).mono ?_; rintro e w' ⟨rfl, rfl⟩
      go_wp2_with fail
      refine (conv_plain h g HX.out.pos (by have := HX.out.le; omega) (M := 1000000) (by omega) HX.out.bd HY.out.bd).mono ?_; rintro e w1 ⟨p1, n1, c1, rfl, ho, hb⟩
      go_wp2_with fail
      refine (curve_Fit_big ho.si HF.out).mono ?_; rintro e w' ⟨rfl, rfl⟩
      go_wp2
      go_ret2
      exact ⟨_, _, _, [], _, rfl, OwnI.nil _ _, hb, .inr (.inl ⟨rfl, HF.out, rfl, rfl⟩)⟩
  · have hb := bne_false_of h0
    have HE := Lib.hid he; clear he
    go_enter Tryz.func14, Tryz.ntmps14
    go_wp2_with fail
    refine (curve_Both h g HE.out).mono ?_; rintro e w' ⟨rfl, rfl⟩
    go_wp2
    go_ret2
    exact ⟨_, _, _, [], _, rfl, OwnI.nil _ _, Below.refl _ _, .inl ⟨h0, rfl, rfl⟩⟩

set_option maxHeartbeats 1000000 in
theorem ref_Conv {w : World} {p q : Option Addr} {n c d : Nat} {xs ys : List Int} (h : SI w p n c xs) (g : SI w q n d ys) (hpos : 0 < n) (hn : n ≤ 1000)
    {M : Int} (hM : M ≤ 500000000000) (hbd : ∀ j, j < n → 0 ≤ gi xs j ∧ gi xs j ≤ M) (gbd : ∀ j, j < n → 0 ≤ gi ys j ∧ gi ys j ≤ M) :
    Calls Tryz.prog 82 #[.slice p n c, .slice q n d] w (RetS w (convL xs ys)) := by
  have hl := h.1
  have HL := Lib.hid hl; clear hl
  obtain ⟨b, off, hp, hlt, hc⟩ := h.cells hpos
  obtain ⟨b', off', hq, hlt', hc'⟩ := g.cells hpos
  subst hp
  subst hq
  clear h g
  go_enter Tryz.func82, Tryz.ntmps82
  go_wp2_with fail
  refine (slices_Repeat1 (v := 1099511627776) (n := n) hpos hn).mono ?_
  rintro e w1 ⟨g, rfl, hg, hown, hbel⟩
  go_wp2
  go_loopw [16] (fun i wr => ∃ k : Nat, k ≤ n ∧ i = .int .i64 k ∧ OwnI wr w.heap.size (some ⟨g, 0, none⟩) n n (tab n fun j => mnf 1099511627776 (conve (gi xs) (gi ys) j) (min k (j + 1))) ∧ Below w.heap.size w wr) (fun i _ => n - (intOf i).toNat)
  case atStart => exact ⟨0, Nat.zero_le _, rfl, hown.to fun j _ => by rw [Nat.zero_min]; rfl, hbel⟩
  case round =>
    obtain ⟨k, hk, rfl, ho, hb⟩ := hrel
    clear hown hbel
    by_cases hkn : k < n
    · obtain ⟨wo, rfl⟩ : ∃ wo : World, wo = wr := ⟨_, rfl⟩
      have c1 : wo.cell? ⟨b, off + k, none⟩ = some (.int .i64 (gi xs k)) := (bdeep hb hlt _).trans (hc _ (by omega))
      have b1 := hbd k (by omega)
      go_wp2
      go_loopw [23] (fun i wr => ∃ u : Nat, u ≤ n ∧ i = .int .i64 u ∧ OwnI wr w.heap.size (some ⟨g, 0, none⟩) n n (tab n fun j => if k ≤ j ∧ j < k + u then mnf 1099511627776 (conve (gi xs) (gi ys) j) (k + 1) else mnf 1099511627776 (conve (gi xs) (gi ys) j) (min k (j + 1))) ∧ Below w.heap.size w wr) (fun i _ => n - (intOf i).toNat)
      case atStart => exact ⟨0, Nat.zero_le _, rfl, ho.to fun j _ => by rw [if_neg (by omega)], hb⟩
      case round =>
        obtain ⟨u, hu, rfl, ho', hb'⟩ := hrel
        clear ho hb c1
        by_cases hun : u < n
        · have c2 : wr.cell? ⟨b', off' + u, none⟩ = some (.int .i64 (gi ys u)) := (bdeep hb' hlt' _).trans (hc' _ (by omega))
          have b2 := gbd u (by omega)
          by_cases huk : k + u < n
          · have c3 := ho'.at huk
            rw [gi_tab huk, if_neg (by omega), show min k (k + u + 1) = k by omega] at c3
            have f3 := ho'.free (k + u)
            have hst : Hid (mnf 1099511627776 (conve (gi xs) (gi ys) (k + u)) (k + 1) = min (mnf 1099511627776 (conve (gi xs) (gi ys) (k + u)) k) (gi xs k + gi ys u)) := by
              refine Lib.hid ?_
              rw [mnf_succ]
              show min _ (gi xs k + gi ys (k + u - k)) = _
              rw [show k + u - k = u by omega]
            generalize hv : mnf 1099511627776 (conve (gi xs) (gi ys) (k + u)) k = v at *
            have HV := Lib.hid hv; clear hv
            have hg1 : decide ((k : Int) + (u : Int) < (n : Int)) = true := by simp; omega
            have hg2 : (k : Int) + (u : Int) < (n : Int) := by omega
            go_wp2
            · go_roundw
              case rel =>
                refine ⟨u + 1, by omega, by go_num, ho'.put (k + u) _ fun j hj => ?_, hb'.setCell hg _⟩
                by_cases e : j = k + u
                · subst e; rw [if_pos rfl, if_pos (show k ≤ k + u ∧ k + u < k + (u + 1) by omega), hst.out]; omega
                · rw [if_neg e]
                  by_cases e2 : k ≤ j ∧ j < k + u
                  · rw [if_pos e2, if_pos (by omega)]
                  · rw [if_neg e2, if_neg (by omega)]
              case measure => simp [intOf]; omega
            · go_roundw
              case rel =>
                refine ⟨u + 1, by omega, by go_num, ho'.to fun j hj => ?_, hb'⟩
                by_cases e : j = k + u
                · subst e; rw [if_neg (by omega), if_pos (by omega), hst.out, show min k (k + u + 1) = k by omega, HV.out]; omega
                · by_cases e2 : k ≤ j ∧ j < k + u
                  · rw [if_pos e2, if_pos (by omega)]
                  · rw [if_neg e2, if_neg (by omega)]
              case measure => simp [intOf]; omega
          · have hg1 : decide ((k : Int) + (u : Int) < (n : Int)) = false := by simp; omega
            have hg2 : ¬ (k : Int) + (u : Int) < (n : Int) := by omega
            go_wp2
            go_roundw
            case rel =>
              refine ⟨u + 1, by omega, by go_num, ho'.to fun j hj => ?_, hb'⟩
              by_cases e2 : k ≤ j ∧ j < k + u
              · rw [if_pos e2, if_pos (by omega)]
              · rw [if_neg e2, if_neg (by omega)]
            case measure => simp [intOf]; omega
        · obtain rfl : n = u := by omega
          go_wp2
          go_roundw
          case rel =>
            refine ⟨k + 1, by omega, by go_num, ho'.to fun j hj => ?_, hb'⟩
            by_cases e : k ≤ j
            · rw [if_pos (by omega), show min (k + 1) (j + 1) = k + 1 by omega]
            · rw [if_neg (by omega), show min (k + 1) (j + 1) = min k (j + 1) by omega]
          case measure => simp [intOf]; omega
    · obtain rfl : n = k := by omega
      go_wp2
      go_ret
      exact ⟨_, _, _, rfl, by unfold convL; rw [HL.out]; exact ho.to fun j hj => by rw [show min n (j + 1) = j + 1 by omega]; rfl, hb⟩
end Go.Proofs.YtgbccpfehcjhbaaGreatDoor

/- Plain laws of the min-plus convolution (P9, P10): it is associative, monotone, and its powers go by halves. No program is in sight. No conditions. -/
namespace Go.Proofs.YtgbccpfehcjhbaaGreatDoor
open Go Go.RowKit

/-- values from 0 to M at the first n times -/
def Bd (f : Nat → Int) (n : Nat) (M : Int) : Prop := ∀ j, j < n → 0 ≤ f j ∧ f j ≤ M
theorem Bd.up {f : Nat → Int} {n : Nat} {M M' : Int} (h : Bd f n M) (hM : M ≤ M') : Bd f n M' := fun j hj => by have := h j hj; omega

theorem cv_le {f g : Nat → Int} {t s : Nat} (h : s ≤ t) : convv f g t ≤ f s + g (t - s) := (mnf_le (s := 1099511627776) (e := conve f g t) (m := t + 1)).2 s (by omega)
theorem cv_at {f g : Nat → Int} {n t : Nat} {M : Int} (hM : M ≤ 500000000000) (hf : Bd f n M) (hg : Bd g n M) (ht : t < n) : ∃ s, s ≤ t ∧ convv f g t = f s + g (t - s) := by
  rcases mnf_at (s := 1099511627776) (e := conve f g t) (m := t + 1) with h | ⟨u, hu, h⟩
  · have := cv_le (f := f) (g := g) (t := t) (s := 0) (by omega)
    have a := hf 0 (by omega)
    have b := hg t ht
    have c : convv f g t = 1099511627776 := h
    rw [Nat.sub_zero] at this
    omega
  · exact ⟨u, by omega, h⟩
theorem cv_bd {f g : Nat → Int} {n : Nat} {M K : Int} (hM : M ≤ 500000000000) (hK : K ≤ 500000000000) (hf : Bd f n M) (hg : Bd g n K) : Bd (convv f g) n (M + K) := by
  intro t ht
  have a := cv_le (f := f) (g := g) (t := t) (s := 0) (by omega)
  have a1 := hf 0 (by omega)
  have a2 := hg t ht
  rw [Nat.sub_zero] at a
  refine ⟨?_, by omega⟩
  by_cases hMK : M ≤ K
  · obtain ⟨s, hs, e⟩ := cv_at hK (hf.up hMK) hg ht
    have b1 := hf s (by omega)
    have b2 := hg (t - s) (by omega)
    omega
  · obtain ⟨s, hs, e⟩ := cv_at hM hf (hg.up (by omega)) ht
    have b1 := hf s (by omega)
    have b2 := hg (t - s) (by omega)
    omega
theorem cv_congr {f g f' g' : Nat → Int} {n t : Nat} (hf : ∀ j, j < n → f j = f' j) (hg : ∀ j, j < n → g j = g' j) (ht : t < n) : convv f g t = convv f' g' t := by
  unfold convv
  refine mnf_congr fun u hu => ?_
  unfold conve
  rw [hf u (by omega), hg (t - u) (by omega)]
theorem cv_assoc {f g h : Nat → Int} {n t : Nat} {M : Int} (hM : M ≤ 200000000000) (hf : Bd f n M) (hg : Bd g n M) (hh : Bd h n M) (ht : t < n) :
    convv (convv f g) h t = convv f (convv g h) t := by
  have hfg : Bd (convv f g) n (M + M) := cv_bd (by omega) (by omega) hf hg
  have hgh : Bd (convv g h) n (M + M) := cv_bd (by omega) (by omega) hg hh
  have hM0 : 0 ≤ M := by have := hf t ht; omega
  apply Int.le_antisymm
  · obtain ⟨s, hs, e⟩ := cv_at (M := M + M) (by omega) (hf.up (by omega)) hgh ht
    obtain ⟨u, hu, e'⟩ := cv_at (M := M) (t := t - s) (by omega) hg hh (by omega)
    have a := cv_le (f := convv f g) (g := h) (t := t) (s := s + u) (by omega)
    have b := cv_le (f := f) (g := g) (t := s + u) (s := s) (by omega)
    rw [show s + u - s = u by omega] at b
    rw [show t - (s + u) = t - s - u by omega] at a
    omega
  · obtain ⟨s, hs, e⟩ := cv_at (M := M + M) (by omega) hfg (hh.up (by omega)) ht
    obtain ⟨u, hu, e'⟩ := cv_at (M := M) (t := s) (by omega) hf hg (by omega)
    have a := cv_le (f := f) (g := convv g h) (t := t) (s := u) (by omega)
    have b := cv_le (f := g) (g := h) (t := t - u) (s := s - u) (by omega)
    rw [show t - u - (s - u) = t - s by omega] at b
    omega
theorem cv_mono {f g : Nat → Int} {n : Nat} {M : Int} (hM : M ≤ 500000000000) (hf : Bd f n M) (hg : Bd g n M) (mf : ∀ i j, i ≤ j → j < n → f i ≤ f j) (mg : ∀ i j, i ≤ j → j < n → g i ≤ g j) :
    ∀ i j, i ≤ j → j < n → convv f g i ≤ convv f g j := by
  intro i j hij hj
  obtain ⟨s, hs, e⟩ := cv_at hM hf hg hj
  by_cases h : s ≤ i
  · have a := cv_le (f := f) (g := g) (t := i) (s := s) h
    have b := mg (i - s) (j - s) (by omega) (by omega)
    omega
  · have a := cv_le (f := f) (g := g) (t := i) (s := i) (by omega)
    have b := mf i s (by omega) (by omega)
    have c := mg (i - i) (j - s) (by omega) (by omega)
    omega

/-- f with itself, k + 1 times -/
def powV (f : Nat → Int) : Nat → Nat → Int
  | 0 => f
  | k + 1 => convv (powV f k) f
theorem pow_bd {f : Nat → Int} {n : Nat} (hf : Bd f n 1000000) : ∀ k, k ≤ 1000 → Bd (powV f k) n (1000000 * ((k : Int) + 1))
  | 0, _ => fun j hj => by have := hf j hj; simp only [powV]; omega
  | k + 1, hk => by
    have a := pow_bd hf k (by omega)
    have b := cv_bd (by omega) (by omega) a hf
    exact b.up (by omega)
theorem pow_add {f : Nat → Int} {n : Nat} (hf : Bd f n 1000000) (a : Nat) : ∀ b, a + b ≤ 900 → ∀ t, t < n → convv (powV f a) (powV f b) t = powV f (a + b + 1) t
  | 0, _ => fun t _ => rfl
  | b + 1, h => fun t ht => by
    have ih := pow_add hf a b (by omega)
    have ba := pow_bd hf a (by omega)
    have bb := pow_bd hf b (by omega)
    show convv (powV f a) (convv (powV f b) f) t = convv (powV f (a + b + 1)) f t
    rw [← cv_assoc (M := 1000000000) (by omega) (ba.up (by omega)) (bb.up (by omega)) (hf.up (by omega)) ht]
    exact cv_congr (n := n) ih (fun _ _ => rfl) ht

/-- lists -/
theorem convL_len (xs ys : List Int) : (convL xs ys).length = xs.length := by unfold convL; rw [tab_length]
theorem convL_gi {xs ys : List Int} {t : Nat} (h : t < xs.length) : gi (convL xs ys) t = convv (gi xs) (gi ys) t := by unfold convL; rw [gi_tab h]
def powL (xs : List Int) (k : Nat) : List Int := tab xs.length (powV (gi xs) k)
theorem powL_zero (xs : List Int) : powL xs 0 = xs := tab_gi xs
theorem powL_len (xs : List Int) (k : Nat) : (powL xs k).length = xs.length := tab_length _ _
theorem powL_bd {xs : List Int} {n : Nat} (hl : xs.length = n) (hf : Bd (gi xs) n 1000000) {k : Nat} (hk : k ≤ 900) : Bd (gi (powL xs k)) n (1000000 * ((k : Int) + 1)) := by
  intro j hj
  unfold powL
  rw [gi_tab (by omega)]
  exact pow_bd hf k (by omega) j hj
theorem powL_add {xs : List Int} {n : Nat} (hl : xs.length = n) (hf : Bd (gi xs) n 1000000) {a b : Nat} (h : a + b ≤ 900) : convL (powL xs a) (powL xs b) = powL xs (a + b + 1) := by
  unfold convL
  rw [powL_len, hl]
  unfold powL
  rw [hl]
  refine tab_congr fun t ht => ?_
  rw [← pow_add hf a b h t ht]
  exact cv_congr (n := n) (fun j hj => gi_tab hj) (fun j hj => gi_tab hj) ht
theorem powL_step {xs : List Int} {n : Nat} (hl : xs.length = n) (hf : Bd (gi xs) n 1000000) {a : Nat} (h : a ≤ 900) : convL (powL xs a) xs = powL xs (a + 1) := by
  have := powL_add hl hf (a := a) (b := 0) (by omega)
  rwa [powL_zero] at this
end Go.Proofs.YtgbccpfehcjhbaaGreatDoor

/- A list that is bounded and goes up is a right curve (P3). No program is in sight. No conditions. -/
namespace Go.Proofs.YtgbccpfehcjhbaaGreatDoor
open Go Go.RowKit

theorem scan_mk : ∀ (xs : List Int) (l : Int), (∀ j, j < xs.length → l ≤ gi xs j ∧ 0 ≤ gi xs j ∧ gi xs j ≤ 1000000) → (∀ i j, i ≤ j → j < xs.length → gi xs i ≤ gi xs j) → scan l xs = 0
  | [], _, _, _ => rfl
  | v :: r, l, h, m => by
    have h0 := h 0 (by simp)
    simp only [gi, List.getD_cons_zero] at h0
    unfold scan
    rw [if_neg (by omega), if_neg (by omega), if_neg (by omega)]
    refine scan_mk r v (fun j hj => ?_) (fun i j hij hj => ?_)
    · have a := h (j + 1) (by simpa using hj)
      have b := m 0 (j + 1) (by omega) (by simpa using hj)
      simp only [gi, List.getD_cons_succ, List.getD_cons_zero] at a b ⊢
      omega
    · have a := m (i + 1) (j + 1) (by omega) (by simpa using hj)
      simpa only [gi, List.getD_cons_succ] using a
theorem curve_mk {xs : List Int} (h0 : 0 < xs.length) (h1 : xs.length ≤ 61) (hb : ∀ j, j < xs.length → 0 ≤ gi xs j ∧ gi xs j ≤ 1000000) (hm : ∀ i j, i ≤ j → j < xs.length → gi xs i ≤ gi xs j) : curveErr xs = 0 := by
  unfold curveErr
  rw [if_neg (by omega), if_neg (by omega)]
  exact scan_mk xs 0 (fun j hj => by have := hb j hj; omega) hm
theorem both_mk {xs ys : List Int} (h : curveErr xs = 0) (g : curveErr ys = 0) (hl : xs.length = ys.length) : bothErr xs ys = 0 := by
  unfold bothErr
  rw [if_neg (by simp [h]), if_neg (by simp [g]), if_pos hl]
/-- what fits and goes up is a right curve -/
theorem curve_tab {n : Nat} {z : Nat → Int} (h0 : 0 < n) (h1 : n ≤ 61) (hb : ∀ j, j < n → 0 ≤ z j ∧ z j ≤ 1000000) (hm : ∀ i j, i ≤ j → j < n → z i ≤ z j) : curveErr (tab n z) = 0 := by
  refine curve_mk (by rw [tab_length]; exact h0) (by rw [tab_length]; exact h1) (fun j hj => ?_) (fun i j hij hj => ?_)
  · rw [tab_length] at hj; rw [gi_tab hj]; exact hb j hj
  · rw [tab_length] at hj; rw [gi_tab hj, gi_tab (show i < n by omega)]; exact hm i j hij hj
end Go.Proofs.YtgbccpfehcjhbaaGreatDoor
