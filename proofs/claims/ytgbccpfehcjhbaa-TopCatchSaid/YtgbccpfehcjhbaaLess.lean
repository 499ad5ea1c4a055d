/- The contracts of point.Less and headref.Less (P7). No conditions. -/
import Derived.Test.YtgbccpfehcjhbaaDeconv
import Derived.Deep.RegionLaw
import Derived.BigRegion
import Derived.Deep.QuietTactic
import Derived.BigQuiet
namespace Go.Proofs.Ytgbccpfehcjhbaa
open Go Go.RowKit

/-- P7: the running maximum of the differences, at least 0 -/
def lessV (xs ys : List Int) (t : Nat) : Int := mxf 0 (fun s => gi xs s - gi ys s) (t + 1)
def lessL (xs ys : List Int) : List Int := tab xs.length (lessV xs ys)

set_option maxHeartbeats 400000 in
theorem point_Less1 {w : World} {cb : Nat} {a b m : Int} (ha : 0 ≤ a ∧ a ≤ 1000000) (hb : 0 ≤ b ∧ b ≤ 1000000) (hm : 0 ≤ m ∧ m ≤ 1000000) (hc : w.cell? ⟨cb, 0, none⟩ = some (.int .i64 m)) (hf : w.frozen? ⟨cb, 0, none⟩ = false) {v : Int} (hv : max m (a - b) = v) :
    Calls Try.prog 33 #[.int .i64 a, .int .i64 b, .pointer (some ⟨cb, 0, none⟩)] w fun e w' => e = .returned (.int .i64 v) ∧ w' = w.setCell ⟨cb, 0, none⟩ (.int .i64 v) := by
  obtain ⟨ha1, ha2⟩ := ha
  obtain ⟨hb1, hb2⟩ := hb
  obtain ⟨hm1, hm2⟩ := hm
  have HV := Lib.hid hv; clear hv
  by_cases h : m < a - b
  · have hs : Hid (a - b = v) := Lib.hid (by rw [← HV.out]; omega)
    go_enter Try.func33, Try.ntmps33
    go_wp2
    go_ret
    exact ⟨ret_int hs.out, by rw [← hs.out]⟩
  · have hs : Hid (m = v) := Lib.hid (by rw [← HV.out]; omega)
    go_enter Try.func33, Try.ntmps33
    go_wp2
    go_ret
    exact ⟨ret_int hs.out, by rw [← hs.out]⟩

set_option maxHeartbeats 1600000 in
theorem point_each_less {w W : World} {p q : Option Addr} {n c d cb : Nat} {xs ys : List Int} (h : SI w p n c xs) (g : SI w q n d ys) (hx : Curve xs n) (hy : Curve ys n) (he : bothErr xs ys = 0)
    (hbW : Below w.heap.size w W) (hcb : w.heap.size ≤ cb) (hcb2 : cb < W.heap.size) (hcell : W.heap[cb]? = some (.cells #[.int .i64 0] 3 (0, 0))) :
    Calls Try.prog 32 #[.slice p n c, .slice q n d, .func (.func 33) #[] #[.pointer (some ⟨cb, 0, none⟩)]] W (RetL w (FitOf 0 (lessL xs ys))) := by
  obtain ⟨hl, hpos, h61, hbd, _⟩ := hx
  obtain ⟨_, _, _, gbd, _⟩ := hy
  have HE := Lib.hid he; clear he
  have HL := Lib.hid hl; clear hl
  obtain ⟨b, off, hp, hlt, hc⟩ := h.cells hpos
  obtain ⟨b', off', hq, hlt', hc'⟩ := g.cells hpos
  subst hp
  subst hq
  have HCELL := Lib.hid hcell; have HBW := Lib.hid hbW; clear hcell
  go_enter Try.func32, Try.ntmps32
  go_wp2_with fail
  refine (curve_Both (h.below hbW) (g.below hbW) HE.out).mono ?_; rintro e w' ⟨rfl, rfl⟩
  clear h g hbW
  go_wp2_with (at_make; refine wpL_make_int Try.tyInts rfl rfl (B := W.heap.size) (W0 := W) n rfl rfl rfl rfl (Below.refl _ _) (by omega) (Nat.le_refl _) ?_; intro g w1 hg hown hbel hb0)
  have hb1 : Hid (Below w.heap.size w w1) := Lib.hid (HBW.out.trans (hbel.mono HBW.out.size))
  have hd1 : Hid (w1.heap[cb]? = some (.cells #[.int .i64 0] 3 (0, 0))) := Lib.hid (blk_below HCELL.out hb0)
  clear hb0 hbel
  go_loopw [22] (fun i wr => ∃ (k : Nat) (m : Int), k ≤ n ∧ i = .int .i64 k ∧ OwnI wr W.heap.size (some ⟨g, 0, none⟩) n n (tab n fun j => if j < k then lessV xs ys j else 0) ∧ Hid (m = mxf 0 (fun s => gi xs s - gi ys s) k) ∧ (0 ≤ m ∧ m ≤ 1000000) ∧ Hid (wr.heap[cb]? = some (.cells #[.int .i64 m] 3 (0, 0))) ∧ Hid (Below w.heap.size w wr)) (fun i _ => n - (intOf i).toNat)
  case atStart => exact ⟨0, 0, Nat.zero_le _, rfl, by simpa using hown, Lib.hid rfl, by omega, hd1, hb1⟩
  case round =>
    obtain ⟨k, m, hk, rfl, ho, HM, hmb, HB, hb⟩ := hrel
    clear hown hd1 hb1
    by_cases hkn : k < n
    · have c1 : wr.cell? ⟨b, off + k, none⟩ = some (.int .i64 (gi xs k)) := (bdeep hb.out hlt _).trans (hc _ hkn)
      have c2 : wr.cell? ⟨b', off' + k, none⟩ = some (.int .i64 (gi ys k)) := (bdeep hb.out hlt' _).trans (hc' _ hkn)
      have c3 := ho.at hkn
      rw [gi_tab hkn, if_neg (Nat.lt_irrefl k)] at c3
      have f3 := ho.free k
      have hgb := ho.blk.2
      have c4 : wr.cell? ⟨cb, 0, none⟩ = some (.int .i64 m) := blk_cell HB.out 0
      have f4 : wr.frozen? ⟨cb, 0, none⟩ = false := blk_free HB.out 0
      have b1 := hbd k hkn
      have b2 := gbd k hkn
      have hbws := HBW.out.size
      have hne : ¬ g = cb := by omega
      have hne2 : ¬ cb = g := by omega
      obtain ⟨v, hv⟩ : ∃ v, max m (gi xs k - gi ys k) = v := ⟨_, rfl⟩
      have HV := Lib.hid hv
      have hvb : 0 ≤ v ∧ v ≤ 1000000 := by omega
      clear hv hc hc'
      go_wp2
      go_region_law (go_simp; go_at_call 33; refine (point_Less1 b1 b2 hmb (by exact c4) (by exact f4) HV.out).mono ?_; rintro e w' ⟨rfl, rfl⟩)
      all_goals
        go_wp2
        go_roundw
        case rel =>
          refine ⟨k + 1, v, by omega, by go_num, ?_, Lib.hid (by rw [← HV.out, HM.out]; rfl), hvb, Lib.hid ?_, Lib.hid ((hb.out.setCell hcb _).setCell (by exact Nat.le_trans hbws hg) _).drew⟩
          · have ho1 : OwnI (wr.setCell ⟨cb, 0, none⟩ (.int .i64 v)) W.heap.size (some ⟨g, 0, none⟩) n n (tab n fun j => if j < k then lessV xs ys j else 0) := ⟨ownsRow_setCell_below ho.1 (a := ⟨cb, 0, none⟩) hcb2 _, ho.2⟩
            refine (ho1.put k v fun j hj => ?_).drew
            by_cases e : j = k
            · subst e; rw [if_pos rfl, if_pos (show j < j + 1 by omega)]
              unfold lessV; rw [← HV.out, HM.out]; rfl
            · rw [if_neg e]
              by_cases e2 : j < k
              · rw [if_pos e2, if_pos (show j < k + 1 by omega)]
              · rw [if_neg e2, if_neg (show ¬ j < k + 1 by omega)]
          · have := blk_other (g' := g) (j := k) (v := .int .i64 v) (blk_set (j := 0) (v := .int .i64 v) HB.out) hne2
            simp only [List.setIfInBounds_toArray, List.set_cons_zero] at this
            exact this
        case measure => simp [intOf]; omega
    · obtain rfl : n = k := by omega
      have ho2 : OwnI wr W.heap.size (some ⟨g, 0, none⟩) n n (lessL xs ys) := by unfold lessL; rw [HL.out]; exact ho.to fun j hj => if_pos hj
      have hfit : fits (lessL xs ys) := by
        intro j hj
        unfold lessL at hj ⊢
        rw [tab_length] at hj
        rw [gi_tab hj]
        rw [HL.out] at hj
        exact mxf_le (by omega) fun u hu => by
          have a1 := hbd u (by omega)
          have a2 := gbd u (by omega)
          omega
      have HF := Lib.hid hfit
      clear ho hfit
      go_wp2_with fail
      refine (curve_Fit_ok ho2.si HF.out).mono ?_; rintro e w' ⟨rfl, rfl⟩
      go_wp2
      go_ret2
      exact ⟨_, _, _, _, _, rfl, ho2.base HBW.out.size, hb.out, .inr (.inr ⟨rfl, HF.out, rfl, rfl⟩)⟩

set_option maxHeartbeats 400000 in
theorem point_Less {w : World} {p q : Option Addr} {n m c d : Nat} {xs ys : List Int} (h : SI w p n c xs) (g : SI w q m d ys) {er : Int} (he : bothErr xs ys = er) :
    Calls Try.prog 24 #[.slice p n c, .slice q m d] w (RetL w (FitOf er (lessL xs ys))) := by
  by_cases h0 : er = 0
  · subst h0
    obtain ⟨h1, h2, h3⟩ := bothErr_ok he
    obtain rfl : n = m := by rw [← h.1, ← g.1, h3]
    have hx := curve_of h1 h.1
    have hy := curve_of h2 g.1
    have HE := Lib.hid he; have HX := Lib.hid hx; have HY := Lib.hid hy
    clear he h1 h2 h3 hx hy
    go_enter Try.func24, Try.ntmps24
    go_wp2_with fail
    refine (point_each_less (cb := w.heap.size) h g HX.out HY.out HE.out ((Below.refl _ _).alloc (Nat.le_refl _) _) (Nat.le_refl _) (by simp) (blk_new _ _ _)).mono ?_
    rintro e w1 ⟨p1, n1, c1, L, e1, rfl, ho, hb, hF⟩
    have HF := Lib.hid hF; clear hF
    go_wp2
    go_ret2
    exact ⟨_, _, _, _, _, rfl, ho, hb, HF.out⟩
  · have HE := Lib.hid he; clear he
    have hbf := bne_false_of h0
    have hb := (Below.refl w.heap.size w).alloc (Nat.le_refl _) (.cells #[.int .i64 0] 3)
    go_enter Try.func24, Try.ntmps24
    go_wp2_with fail
    refine Calls.mono (R := fun e w' => e = .returned (.tuple #[.slice none 0 0, .int .i64 er]) ∧ (w.alloc (.cells #[.int .i64 0] 3)) = w') ?_ ?_
    · go_enter Try.func32, Try.ntmps32
      go_wp2_with fail
      refine (curve_Both (h.below hb) (g.below hb) HE.out).mono ?_; rintro e w' ⟨rfl, rfl⟩
      go_wp2
      go_ret2
      exact ⟨rfl, rfl⟩
    rintro e w' ⟨rfl, rfl⟩
    go_wp2
    go_ret2
    exact ⟨_, _, _, [], _, rfl, OwnI.nil _ _, hb, .inl ⟨h0, rfl, rfl⟩⟩

/-- one result: a new list -/
def RetSL (w : World) (L : List Int) (e : Ending) (w' : World) : Prop :=
  ∃ p n c, e = .returned (.slice p n c) ∧ OwnI w' w.heap.size p n c L ∧ Below w.heap.size w w'

end Go.Proofs.Ytgbccpfehcjhbaa
