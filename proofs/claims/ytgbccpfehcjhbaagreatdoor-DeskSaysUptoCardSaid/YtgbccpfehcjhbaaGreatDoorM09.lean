/- The contract of deconv.Of: the deconvolution of two curves (P11). No conditions. -/
import Derived.Test.YtgbccpfehcjhbaaGreatDoorM08
import Derived.RegionTactic
import Derived.ChangeAlike
import Derived.BigRegion
import Derived.WalkSmall
namespace Go.Proofs.YtgbccpfehcjhbaaGreatDoor
open Go Go.RowKit

theorem Tryz.tyInts : SliceTy Tryz.prog 35 3 (.int .i64 0) 1 8 := ⟨Tryz.underlying35, by kernel_rfl⟩

/-- f(t+u) - g(u) -/
def dce (f g : List Int) (t u : Nat) : Int := gi f (t + u) - gi g u
def dcv (f g : List Int) (n t : Nat) : Int := mxf 0 (dce f g t) (n - t)
def dcvL (f g : List Int) : List Int := tab f.length (dcv f g f.length)

set_option maxHeartbeats 1000000 in
theorem deconv_Of_ok {w : World} {p q : Option Addr} {n c d : Nat} {xs ys : List Int} (h : SI w p n c xs) (g : SI w q n d ys) (hx : Curve xs n) (hy : Curve ys n) (he : bothErr xs ys = 0) :
    Calls Tryz.prog 15 #[.slice p n c, .slice q n d] w (RetL w fun L er => er = 0 ∧ L = dcvL xs ys) := by
  obtain ⟨hl, hpos, h61, hbd, _⟩ := hx
  obtain ⟨gl, _, _, gbd, _⟩ := hy
  have HE := Lib.hid he; clear he
  have HL := Lib.hid hl; clear hl
  have GL := Lib.hid gl; clear gl
  obtain ⟨b, off, hp, hlt, hc⟩ := h.cells hpos
  obtain ⟨b', off', hq, hlt', hc'⟩ := g.cells hpos
  subst hp
  subst hq
  go_enter Tryz.func15, Tryz.ntmps15
  go_wp2_with fail
  refine (curve_Both h g HE.out).mono ?_; rintro e w' ⟨rfl, rfl⟩
  clear h g
  go_wp2_with (at_make; refine wpL_make_int Tryz.tyInts rfl rfl (B := w.heap.size) (W0 := w) n rfl rfl rfl rfl (Below.refl _ _) (by omega) (Nat.le_refl _) ?_; intro g w1 hg hown hbel hb0)
  clear hb0
  go_loopw [21] (fun i wr => ∃ k : Nat, k ≤ n ∧ i = .int .i64 k ∧ OwnI wr w.heap.size (some ⟨g, 0, none⟩) n n (tab n fun j => if j < k then dcv xs ys n j else 0) ∧ Below w.heap.size w wr) (fun i _ => n - (intOf i).toNat)
  case atStart => exact ⟨0, Nat.zero_le _, rfl, by simpa using hown, hbel⟩
  case round =>
    obtain ⟨k, hk, rfl, ho, hb⟩ := hrel
    clear hown hbel
    by_cases hkn : k < n
    · obtain ⟨wo, rfl⟩ : ∃ wo : World, wo = wr := ⟨_, rfl⟩
      go_wp2
      go_loopw [28] (fun i wr => ∃ u : Nat, u ≤ n - k ∧ i = .int .i64 u ∧ OwnI wr w.heap.size (some ⟨g, 0, none⟩) n n (tab n fun j => if j < k then dcv xs ys n j else if j = k then mxf 0 (dce xs ys k) u else 0) ∧ Below w.heap.size w wr) (fun i _ => (n - k) - (intOf i).toNat)
      case atStart => exact ⟨0, Nat.zero_le _, rfl, by simpa [mxf] using ho, hb⟩
      case round =>
        obtain ⟨u, hu, rfl, ho', hb'⟩ := hrel
        clear ho hb
        by_cases hun : u < n - k
        · have c1 : wr.cell? ⟨b, off + (k + u), none⟩ = some (.int .i64 (gi xs (k + u))) := (bdeep hb' hlt _).trans (hc _ (by omega))
          have c2 : wr.cell? ⟨b', off' + u, none⟩ = some (.int .i64 (gi ys u)) := (bdeep hb' hlt' _).trans (hc' _ (by omega))
          have c3 := ho'.at hkn
          rw [gi_tab hkn] at c3
          simp only [Nat.lt_irrefl, if_true, if_false] at c3
          have f3 := ho'.free k
          have b1 := hbd (k + u) (by omega)
          have b2 := gbd u (by omega)
          go_wp2
          go_region
          go_wp2
          go_roundw
          case rel => exact ⟨u + 1, by omega, by go_num, (ho'.put k _ (by intro j hj; split <;> simp_all [mxf_succ, dce] <;> omega)).drew, (hb'.setCell hg _).drew⟩
          case measure => simp [intOf]; omega
        · have huu : u = n - k := by omega
          subst huu
          go_wp2
          go_roundw
          case rel => exact ⟨k + 1, by omega, by go_num, ho'.to (by intro j hj; split <;> split <;> simp_all [dcv] <;> omega), hb'⟩
          case measure => simp [intOf]; omega
    · have hkk : n = k := by omega
      subst hkk
      go_wp2
      go_ret2
      exact ⟨_, _, _, _, _, rfl, ho.to fun j hj => if_pos hj, hb, rfl, by unfold dcvL; rw [HL.out]⟩

theorem deconv_fits {xs ys : List Int} {n : Nat} (hx : Curve xs n) (hy : Curve ys n) : fits (dcvL xs ys) := by
  intro j hj
  unfold dcvL at hj ⊢
  rw [tab_length] at hj
  rw [gi_tab hj, hx.len]
  rw [hx.len] at hj
  refine mxf_le (by omega) fun u hu => ?_
  have a := hx.bd (j + u) (by omega)
  have b := hy.bd u (by omega)
  unfold dce; omega

set_option maxHeartbeats 400000 in
theorem deconv_Of {w : World} {p q : Option Addr} {n m c d : Nat} {xs ys : List Int} (h : SI w p n c xs) (g : SI w q m d ys) {er : Int} (he : bothErr xs ys = er) :
    Calls Tryz.prog 15 #[.slice p n c, .slice q m d] w (RetL w (FitOf er (dcvL xs ys))) := by
  by_cases h0 : er = 0
  · subst h0
    obtain ⟨h1, h2, h3⟩ := bothErr_ok he
    obtain rfl : n = m := by rw [← h.1, ← g.1, h3]
    refine (deconv_Of_ok h g (curve_of h1 h.1) (curve_of h2 g.1) he).mono ?_
    rintro e w' ⟨p', n', c', L, er, rfl, ho, hb, rfl, rfl⟩
    exact ⟨_, _, _, _, _, rfl, ho, hb, .inr (.inr ⟨rfl, deconv_fits (curve_of h1 h.1) (curve_of h2 g.1), rfl, rfl⟩)⟩
  · have hb := bne_false_of h0
    have HE := Lib.hid he; clear he
    go_enter Tryz.func15, Tryz.ntmps15
    go_wp2_with fail
    refine (curve_Both h g HE.out).mono ?_; rintro e w' ⟨rfl, rfl⟩
    go_wp2
    go_ret2
    exact ⟨_, _, _, [], _, rfl, OwnI.nil _ _, Below.refl _ _, .inl ⟨h0, rfl, rfl⟩⟩

/-- one result: a new list -/
def RetS (w : World) (L : List Int) (e : Ending) (w' : World) : Prop :=
  ∃ p n c, e = .returned (.slice p n c) ∧ OwnI w' w.heap.size p n c L ∧ Below w.heap.size w w'

set_option maxHeartbeats 1000000 in
theorem ref_Deconv {w : World} {p q : Option Addr} {n c d : Nat} {xs ys : List Int} (h : SI w p n c xs) (g : SI w q n d ys) (hx : Curve xs n) (hy : Curve ys n) :
    Calls Tryz.prog 83 #[.slice p n c, .slice q n d] w (RetS w (dcvL xs ys)) := by
  obtain ⟨hl, hpos, h61, hbd, _⟩ := hx
  obtain ⟨gl, _, _, gbd, _⟩ := hy
  have HL := Lib.hid hl; clear hl
  have GL := Lib.hid gl; clear gl
  obtain ⟨b, off, hp, hlt, hc⟩ := h.cells hpos
  obtain ⟨b', off', hq, hlt', hc'⟩ := g.cells hpos
  subst hp
  subst hq
  clear h g
  go_enter Tryz.func83, Tryz.ntmps83
  go_wp2_with (at_make; refine wpL_make_int Tryz.tyInts rfl rfl (B := w.heap.size) (W0 := w) n rfl rfl rfl rfl (Below.refl _ _) (by omega) (Nat.le_refl _) ?_; intro g w1 hg hown hbel hb0)
  clear hb0
  go_loopw [15] (fun i wr => ∃ k : Nat, k ≤ n ∧ i = .int .i64 k ∧ OwnI wr w.heap.size (some ⟨g, 0, none⟩) n n (tab n fun j => mxf 0 (dce xs ys j) (k - j)) ∧ Below w.heap.size w wr) (fun i _ => n - (intOf i).toNat)
  case atStart => exact ⟨0, Nat.zero_le _, rfl, hown.to fun j _ => by rw [Nat.zero_sub]; rfl, hbel⟩
  case round =>
    obtain ⟨k, hk, rfl, ho, hb⟩ := hrel
    clear hown hbel
    by_cases hkn : k < n
    · obtain ⟨wo, rfl⟩ : ∃ wo : World, wo = wr := ⟨_, rfl⟩
      have c1 : wo.cell? ⟨b, off + k, none⟩ = some (.int .i64 (gi xs k)) := (bdeep hb hlt _).trans (hc _ (by omega))
      have b1 := hbd k (by omega)
      go_wp2
      go_loopw [22] (fun i wr => ∃ u : Nat, u ≤ n ∧ i = .int .i64 u ∧ OwnI wr w.heap.size (some ⟨g, 0, none⟩) n n (tab n fun j => if j ≤ k ∧ k < j + u then mxf 0 (dce xs ys j) (k + 1 - j) else mxf 0 (dce xs ys j) (k - j)) ∧ Below w.heap.size w wr) (fun i _ => n - (intOf i).toNat)
      case atStart => exact ⟨0, Nat.zero_le _, rfl, ho.to fun j _ => by rw [if_neg (by omega)], hb⟩
      case round =>
        obtain ⟨u, hu, rfl, ho', hb'⟩ := hrel
        clear ho hb c1
        by_cases hun : u < n
        · have c2 : wr.cell? ⟨b', off' + u, none⟩ = some (.int .i64 (gi ys u)) := (bdeep hb' hlt' _).trans (hc' _ (by omega))
          have b2 := gbd u (by omega)
          by_cases huk : u ≤ k
          · have c3 := ho'.at (j := k - u) (by omega)
            rw [gi_tab (by omega), if_neg (by omega)] at c3
            have f3 := ho'.free (k - u)
            have hd : mxf 0 (dce xs ys (k - u)) (k + 1 - (k - u)) = max (mxf 0 (dce xs ys (k - u)) (k - (k - u))) (gi xs k - gi ys u) := by
              rw [show k + 1 - (k - u) = (k - (k - u)) + 1 by omega, mxf_succ, dce, show k - u + (k - (k - u)) = k by omega, show k - (k - u) = u by omega]
            have HD := Lib.hid hd; clear hd
            generalize hv : mxf 0 (dce xs ys (k - u)) (k - (k - u)) = v at *
            have HV := Lib.hid hv; clear hv
            have hge : (0 : Int) ≤ (k : Int) - (u : Int) := by omega
            go_wp2
            · go_roundw
              case rel =>
                refine ⟨u + 1, by omega, by go_num, ho'.put (k - u) _ fun j hj => ?_, hb'.setCell hg _⟩
                by_cases e : j = k - u
                · subst e; rw [if_pos rfl, if_pos (by omega), HD.out]; omega
                · rw [if_neg e]
                  by_cases e2 : j ≤ k ∧ k < j + u
                  · rw [if_pos e2, if_pos (by omega)]
                  · rw [if_neg e2, if_neg (by omega)]
              case measure => simp [intOf]; omega
            · go_roundw
              case rel =>
                refine ⟨u + 1, by omega, by go_num, ho'.to fun j hj => ?_, hb'⟩
                by_cases e : j = k - u
                · subst e; rw [if_neg (by omega), if_pos (by omega), HD.out, HV.out]; omega
                · by_cases e2 : j ≤ k ∧ k < j + u
                  · rw [if_pos e2, if_pos (by omega)]
                  · rw [if_neg e2, if_neg (by omega)]
              case measure => simp [intOf]; omega
          · have hge : ¬ (0 : Int) ≤ (k : Int) - (u : Int) := by omega
            go_wp2
            go_roundw
            case rel =>
              refine ⟨u + 1, by omega, by go_num, ho'.to fun j hj => ?_, hb'⟩
              by_cases e2 : j ≤ k ∧ k < j + u
              · rw [if_pos e2, if_pos (by omega)]
              · rw [if_neg e2, if_neg (by omega)]
            case measure => simp [intOf]; omega
        · have huu : u = n := by omega
          subst huu
          go_wp2
          go_roundw
          case rel =>
            refine ⟨k + 1, by omega, by go_num, ho'.to fun j hj => ?_, hb'⟩
            by_cases e : j ≤ k
            · rw [if_pos (by omega)]
            · rw [if_neg (by omega), show k - j = 0 by omega, show k + 1 - j = 0 by omega]
          case measure => simp [intOf]; omega
    · have hkk : n = k := by omega
      subst hkk
      go_wp2
      go_ret
      exact ⟨_, _, _, rfl, by unfold dcvL; rw [HL.out]; exact ho, hb⟩
end Go.Proofs.YtgbccpfehcjhbaaGreatDoor
