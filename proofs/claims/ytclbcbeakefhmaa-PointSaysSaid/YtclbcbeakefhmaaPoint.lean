/- The contracts of point.each (over a function that only reckons), Min, Max, Sum (P6), Less (P7), and headref.Less. No conditions for Min, Max, Sum, Less. -/
import Derived.Test.YtclbcbeakefhmaaZip
import Derived.Deep.QuietTactic
import Derived.BigQuiet
namespace Go.Proofs.Ytclbcbeakefhmaa
open Go Go.RowKit

def opMin (a b : Int) : Int := min a b
def opMax (a b : Int) : Int := max a b
def opSum (a b : Int) : Int := a + b

set_option maxHeartbeats 1000000 in
theorem point_each_ok {w : World} {p q : Option Addr} {n c d : Nat} {xs ys : List Int} (h : SI w p n c xs) (g : SI w q n d ys) (hx : Curve xs n) (he : bothErr xs ys = 0) {F : Nat} {op : Int → Int → Int}
    (hF : ∀ (args : Array Value) (w : World), (callFunc F args).run Try.prog w = .ok (.enter F args) w)
    (hcall : ∀ (k : Nat) (w' : World), k < n → Calls Try.prog F #[.int .i64 (gi xs k), .int .i64 (gi ys k)] w' fun e w'' => e = .returned (.int .i64 (op (gi xs k) (gi ys k))) ∧ w' = w'') :
    Calls Try.prog 63 #[.slice p n c, .slice q n d, .func (.func F) #[] #[]] w (RetL w (FitOf 0 (tab n fun k => op (gi xs k) (gi ys k)))) := by
  obtain ⟨hl, hpos, h61, hbd, _⟩ := hx
  have HE := Lib.hid he; clear he
  obtain ⟨b, off, hp, hlt, hc⟩ := h.cells hpos
  obtain ⟨b', off', hq, hlt', hc'⟩ := g.cells hpos
  subst hp
  subst hq
  have HC := Lib.hid hcall; clear hcall hl
  go_enter Try.func63, Try.ntmps63
  go_wp2_with fail
  refine (curve_Both h g HE.out).mono ?_; rintro e w' ⟨rfl, rfl⟩
  clear h g
  go_wp2_with (at_make; refine wpL_make_int Try.tyInts rfl rfl (B := w.heap.size) (W0 := w) n rfl rfl rfl rfl (Below.refl _ _) (by omega) (Nat.le_refl _) ?_; intro g w1 hg hown hbel hb0)
  clear hb0
  go_loopw [22] (fun i wr => ∃ k : Nat, k ≤ n ∧ i = .int .i64 k ∧ OwnI wr w.heap.size (some ⟨g, 0, none⟩) n n (tab n fun j => if j < k then op (gi xs j) (gi ys j) else 0) ∧ Below w.heap.size w wr) (fun i _ => n - (intOf i).toNat)
  case atStart => exact ⟨0, Nat.zero_le _, rfl, by simpa using hown, hbel⟩
  case round =>
    obtain ⟨k, hk, rfl, ho, hb⟩ := hrel
    clear hown hbel
    by_cases hkn : k < n
    · have c1 : wr.cell? ⟨b, off + k, none⟩ = some (.int .i64 (gi xs k)) := (bdeep hb hlt _).trans (hc _ hkn)
      have c2 : wr.cell? ⟨b', off' + k, none⟩ = some (.int .i64 (gi ys k)) := (bdeep hb hlt' _).trans (hc' _ hkn)
      have c3 := ho.at hkn
      rw [gi_tab hkn, if_neg (Nat.lt_irrefl k)] at c3
      have f3 := ho.free k
      have HK := HC.out k
      have hcl : Hid (∀ w', Calls Try.prog F #[.int .i64 (gi xs k), .int .i64 (gi ys k)] w' fun e w'' => e = .returned (.int .i64 (op (gi xs k) (gi ys k))) ∧ w' = w'') := Lib.hid fun w' => HK w' hkn
      clear hc hc' HC HK
      go_wp2
      go_region_law (go_simp; refine (hcl.out _).mono ?_; rintro e w' ⟨rfl, rfl⟩)
      all_goals
        go_wp2
        go_roundw
        case rel =>
          refine ⟨k + 1, by omega, by go_num, (ho.put k _ fun j hj => ?_).drew, (hb.setCell hg _).drew⟩
          by_cases e : j = k
          · subst e; rw [if_pos rfl, if_pos (by omega)]
          · rw [if_neg e]
            by_cases e2 : j < k
            · rw [if_pos e2, if_pos (by omega)]
            · rw [if_neg e2, if_neg (by omega)]
        case measure => simp [intOf]; omega
    · obtain rfl : n = k := by omega
      have ho2 : OwnI wr w.heap.size (some ⟨g, 0, none⟩) n n (tab n fun k => op (gi xs k) (gi ys k)) := ho.to fun j hj => if_pos hj
      clear ho
      generalize hY : (tab n fun k => op (gi xs k) (gi ys k)) = Y at *
      have HY := Lib.hid hY; clear hY HC
      by_cases hf : fits Y
      · have HF := Lib.hid hf; clear hf
        go_wp2_with fail
        refine (curve_Fit_ok ho2.si HF.out).mono ?_; rintro e w' ⟨rfl, rfl⟩
        go_wp2
        go_ret2
        exact ⟨_, _, _, _, _, rfl, ho2, hb, by rw [HY.out]; exact .inr (.inr ⟨rfl, HF.out, rfl, rfl⟩)⟩
      · have HF := Lib.hid hf; clear hf
        go_wp2_with fail
        refine (curve_Fit_big ho2.si HF.out).mono ?_; rintro e w' ⟨rfl, rfl⟩
        go_wp2
        go_ret2
        exact ⟨_, _, _, [], _, rfl, OwnI.nil _ _, hb, by rw [HY.out]; exact .inr (.inl ⟨rfl, HF.out, rfl, rfl⟩)⟩

set_option maxHeartbeats 400000 in
theorem point_each_bad {w : World} {p q : Option Addr} {n m c d : Nat} {xs ys : List Int} (h : SI w p n c xs) (g : SI w q m d ys) {er : Int} (he : bothErr xs ys = er) (h0 : er ≠ 0) {fv : Value} :
    Calls Try.prog 63 #[.slice p n c, .slice q m d, fv] w fun e w' => e = .returned (.tuple #[.slice none 0 0, .int .i64 er]) ∧ w = w' := by
  have hb := bne_false_of h0
  have HE := Lib.hid he; clear he
  go_enter Try.func63, Try.ntmps63
  go_wp2_with fail
  refine (curve_Both h g HE.out).mono ?_; rintro e w' ⟨rfl, rfl⟩
  go_wp2
  go_ret2
  exact ⟨rfl, rfl⟩

theorem fn_pure {F : Nat} {op : Int → Int → Int} {n : Nat} {xs ys : List Int} (h : ∀ (a b : Int) (w' : World), 0 ≤ a ∧ a ≤ 1000000 → 0 ≤ b ∧ b ≤ 1000000 → Calls Try.prog F #[.int .i64 a, .int .i64 b] w' fun e w'' => e = .returned (.int .i64 (op a b)) ∧ w' = w'')
    (hx : Curve xs n) (hy : Curve ys n) (k : Nat) (w' : World) (hk : k < n) : Calls Try.prog F #[.int .i64 (gi xs k), .int .i64 (gi ys k)] w' fun e w'' => e = .returned (.int .i64 (op (gi xs k) (gi ys k))) ∧ w' = w'' := h _ _ w' (hx.bd k hk) (hy.bd k hk)

set_option maxHeartbeats 400000 in
theorem point_Min1 (a b : Int) (w : World) (ha : 0 ≤ a ∧ a ≤ 1000000) (hb : 0 ≤ b ∧ b ≤ 1000000) :
    Calls Try.prog 65 #[.int .i64 a, .int .i64 b] w fun e w' => e = .returned (.int .i64 (opMin a b)) ∧ w = w' := by
  obtain ⟨ha1, ha2⟩ := ha
  obtain ⟨hb1, hb2⟩ := hb
  go_enter Try.func65, Try.ntmps65
  go_wp2
  all_goals
    go_ret
    exact ⟨ret_int (by unfold opMin; omega), rfl⟩

set_option maxHeartbeats 400000 in
theorem point_Min {w : World} {p q : Option Addr} {n m c d : Nat} {xs ys : List Int} (h : SI w p n c xs) (g : SI w q m d ys) {er : Int} (he : bothErr xs ys = er) :
    Calls Try.prog 43 #[.slice p n c, .slice q m d] w (RetL w (FitOf er (tab xs.length fun k => opMin (gi xs k) (gi ys k)))) := by
  by_cases h0 : er = 0
  · subst h0
    obtain ⟨h1, h2, h3⟩ := bothErr_ok he
    obtain rfl : n = m := by rw [← h.1, ← g.1, h3]
    have hx := curve_of h1 h.1
    have hy := curve_of h2 g.1
    have HE := Lib.hid he; have HX := Lib.hid hx; have HY := Lib.hid hy
    clear he h1 h2 h3 hx hy
    have hl := h.1
    have HL := Lib.hid hl; clear hl
    go_enter Try.func43, Try.ntmps43
    go_wp2_with fail
    refine (point_each_ok h g HX.out HE.out (op := opMin) (fun args w => by simp [callFunc, Try.func65, Try.f65, go_sem]) (fn_pure point_Min1 HX.out HY.out)).mono ?_
    rintro e w1 ⟨p1, n1, c1, L, e1, rfl, ho, hb, hF⟩
    have HF := Lib.hid hF; clear hF
    go_wp2
    go_ret2
    exact ⟨_, _, _, _, _, rfl, ho, hb, by rw [HL.out]; exact HF.out⟩
  · have HE := Lib.hid he; clear he
    go_enter Try.func43, Try.ntmps43
    go_wp2_with fail
    refine (point_each_bad h g HE.out h0).mono ?_; rintro e w' ⟨rfl, rfl⟩
    go_wp2
    go_ret2
    exact ⟨_, _, _, [], _, rfl, OwnI.nil _ _, Below.refl _ _, .inl ⟨h0, rfl, rfl⟩⟩

set_option maxHeartbeats 400000 in
theorem point_Max1 (a b : Int) (w : World) (ha : 0 ≤ a ∧ a ≤ 1000000) (hb : 0 ≤ b ∧ b ≤ 1000000) :
    Calls Try.prog 66 #[.int .i64 a, .int .i64 b] w fun e w' => e = .returned (.int .i64 (opMax a b)) ∧ w = w' := by
  obtain ⟨ha1, ha2⟩ := ha
  obtain ⟨hb1, hb2⟩ := hb
  go_enter Try.func66, Try.ntmps66
  go_wp2
  all_goals
    go_ret
    exact ⟨ret_int (by unfold opMax; omega), rfl⟩

set_option maxHeartbeats 400000 in
theorem point_Max {w : World} {p q : Option Addr} {n m c d : Nat} {xs ys : List Int} (h : SI w p n c xs) (g : SI w q m d ys) {er : Int} (he : bothErr xs ys = er) :
    Calls Try.prog 44 #[.slice p n c, .slice q m d] w (RetL w (FitOf er (tab xs.length fun k => opMax (gi xs k) (gi ys k)))) := by
  by_cases h0 : er = 0
  · subst h0
    obtain ⟨h1, h2, h3⟩ := bothErr_ok he
    obtain rfl : n = m := by rw [← h.1, ← g.1, h3]
    have hx := curve_of h1 h.1
    have hy := curve_of h2 g.1
    have HE := Lib.hid he; have HX := Lib.hid hx; have HY := Lib.hid hy
    clear he h1 h2 h3 hx hy
    have hl := h.1
    have HL := Lib.hid hl; clear hl
    go_enter Try.func44, Try.ntmps44
    go_wp2_with fail
    refine (point_each_ok h g HX.out HE.out (op := opMax) (fun args w => by simp [callFunc, Try.func66, Try.f66, go_sem]) (fn_pure point_Max1 HX.out HY.out)).mono ?_
    rintro e w1 ⟨p1, n1, c1, L, e1, rfl, ho, hb, hF⟩
    have HF := Lib.hid hF; clear hF
    go_wp2
    go_ret2
    exact ⟨_, _, _, _, _, rfl, ho, hb, by rw [HL.out]; exact HF.out⟩
  · have HE := Lib.hid he; clear he
    go_enter Try.func44, Try.ntmps44
    go_wp2_with fail
    refine (point_each_bad h g HE.out h0).mono ?_; rintro e w' ⟨rfl, rfl⟩
    go_wp2
    go_ret2
    exact ⟨_, _, _, [], _, rfl, OwnI.nil _ _, Below.refl _ _, .inl ⟨h0, rfl, rfl⟩⟩

set_option maxHeartbeats 400000 in
theorem point_Sum1 (a b : Int) (w : World) (ha : 0 ≤ a ∧ a ≤ 1000000) (hb : 0 ≤ b ∧ b ≤ 1000000) :
    Calls Try.prog 67 #[.int .i64 a, .int .i64 b] w fun e w' => e = .returned (.int .i64 (opSum a b)) ∧ w = w' := by
  obtain ⟨ha1, ha2⟩ := ha
  obtain ⟨hb1, hb2⟩ := hb
  go_enter Try.func67, Try.ntmps67
  go_wp2
  all_goals
    go_ret
    exact ⟨ret_int (by unfold opSum; omega), rfl⟩

set_option maxHeartbeats 400000 in
theorem point_Sum {w : World} {p q : Option Addr} {n m c d : Nat} {xs ys : List Int} (h : SI w p n c xs) (g : SI w q m d ys) {er : Int} (he : bothErr xs ys = er) :
    Calls Try.prog 45 #[.slice p n c, .slice q m d] w (RetL w (FitOf er (tab xs.length fun k => opSum (gi xs k) (gi ys k)))) := by
  by_cases h0 : er = 0
  · subst h0
    obtain ⟨h1, h2, h3⟩ := bothErr_ok he
    obtain rfl : n = m := by rw [← h.1, ← g.1, h3]
    have hx := curve_of h1 h.1
    have hy := curve_of h2 g.1
    have HE := Lib.hid he; have HX := Lib.hid hx; have HY := Lib.hid hy
    clear he h1 h2 h3 hx hy
    have hl := h.1
    have HL := Lib.hid hl; clear hl
    go_enter Try.func45, Try.ntmps45
    go_wp2_with fail
    refine (point_each_ok h g HX.out HE.out (op := opSum) (fun args w => by simp [callFunc, Try.func67, Try.f67, go_sem]) (fn_pure point_Sum1 HX.out HY.out)).mono ?_
    rintro e w1 ⟨p1, n1, c1, L, e1, rfl, ho, hb, hF⟩
    have HF := Lib.hid hF; clear hF
    go_wp2
    go_ret2
    exact ⟨_, _, _, _, _, rfl, ho, hb, by rw [HL.out]; exact HF.out⟩
  · have HE := Lib.hid he; clear he
    go_enter Try.func45, Try.ntmps45
    go_wp2_with fail
    refine (point_each_bad h g HE.out h0).mono ?_; rintro e w' ⟨rfl, rfl⟩
    go_wp2
    go_ret2
    exact ⟨_, _, _, [], _, rfl, OwnI.nil _ _, Below.refl _ _, .inl ⟨h0, rfl, rfl⟩⟩
end Go.Proofs.Ytclbcbeakefhmaa
