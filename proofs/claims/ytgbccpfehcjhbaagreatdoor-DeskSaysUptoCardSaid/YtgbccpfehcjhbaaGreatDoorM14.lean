/- The functions of two lists that the desk calls: conv.Of, deconv.Of, and the closure round bound.Back (P77). Conditions: what each theorem says. -/
import Derived.Test.YtgbccpfehcjhbaaGreatDoorM07
import Derived.Test.YtgbccpfehcjhbaaGreatDoorM13
import Derived.Test.YtgbccpfehcjhbaaGreatDoorM09
import Derived.Test.YtgbccpfehcjhbaaGreatDoorM02
import Derived.Test.YtgbccpfehcjhbaaGreatDoorRows
import Derived.Test.YtgbccpfehcjhbaaGreatDoorM01
namespace Go.Proofs.YtgbccpfehcjhbaaGreatDoor
open Go Go.RowKit
set_option linter.unusedVariables false
set_option linter.unusedSimpArgs false

theorem tellable_curve {Y : List Int} (h : curveErr Y = 0) : tellable Y := by
  have hc := curve_of h rfl
  refine ⟨by have := hc.le; omega, fun x hx => ?_⟩
  obtain ⟨j, hj, rfl⟩ := List.getElem_of_mem hx
  have := hc.bd j hj
  rw [gi_get hj] at this
  omega
theorem tellable_conv {xs ys : List Int} (h : bothErr xs ys = 0) (hf : fits (convL xs ys)) : tellable (convL xs ys) := by
  obtain ⟨h1, h2, h3⟩ := bothErr_ok h
  exact tellable_curve (chain_curve (curve_of h1 rfl) (curve_of h2 h3.symm) hf)
theorem tellable_deconv {xs ys : List Int} (h : bothErr xs ys = 0) : tellable (dcvL xs ys) := by
  obtain ⟨h1, h2, h3⟩ := bothErr_ok h
  exact tellable_curve (dcv_curve (curve_of h1 rfl) (curve_of h2 h3.symm))
theorem back_bd {xs ys : List Int} (h : bothErr xs ys = 0) : 0 ≤ backV xs ys ∧ backV xs ys ≤ 1000000 := by
  obtain ⟨h1, h2, h3⟩ := bothErr_ok h
  have a := curve_of h1 rfl
  have b := curve_of h2 h3.symm
  unfold backV
  exact ⟨mxf_ge.1, mxf_le (by omega) fun u hu => by have := a.bd u hu; have := b.bd u hu; omega⟩
theorem fits_one {x : Int} (h : x ≤ 1000000) : fits [x] := fun j hj => by
  obtain rfl : j = 0 := by simpa using hj
  exact h
theorem tellable_one {x : Int} (h : -1000000000000 ≤ x ∧ x ≤ 1000000000000) : tellable [x] := ⟨by simp, fun y hy => by simp only [List.mem_singleton] at hy; subst hy; exact h⟩
theorem bound_Back_bad' {w : World} {p q : Option Addr} {n c m d : Nat} {xs ys : List Int} (h : SI w p n c xs) (g : SI w q m d ys) {er : Int} (he : bothErr xs ys = er) (h0 : er ≠ 0) :
    Calls Tryz.prog 16 #[.slice p n c, .slice q m d] w fun e w' => e = .returned (.tuple #[.int .i64 0, .int .i64 er]) ∧ Below w.heap.size w w' := by
  have hb := bne_false_of h0
  have HE := Lib.hid he; clear he
  go_enter Tryz.func16, Tryz.ntmps16
  go_wp2_with fail
  refine (curve_Both h g HE.out).mono ?_; rintro e w' ⟨rfl, rfl⟩
  go_wp2
  go_ret2
  exact ⟨rfl, Below.refl _ _⟩
theorem dk_Back {w : World} {p q : Option Addr} {n c m d : Nat} {xs ys : List Int} (h : SI w p n c xs) (g : SI w q m d ys) :
    Calls Tryz.prog 16 #[.slice p n c, .slice q m d] w fun e w' => (∃ x, e = .returned (.tuple #[.int .i64 x, .int .i64 (bothErr xs ys)]) ∧ (bothErr xs ys = 0 → x = backV xs ys)) ∧ Below w.heap.size w w' := by
  by_cases h0 : bothErr xs ys = 0
  · obtain ⟨h1, h2, h3⟩ := bothErr_ok h0
    have hx := curve_of h1 h.len
    have hy := curve_of h2 (by rw [← h3]; exact h.len : ys.length = n)
    obtain rfl : n = m := by rw [← h.len, ← g.len]; exact h3
    exact (bound_Back_ok h g hx hy h0).mono fun e w' ⟨he, hb⟩ => ⟨⟨_, by rw [h0]; exact he, fun _ => rfl⟩, hb⟩
  · exact (bound_Back_bad' h g rfl h0).mono fun e w' ⟨he, hb⟩ => ⟨⟨_, he, fun h => absurd h h0⟩, hb⟩theorem fun2_conv (xs ys : List Int) : Fun2 14 xs ys (bothErr xs ys) (convL xs ys) :=
  ⟨fun args w => by simp [callFunc, Tryz.func14, Tryz.f14, go_sem], fun w p q n c m d h g => (conv_Of h g rfl).mono fun e w' ⟨p', n', c', L, er, he, ho, hb, hF⟩ => ⟨p', n', c', L, er, he, ho, hb, TFit.of hF⟩⟩
theorem fun2_deconv (xs ys : List Int) : Fun2 15 xs ys (bothErr xs ys) (dcvL xs ys) :=
  ⟨fun args w => by simp [callFunc, Tryz.func15, Tryz.f15, go_sem], fun w p q n c m d h g => (deconv_Of h g rfl).mono fun e w' ⟨p', n', c', L, er, he, ho, hb, hF⟩ => ⟨p', n', c', L, er, he, ho, hb, TFit.of hF⟩⟩
set_option maxHeartbeats 800000 in
theorem fun2_back (xs ys : List Int) : Fun2 55 xs ys (bothErr xs ys) [backV xs ys] := by
  refine ⟨fun args w => by simp [callFunc, Tryz.func55, Tryz.f55, go_sem], fun w p q n c m d h g => ?_⟩
  have HC := Lib.hid (dk_Back h g)
  obtain ⟨er, he⟩ : ∃ er, bothErr xs ys = er := ⟨_, rfl⟩
  have HT : Hid (∀ x, (er = 0 → x = backV xs ys) → TFit er [backV xs ys] [x] er) := Lib.hid (fun x hx => by
    by_cases h0 : er = 0
    · subst h0
      rw [hx rfl]
      exact .inr (.inr ⟨rfl, fits_one (back_bd he).2, rfl, rfl⟩)
    · exact .inl ⟨h0, rfl⟩)
  rw [he] at HC ⊢
  clear h g he
  go_enter Tryz.func55, Tryz.ntmps55
  go_wp2_with fail
  refine HC.out.mono ?_; rintro e w1 ⟨⟨x, rfl, hx⟩, b1⟩
  have HX := Lib.hid hx
  clear hx
  go_wp2
  go_ret2
  exact ⟨_, _, _, [x], er, rfl, (OwnI.lit1 w1 (B := w.heap.size) b1.size x), b1.alloc b1.size _, HT.out x HX.out⟩
end Go.Proofs.YtgbccpfehcjhbaaGreatDoor

/- Rows of elements of k cells: one cell of an element is stored; make. No program is in sight. No conditions. -/
namespace Go.Proofs.YtgbccpfehcjhbaaGreatDoor
open Go Go.RowKit

section
variable {α : Type} {enc : α → List Value} {k : Nat} {E : TypeId}
theorem fm_upd (hk : ∀ x, (enc x).length = k) {f : Nat} (hf : f < k) {v : Value} {x' : α} : ∀ (L : List α) (j : Nat) (hj : j < L.length), enc x' = (enc L[j]).set f v → (L.set j x').flatMap enc = (L.flatMap enc).set (j * k + f) v
  | [], j, hj, _ => by simp at hj
  | y :: r, 0, _, e => by
    simp only [List.getElem_cons_zero] at e
    rw [List.set_cons_zero, List.flatMap_cons, List.flatMap_cons, e, List.set_append_left _ _ (by rw [hk]; omega), Nat.zero_mul, Nat.zero_add]
  | y :: r, j + 1, hj, e => by
    have ih := fm_upd hk hf r j (by simpa using hj) (by simpa using e)
    have e2 : (j + 1) * k + f = k + (j * k + f) := by rw [Nat.add_mul]; omega
    rw [List.set_cons_succ, List.flatMap_cons, List.flatMap_cons, ih, List.set_append_right _ _ (by rw [hk, e2]; omega), hk, e2, Nat.add_sub_cancel_left]
theorem OwnR.upd [Inhabited α] {w : World} {B g n c j f : Nat} {L : List α} {v : Value} {x' : α} (hk : ∀ x, (enc x).length = k) (h : OwnR E enc k w B (some ⟨g, 0, none⟩) n c L) (hj : j < n) (hf : f < k) (e : enc x' = (enc (ge L j)).set f v) : OwnR E enc k (w.setCell ⟨g, j * k + f, none⟩ v) B (some ⟨g, 0, none⟩) n c (L.set j x') := by
  have hl : j < L.length := by rw [h.2]; exact hj
  refine ⟨?_, by simpa using h.2⟩
  rw [fm_upd hk hf L j hl (by rw [e, ge_get hl])]
  exact (h.1.stored (j * k + f) v).1
/-- 'make([]T, n)' -/
theorem wpL_make_R [Inhabited α] {P : Program} {w : World} {ops : Array Oper} {rest : List Oper} {o : Oper} {a : Act} {Q : Exit → Act → World → Prop} {t : TypeId} {z : Value} {by_ : Nat}
    (hT : SliceTy P t E z k by_) {z0 : α} (hz : z.cells = (enc z0).toArray) (hk : ∀ x, (enc x).length = k) (hk0 : 0 < k) (hk9 : k ≤ 100) (hby : by_ ≤ 100) (hg : o.guard = none) {l c : Operand} (hop : o.op = Op.makeSlice t l c) {B : Nat} {W0 : World} {kl kc : IntKind} {L C : Int} (n : Nat)
    (hl : a.eval l = .int kl L) (hc : a.eval c = .int kc C) (hL : L = (n : Int)) (hC : C = (n : Int)) (hbel : Below B W0 w) (hn : n ≤ 1000000) (hB : B ≤ w.heap.size)
    (hK : ∀ g w', w.heap.size ≤ g → OwnR E enc k w' B (.some ⟨g, 0, none⟩) n n (tab n fun _ => z0) → Below B W0 w' → Below w.heap.size w w' → wpList P ops Q rest (a.put o.dst (.slice (.some ⟨g, 0, none⟩) n n)) w') :
    wpList P ops Q (o :: rest) a w := by
  obtain ⟨i, hi, hz0, hz1, hz2⟩ := info_parts hT.info
  have h1 : n * by_ ≤ 1000000 * 100 := Nat.mul_le_mul hn hby
  have h2 : n * k ≤ 1000000 * 100 := Nat.mul_le_mul hn hk9
  refine wpList_make_full w hg l c t hop B E i z k hT.under hi hz0 hz1 kl kc L C n hl hc hL hC (by rw [hz2]; first | omega | (rw [Nat.mul_comm]; omega)) (by unfold maxLen; first | omega | (rw [Nat.mul_comm]; omega)) hB ?_
  intro w' h1 h2
  have e : (madeCells z.cells (n * k)).toList = (tab n fun _ => z0).flatMap enc := by
    have hlen : (enc z0).length = k := hk z0
    apply List.ext_getElem?
    intro q
    by_cases hq : q < n * k
    · have hqk : q / k < n := (Nat.div_lt_iff_lt_mul hk0).2 hq
      have hqm : q % k < k := Nat.mod_lt _ hk0
      have eq : q / k * k + q % k = q := by rw [Nat.mul_comm]; exact Nat.div_add_mod q k
      have h3 := fm_get hk (tab n fun _ => z0) (q / k) (q % k) (by rw [tab_length]; exact hqk) hqm
      rw [eq] at h3
      rw [h3, hz]
      have h4 : (tab n fun _ => z0)[q / k]'(by rw [tab_length]; exact hqk) = z0 := by simp [tab]
      rw [h4]
      simp [madeCells, hq, hlen, hqm]
    · rw [List.getElem?_eq_none (by simp [madeCells]; omega), List.getElem?_eq_none (by rw [fm_len hk, tab_length]; omega)]
  rw [e] at h1
  exact hK _ w' (Nat.le_refl _) ⟨h1, by rw [tab_length]⟩ (hbel.grown h2 hB fun k hk => by cases hk) ((Below.refl _ _).grown h2 (Nat.le_refl _) fun k hk => by cases hk)
end
end Go.Proofs.YtgbccpfehcjhbaaGreatDoor

/- The contracts of slices.IndexFunc and slices.ContainsFunc at []int, over a function. Conditions: what that function answers. -/
namespace Go.Proofs.YtgbccpfehcjhbaaGreatDoor
open Go Go.RowKit

/-- the first place where a test holds, or the end -/
def FirstP (pr : Nat → Bool) (n i : Nat) : Prop := i ≤ n ∧ (∀ j, j < i → pr j = false) ∧ (i < n → pr i = true)
theorem firstP_exists (pr : Nat → Bool) : ∀ n, ∃ i, FirstP pr n i
  | 0 => ⟨0, by omega, fun j hj => by omega, fun h => by omega⟩
  | n + 1 => by
    obtain ⟨i, h1, h2, h3⟩ := firstP_exists pr n
    by_cases h : i < n
    · exact ⟨i, by omega, h2, fun _ => h3 h⟩
    · obtain rfl : i = n := by omega
      cases e : pr i with
      | false => exact ⟨i + 1, by omega, fun j hj => by rcases Nat.lt_succ_iff_lt_or_eq.1 hj with h' | rfl; exact h2 j h'; exact e, fun h => by omega⟩
      | true => exact ⟨i, by omega, h2, fun _ => e⟩
theorem firstP_one {pr : Nat → Bool} {n i k : Nat} (h : FirstP pr n i) (g : FirstP pr n k) : i = k := by
  rcases Nat.lt_trichotomy i k with e | e | e
  · have := g.2.1 i e; rw [h.2.2 (by have := g.1; omega)] at this; cases this
  · exact e
  · have := h.2.1 k e; rw [g.2.2 (by have := h.1; omega)] at this; cases this

set_option maxHeartbeats 400000 in
theorem slices_IndexFunc {w : World} {p : Option Addr} {n c : Nat} {xs : List Int} (h : SI w p n c xs) {F : Nat} {cap : Array Value} {pr : Nat → Bool} {i : Nat} (hi : FirstP pr n i)
    (hF : ∀ (args : Array Value) (w : World), (callFunc F args).run Tryz.prog w = .ok (.enter F args) w)
    (hcall : ∀ (w' : World) (k : Nat), k < n → Below w.heap.size w w' → Calls Tryz.prog F (#[.int .i64 (gi xs k)] ++ cap) w' fun e w'' => e = .returned (.bool (pr k)) ∧ Below w.heap.size w w'') :
    Calls Tryz.prog 132 #[.slice p n c, .func (.func F) #[] cap] w fun e w' => e = .returned (.int .i64 (if i < n then i else -1)) ∧ Below w.heap.size w w' := by
  have hm := h.2.1
  obtain ⟨h1, h2, h3⟩ := hi
  have HC := Lib.hid hcall; have H2 := Lib.hid h2; have H3 := Lib.hid h3; clear hcall h2 h3
  go_enter Tryz.func132, Tryz.ntmps132
  go_wp2
  go_loopw [8] (fun v wr => ∃ k : Nat, k ≤ i ∧ v = .int .i64 k ∧ Below w.heap.size w wr) (fun v _ => n - (intOf v).toNat)
  case atStart => exact ⟨0, by omega, rfl, Below.refl _ _⟩
  case round =>
    obtain ⟨k, hk, rfl, hb⟩ := hrel
    by_cases hkn : k < n
    · obtain ⟨b, off, rfl, hlt, hc⟩ := h.cells (by omega)
      have hcell : wr.cell? ⟨b, off + k, none⟩ = some (.int .i64 (gi xs k)) := (bdeep hb hlt _).trans (hc k hkn)
      clear hc h
      by_cases hki : k < i
      · go_wp2_with fail
        refine (HC.out _ k hkn hb).mono ?_; rintro e w1 ⟨rfl, hb1⟩
        rw [H2.out k hki]
        go_wp2
        go_roundw
        case rel => exact ⟨k + 1, by omega, by go_num, hb1⟩
        case measure => simp [intOf]; omega
      · obtain rfl : i = k := by omega
        go_wp2_with fail
        refine (HC.out _ i hkn hb).mono ?_; rintro e w1 ⟨rfl, hb1⟩
        rw [H3.out hkn]
        go_wp2
        go_ret
        exact ⟨ret_int (by first | rfl | rw [if_pos hkn]), hb1⟩
    · obtain rfl : i = k := by omega
      go_wp2
      go_ret
      exact ⟨ret_int (by first | rfl | rw [if_neg hkn]), hb⟩

end Go.Proofs.YtgbccpfehcjhbaaGreatDoor

/- What a world does (P72 to P76), in plain Lean. No program is in sight. No conditions beyond what each theorem says. -/
namespace Go.Proofs.YtgbccpfehcjhbaaGreatDoor
open Go Go.RowKit
set_option linter.unusedVariables false

abbrev Peer := Int × Int × Bool
def encP (x : Peer) : List Value := [.int .i64 x.1, .int .i64 x.2.1, .bool x.2.2]
theorem encP_len (x : Peer) : (encP x).length = 3 := rfl
theorem encP_oneC (x : Peer) : ∀ u ∈ encP x, u.oneCell' = true := by
  intro u hu
  simp only [encP, List.mem_cons, List.not_mem_nil, or_false] at hu
  rcases hu with rfl | rfl | rfl <;> rfl
def pl (L : List Peer) (k : Nat) : Int := (ge L k).1
def pp (L : List Peer) (k : Nat) : Int := (ge L k).2.1
def pd (L : List Peer) (k : Nat) : Bool := (ge L k).2.2

def fstP (pr : Nat → Bool) : Nat → Nat
  | 0 => 0
  | n + 1 => if fstP pr n < n then fstP pr n else if pr n then n else n + 1
theorem fstP_is (pr : Nat → Bool) : ∀ n, FirstP pr n (fstP pr n)
  | 0 => ⟨Nat.le_refl _, fun j hj => by simp [fstP] at hj, fun h => by simp at h⟩
  | n + 1 => by
    obtain ⟨h1, h2, h3⟩ := fstP_is pr n
    unfold fstP
    by_cases h : fstP pr n < n
    · rw [if_pos h]; exact ⟨by omega, h2, fun _ => h3 h⟩
    · rw [if_neg h]
      have e0 : fstP pr n = n := by omega
      rw [e0] at h2
      cases e : pr n with
      | true => simp only [if_true]; exact ⟨by omega, h2, fun _ => e⟩
      | false => rw [if_neg (by simp)]; exact ⟨by omega, fun j hj => by rcases Nat.lt_succ_iff_lt_or_eq.1 hj with h' | rfl; exact h2 j h'; exact e, fun h => by omega⟩
theorem fstP_one {pr : Nat → Bool} {n i : Nat} (h : FirstP pr n i) : fstP pr n = i := firstP_one (fstP_is pr n) h

/-- how far from the turn the next peer is that lags; the number of peers where none does -/
def nx (L : List Peer) (t : Nat) : Nat := fstP (fun k => !pd L ((t + k) % L.length)) L.length
/-- one byte to a peer -/
def putW (u : Int) (x : Peer) : Peer := if x.2.1 + 1 = u ∨ x.2.1 + 1 = x.1 then (x.1 - (x.2.1 + 1), 0, decide (x.1 - (x.2.1 + 1) = 0)) else (x.1, x.2.1 + 1, x.2.2)
def who (s : List Peer × Nat) : Nat := (s.2 + nx s.1 s.2) % s.1.length
/-- one byte -/
def stepW (u : Int) (s : List Peer × Nat) : List Peer × Nat :=
  if nx s.1 s.2 < s.1.length then (s.1.set (who s) (putW u (ge s.1 (who s))), (who s + 1) % s.1.length) else s
def runW (u : Int) (s : List Peer × Nat) : Nat → List Peer × Nat
  | 0 => s
  | k + 1 => stepW u (runW u s k)
def stuckW (s : List Peer × Nat) : Bool := decide (nx s.1 s.2 = s.1.length)
/-- what Tick returns -/
def tickR (u : Int) (s : List Peer × Nat) (rate : Nat) : Nat := fstP (fun m => stuckW (runW u s m)) rate

theorem nx_le (L : List Peer) (t : Nat) : nx L t ≤ L.length := (fstP_is _ _).1
theorem nx_at {L : List Peer} {t : Nat} (h : nx L t < L.length) : pd L ((t + nx L t) % L.length) = false := by
  have h1 : (!pd L ((t + nx L t) % L.length)) = true := (fstP_is (fun k => !pd L ((t + k) % L.length)) L.length).2.2 h
  simpa using h1
theorem nx_before {L : List Peer} {t k : Nat} (h : k < nx L t) : pd L ((t + k) % L.length) = true := by
  have := (fstP_is (fun k => !pd L ((t + k) % L.length)) L.length).2.1 k h
  simpa using this
theorem who_lt {s : List Peer × Nat} (h : 0 < s.1.length) : who s < s.1.length := Nat.mod_lt _ h
theorem stepW_stuck {u : Int} {s : List Peer × Nat} (h : stuckW s = true) : stepW u s = s := by
  unfold stuckW at h
  unfold stepW
  rw [if_neg (by have := of_decide_eq_true h; omega)]
theorem runW_stuck {u : Int} {s : List Peer × Nat} {m : Nat} (h : stuckW (runW u s m) = true) : ∀ j, runW u s (m + j) = runW u s m
  | 0 => rfl
  | j + 1 => by
    show stepW u (runW u s (m + j)) = _
    rw [runW_stuck h j, stepW_stuck h]
theorem stepW_len {u : Int} {s : List Peer × Nat} : (stepW u s).1.length = s.1.length := by
  unfold stepW; split <;> simp
theorem runW_len {u : Int} {s : List Peer × Nat} : ∀ k, (runW u s k).1.length = s.1.length
  | 0 => rfl
  | k + 1 => by show (stepW u (runW u s k)).1.length = _; rw [stepW_len, runW_len k]
theorem stepW_turn {u : Int} {s : List Peer × Nat} (h : s.2 < s.1.length) : (stepW u s).2 < (stepW u s).1.length := by
  rw [stepW_len]
  unfold stepW
  split
  · exact Nat.mod_lt _ (by omega)
  · exact h
theorem runW_turn {u : Int} {s : List Peer × Nat} (h : s.2 < s.1.length) : ∀ k, (runW u s k).2 < (runW u s k).1.length
  | 0 => h
  | k + 1 => stepW_turn (runW_turn h k)

/-- what holds of a peer -/
def GoodP (x : Peer) : Prop := 0 ≤ x.2.1 ∧ (x.2.1 < x.1 ∨ (x.1 = 0 ∧ x.2.1 = 0)) ∧ x.2.2 = decide (x.1 = 0) ∧ x.1 ≤ 1000000
def GoodL (L : List Peer) : Prop := ∀ k, k < L.length → GoodP (ge L k)
theorem GoodL.set {L : List Peer} {i : Nat} {x : Peer} (h : GoodL L) (hx : GoodP x) : GoodL (L.set i x) := by
  intro k hk
  rw [List.length_set] at hk
  by_cases hi : i < L.length
  · rw [ge_set k hi]
    by_cases e : k = i
    · rw [if_pos e]; exact hx
    · rw [if_neg e]; exact h k hk
  · rw [List.set_eq_of_length_le (by omega)]; exact h k hk
theorem putW_good {u : Int} {x : Peer} (h : GoodP x) (hd : x.2.2 = false) : GoodP (putW u x) := by
  obtain ⟨a, p, d⟩ := x
  obtain ⟨h1, h2, h3, h4⟩ := h
  simp only at h1 h2 h3 h4 hd
  rw [hd] at h3
  have h5 : ¬ a = 0 := of_decide_eq_false h3.symm
  unfold putW
  by_cases h : p + 1 = u ∨ p + 1 = a
  · rw [if_pos h]
    refine ⟨Int.le_refl _, ?_, rfl, ?_⟩
    · show 0 < a - (p + 1) ∨ (a - (p + 1) = 0 ∧ (0 : Int) = 0)
      omega
    · show a - (p + 1) ≤ 1000000
      omega
  · rw [if_neg h]
    refine ⟨?_, ?_, ?_, ?_⟩
    · show 0 ≤ p + 1
      omega
    · show p + 1 < a ∨ (a = 0 ∧ p + 1 = 0)
      omega
    · show d = decide (a = 0)
      rw [hd, h3]
    · exact h4
theorem stepW_good {u : Int} {s : List Peer × Nat} (h : GoodL s.1) : GoodL (stepW u s).1 := by
  unfold stepW
  by_cases h2 : nx s.1 s.2 < s.1.length
  · rw [if_pos h2]
    exact h.set (putW_good (h _ (who_lt (by omega))) (nx_at h2))
  · rw [if_neg h2]; exact h
theorem runW_good {u : Int} {s : List Peer × Nat} (h : GoodL s.1) : ∀ k, GoodL (runW u s k).1
  | 0 => h
  | k + 1 => stepW_good (runW_good h k)

/-- Append -/
def addP (a : Int) (x : Peer) : Peer := (x.1 + a, x.2.1, decide (x.1 + a = 0))
def appErr (L : List Peer) (a : Int) : Int := if a < 0 then 1 else if ∃ k, k < L.length ∧ 1000000 - pl L k < a then 2 else 0
def appL (L : List Peer) (a : Int) : List Peer := if appErr L a = 0 then tab L.length fun k => addP a (ge L k) else L
theorem appL_len (L : List Peer) (a : Int) : (appL L a).length = L.length := by
  unfold appL; split
  · exact tab_length _ _
  · rfl
theorem appL_good {L : List Peer} {a : Int} (h : GoodL L) : GoodL (appL L a) := by
  unfold appL
  by_cases h0 : appErr L a = 0
  · rw [if_pos h0]
    intro k hk
    rw [tab_length] at hk
    rw [ge_tab hk]
    unfold appErr at h0
    split at h0
    · omega
    · split at h0
      · omega
      · rename_i h1 h2
        obtain ⟨g1, g2, g3, g4⟩ := h k hk
        have h5 : ¬ 1000000 - pl L k < a := fun h => h2 ⟨k, hk, h⟩
        unfold pl at h5
        refine ⟨g1, ?_, rfl, ?_⟩ <;> simp only [addP] <;> omega
  · rw [if_neg h0]; exact h
/-- Crash -/
def crErr (L : List Peer) (i : Int) : Int := if i < 0 ∨ (L.length : Int) ≤ i then 1 else 0
def crL (L : List Peer) (i : Int) : List Peer := if i < 0 ∨ (L.length : Int) ≤ i then L else L.set i.toNat (pl L i.toNat, 0, pd L i.toNat)
theorem crL_len (L : List Peer) (i : Int) : (crL L i).length = L.length := by
  unfold crL; split
  · rfl
  · simp
theorem crL_good {L : List Peer} {i : Int} (h : GoodL L) : GoodL (crL L i) := by
  unfold crL
  by_cases h0 : i < 0 ∨ (L.length : Int) ≤ i
  · rw [if_pos h0]; exact h
  · rw [if_neg h0]
    obtain ⟨g1, g2, g3, g4⟩ := h i.toNat (by omega)
    refine h.set ⟨Int.le_refl _, ?_, g3, g4⟩
    show 0 < pl L i.toNat ∨ (pl L i.toNat = 0 ∧ (0 : Int) = 0)
    unfold pl
    omega
end Go.Proofs.YtgbccpfehcjhbaaGreatDoor
