/- Rows of tasks: an element is changed, slices.Clone and slices.Equal at []api.Task. No conditions beyond what each theorem says. -/
import Derived.Test.YtgnegemiiahkaaaRows
import Derived.Test.YtgnegemiiahkaaaRow3
import Derived.Test.YtgnegemiiahkaaaQuietB
import Derived.Laws.StructEq
import Derived.Lib.SliceRun
import Derived.Deep.QuietTactic
import Derived.BigQuiet
import Derived.RegionTactic
import Derived.BigRegion
namespace Go.Proofs.Ytgnegemiiahkaaa
open Go Go.RowKit
set_option linter.unusedVariables false
set_option linter.unusedSimpArgs false

theorem fm_set3 (x : Int × Int × Int) : ∀ (L : List (Int × Int × Int)) (j : Nat), j < L.length → (L.set j x).flatMap enc3 = (((L.flatMap enc3).set (j * 3) (.int .i64 x.1)).set (j * 3 + 1) (.int .i64 x.2.1)).set (j * 3 + 2) (.int .i64 x.2.2)
  | [], j, h => by simp at h
  | y :: r, 0, _ => by simp [enc3]
  | y :: r, j + 1, h => by
    have ih := fm_set3 x r j (by simpa using h)
    have e : (j + 1) * 3 = j * 3 + 3 := by omega
    rw [List.set_cons_succ, List.flatMap_cons, List.flatMap_cons, ih, e]
    show enc3 y ++ _ = _
    have s : ∀ (M : List Value) (k : Nat) (v : Value), (enc3 y ++ M).set (k + 3) v = enc3 y ++ M.set k v := fun M k v => by simp [enc3]
    rw [s, show j * 3 + 3 + 1 = (j * 3 + 1) + 3 by omega, s, show j * 3 + 3 + 2 = (j * 3 + 2) + 3 by omega, s]
/-- the three stores of an element -/
abbrev setEl (w : World) (g j : Nat) (x : Int × Int × Int) : World := ((w.setCell ⟨g, j * 3, none⟩ (.int .i64 x.1)).setCell ⟨g, j * 3 + 1, none⟩ (.int .i64 x.2.1)).setCell ⟨g, j * 3 + 2, none⟩ (.int .i64 x.2.2)
theorem OwnR.setEl {w : World} {E : TypeId} {B g n c j : Nat} {L : List (Int × Int × Int)} (h : OwnR E enc3 3 w B (some ⟨g, 0, none⟩) n c L) (hj : j < n) (x : Int × Int × Int) : OwnR E enc3 3 (Go.Proofs.Ytgnegemiiahkaaa.setEl w g j x) B (some ⟨g, 0, none⟩) n c (L.set j x) := by
  refine ⟨?_, by simpa using h.2⟩
  rw [fm_set3 x L j (by rw [h.2]; exact hj)]
  exact ((((h.1.stored (j * 3) (.int .i64 x.1)).1).stored (j * 3 + 1) (.int .i64 x.2.1)).1.stored (j * 3 + 2) (.int .i64 x.2.2)).1
theorem Try.tyTasks : SliceTy Try.prog 60 66 (.agg #[.int .i64 0, .int .i64 0, .int .i64 0]) 3 24 := ⟨Try.underlying60, by kernel_rfl⟩

set_option maxHeartbeats 400000 in
set_option maxRecDepth 100000 in
theorem clone_Task {w : World} {p : Option Addr} {n c : Nat} {xs : List (Int × Int × Int)} (h : S3 w p n c xs) (hn : n < 1000000) :
    Calls Try.prog 71 #[.slice p n c] w fun e w' => ∃ q d, e = .returned (.slice q n d) ∧ OwnR 66 enc3 3 w' w.heap.size q n d xs ∧ Below w.heap.size w w' := by
  have hm := h.2.1
  have hl := Lib.hid h.1
  have qT : ∀ (w : World) (a : Option Addr) (n c n' c' : Nat), (binOp .eql 60 (.slice a n c) (.slice none n' c')).run Try.prog w = .ok (.bool a.isNone) w := fun w a n c n' c' => Lib.run_eql_slice_nil w _ _ a n c n' c' Try.underlying60
  cases p with
  | none =>
    have h0 : n = 0 := by
      apply Classical.byContradiction
      intro h0
      obtain ⟨b, off, hp, _⟩ := h.cells (by omega)
      cases hp
    subst h0
    obtain rfl : xs = [] := List.eq_nil_of_length_eq_zero hl.out
    go_enter Try.func71, Try.ntmps71
    go_wp2
    go_ret
    exact ⟨_, _, rfl, OwnR.nil _ _, Below.refl _ _⟩
  | some a =>
    have ho : OwnR 66 enc3 3 (w.alloc (.cells #[] 66)) w.heap.size (some ⟨w.heap.size, 0, none⟩) 0 0 [] := ⟨World.ownsRow_lit w #[] 0 (Nat.le_refl _) (by unfold maxLen; omega) rfl, rfl⟩
    have hb := (Below.refl w.heap.size w).alloc (Nat.le_refl _) (.cells #[] 66)
    have h1 := (h.below hb).sr
    go_enter Try.func71, Try.ntmps71
    go_wp2_with (at_builtin; refine wpL_append_R Try.tyTasks rfl (by omega) (by omega) enc3_len enc3_one rfl rfl (B := w.heap.size) (W0 := w) (by first | rfl | simp [Act.eval]) (by first | rfl | simp [Act.eval]) ho h1 hb (by omega) (by simp) ?_; intro p' c' w3 ho1 hb3 hg1)
    go_ret
    rw [Nat.zero_add] at *
    exact ⟨_, _, rfl, by simpa using ho1, hb3⟩

theorem neq_Task (a b c : Int) (w : World) : (binOp .neq 66 (.agg #[.int .i64 a, .int .i64 b, .int .i64 c]) (.agg #[.int .i64 a, .int .i64 b, .int .i64 c])).run Try.prog w = .ok (.bool false) w := by
  have u3 := Try.underlying3
  have a3 := Try.isAgg3
  have z3 := Try.sizeOf3
  have hS : Try.prog.underlying 66 = some (.struct (Try.prog.fieldsOf 66)) := by kernel_rfl
  have hp : Try.prog.stoodInHeld 66 = false := by kernel_rfl
  rw [run_neq_struct, show (10000 : Nat) = 9999 + 1 from rfl, run_equalIn_agg w 9999 66 _ _ hS hp]
  simp only [Program.fieldsOf, Try.underlying66]
  go_simp
set_option maxHeartbeats 800000 in
theorem equal_Task {w : World} {p q : Option Addr} {n c d : Nat} {xs : List (Int × Int × Int)} (h : S3 w p n c xs) (g : S3 w q n d xs) :
    Calls Try.prog 35 #[.slice p n c, .slice q n d] w fun e w' => e = .returned (.bool true) ∧ Below w.heap.size w w' := by
  have hm := h.2.1
  have gm := g.2.1
  have hq := neq_Task
  go_enter Try.func35, Try.ntmps35
  go_wp2
  go_loopw [13] (fun i wr => ∃ k : Nat, k ≤ n ∧ i = .int .i64 k ∧ Below w.heap.size w wr) (fun i _ => n - (intOf i).toNat)
  case atStart => exact ⟨0, Nat.zero_le _, rfl, Below.refl _ _⟩
  case round =>
    obtain ⟨k, hk, rfl, hb⟩ := hrel
    by_cases hkn : k < n
    · obtain ⟨b, off, rfl, hlt, hc⟩ := h.cells (by omega)
      obtain ⟨b', off', rfl, hlt', hc'⟩ := g.cells (by omega)
      have c0 : wr.cell? ⟨b, off + k * 3, none⟩ = some (.int .i64 (t0 xs k)) := (bdeep hb hlt _).trans (hc k hkn).1
      have c1 : wr.cell? ⟨b, off + k * 3 + 1, none⟩ = some (.int .i64 (t1 xs k)) := (bdeep hb hlt _).trans (hc k hkn).2.1
      have c2 : wr.cell? ⟨b, off + k * 3 + 2, none⟩ = some (.int .i64 (t2 xs k)) := (bdeep hb hlt _).trans (hc k hkn).2.2
      have d0 : wr.cell? ⟨b', off' + k * 3, none⟩ = some (.int .i64 (t0 xs k)) := (bdeep hb hlt' _).trans (hc' k hkn).1
      have d1 : wr.cell? ⟨b', off' + k * 3 + 1, none⟩ = some (.int .i64 (t1 xs k)) := (bdeep hb hlt' _).trans (hc' k hkn).2.1
      have d2 : wr.cell? ⟨b', off' + k * 3 + 2, none⟩ = some (.int .i64 (t2 xs k)) := (bdeep hb hlt' _).trans (hc' k hkn).2.2
      have HB := Lib.hid hb
      clear hc hc' h g hb
      go_wp2
      go_quiet (fail)
      go_wp2
      go_roundw
      case rel => exact ⟨k + 1, by omega, by go_num, below_drewN HB.out _⟩
      case measure => simp [intOf]; omega
    · have hkk : n = k := by omega
      subst hkk
      go_wp2
      go_ret
      exact ⟨rfl, hb⟩
end Go.Proofs.Ytgnegemiiahkaaa
