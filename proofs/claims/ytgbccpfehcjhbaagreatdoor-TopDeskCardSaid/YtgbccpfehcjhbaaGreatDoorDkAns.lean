/- One line answered: (*desk).answer (P77). Conditions: what the line is read as. -/
import Derived.Test.YtgbccpfehcjhbaaGreatDoorDkRead
import Derived.Defers
import Derived.Recover
namespace Go.Proofs.YtgbccpfehcjhbaaGreatDoor
open Go Go.RowKit
set_option linter.unusedVariables false
set_option linter.unusedSimpArgs false

def IdleEnd (w : World) (e : Exit) (a : Act) (w' : World) : Prop := e = .normal ∧ a.defers = [] ∧ w' = w
def FaultEnd (w : World) (bo : Nat) (t : Bytes) (e : Exit) (a : Act) (w' : World) : Prop := e = .normal ∧ a.defers = [] ∧ w'.cell? ⟨bo, 0, none⟩ = some (.string (str t)) ∧ Chg (fun x => x = bo) w w'
theorem wpS_via {P : Program} {c : Code} {a : Act} {cs : List Frame} {w : World} {Q : Exit → Act → List Frame → World → Prop} (R : Exit → Act → World → Prop) (h : c.wp P R a w) (hR : ∀ e a' w', R e a' w' → Q e a' cs w') : c.wpS P Q a cs w :=
  wpS_of_wp (wp_mono h hR)
set_option maxRecDepth 100000 in
set_option maxHeartbeats 800000 in
theorem catch_idle {w : World} {bo : Nat} :
    CallsD Tryz.prog 37 #[.pointer (some ⟨bo, 0, none⟩)] .returning w fun e u' w' => e = .returned (.tuple #[]) ∧ u' = .returning ∧ w' = w := by
  refine callsD_of_wpS Tryz.func37 rfl fun c₀ cs hu => ?_
  apply wpS_seq
  apply wpS_region
  simp [wpOpsS, go_sem, recoverD, hu, Tryz.ntmps37, Exit.thenS]
  refine wpS_via (IdleEnd w) ?_ (fun e a' w' h => ?_)
  · change Code.wp _ _ _ ⟨#[.pointer (some ⟨bo, 0, none⟩), .nilIface, undef, undef, .nilIface, undef, undef, undef, undef, undef, undef, undef, undef, undef, undef, undef, undef, undef, undef], []⟩ w
    go_wp2
    exact ⟨rfl, rfl, rfl⟩
  · obtain ⟨rfl, hd, rfl⟩ := h
    cases c₀
    simp_all [bodyPostS, results, Tryz.results37]
set_option maxRecDepth 100000 in
set_option maxHeartbeats 800000 in
theorem catch_fault {w : World} (LD : Laid w) {bo : Nat} {c : Int} {z : Value} (hc : 0 ≤ c ∧ c ≤ 1000) {older : List PanicEntry} (hbo : w.heap[bo]? = some (.cells #[z] 9 (0, 0))) :
    CallsD Tryz.prog 37 #[.pointer (some ⟨bo, 0, none⟩)] (.panicking ({ v := .iface 87 (.agg #[.int .i64 c]), recovered := false } :: older)) w fun e u' w' =>
      e = .returned (.tuple #[]) ∧ u' = .panicking ({ v := .iface 87 (.agg #[.int .i64 c]), recovered := true } :: older) ∧ w'.cell? ⟨bo, 0, none⟩ = some (.string (str ([101, 114, 114, 111, 114, 32] ++ Lib.itoa c))) ∧ Chg (fun x => x = bo) w w' := by
  refine callsD_of_wpS Tryz.func37 rfl fun c₀ cs hu => ?_
  apply wpS_seq
  apply wpS_region
  simp [wpOpsS, go_sem, recoverD, hu, Tryz.ntmps37, Exit.thenS]
  refine wpS_via (FaultEnd w bo ([101, 114, 114, 111, 114, 32] ++ Lib.itoa c)) ?_ (fun e a' w' h => ?_)
  · change Code.wp _ _ _ ⟨#[.pointer (some ⟨bo, 0, none⟩), .iface 87 (.agg #[.int .i64 c]), undef, undef, .iface 87 (.agg #[.int .i64 c]), undef, undef, undef, undef, undef, undef, undef, undef, undef, undef, undef, undef, undef, undef], []⟩ w
    have hta : ∀ (v : Value) (w : World), (Instr.typeAssert (.iface 87 v) 20 87 true).run Tryz.prog w = .ok (.tuple #[v, .bool true]) w := fun _ _ => rfl
    have hb1 := Lib.hid ((Below.refl w.heap.size w).alloc (Nat.le_refl _) (.cells #[.int .i64 c] 87))
    have hbl := (Array.getElem?_eq_some_iff.1 hbo).1
    have hil := itoa_len (n := c) (by omega) (by omega)
    rw [← str_size] at hil
    have HT : Hid (str (101 :: 114 :: 114 :: 111 :: 114 :: 32 :: Lib.itoa c) = ⟨#[101, 114, 114, 111, 114, 32]⟩ ++ str (Lib.itoa c)) := Lib.hid rfl
    go_wp2_with fail
    refine (dk_Itoa (LD.below hb1.out) (n := c) (by omega) (by omega)).mono ?_; rintro e w2 ⟨rfl, b2⟩
    have hb2 := hb1.out.trans (b2.mono hb1.out.size)
    have hk := (hb2.block bo hbl).trans hbo
    have c0 : w2.cell? ⟨bo, 0, none⟩ = some z := blk_cell hk 0
    have f0 : w2.frozen? ⟨bo, 0, none⟩ = false := blk_free hk 0
    have hlt2 : bo < w2.heap.size := (Array.getElem?_eq_some_iff.1 hk).1
    have HK := Lib.hid hk
    generalize str (Lib.itoa c) = T at *
    clear hk hbo
    go_wp2
    refine ⟨rfl, rfl, ?_, (Chg.of hb2).set _ (.inr rfl)⟩
    change _ = some (Value.string (str (101 :: 114 :: 114 :: 111 :: 114 :: 32 :: Lib.itoa c)))
    rw [HT.out]
    have h9 := blk_set (j := 0) (v := .string (⟨#[101, 114, 114, 111, 114, 32]⟩ ++ T)) HK.out
    exact blk_cell (by simpa using h9) 0
  · obtain ⟨rfl, hd, hw, hch⟩ := h
    simp [bodyPostS, results, Tryz.results37, hd, hw, hch, go_sem]
end Go.Proofs.YtgbccpfehcjhbaaGreatDoor
