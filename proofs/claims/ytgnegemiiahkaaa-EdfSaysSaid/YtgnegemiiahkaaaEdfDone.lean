/- The contract of headref.Done (P44). Conditions: that the jobs are right ones. -/
import Derived.Test.YtgnegemiiahkaaaEdfSort
import Derived.Test.YtgnegemiiahkaaaRepeat
namespace Go.Proofs.Ytgnegemiiahkaaa
open Go Go.RowKit
set_option linter.unusedVariables false
set_option linter.unusedSimpArgs false

set_option maxHeartbeats 1600000 in
theorem sort_stable0 {w : World} {q : Option Addr} {d bx : Nat} (hd : d ≤ 9223372036854775807) :
    Calls Try.prog 78 #[.slice q 0 d, .func (.func 79) #[] #[.pointer (some ⟨bx, 0, none⟩)]] w fun e w' => e = .returned (.tuple #[]) ∧ Below w.heap.size w w' := by
  have hins : ∀ W : World, Calls Try.prog 114 #[.slice q 0 d, .int .i64 0, .int .i64 0, .func (.func 79) #[] #[.pointer (some ⟨bx, 0, none⟩)]] W fun e w' => e = .returned (.tuple #[]) ∧ Below W.heap.size W w' := by
    intro W
    go_enter Try.func114, Try.ntmps114
    go_wp2
    go_loopw [8] (fun iv wr => iv = .int .i64 1 ∧ Below W.heap.size W wr) (fun _ _ => 0)
    case atStart => exact ⟨rfl, Below.refl _ _⟩
    case round =>
      obtain ⟨rfl, hb⟩ := hrel
      go_wp2
      go_end0
      exact ⟨rfl, hb⟩
  have HI := Lib.hid hins
  clear hins
  have hst : ∀ W : World, Calls Try.prog 93 #[.slice q 0 d, .int .i64 0, .func (.func 79) #[] #[.pointer (some ⟨bx, 0, none⟩)]] W fun e w' => e = .returned (.tuple #[]) ∧ Below W.heap.size W w' := by
    intro W
    go_enter Try.func93, Try.ntmps93
    go_wp2
    go_loopw [7, 8] (fun av bv wr => av = .int .i64 0 ∧ bv = .int .i64 20 ∧ Below W.heap.size W wr) (fun _ _ _ => 0)
    case atStart => exact ⟨rfl, rfl, Below.refl _ _⟩
    case round =>
      obtain ⟨rfl, rfl, hb⟩ := hrel
      go_wp2_with fail
      refine (HI.out _).mono ?_; rintro e w1 ⟨rfl, b1⟩
      have hb2 := hb.trans (b1.mono hb.size)
      clear hb b1
      go_wp2
      go_loopw [6] (fun bv wr => bv = .int .i64 20 ∧ Below W.heap.size W wr) (fun _ _ => 0)
      case atStart => exact ⟨rfl, hb2⟩
      case round =>
        clear hb2
        obtain ⟨rfl, hb⟩ := hrel
        go_wp2
        go_end0
        exact ⟨rfl, hb⟩
  have HS := Lib.hid hst
  clear hst
  go_enter Try.func78, Try.ntmps78
  go_wp2_with fail
  refine (HS.out _).mono ?_; rintro e w1 ⟨rfl, h1⟩
  go_wp2
  go_end0
  exact ⟨rfl, h1⟩
theorem OrderE.zero (D : Nat → Int) (e : Nat → Nat) : OrderE D e 0 := ⟨fun k hk => by omega, fun x hx => by omega, fun k hk => by omega⟩
theorem sort_any {w : World} {p q : Option Addr} {B n c d bx : Nat} {xs : List (Int × Int × Int)} (h : S3 w p n c xs) (hA : ∀ j, j < n → 0 ≤ t2 xs j ∧ t2 xs j ≤ 200) (hbx : w.cell? ⟨bx, 0, none⟩ = some (.slice p n c)) (hB : 0 < n → ∀ b, p = some b → b.block < B) (hB2 : bx < B) (hBw : B ≤ w.heap.size) (hn : n ≤ 12)
    (ho : OwnI w B q n d (tab n fun k => (k : Int))) :
    Calls Try.prog 78 #[.slice q n d, .func (.func 79) #[] #[.pointer (some ⟨bx, 0, none⟩)]] w fun e w' => e = .returned (.tuple #[]) ∧
      ∃ o, OrderE (t2 xs) o n ∧ OwnI w' B q n d (tab n fun k => (o k : Int)) ∧ Below B w w' := by
  by_cases h0 : 0 < n
  · obtain ⟨g, rfl⟩ := ho.addr h0
    exact sort_stable h hA hbx (hB h0) hB2 hBw hn h0 ho
  · obtain rfl : n = 0 := by omega
    refine (sort_stable0 ho.si.2.1.2).mono ?_
    rintro e w' ⟨he, hb⟩
    exact ⟨he, fun k => k, OrderE.zero _ _, ho.below hb, hb.mono hBw⟩

end Go.Proofs.Ytgnegemiiahkaaa
