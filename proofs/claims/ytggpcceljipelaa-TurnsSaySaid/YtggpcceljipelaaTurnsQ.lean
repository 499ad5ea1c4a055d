/- The contract of one turn of a queue (package turns), over any function that is told. Conditions: what that function does. -/
import Derived.Test.YtggpcceljipelaaTurnsLaw
import Derived.Test.YtggpcceljipelaaRows
import Derived.Deep.QuietTactic
import Derived.BigQuiet
import Derived.RegionTactic
import Derived.BigRegion
import Derived.IntWalk
namespace Go.Proofs.Ytggpcceljipelaa
open Go Go.RowKit
set_option linter.unusedVariables false
set_option linter.unusedSimpArgs false

/-- a queue's box -/
def QAt (w : World) (g : Nat) (q : Int) (p : Option Addr) (n c at_ : Nat) (sh : Int) : Prop := w.heap[g]? = some (.cells #[.int .i64 q, .slice p n c, .int .i64 (at_ : Int), .int .i64 sh] 117 (0, 0))
theorem QAt.cells {w : World} {g : Nat} {q : Int} {p : Option Addr} {n c at_ : Nat} {sh : Int} (k : QAt w g q p n c at_ sh) :
    w.cell? ⟨g, 0, none⟩ = some (.int .i64 q) ∧ w.cell? ⟨g, 1, none⟩ = some (.slice p n c) ∧ w.cell? ⟨g, 2, none⟩ = some (.int .i64 (at_ : Int)) ∧ w.cell? ⟨g, 3, none⟩ = some (.int .i64 sh) ∧ w.frozen? ⟨g, 2, none⟩ = false ∧ w.frozen? ⟨g, 3, none⟩ = false ∧ g < w.heap.size :=
  ⟨blk_cell k 0, blk_cell k 1, blk_cell k 2, blk_cell k 3, blk_free k 2, blk_free k 3, (Array.getElem?_eq_some_iff.1 k).1⟩
theorem QAt.drewN {w : World} {g : Nat} {q : Int} {p : Option Addr} {n c at_ : Nat} {sh : Int} (k : QAt w g q p n c at_ sh) (s : Nat) : QAt (w.drewN s) g q p n c at_ sh := k
theorem QAt.sh {w : World} {g : Nat} {q : Int} {p : Option Addr} {n c at_ : Nat} {sh : Int} (k : QAt w g q p n c at_ sh) (v : Int) : QAt (w.setCell ⟨g, 3, none⟩ (.int .i64 v)) g q p n c at_ v := by
  have := blk_set (j := 3) (v := .int .i64 v) k
  simpa [QAt] using this
theorem QAt.at {w : World} {g : Nat} {q : Int} {p : Option Addr} {n c at_ : Nat} {sh : Int} (k : QAt w g q p n c at_ sh) (v : Nat) : QAt (w.setCell ⟨g, 2, none⟩ (.int .i64 (v : Int))) g q p n c v sh := by
  have := blk_set (j := 2) (v := .int .i64 (v : Int)) k
  simpa [QAt] using this
theorem QSt.full2 {b q : Int} {xs : List Int} {n : Nat} {sh' : Int} (e : xs.length = n) (h : IsC b xs n) (hq : 0 ≤ q) : QSt (b + q) xs n sh' := by
  subst e; exact ⟨⟨Nat.le_refl _, by have := h.2.1; omega, fun h0 => absurd h0 (Nat.lt_irrefl _)⟩, fun h0 => absurd h0 (Nat.lt_irrefl _)⟩
theorem QSt.ofC {b : Int} {xs : List Int} {n : Nat} {sh' : Int} (e : xs.length = n) (h : IsC b xs n) : QSt b xs n sh' := by
  subst e; exact ⟨h, fun h0 => absurd h0 (Nat.lt_irrefl _)⟩
/-- what is told: R j holds when all below j were told -/
structure Told (g : Nat) (q : Int) (p : Option Addr) (n c : Nat) (xs : List Int) (F : Nat) (cap : Array Value) (R : Nat → World → Prop) : Prop where
  si : ∀ j w, R j w → SI w p n c xs ∧ (0 < n → ∀ b, p = some b → b.block ≠ g)
  draw : ∀ j w s, R j w → R j (w.drewN s)
  set : ∀ j w f v, R j w → R j (w.setCell ⟨g, f, none⟩ v)
  call : ∀ j w at_ sh, j < n → R j w → QAt w g q p n c at_ sh → Calls Try.prog F (#[.int .i64 (j : Int)] ++ cap) w fun e w' => e = .returned (.tuple #[]) ∧ R (j + 1) w' ∧ QAt w' g q p n c at_ sh

set_option maxRecDepth 100000 in
set_option maxHeartbeats 1600000 in
theorem queue_turn {w : World} {g F : Nat} {q sh b : Int} {p : Option Addr} {n c at_ : Nat} {xs : List Int} {cap : Array Value} {R : Nat → World → Prop} (hF : ∀ (args : Array Value) (w : World), (callFunc F args).run Try.prog w = .ok (.enter F args) w) (hT : Told g q p n c xs F cap R)
    (hQ : QAt w g q p n c at_ sh) (hR : R at_ w) (hok : OkSz xs) (hq : 1 ≤ q ∧ q ≤ 1000) (hS : QSt b xs at_ sh) (hb : 0 ≤ b) :
    Calls Try.prog 81 #[.pointer (some ⟨g, 0, none⟩), .func (.func F) #[] cap] w fun e w' => e = .returned (.tuple #[]) ∧ ∃ at' sh', QAt w' g q p n c at' sh' ∧ R at' w' ∧ QSt (b + q) xs at' sh' := by
  have hsi := (hT.si _ _ hR).1
  have hl := hsi.len
  have hm := hsi.2.1
  have h60 := hok.1
  rw [hl] at h60
  have HT := Lib.hid hT; have HOK := Lib.hid hok; have HL := Lib.hid hl; have HS := Lib.hid hS
  have hatn : at_ ≤ n := by rw [← hl]; exact hS.1.1
  obtain ⟨c0, c1, c2, c3, f2, f3, hg⟩ := hQ.cells
  clear hT hok hl hS hsi
  go_enter Try.func81, Try.ntmps81
  by_cases hfull : at_ = n
  · subst hfull
    go_wp2
    go_quiet (fail)
    go_wp2
    try simp only [Exit.inBlock, Exit.then]
    refine bodyPost_ret (results_none rfl _ _ _) rfl ?_
    exact ⟨rfl, at_, sh, hQ.drewN _, HT.out.draw _ _ _ hR, QSt.full2 HL.out HS.out.1 (by omega)⟩
  · have hat : at_ < n := by omega
    have hbq : ((at_ : Int) == (n : Int)) = false := by simp; omega
    have hshb : 0 ≤ sh ∧ sh ≤ 1000 := by
      have h1 := HS.out.2 (by rw [HL.out]; exact hat)
      have h2 := HS.out.1.2.1
      have h3 := HS.out.1.2.2 (by rw [HL.out]; exact hat)
      have h4 := (HOK.out.2 at_ (by rw [HL.out]; exact hat)).2
      rw [pre] at h3
      omega
    go_wp2
    go_quiet (fail)
    go_wp2
    go_big_region
    go_wp2
    have k1 := (hQ.drewN (nq + 1)).sh (sh + q)
    have r1 := HT.out.set _ _ 3 (.int .i64 (sh + q)) (HT.out.draw _ _ (nq + 1) hR)
    have HI := Lib.hid (InT.start HS.out (by rw [HL.out]; exact hat) (show 0 ≤ q by omega))
    go_loopw [27] (fun pv wr => ∃ (k : Nat) (s : Int), k ≤ n ∧ 0 ≤ s ∧ s ≤ 2000 ∧ QAt wr g q p n c k s ∧ R k wr ∧ Hid (InT (b + q) xs at_ k s)) (fun _ wr => n - (intOf ((wr.cell? ⟨g, 2, none⟩).getD undef)).toNat)
    case atStart => exact ⟨at_, sh + q, by omega, by omega, by omega, k1, r1, HI⟩
    case round =>
      clear hQ hR c0 c1 c2 c3 f2 f3 hg k1 r1 HI hshb hfull
      obtain ⟨k, s, hkn, hs0, hs1, hQ, hR, HI⟩ := hrel
      obtain ⟨c0, c1, c2, c3, f2, f3, hg⟩ := hQ.cells
      obtain ⟨hsi, hpn⟩ := HT.out.si _ _ hR
      by_cases hk : k < n
      · obtain ⟨bb, off, rfl, hlt, hc⟩ := hsi.cells (by omega)
        have x0 := hc k hk
        have hne : bb ≠ g := hpn (by omega) _ rfl
        have hne2 : g ≠ bb := fun e => hne e.symm
        have hb0 := (HOK.out.2 k (by rw [HL.out]; exact hk))
        clear hc hsi hpn
        by_cases hle : gi xs k ≤ s
        · go_wp2
          go_quiet (fail)
          go_wp2
          go_big_region
          have HN := Lib.hid (InT.next HI.out (by rw [HL.out]; exact hk) hle)
          go_wp2_with fail
          refine (HT.out.call k _ k _ hk (HT.out.set _ _ 3 _ (HT.out.draw _ _ (nq + 1) hR)) ((hQ.drewN (nq + 1)).sh (s - gi xs k))).mono ?_; rintro e w3 ⟨rfl, r3, k3⟩
          have k4 := k3.at (k + 1)
          have r4 := HT.out.set _ _ 2 (.int .i64 ((k + 1 : Nat) : Int)) r3
          have HM := Lib.hid k4.cells.2.2.1
          have HM0 := Lib.hid c2
          rw [show ((k + 1 : Nat) : Int) = (k : Int) + 1 by omega] at k4 r4 HM
          clear hQ hR c0 c1 c2 c3 f2 f3 hg x0
          obtain ⟨c0, c1, c2, c3, f2, f3, hg⟩ := k3.cells
          go_wp2
          go_roundw
          case rel => exact ⟨k + 1, s - gi xs k, by omega, by omega, by omega, k4, r4, HN⟩
          case measure => rw [HM.out, HM0.out]; simp [intOf]; omega
        · have HD := Lib.hid (InT.done HI.out (fun _ => hle))
          have hkn2 : ((k : Int) == (n : Int)) = false := by simp; omega
          go_wp2
          go_quiet (fail)
          go_wp2
          go_quiet (fail)
          go_wp2
          go_end0
          exact ⟨rfl, k, s, (hQ.drewN _).drewN _, HT.out.draw _ _ _ (HT.out.draw _ _ _ hR), HD.out, fun _ => HI.out.2.2.2⟩
      · obtain rfl : n = k := by omega
        have HD := Lib.hid (InT.done HI.out (fun h => by rw [HL.out] at h; omega))
        go_wp2
        go_quiet (fail)
        go_wp2
        go_quiet (fail)
        go_wp2
        go_end0
        exact ⟨rfl, n, 0, (hQ.drewN _).sh 0, HT.out.set _ _ _ _ (HT.out.draw _ _ _ hR), QSt.ofC HL.out HD.out⟩
end Go.Proofs.Ytggpcceljipelaa
