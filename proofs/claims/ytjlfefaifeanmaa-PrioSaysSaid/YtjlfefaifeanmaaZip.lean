/- The contract of headref.Zip, over a function of two numbers that only reckons. Conditions: what that function answers. -/
import Derived.Test.YtjlfefaifeanmaaDeconv
import Derived.Deep.RegionLaw
import Derived.BigRegion
namespace Go.Proofs.Ytjlfefaifeanmaa
open Go Go.RowKit

set_option maxHeartbeats 1000000 in
theorem ref_Zip {w : World} {p q : Option Addr} {n c d : Nat} {xs ys : List Int} (h : SI w p n c xs) (g : SI w q n d ys) (hn : n ≤ 1000) {F : Nat} {op : Int → Int → Int}
    (hF : ∀ (args : Array Value) (w : World), (callFunc F args).run Try.prog w = .ok (.enter F args) w)
    (hcall : ∀ (k : Nat) (w' : World), k < n → Calls Try.prog F #[.int .i64 (gi xs k), .int .i64 (gi ys k)] w' fun e w'' => e = .returned (.int .i64 (op (gi xs k) (gi ys k))) ∧ w' = w'') :
    Calls Try.prog 55 #[.slice p n c, .slice q n d, .func (.func F) #[] #[]] w (RetS w (tab n fun k => op (gi xs k) (gi ys k))) := by
  have hm := h.2.1
  have gm := g.2.1
  have HC := Lib.hid hcall; clear hcall
  go_enter Try.func55, Try.ntmps55
  go_wp2
  go_loopw [7, 11] (fun v i wr => ∃ (k : Nat) (p' : Option Addr) (c' : Nat), k ≤ n ∧ i = .int .i64 k ∧ v = .slice p' k c' ∧ OwnI wr w.heap.size p' k c' (tab k fun k => op (gi xs k) (gi ys k)) ∧ Below w.heap.size w wr) (fun _ i _ => n - (intOf i).toNat)
  case atStart => exact ⟨0, _, _, by omega, rfl, rfl, OwnI.nil _ _, Below.refl _ _⟩
  case round =>
    obtain ⟨k, p', c', hk, rfl, rfl, ho, hb⟩ := hrel
    have hsz := hb.size
    by_cases hkn : k < n
    · obtain ⟨b, off, rfl, hlt, hc⟩ := h.cells (by omega)
      obtain ⟨b', off', rfl, hlt', hc'⟩ := g.cells (by omega)
      have c1 : wr.cell? ⟨b, off + k, none⟩ = some (.int .i64 (gi xs k)) := (bdeep hb hlt _).trans (hc _ hkn)
      have c2 : wr.cell? ⟨b', off' + k, none⟩ = some (.int .i64 (gi ys k)) := (bdeep hb hlt' _).trans (hc' _ hkn)
      have HK := HC.out k
      have hcl : Hid (∀ w', Calls Try.prog F #[.int .i64 (gi xs k), .int .i64 (gi ys k)] w' fun e w'' => e = .returned (.int .i64 (op (gi xs k) (gi ys k))) ∧ w' = w'') := Lib.hid fun w' => HK w' hkn
      clear hc hc' h g HC HK
      go_wp2
      go_region_law (first | (refine step_push_int Try.tyInts rfl rfl (B := w.heap.size) (W0 := w) rfl rfl (by exact ho.1.alloc _) (by exact (hb.alloc hsz _).drew) (by exact blk_new _ _ _) (by omega) (by simp; omega) ?_; intro p2 c2 w2 ho2 hb2) | (go_simp; refine (hcl.out _).mono ?_; rintro e w' ⟨rfl, rfl⟩))
      all_goals
        go_wp2
        go_roundw
        case rel => exact ⟨k + 1, _, _, by omega, by go_num, rfl, by rw [tab_succ]; exact ho2, hb2⟩
        case measure => simp [intOf]; omega
    · obtain rfl : n = k := by omega
      go_wp2
      go_ret
      exact ⟨_, _, _, rfl, ho, hb⟩
end Go.Proofs.Ytjlfefaifeanmaa
