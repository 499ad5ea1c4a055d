/- What the desk reads a line as: conv, deconv, back, append, tick, peers (P77). Conditions: the line is in its form. -/
import Derived.Test.YtgbccpfehcjhbaaGreatDoorDkFun
import Derived.Test.YtgbccpfehcjhbaaGreatDoorDkWorld
namespace Go.Proofs.YtgbccpfehcjhbaaGreatDoor
open Go Go.RowKit
set_option linter.unusedVariables false
set_option linter.unusedSimpArgs false

theorem read_pass {w : World} {bl k : Nat} {L : List ByteArray} {Pre : World → Prop} {P : World → Ending → World → Prop} {v : Value} {e : Ending} {w' : World} (h : ReadPost w bl L k Pre P e w') (he : e = .returned v) : ReadPost w bl L k Pre P (.returned v) w' := he ▸ h
set_option maxRecDepth 100000 in
set_option maxHeartbeats 1600000 in
theorem read_conv {w : World} (LD : Laid w) {bd bl k : Nat} {L : List ByteArray} (h : LineS w bl L k) (hk : k + 1 < L.length) (ok0 : numsOk (gsW L k)) (ok1 : numsOk (gsW L (k + 1))) (hz0 : (gsW L k).size ≤ 900000) (hz1 : (gsW L (k + 1)).size ≤ 900000) (hb : 8 ≤ bl) :
    Calls Tryz.prog 39 #[.pointer (some ⟨bd, 0, none⟩), .string ⟨#[99, 111, 110, 118]⟩, .pointer (some ⟨bl, 0, none⟩)] w (ReadPost w bl L (k + 2) (fun _ => True) fun w' => OutPost w' (fitOut (bothErr (numsL (gsW L k)) (numsL (gsW L (k + 1)))) (convL (numsL (gsW L k)) (numsL (gsW L (k + 1)))))) := by
  have HC := Lib.hid (dk_two LD h hk ok0 ok1 hz0 hz1 hb (fun2_conv _ _) (fun h1 h2 => tellable_conv h1 h2))
  clear LD h ok0 ok1
  go_enter Tryz.func39, Tryz.ntmps39
  go_wp2_with fail
  refine HC.out.mono ?_
  rintro e w1 hP
  obtain ⟨v, rfl, hP2⟩ := hP
  have HP := Lib.hid hP2
  clear hP2
  go_wp2
  go_ret
  exact ⟨v, rfl, HP.out⟩
set_option maxRecDepth 100000 in
set_option maxHeartbeats 1600000 in
theorem read_deconv {w : World} (LD : Laid w) {bd bl k : Nat} {L : List ByteArray} (h : LineS w bl L k) (hk : k + 1 < L.length) (ok0 : numsOk (gsW L k)) (ok1 : numsOk (gsW L (k + 1))) (hz0 : (gsW L k).size ≤ 900000) (hz1 : (gsW L (k + 1)).size ≤ 900000) (hb : 8 ≤ bl) :
    Calls Tryz.prog 39 #[.pointer (some ⟨bd, 0, none⟩), .string ⟨#[100, 101, 99, 111, 110, 118]⟩, .pointer (some ⟨bl, 0, none⟩)] w (ReadPost w bl L (k + 2) (fun _ => True) fun w' => OutPost w' (fitOut (bothErr (numsL (gsW L k)) (numsL (gsW L (k + 1)))) (dcvL (numsL (gsW L k)) (numsL (gsW L (k + 1)))))) := by
  have HC := Lib.hid (dk_two LD h hk ok0 ok1 hz0 hz1 hb (fun2_deconv _ _) (fun h1 h2 => tellable_deconv h1))
  clear LD h ok0 ok1
  go_enter Tryz.func39, Tryz.ntmps39
  go_wp2_with fail
  refine HC.out.mono ?_
  rintro e w1 hP
  obtain ⟨v, rfl, hP2⟩ := hP
  have HP := Lib.hid hP2
  clear hP2
  go_wp2
  go_ret
  exact ⟨v, rfl, HP.out⟩
set_option maxRecDepth 100000 in
set_option maxHeartbeats 1600000 in
theorem read_back {w : World} (LD : Laid w) {bd bl k : Nat} {L : List ByteArray} (h : LineS w bl L k) (hk : k + 1 < L.length) (ok0 : numsOk (gsW L k)) (ok1 : numsOk (gsW L (k + 1))) (hz0 : (gsW L k).size ≤ 900000) (hz1 : (gsW L (k + 1)).size ≤ 900000) (hb : 8 ≤ bl) :
    Calls Tryz.prog 39 #[.pointer (some ⟨bd, 0, none⟩), .string ⟨#[98, 97, 99, 107]⟩, .pointer (some ⟨bl, 0, none⟩)] w (ReadPost w bl L (k + 2) (fun _ => True) fun w' => OutPost w' (fitOut (bothErr (numsL (gsW L k)) (numsL (gsW L (k + 1)))) [backV (numsL (gsW L k)) (numsL (gsW L (k + 1)))])) := by
  have HC := Lib.hid (dk_two LD h hk ok0 ok1 hz0 hz1 hb (fun2_back _ _) (fun h1 h2 => tellable_one (by have := back_bd h1; omega)))
  clear LD h ok0 ok1
  go_enter Tryz.func39, Tryz.ntmps39
  go_wp2_with fail
  refine HC.out.mono ?_
  rintro e w1 hP
  obtain ⟨v, rfl, hP2⟩ := hP
  have HP := Lib.hid hP2
  clear hP2
  go_wp2
  go_ret
  exact ⟨v, rfl, HP.out⟩
theorem mf (fn : Fn) (first cap : Array Value) (w : World) : (Instr.makeFunc fn first cap).run Tryz.prog w = .ok (.func fn first cap) w := rfl
set_option maxRecDepth 100000 in
set_option maxHeartbeats 1600000 in
theorem change_append {w : World} (LD : Laid w) {bd g hh bl k : Nat} {s : DS} {L : List ByteArray} {v : Int} (h : LineS w bl L k) (hk : k < L.length) (hv : numW (gsW L k) = some v) (hb : 8 ≤ bl) :
    Calls Tryz.prog 72 #[.pointer (some ⟨bd, 0, none⟩), .string ⟨#[97, 112, 112, 101, 110, 100]⟩, .pointer (some ⟨bl, 0, none⟩)] w (ReadPost w bl L (k + 1) (fun w' => DeskAt w' bd g hh s) fun w' => DeskPost w' bd g hh (errOut (appErr s.L v) [111, 107]) { s with L := appL s.L v }) := by
  have hmf := mf
  have HX := Lib.hid ((Below.refl w.heap.size w).alloc (Nat.le_refl _) (.cells #[.pointer (some ⟨bd, 0, none⟩)] 51))
  have T0 := Lib.hid (blk_new w #[.pointer (some ⟨bd, 0, none⟩)] 51)
  have hlt := h.lt
  have HLD0 := Lib.hid (LD.below HX.out)
  have HC := Lib.hid (dk_num HLD0.out (h.below HX.out) hk hv hb)
  have HVB := Lib.hid (numW_lt hv)
  clear LD h hv
  go_enter Tryz.func72, Tryz.ntmps72
  go_wp2_with fail
  refine HC.out.mono ?_
  rintro e w1 ⟨rfl, l1, c1⟩
  have L1 := Lib.hid l1; have C1 := Lib.hid c1
  have hz1 := c1.size
  rw [World.size_alloc] at hz1
  have T1 : Hid (w1.heap[w.heap.size]? = some (.cells #[.pointer (some ⟨bd, 0, none⟩)] 51 (0, 0))) := Lib.hid ((c1.same w.heap.size (by simp) (by omega)).trans T0.out)
  clear l1 c1 HC
  go_wp2
  go_ret
  refine ⟨_, rfl, ⟨109, _, rfl, (fun args w => by simp [callFunc, Tryz.func109, Tryz.f109, go_sem]), fun w' hb' LD' D' => ?_⟩, ?_, ?_⟩
  · have hb1 := (Below.refl w1.heap.size w1).alloc (Nat.le_refl _) (.cells #[.int .i64 v] 3)
    exact dk_app LD' D' (((hb1.trans (hb'.mono hb1.size)).block _ (by omega)).trans T1.out) ((hb'.block _ (by simp)).trans (blk_new w1 #[.int .i64 v] 3)) HVB.out
  · exact L1.out.below ((Below.refl _ _).alloc (Nat.le_refl _) _)
  · exact ((Chg.of HX.out).trans C1.out).alloc _
set_option maxRecDepth 100000 in
set_option maxHeartbeats 1600000 in
theorem change_tick {w : World} {bd g hh bl k : Nat} {s : DS} {L : List ByteArray} (h : LineS w bl L k) :
    Calls Tryz.prog 72 #[.pointer (some ⟨bd, 0, none⟩), .string ⟨#[116, 105, 99, 107]⟩, .pointer (some ⟨bl, 0, none⟩)] w (ReadPost w bl L k (fun w' => DeskAt w' bd g hh s) fun w' => DeskPost w' bd g hh (.ok (okS [((tickR s.unit (s.L, s.turn) s.rate : Nat) : Int)])) { s with L := (runW s.unit (s.L, s.turn) s.rate).1, turn := (runW s.unit (s.L, s.turn) s.rate).2 }) := by
  have hmf := mf
  have HX := Lib.hid ((Below.refl w.heap.size w).alloc (Nat.le_refl _) (.cells #[.pointer (some ⟨bd, 0, none⟩)] 51))
  have T0 := Lib.hid (blk_new w #[.pointer (some ⟨bd, 0, none⟩)] 51)
  have H0 := Lib.hid (h.below HX.out)
  clear h
  go_enter Tryz.func72, Tryz.ntmps72
  go_wp2
  go_ret
  refine ⟨_, rfl, ⟨113, _, rfl, (fun args w => by simp [callFunc, Tryz.func113, Tryz.f113, go_sem]), fun w' hb' LD' D' => ?_⟩, H0.out, Chg.of HX.out⟩
  exact dk_tick LD' D' ((hb'.block _ (by simp)).trans T0.out)
set_option maxRecDepth 100000 in
set_option maxHeartbeats 1600000 in
theorem change_peers {w : World} {bd g hh bl k : Nat} {s : DS} {L : List ByteArray} (h : LineS w bl L k) :
    Calls Tryz.prog 72 #[.pointer (some ⟨bd, 0, none⟩), .string ⟨#[112, 101, 101, 114, 115]⟩, .pointer (some ⟨bl, 0, none⟩)] w (ReadPost w bl L k (fun w' => DeskAt w' bd g hh s) fun w' => OutPost w' (.ok (peersS s.L))) := by
  have hmf := mf
  have HX := Lib.hid ((Below.refl w.heap.size w).alloc (Nat.le_refl _) (.cells #[.pointer (some ⟨bd, 0, none⟩)] 51))
  have T0 := Lib.hid (blk_new w #[.pointer (some ⟨bd, 0, none⟩)] 51)
  have H0 := Lib.hid (h.below HX.out)
  clear h
  go_enter Tryz.func72, Tryz.ntmps72
  go_wp2
  go_ret
  refine ⟨_, rfl, ⟨115, _, rfl, (fun args w => by simp [callFunc, Tryz.func115, Tryz.f115, go_sem]), fun w' hb' LD' D' => ?_⟩, H0.out, Chg.of HX.out⟩
  exact dk_peers LD' D' ((hb'.block _ (by simp)).trans T0.out)
set_option maxRecDepth 100000 in
set_option maxHeartbeats 1600000 in
theorem read_append {w : World} (LD : Laid w) {bd g hh bl k : Nat} {s : DS} {L : List ByteArray} {v : Int} (h : LineS w bl L k) (hk : k < L.length) (hv : numW (gsW L k) = some v) (hb : 8 ≤ bl) :
    Calls Tryz.prog 39 #[.pointer (some ⟨bd, 0, none⟩), .string ⟨#[97, 112, 112, 101, 110, 100]⟩, .pointer (some ⟨bl, 0, none⟩)] w (ReadPost w bl L (k + 1) (fun w' => DeskAt w' bd g hh s) fun w' => DeskPost w' bd g hh (errOut (appErr s.L v) [111, 107]) { s with L := appL s.L v }) := by
  have HC := Lib.hid (change_append (bd := bd) (g := g) (hh := hh) (s := s) LD h hk hv hb)
  clear h
  go_enter Tryz.func39, Tryz.ntmps39
  go_wp2_with fail
  refine HC.out.mono ?_
  rintro e w1 hP
  obtain ⟨v, rfl, hP2⟩ := hP
  have HP := Lib.hid hP2
  clear hP2
  go_wp2
  go_ret
  exact ⟨v, rfl, HP.out⟩
set_option maxRecDepth 100000 in
set_option maxHeartbeats 1600000 in
theorem read_tick {w : World} {bd g hh bl k : Nat} {s : DS} {L : List ByteArray} (h : LineS w bl L k) :
    Calls Tryz.prog 39 #[.pointer (some ⟨bd, 0, none⟩), .string ⟨#[116, 105, 99, 107]⟩, .pointer (some ⟨bl, 0, none⟩)] w (ReadPost w bl L k (fun w' => DeskAt w' bd g hh s) fun w' => DeskPost w' bd g hh (.ok (okS [((tickR s.unit (s.L, s.turn) s.rate : Nat) : Int)])) { s with L := (runW s.unit (s.L, s.turn) s.rate).1, turn := (runW s.unit (s.L, s.turn) s.rate).2 }) := by
  have HC := Lib.hid (change_tick (bd := bd) (g := g) (hh := hh) (s := s) h)
  clear h
  go_enter Tryz.func39, Tryz.ntmps39
  go_wp2_with fail
  refine HC.out.mono ?_
  rintro e w1 hP
  obtain ⟨v, rfl, hP2⟩ := hP
  have HP := Lib.hid hP2
  clear hP2
  go_wp2
  go_ret
  exact ⟨v, rfl, HP.out⟩
set_option maxRecDepth 100000 in
set_option maxHeartbeats 1600000 in
theorem read_peers {w : World} {bd g hh bl k : Nat} {s : DS} {L : List ByteArray} (h : LineS w bl L k) :
    Calls Tryz.prog 39 #[.pointer (some ⟨bd, 0, none⟩), .string ⟨#[112, 101, 101, 114, 115]⟩, .pointer (some ⟨bl, 0, none⟩)] w (ReadPost w bl L k (fun w' => DeskAt w' bd g hh s) fun w' => OutPost w' (.ok (peersS s.L))) := by
  have HC := Lib.hid (change_peers (bd := bd) (g := g) (hh := hh) (s := s) h)
  clear h
  go_enter Tryz.func39, Tryz.ntmps39
  go_wp2_with fail
  refine HC.out.mono ?_
  rintro e w1 hP
  obtain ⟨v, rfl, hP2⟩ := hP
  have HP := Lib.hid hP2
  clear hP2
  go_wp2
  go_ret
  exact ⟨v, rfl, HP.out⟩
end Go.Proofs.YtgbccpfehcjhbaaGreatDoor
