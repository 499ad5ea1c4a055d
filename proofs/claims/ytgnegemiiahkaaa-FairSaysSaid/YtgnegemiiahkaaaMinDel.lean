/- slices.DeleteFunc and slices.MinFunc at []int, over functions that leave what was there. Conditions: what the handed function answers. -/
import Derived.Test.YtgnegemiiahkaaaFairLaw
import Derived.Test.YtgnegemiiahkaaaLeaseRow
import Derived.Test.YtgnegemiiahkaaaMapI
import Derived.Maps.AppendAt
namespace Go.Proofs.Ytgnegemiiahkaaa
open Go Go.RowKit
set_option linter.unusedVariables false
set_option linter.unusedSimpArgs false

structure KeptI (keep : Int → Bool) (L M : List Int) (i j : Nat) : Prop where
  len : M.length = L.length
  lt : i < j
  low : M.take i = (L.take j).filter keep
  high : ∀ t, j ≤ t → gi M t = gi L t
theorem filter_firstI {keep : Int → Bool} : ∀ (L : List Int), (∀ x ∈ L, keep x = true) → L.filter keep = L := fun L h => List.filter_eq_self.2 h
theorem keptI_start {keep : Int → Bool} {L : List Int} {i : Nat} (h1 : ∀ k, k < i → keep (gi L k) = true) (hi : i < L.length) (h2 : keep (gi L i) = false) : KeptI keep L L i (i + 1) := by
  refine ⟨rfl, by omega, ?_, fun t _ => rfl⟩
  rw [List.take_add_one, List.getElem?_eq_getElem hi, List.filter_append, filter_firstI (L.take i)]
  · rw [gi_get hi] at h2; simp [h2]
  · intro x hx
    obtain ⟨k, hk, rfl⟩ := List.getElem_of_mem hx
    rw [List.length_take] at hk
    have := h1 k (by omega)
    rw [List.getElem_take]
    rw [gi_get (by omega)] at this; exact this
theorem KeptI.keep {keep : Int → Bool} {L M : List Int} {i j : Nat} (h : KeptI keep L M i j) (hj : j < L.length) (hk : keep (gi L j) = true) : KeptI keep L (M.set i (gi L j)) (i + 1) (j + 1) := by
  have hlt := h.lt
  have hl := h.len
  refine ⟨by simpa using hl, by omega, ?_, fun t ht => ?_⟩
  · rw [List.take_add_one (l := L), List.getElem?_eq_getElem hj, List.filter_append, ← h.low, List.take_add_one, List.take_set_of_le (Nat.le_refl _)]
    have e : (M.set i (gi L j))[i]? = some (gi L j) := by rw [List.getElem?_set_self (by omega)]
    rw [e]
    rw [gi_get hj] at hk ⊢
    simp [hk]
  · rw [gi_set t (by omega), if_neg (by omega)]; exact h.high t (by omega)
theorem KeptI.skip {keep : Int → Bool} {L M : List Int} {i j : Nat} (h : KeptI keep L M i j) (hj : j < L.length) (hk : keep (gi L j) = false) : KeptI keep L M i (j + 1) :=
  ⟨h.len, by have := h.lt; omega, by rw [List.take_add_one (l := L), List.getElem?_eq_getElem hj, List.filter_append, ← h.low]; rw [gi_get hj] at hk; simp [hk], fun t ht => h.high t (by omega)⟩
theorem KeptI.done {keep : Int → Bool} {L M : List Int} {i : Nat} (h : KeptI keep L M i L.length) : M.take i = L.filter keep := by
  rw [h.low, List.take_length]
/-- clear at one-cell elements -/
theorem run_clear1 {P : Program} (w : World) (t e ty : TypeId) (v : Value) (ht : P.underlying t = some (.slice e)) (hv : ∀ w, (zeroValue e).run P w = .ok v w) (hz : v.cells = #[v]) (h1 : v.oneCell' = true) (b o n c : Nat) (hn : 0 < n)
    (hc : ∀ j, j < n → (w.cell? ⟨b, o + j, none⟩).isSome = true) (hf : ∀ j, j < n → w.frozen? ⟨b, o + j, none⟩ = false) :
    (Builtin.clear_ #[t] ty #[.slice (some ⟨b, o, none⟩) n c]).run P w = .ok (.tuple #[]) (w.setCells b o (List.replicate n v)) := by
  have hzc : (Builtin.zeroCells v.cells n).toList = List.replicate n v := by
    rw [hz]
    apply List.ext_getElem
    · simp [Builtin.zeroCells]
    · intro i h1 h2
      simp only [Builtin.zeroCells, Array.toList_map, List.getElem_map, List.getElem_replicate]
      simp [Nat.mod_one]
  have hst := run_storeCells_cells (P := P) b o (List.replicate n v) 0 w (by simpa using hc) (by simpa using hf) (by intro v hv'; rw [List.eq_of_mem_replicate hv']; exact h1)
  simp only [Nat.add_zero] at hst
  obtain ⟨m, rfl⟩ : ∃ m, n = m + 1 := ⟨n - 1, by omega⟩
  simp [Builtin.clear_, run_underlying ht, hv, hzc, hst]
theorem OwnI.wiped {w : World} {B g n d i : Nat} {M : List Int} {vs : List Value} (ho : OwnI w B (some ⟨g, 0, none⟩) n d M) (hi : i ≤ n) : OwnI (w.setCells g i vs) B (some ⟨g, 0, none⟩) i d (M.take i) := by
  have hl := ho.len
  rcases ho.1.2 with ⟨h', _⟩ | ⟨g', cap', cur, h', hB, hg, h1, h2, hs, ht⟩
  · simp at h'
  · simp only [Value.slice.injEq, Option.some.injEq, Addr.mk.injEq, and_true, true_and] at h'
    obtain ⟨rfl, rfl⟩ := h'
    obtain ⟨cur', k1, k2, k3⟩ := setCells_blk vs i hg
    refine ⟨⟨by rw [List.length_map, List.length_take, hl]; omega, .inr ⟨g, d, cur', rfl, hB, k1, by omega, h2, by rw [k2, hs], ?_⟩⟩, by have := ho.2; omega⟩
    simp only [Nat.mul_one] at ht ⊢
    have e1 : cur'.toList.take i = cur.toList.take i := by
      apply List.ext_getElem?
      intro j
      rw [List.getElem?_take, List.getElem?_take]
      by_cases hj : j < i
      · rw [if_pos hj, if_pos hj, Array.getElem?_toList, Array.getElem?_toList, k3 j hj]
      · rw [if_neg hj, if_neg hj]
    rw [e1, List.map_take, ← ht, List.take_take, Nat.min_eq_left hi]

theorem grown_of_below {w w' : World} {row : Option Nat} (h : Below w.heap.size w w') : w.grownBy w' row := ⟨h.os, h.tape, h.output, h.size, fun i hi _ => h.block i hi⟩
theorem grown_setCell {w : World} {g j : Nat} {v : Value} : w.grownBy (w.setCell ⟨g, j, none⟩ v) (some g) :=
  ⟨rfl, rfl, rfl, by simp, fun i _ hne => Below.heap_setCell w _ v i (fun e => hne (by rw [e]))⟩
theorem grown_setCells {g : Nat} : ∀ (vs : List Value) (o : Nat) {w0 w : World}, w0.grownBy w (some g) → w0.grownBy (w.setCells g o vs) (some g)
  | [], _, _, _, h => h
  | v :: r, o, _, _, h => grown_setCells r (o + 1) (h.trans grown_setCell)

set_option maxHeartbeats 1600000 in
theorem delete_Int {w : World} {B : Nat} {q : Option Addr} {n d : Nat} {L : List Int} (ho : OwnI w B q n d L) (hB : B ≤ w.heap.size) (hn : n < 1000000) {F : Nat} {cap : Array Value} {del : Int → Bool}
    (hF : ∀ (args : Array Value) (w : World), (callFunc F args).run Try.prog w = .ok (.enter F args) w)
    (hcall : ∀ (w' : World) (x : Int), w.grownBy w' (Value.slice q n d).ownBlock → Calls Try.prog F (#[.int .i64 x] ++ cap) w' fun e w'' => e = .returned (.bool (del x)) ∧ Below w'.heap.size w' w'') :
    Calls Try.prog 66 #[.slice q n d, .func (.func F) #[] cap] w fun e w' => ∃ m, e = .returned (.slice q m d) ∧ OwnI w' B q m d (L.filter fun x => !del x) ∧ w.grownBy w' (Value.slice q n d).ownBlock := by
  have hS := ho.si
  have hm := hS.2.1
  have HLN := Lib.hid ho.len
  obtain ⟨i, hi⟩ := firstP_exists (fun k => del (gi L k)) n
  have HI := Lib.hid hi
  have HCI := Lib.hid (slices_IndexFunc hS hi (F := F) (cap := cap) hF (fun w' k hk hb => (hcall w' (gi L k) (grown_of_below hb)).mono (fun e w'' h => ⟨h.1, hb.trans (h.2.mono hb.size)⟩)))
  by_cases hin : i < n
  · obtain ⟨g, rfl⟩ := ho.addr (by omega)
    have HC := Lib.hid (show ∀ (w' : World) (x : Int), w.grownBy w' (some g) → Calls Try.prog F (#[.int .i64 x] ++ cap) w' fun e w'' => e = .returned (.bool (del x)) ∧ Below w'.heap.size w' w'' from hcall)
    show Calls _ _ _ _ (fun e w' => ∃ m, e = .returned (.slice (some ⟨g, 0, none⟩) m d) ∧ OwnI w' B (some ⟨g, 0, none⟩) m d (L.filter fun x => !del x) ∧ w.grownBy w' (some g))
    clear hcall
    have hne : ((i : Int) == -1) = false := by simp
    have HK := Lib.hid (keptI_start (keep := fun x => !del x) (L := L) (i := i) (fun k hk => by have := HI.out.2.1 k hk; simpa using this) (by rw [HLN.out]; exact hin) (by have := HI.out.2.2 hin; simpa using this))
    go_enter Try.func66, Try.ntmps66
    go_wp2_with fail
    refine HCI.out.mono ?_; rintro e w1 ⟨rfl, b1⟩
    rw [if_pos hin]
    have ho1 := ho.below b1
    have hg1 : w.grownBy w1 (some g) := grown_of_below b1
    clear ho b1 hS hi HCI
    go_wp2
    go_loopw [5, 6] (fun iv jv wr => ∃ (i j : Nat) (M : List Int), j ≤ n ∧ iv = .int .i64 i ∧ jv = .int .i64 j ∧ Hid (KeptI (fun x => !del x) L M i j) ∧ OwnI wr B (some ⟨g, 0, none⟩) n d M ∧ Hid (w.grownBy wr (some g))) (fun _ jv _ => n - (intOf jv).toNat)
    case atStart => exact ⟨i, i + 1, L, by omega, rfl, by go_num, HK, ho1, Lib.hid hg1⟩
    case round =>
      clear HK HI ho1 hg1 hne
      obtain ⟨i, j, M, hj, rfl, rfl, HK, ho, HG⟩ := hrel
      have hlt := HK.out.lt
      have hgb := ho.blk
      by_cases hjn : j < n
      · have c0 := ho.at hjn
        rw [HK.out.high j (Nat.le_refl _)] at c0
        have HCK := Lib.hid (HC.out _ (gi L j) HG.out)
        go_wp2_with fail
        refine HCK.out.mono ?_; rintro e w2 ⟨rfl, b2⟩
        have ho2 := ho.below b2
        have HG2 : Hid (w.grownBy w2 (some g)) := Lib.hid (HG.out.trans (grown_of_below b2))
        clear b2 ho HCK c0 HG
        cases hdl : del (gi L j) with
        | true =>
          have HN := Lib.hid (HK.out.skip (by rw [HLN.out]; exact hjn) (by simp [hdl]))
          go_wp2
          go_roundw
          case rel => exact ⟨i, j + 1, M, by omega, rfl, by go_num, HN, ho2, HG2⟩
          case measure => simp [intOf]; omega
        | false =>
          have HN := Lib.hid (HK.out.keep (by rw [HLN.out]; exact hjn) (by simp [hdl]))
          have c0 := ho2.at (j := i) (by omega)
          have f0 := ho2.free i
          have ho3 := ho2.set i (gi L j)
          have HG3 : Hid (w.grownBy (w2.setCell ⟨g, i, none⟩ (.int .i64 (gi L j))) (some g)) := Lib.hid (HG2.out.trans grown_setCell)
          go_wp2
          go_roundw
          case rel => exact ⟨i + 1, j + 1, _, by omega, by go_num, by go_num, HN, ho3, HG3⟩
          case measure => simp [intOf]; omega
      · obtain rfl : n = j := by omega
        have hcl : ∀ ty, (Builtin.clear_ #[35] ty #[.slice (some ⟨g, i, none⟩) (n - i) (d - i)]).run Try.prog wr = .ok (.tuple #[]) (wr.setCells g i (List.replicate (n - i) (.int .i64 0))) := fun ty =>
          run_clear1 wr _ _ ty _ (Try.underlying35) (Try.zeroI) rfl rfl g i (n - i) (d - i) (by omega)
            (fun k hk => by rw [ho.at (by omega)]; rfl)
            (fun k _ => ho.free _)
        have HE := Lib.hid (show M.take i = L.filter fun x => !del x by have h := HK.out; rw [← HLN.out] at h; exact h.done)
        have hic : (i : Int) ≤ (n : Int) := by omega
        have hic2 : i ≤ n := by omega
        have hid2 : i ≤ d := by omega
        have hidI : (i : Int) ≤ (d : Int) := by omega
        have hS2 := ho.wiped (vs := List.replicate (n - i) (.int .i64 0)) hic2
        rw [HE.out] at hS2
        have HG3 : Hid (w.grownBy (wr.setCells g i (List.replicate (n - i) (.int .i64 0))) (some g)) := Lib.hid (grown_setCells _ _ HG.out)
        clear ho
        go_wp2
        go_ret
        exact ⟨i, rfl, hS2, HG3.out⟩
  · have hke : L = L.filter fun x => !del x := by
      refine (filter_firstI L ?_).symm
      intro x hx
      obtain ⟨k, hk, rfl⟩ := List.getElem_of_mem hx
      have := HI.out.2.1 k (by rw [HLN.out] at hk; have := HI.out.1; omega)
      simp only [gi_get hk] at this
      simpa using this
    go_enter Try.func66, Try.ntmps66
    go_wp2_with fail
    refine HCI.out.mono ?_; rintro e w1 ⟨rfl, b1⟩
    rw [if_neg hin]
    have hS1 := ho.below b1
    have HKE := Lib.hid hke
    clear hke
    go_wp2
    go_ret
    exact ⟨n, rfl, by rw [← HKE.out]; exact hS1, grown_of_below b1⟩

/-- the least by a told order -/
def minI (pr : Nat → Nat → Bool) : Nat → Nat
  | 0 => 0
  | i + 1 => if pr (i + 1) (minI pr i) = true then i + 1 else minI pr i
theorem minI_le (pr : Nat → Nat → Bool) : ∀ i, minI pr i ≤ i
  | 0 => Nat.le_refl _
  | i + 1 => by have := minI_le pr i; unfold minI; split <;> omega
theorem minI_best {bg : Nat → Int} {L : List Nat} {pr : Nat → Nat → Bool} {n : Nat} (h : ∀ i j, i < n → j < n → pr i j = lessF bg (ge L i) (ge L j)) : ∀ i, i < n → minI pr i = bestI bg L i
  | 0, _ => rfl
  | i + 1, hi => by
    have h1 := minI_best h i (by omega)
    have h2 := bestI_le bg L i
    unfold minI bestI
    rw [h1, h (i + 1) _ hi (by omega)]
set_option maxHeartbeats 800000 in
theorem min_Int {w : World} {p : Option Addr} {n c : Nat} {L : List Int} (h : SI w p n c L) (h0 : 0 < n) {F : Nat} {cap : Array Value} {pr : Nat → Nat → Bool}
    (hF : ∀ (args : Array Value) (w : World), (callFunc F args).run Try.prog w = .ok (.enter F args) w)
    (hcall : ∀ (w' : World) (i j : Nat), i < n → j < n → Below w.heap.size w w' → Calls Try.prog F (#[.int .i64 (gi L i), .int .i64 (gi L j)] ++ cap) w' fun e w'' => (∃ x : Int, -1000000000 ≤ x ∧ x ≤ 1000000000 ∧ e = .returned (.int .i64 x) ∧ decide (x < 0) = pr i j) ∧ Below w'.heap.size w' w'') :
    Calls Try.prog 64 #[.slice p n c, .func (.func F) #[] cap] w fun e w' => e = .returned (.int .i64 (gi L (minI pr (n - 1)))) ∧ Below w.heap.size w w' := by
  have hm := h.2.1
  have HC := Lib.hid hcall
  obtain ⟨b, off, rfl, hlt, hc⟩ := h.cells h0
  have HCL := Lib.hid hc
  have c0 := hc 0 h0
  rw [Nat.add_zero] at c0
  clear hcall h hc
  go_enter Try.func64, Try.ntmps64
  go_wp2
  go_loopw [5, 6] (fun mv iv wr => ∃ k : Nat, k + 1 ≤ n ∧ mv = .int .i64 (gi L (minI pr k)) ∧ iv = .int .i64 ((k + 1 : Nat) : Int) ∧ Hid (Below w.heap.size w wr)) (fun _ iv _ => n - (intOf iv).toNat)
  case atStart => exact ⟨0, by omega, rfl, rfl, Lib.hid (Below.refl _ _)⟩
  case round =>
    obtain ⟨k, hk, rfl, rfl, HB⟩ := hrel
    by_cases hkn : k + 1 < n
    · have cc : wr.cell? ⟨b, off + (k + 1), none⟩ = some (.int .i64 (gi L (k + 1))) := (bdeep HB.out hlt _).trans (HCL.out (k + 1) hkn)
      have hle := minI_le pr k
      have HCK := Lib.hid (HC.out wr (k + 1) (minI pr k) hkn (by omega) HB.out)
      have HNX : Hid (minI pr (k + 1) = if pr (k + 1) (minI pr k) = true then k + 1 else minI pr k) := Lib.hid rfl
      clear hle c0
      obtain ⟨mk, hmk⟩ : ∃ mk, minI pr k = mk := ⟨_, rfl⟩
      rw [hmk] at HCK HNX ⊢
      clear hmk
      go_wp2_with fail
      refine HCK.out.mono ?_; rintro e w2 ⟨⟨x, hx1, hx2, rfl, hx3⟩, b2⟩
      have HB2 := Lib.hid (HB.out.trans (b2.mono HB.out.size))
      have d0 := (bdeep b2 (Nat.lt_of_lt_of_le hlt HB.out.size) (off + (k + 1))).trans cc
      have HX := Lib.hid hx3
      clear HCK HB b2 cc hx3
      by_cases hneg : x < 0
      · have hp : pr (k + 1) mk = true := by rw [← HX.out]; exact decide_eq_true hneg
        have HN : Hid (minI pr (k + 1) = k + 1) := Lib.hid (by rw [HNX.out, if_pos hp])
        clear hp
        have q1 : decide (x < 0) = true := decide_eq_true hneg
        clear HX HNX hneg
        go_wp2
        go_roundw
        case rel => exact ⟨k + 1, hkn, by rw [HN.out], by go_num, HB2⟩
        case measure => simp [intOf]; omega
      · have hp : ¬ pr (k + 1) mk = true := by rw [← HX.out]; simpa using hneg
        have HN : Hid (minI pr (k + 1) = mk) := Lib.hid (by rw [HNX.out, if_neg hp])
        clear hp
        have q1 : decide (x < 0) = false := decide_eq_false hneg
        clear HX HNX hneg
        go_wp2
        go_roundw
        case rel => exact ⟨k + 1, hkn, by rw [HN.out], by go_num, HB2⟩
        case measure => simp [intOf]; omega
    · obtain rfl : n = k + 1 := by omega
      go_wp2
      go_ret
      exact ⟨rfl, HB.out⟩
end Go.Proofs.Ytgnegemiiahkaaa
