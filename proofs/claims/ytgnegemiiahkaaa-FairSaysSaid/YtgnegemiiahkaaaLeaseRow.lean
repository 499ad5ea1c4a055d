/- Rows of leases: slices.Clone, slices.Equal, slices.IndexFunc and slices.DeleteFunc at []api.Lease. Conditions: what the handed function answers. -/
import Derived.Test.YtgnegemiiahkaaaLeaseLive
import Derived.Test.YtgnegemiiahkaaaTaskRow
import Derived.Test.YtgnegemiiahkaaaIndexFunc
namespace Go.Proofs.Ytgnegemiiahkaaa
open Go Go.RowKit
set_option linter.unusedVariables false
set_option linter.unusedSimpArgs false

set_option maxHeartbeats 400000 in
set_option maxRecDepth 100000 in
theorem clone_Lease {w : World} {p : Option Addr} {n c : Nat} {xs : List (Int × Int × Int)} (h : S3 w p n c xs) (hn : n < 1000000) :
    Calls Try.prog 46 #[.slice p n c] w fun e w' => ∃ q d, e = .returned (.slice q n d) ∧ OwnR 33 enc3 3 w' w.heap.size q n d xs ∧ Below w.heap.size w w' := by
  have hm := h.2.1
  have hl := Lib.hid h.1
  have qT : ∀ (w : World) (a : Option Addr) (n c n' c' : Nat), (binOp .eql 22 (.slice a n c) (.slice none n' c')).run Try.prog w = .ok (.bool a.isNone) w := fun w a n c n' c' => Lib.run_eql_slice_nil w _ _ a n c n' c' Try.underlying22
  cases p with
  | none =>
    have h0 : n = 0 := by
      apply Classical.byContradiction
      intro h0
      obtain ⟨b, off, hp, _⟩ := h.cells (by omega)
      cases hp
    subst h0
    obtain rfl : xs = [] := List.eq_nil_of_length_eq_zero hl.out
    go_enter Try.func46, Try.ntmps46
    go_wp2
    go_ret
    exact ⟨_, _, rfl, OwnR.nil _ _, Below.refl _ _⟩
  | some a =>
    have ho : OwnR 33 enc3 3 (w.alloc (.cells #[] 33)) w.heap.size (some ⟨w.heap.size, 0, none⟩) 0 0 [] := ⟨World.ownsRow_lit w #[] 0 (Nat.le_refl _) (by unfold maxLen; omega) rfl, rfl⟩
    have hb := (Below.refl w.heap.size w).alloc (Nat.le_refl _) (.cells #[] 33)
    have h1 := (h.below hb).sr
    go_enter Try.func46, Try.ntmps46
    go_wp2_with (at_builtin; refine wpL_append_R Try.tyLeases rfl (by omega) (by omega) enc3_len enc3_one rfl rfl (B := w.heap.size) (W0 := w) (by first | rfl | simp [Act.eval]) (by first | rfl | simp [Act.eval]) ho h1 hb (by omega) (by simp) ?_; intro p' c' w3 ho1 hb3 hg1)
    go_ret
    rw [Nat.zero_add] at *
    exact ⟨_, _, rfl, by simpa using ho1, hb3⟩

theorem neq_Lease (a b c : Int) (w : World) : (binOp .neq 33 (.agg #[.int .i64 a, .int .i64 b, .int .i64 c]) (.agg #[.int .i64 a, .int .i64 b, .int .i64 c])).run Try.prog w = .ok (.bool false) w := by
  have u3 := Try.underlying3
  have a3 := Try.isAgg3
  have z3 := Try.sizeOf3
  have hS : Try.prog.underlying 33 = some (.struct (Try.prog.fieldsOf 33)) := by kernel_rfl
  have hp : Try.prog.stoodInHeld 33 = false := by kernel_rfl
  rw [run_neq_struct, show (10000 : Nat) = 9999 + 1 from rfl, run_equalIn_agg w 9999 33 _ _ hS hp]
  simp only [Program.fieldsOf, Try.underlying33]
  go_simp
set_option maxHeartbeats 800000 in
theorem equal_Lease {w : World} {p q : Option Addr} {n c d : Nat} {xs : List (Int × Int × Int)} (h : S3 w p n c xs) (g : S3 w q n d xs) :
    Calls Try.prog 16 #[.slice p n c, .slice q n d] w fun e w' => e = .returned (.bool true) ∧ Below w.heap.size w w' := by
  have hm := h.2.1
  have gm := g.2.1
  have hq := neq_Lease
  go_enter Try.func16, Try.ntmps16
  go_wp2
  go_loopw [13] (fun i wr => ∃ k : Nat, k ≤ n ∧ i = .int .i64 k ∧ Below w.heap.size w wr) (fun i _ => n - (intOf i).toNat)
  case atStart => exact ⟨0, Nat.zero_le _, rfl, Below.refl _ _⟩
  case round =>
    obtain ⟨k, hk, rfl, hb⟩ := hrel
    by_cases hkn : k < n
    · obtain ⟨b, off, rfl, hlt, hc⟩ := h.cells (by omega)
      obtain ⟨b', off', rfl, hlt', hc'⟩ := g.cells (by omega)
      have c0 : wr.cell? ⟨b, off + k * 3, none⟩ = some (.int .i64 (t0 xs k)) := (bdeep hb hlt _).trans (hc k hkn).1
      have c1 : wr.cell? ⟨b, off + k * 3 + 1, none⟩ = some (.int .i64 (t1 xs k)) := (bdeep hb hlt _).trans (hc k hkn).2.1
      have c2 : wr.cell? ⟨b, off + k * 3 + 2, none⟩ = some (.int .i64 (t2 xs k)) := (bdeep hb hlt _).trans (hc k hkn).2.2
      have d0 : wr.cell? ⟨b', off' + k * 3, none⟩ = some (.int .i64 (t0 xs k)) := (bdeep hb hlt' _).trans (hc' k hkn).1
      have d1 : wr.cell? ⟨b', off' + k * 3 + 1, none⟩ = some (.int .i64 (t1 xs k)) := (bdeep hb hlt' _).trans (hc' k hkn).2.1
      have d2 : wr.cell? ⟨b', off' + k * 3 + 2, none⟩ = some (.int .i64 (t2 xs k)) := (bdeep hb hlt' _).trans (hc' k hkn).2.2
      have HB := Lib.hid hb
      clear hc hc' h g hb
      go_wp2
      go_quiet (fail)
      go_wp2
      go_roundw
      case rel => exact ⟨k + 1, by omega, by go_num, below_drewN HB.out _⟩
      case measure => simp [intOf]; omega
    · have hkk : n = k := by omega
      subst hkk
      go_wp2
      go_ret
      exact ⟨rfl, hb⟩

/-! clear -/
theorem run_clear3 {P : Program} (w : World) (t e ty : TypeId) (z : Value) (v : Value) (ht : P.underlying t = some (.slice e)) (hv : ∀ w, (zeroValue e).run P w = .ok z w) (hz : z.cells = #[v, v, v]) (h1 : v.oneCell' = true) (b o n c : Nat) (hn : 0 < n)
    (hc : ∀ j, j < n * 3 → (w.cell? ⟨b, o + j, none⟩).isSome = true) (hf : ∀ j, j < n * 3 → w.frozen? ⟨b, o + j, none⟩ = false) :
    (Builtin.clear_ #[t] ty #[.slice (some ⟨b, o, none⟩) n c]).run P w = .ok (.tuple #[]) (w.setCells b o (List.replicate (n * 3) v)) := by
  have hzc : (Builtin.zeroCells z.cells n).toList = List.replicate (n * 3) v := by
    rw [hz]
    apply List.ext_getElem
    · simp [Builtin.zeroCells]
    · intro i h1 h2
      have h3 : i % 3 < 3 := Nat.mod_lt _ (by omega)
      simp only [Builtin.zeroCells, Array.toList_map, List.getElem_map, List.getElem_replicate]
      simp
      rcases (show i % 3 = 0 ∨ i % 3 = 1 ∨ i % 3 = 2 by omega) with e | e | e <;> simp [e]
  have hst := run_storeCells_cells (P := P) b o (List.replicate (n * 3) v) 0 w (by simpa using hc) (by simpa using hf) (by intro v hv'; rw [List.eq_of_mem_replicate hv']; exact h1)
  simp only [Nat.add_zero] at hst
  obtain ⟨m, rfl⟩ : ∃ m, n = m + 1 := ⟨n - 1, by omega⟩
  simp [Builtin.clear_, run_underlying ht, hv, hzc, hst]
theorem below_setCells3 {B g : Nat} (hg : B ≤ g) : ∀ (vs : List Value) (o : Nat) {w0 w : World}, Below B w0 w → Below B w0 (w.setCells g o vs)
  | [], _, _, _, h => h
  | v :: r, o, _, _, h => below_setCells3 hg r (o + 1) (h.setCell (p := ⟨g, o, none⟩) hg v)

theorem fm_takeL : ∀ (L : List (Int × Int × Int)) (j : Nat), (L.flatMap enc3).take (j * 3) = (L.take j).flatMap enc3
  | [], j => by simp
  | x :: r, 0 => by simp
  | x :: r, j + 1 => by
    rw [List.flatMap_cons, List.take_succ_cons, List.flatMap_cons, List.take_append, enc3_len, Nat.add_mul, Nat.one_mul, Nat.add_sub_cancel, fm_takeL r j, List.take_of_length_le (by rw [enc3_len]; omega)]
theorem setCells_blk {g : Nat} {T : TypeId} : ∀ (vs : List Value) (o : Nat) {w : World} {cur : Array Value}, w.heap[g]? = some (.cells cur T (0, 0)) → ∃ cur', (w.setCells g o vs).heap[g]? = some (.cells cur' T (0, 0)) ∧ cur'.size = cur.size ∧ ∀ j, j < o → cur'[j]? = cur[j]?
  | [], o, w, cur, h => ⟨cur, h, rfl, fun _ _ => rfl⟩
  | v :: r, o, w, cur, h => by
    obtain ⟨cur', h1, h2, h3⟩ := setCells_blk r (o + 1) (blk_set (j := o) (v := v) h)
    refine ⟨cur', h1, by rw [h2]; simp, fun j hj => ?_⟩
    rw [h3 j (by omega)]
    simp [Array.getElem?_setIfInBounds, show ¬ o = j by omega]
theorem OwnR.wiped {w : World} {B g n d i : Nat} {M : List (Int × Int × Int)} {vs : List Value} (ho : OwnR 33 enc3 3 w B (some ⟨g, 0, none⟩) n d M) (hi : i ≤ n) : OwnR 33 enc3 3 (w.setCells g (i * 3) vs) B (some ⟨g, 0, none⟩) i d (M.take i) := by
  have hl := ho.len
  have hgb := ho.blk
  rcases ho.1.2 with ⟨h', _⟩ | ⟨g', cap', cur, h', hB, hg, h1, h2, hs, ht⟩
  · simp at h'
  · simp only [Value.slice.injEq, Option.some.injEq, Addr.mk.injEq, and_true, true_and] at h'
    obtain ⟨rfl, rfl⟩ := h'
    obtain ⟨cur', k1, k2, k3⟩ := setCells_blk vs (i * 3) hg
    refine ⟨⟨by rw [fm_len enc3_len, List.length_take, hl, Nat.min_eq_left hi], .inr ⟨g, d, cur', rfl, hB, k1, by omega, h2, by rw [k2, hs], ?_⟩⟩, by rw [List.length_take, hl]; omega⟩
    have e1 : cur'.toList.take (i * 3) = cur.toList.take (i * 3) := by
      apply List.ext_getElem?
      intro j
      rw [List.getElem?_take, List.getElem?_take]
      by_cases hj : j < i * 3
      · rw [if_pos hj, if_pos hj, Array.getElem?_toList, Array.getElem?_toList, k3 j hj]
      · rw [if_neg hj, if_neg hj]
    have e2 : (M.take i).flatMap enc3 = cur.toList.take (i * 3) := by
      have h3 : (M.flatMap enc3).take (i * 3) = (M.take i).flatMap enc3 := fm_takeL M i
      rw [← h3, ← ht, List.take_take, Nat.min_eq_left (by omega)]
    rw [e1, e2]

set_option maxHeartbeats 800000 in
theorem index_Lease {w : World} {p : Option Addr} {n c : Nat} {xs : List (Int × Int × Int)} (h : S3 w p n c xs) {F : Nat} {cap : Array Value} {del : Int × Int × Int → Bool} {i : Nat} (hi : FirstP (fun k => del (t0 xs k, t1 xs k, t2 xs k)) n i)
    (hF : ∀ (args : Array Value) (w : World), (callFunc F args).run Try.prog w = .ok (.enter F args) w) {B : Nat} (hB : B ≤ w.heap.size)
    (hcall : ∀ (w' : World) (x : Int × Int × Int), Below B w w' → Calls Try.prog F (#[aggL x.1 x.2.1 x.2.2] ++ cap) w' fun e w'' => e = .returned (.bool (del x)) ∧ Below w'.heap.size w' w'') :
    Calls Try.prog 82 #[.slice p n c, .func (.func F) #[] cap] w fun e w' => e = .returned (.int .i64 (if i < n then i else -1)) ∧ Below w.heap.size w w' := by
  have hm := h.2.1
  obtain ⟨h1, h2, h3⟩ := hi
  have HC := Lib.hid hcall; have H2 := Lib.hid h2; have H3 := Lib.hid h3; clear hcall h2 h3
  go_enter Try.func82, Try.ntmps82
  go_wp2
  go_loopw [8] (fun v wr => ∃ k : Nat, k ≤ i ∧ v = .int .i64 k ∧ Below w.heap.size w wr) (fun v _ => n - (intOf v).toNat)
  case atStart => exact ⟨0, by omega, rfl, Below.refl _ _⟩
  case round =>
    obtain ⟨k, hk, rfl, hb⟩ := hrel
    have hsz := hb.size
    by_cases hkn : k < n
    · obtain ⟨b, off, rfl, hlt, hc⟩ := h.cells (by omega)
      have c0 : wr.cell? ⟨b, off + k * 3, none⟩ = some (.int .i64 (t0 xs k)) := (bdeep hb hlt _).trans (hc k hkn).1
      have c1 : wr.cell? ⟨b, off + k * 3 + 1, none⟩ = some (.int .i64 (t1 xs k)) := (bdeep hb hlt _).trans (hc k hkn).2.1
      have c2 : wr.cell? ⟨b, off + k * 3 + 2, none⟩ = some (.int .i64 (t2 xs k)) := (bdeep hb hlt _).trans (hc k hkn).2.2
      have HCK := Lib.hid (HC.out wr (t0 xs k, t1 xs k, t2 xs k) (hb.mono hB))
      clear hc h
      by_cases hki : k < i
      · go_wp2_with fail
        refine HCK.out.mono ?_; rintro e w1 ⟨rfl, hb1⟩
        have hb2 := hb.trans (hb1.mono hsz)
        rw [H2.out k hki]
        go_wp2
        go_roundw
        case rel => exact ⟨k + 1, by omega, by go_num, hb2⟩
        case measure => simp [intOf]; omega
      · obtain rfl : i = k := by omega
        go_wp2_with fail
        refine HCK.out.mono ?_; rintro e w1 ⟨rfl, hb1⟩
        have hb2 := hb.trans (hb1.mono hsz)
        rw [H3.out hkn]
        go_wp2
        go_ret
        exact ⟨ret_int (by first | rfl | rw [if_pos hkn]), hb2⟩
    · obtain rfl : i = k := by omega
      go_wp2
      go_ret
      exact ⟨ret_int (by first | rfl | rw [if_neg hkn]), hb⟩

theorem ge_eta {L : List (Int × Int × Int)} {k : Nat} : ge L k = (t0 L k, t1 L k, t2 L k) := rfl
theorem cells_L {w : World} {B g n d k : Nat} {L M : List (Int × Int × Int)} (ho : OwnR 33 enc3 3 w B (some ⟨g, 0, none⟩) n d L) (hk : k < n) (e : ge L k = ge M k) :
    w.cell? ⟨g, k * 3, none⟩ = some (.int .i64 (t0 M k)) ∧ w.cell? ⟨g, k * 3 + 1, none⟩ = some (.int .i64 (t1 M k)) ∧ w.cell? ⟨g, k * 3 + 2, none⟩ = some (.int .i64 (t2 M k)) := by
  have h0 := ho.at enc3_len hk (i := 0) (by omega)
  have h1 := ho.at enc3_len hk (i := 1) (by omega)
  have h2 := ho.at enc3_len hk (i := 2) (by omega)
  rw [e] at h0 h1 h2
  exact ⟨h0, h1, h2⟩
theorem below_setEl3 {B g j : Nat} {w0 w : World} {x : Int × Int × Int} (h : Below B w0 w) (hg : B ≤ g) : Below B w0 (Go.Proofs.Ytgnegemiiahkaaa.setEl w g j x) :=
  ((h.setCell (p := ⟨g, j * 3, none⟩) hg _).setCell (p := ⟨g, j * 3 + 1, none⟩) hg _).setCell (p := ⟨g, j * 3 + 2, none⟩) hg _
/-- the second loop's state: what is kept of the first j lies ahead -/
structure KeptL (keep : Int × Int × Int → Bool) (L M : List (Int × Int × Int)) (i j : Nat) : Prop where
  len : M.length = L.length
  lt : i < j
  low : M.take i = (L.take j).filter keep
  high : ∀ t, j ≤ t → ge M t = ge L t
theorem filter_first {keep : Int × Int × Int → Bool} : ∀ (L : List (Int × Int × Int)), (∀ x ∈ L, keep x = true) → L.filter keep = L := fun L h => List.filter_eq_self.2 h
theorem kept_start {keep : Int × Int × Int → Bool} {L : List (Int × Int × Int)} {i : Nat} (h1 : ∀ k, k < i → keep (t0 L k, t1 L k, t2 L k) = true) (hi : i < L.length) (h2 : keep (t0 L i, t1 L i, t2 L i) = false) : KeptL keep L L i (i + 1) := by
  refine ⟨rfl, by omega, ?_, fun t _ => rfl⟩
  rw [take_push hi, List.filter_append, filter_first (L.take i)]
  · simp [h2]
  · intro x hx
    obtain ⟨k, hk, rfl⟩ := List.getElem_of_mem hx
    rw [List.length_take] at hk
    have := h1 k (by omega)
    rw [List.getElem_take]
    have e : L[k]'(by omega) = (t0 L k, t1 L k, t2 L k) := (ge_get (L := L) (j := k) (by omega)).symm
    rw [e]; exact this
theorem KeptL.keep {keep : Int × Int × Int → Bool} {L M : List (Int × Int × Int)} {i j : Nat} (h : KeptL keep L M i j) (hj : j < L.length) (hk : keep (t0 L j, t1 L j, t2 L j) = true) : KeptL keep L (M.set i (t0 L j, t1 L j, t2 L j)) (i + 1) (j + 1) := by
  have hlt := h.lt
  have hl := h.len
  refine ⟨by simpa using hl, by omega, ?_, fun t ht => ?_⟩
  · rw [take_push hj, List.filter_append, ← h.low, List.take_add_one, List.take_set_of_le (Nat.le_refl _)]
    have e : (M.set i (t0 L j, t1 L j, t2 L j))[i]? = some (t0 L j, t1 L j, t2 L j) := by rw [List.getElem?_set_self (by omega)]
    rw [e]; simp [hk]
  · rw [ge_set t (by omega), if_neg (by omega)]; exact h.high t (by omega)
theorem KeptL.skip {keep : Int × Int × Int → Bool} {L M : List (Int × Int × Int)} {i j : Nat} (h : KeptL keep L M i j) (hj : j < L.length) (hk : keep (t0 L j, t1 L j, t2 L j) = false) : KeptL keep L M i (j + 1) :=
  ⟨h.len, by have := h.lt; omega, by rw [take_push hj, List.filter_append, ← h.low]; simp [hk], fun t ht => h.high t (by omega)⟩
theorem KeptL.done {keep : Int × Int × Int → Bool} {L M : List (Int × Int × Int)} {i : Nat} (h : KeptL keep L M i L.length) : M.take i = L.filter keep := by
  rw [h.low, List.take_length]
theorem ge_take {M : List (Int × Int × Int)} {i j : Nat} (h : j < i) : ge (M.take i) j = ge M j := by
  unfold ge; simp [List.getD, List.getElem?_take, h]

set_option maxHeartbeats 1600000 in
theorem delete_LeaseR {w : World} {B : Nat} {q : Option Addr} {n d : Nat} {L : List (Int × Int × Int)} (ho : OwnR 33 enc3 3 w B q n d L) (hB : B ≤ w.heap.size) (hn : n < 1000000) {F : Nat} {cap : Array Value} {del : Int × Int × Int → Bool}
    (hF : ∀ (args : Array Value) (w : World), (callFunc F args).run Try.prog w = .ok (.enter F args) w)
    (hcall : ∀ (w' : World) (x : Int × Int × Int), Below B w w' → Calls Try.prog F (#[aggL x.1 x.2.1 x.2.2] ++ cap) w' fun e w'' => e = .returned (.bool (del x)) ∧ Below w'.heap.size w' w'') :
    Calls Try.prog 45 #[.slice q n d, .func (.func F) #[] cap] w fun e w' => ∃ m, e = .returned (.slice q m d) ∧ OwnR 33 enc3 3 w' B q m d (L.filter fun x => !del x) ∧ Below B w w' := by
  have hS := (ho.sr enc3_len).s3
  have hm := hS.2.1
  have HLN := Lib.hid ho.len
  obtain ⟨i, hi⟩ := firstP_exists (fun k => del (t0 L k, t1 L k, t2 L k)) n
  have HI := Lib.hid hi
  have HC := Lib.hid hcall
  clear hcall
  by_cases hin : i < n
  · obtain ⟨g, rfl⟩ := ho.addr (by omega)
    have hne : ((i : Int) == -1) = false := by simp
    have HK := Lib.hid (kept_start (keep := fun x => !del x) (L := L) (i := i) (fun k hk => by have := HI.out.2.1 k hk; simpa using this) (by rw [HLN.out]; exact hin) (by have := HI.out.2.2 hin; simpa using this))
    go_enter Try.func45, Try.ntmps45
    go_wp2_with fail
    refine (index_Lease hS hi hF hB HC.out).mono ?_; rintro e w1 ⟨rfl, b1⟩
    rw [if_pos hin]
    have ho1 := ho.below b1
    have hb1 := b1.mono hB
    have hs1 := b1.size
    clear ho b1 hS hi
    go_wp2
    go_loopw [5, 6] (fun iv jv wr => ∃ (i j : Nat) (M : List (Int × Int × Int)), j ≤ n ∧ iv = .int .i64 i ∧ jv = .int .i64 j ∧ Hid (KeptL (fun x => !del x) L M i j) ∧ OwnR 33 enc3 3 wr B (some ⟨g, 0, none⟩) n d M ∧ Below B w wr ∧ B ≤ wr.heap.size) (fun _ jv _ => n - (intOf jv).toNat)
    case atStart => exact ⟨i, i + 1, L, by omega, rfl, by go_num, HK, ho1, hb1, by omega⟩
    case round =>
      clear HK HI ho1 hb1 hs1 hne
      obtain ⟨i, j, M, hj, rfl, rfl, HK, ho, hb, hsz⟩ := hrel
      have hlt := HK.out.lt
      have hgb := ho.blk
      by_cases hjn : j < n
      · obtain ⟨c0, c1, c2⟩ := cells_L (M := L) ho hjn (HK.out.high j (Nat.le_refl _))
        have HX := Lib.hid (blk_new wr #[.int .i64 (t0 L j), .int .i64 (t1 L j), .int .i64 (t2 L j)] 33)
        have hbA := hb.alloc hsz (boxL (t0 L j) (t1 L j) (t2 L j))
        have hoA := ho.alloc (boxL (t0 L j) (t1 L j) (t2 L j))
        have hszA : B ≤ (wr.alloc (boxL (t0 L j) (t1 L j) (t2 L j))).heap.size := by simp; omega
        have HCK := Lib.hid (HC.out _ (t0 L j, t1 L j, t2 L j) hbA)
        clear ho hb
        go_wp2_with fail
        generalize wr.alloc (boxL (t0 L j) (t1 L j) (t2 L j)) = WA at *
        refine HCK.out.mono ?_; rintro e w2 ⟨rfl, b2⟩
        obtain ⟨⟨x0, x1, x2⟩, _⟩ := blk3 (blk_below HX.out b2)
        have ho2 := hoA.below b2
        have hb2 := hbA.trans (b2.mono hszA)
        have hs2 : B ≤ w2.heap.size := Nat.le_trans hszA b2.size
        clear b2 hoA hbA HCK HX c0 c1 c2 hszA
        cases hdl : del (t0 L j, t1 L j, t2 L j) with
        | true =>
          have HN := Lib.hid (HK.out.skip (by rw [HLN.out]; exact hjn) (by simp [hdl]))
          go_wp2
          go_roundw
          case rel => exact ⟨i, j + 1, M, by omega, rfl, by go_num, HN, ho2, hb2, hs2⟩
          case measure => simp [intOf]; omega
        | false =>
          have HN := Lib.hid (HK.out.keep (by rw [HLN.out]; exact hjn) (by simp [hdl]))
          obtain ⟨c0, c1, c2⟩ := cells_L (M := M) (k := i) ho2 (by omega) rfl
          have f0 := ho2.free (i * 3); have f1 := ho2.free (i * 3 + 1); have f2 := ho2.free (i * 3 + 2)
          have ho3 := ho2.setEl (j := i) (by omega) (t0 L j, t1 L j, t2 L j)
          have hb3 := below_setEl3 (j := i) (x := (t0 L j, t1 L j, t2 L j)) hb2 hgb.1
          go_wp2
          go_roundw
          case rel => exact ⟨i + 1, j + 1, _, by omega, by go_num, by go_num, HN, ho3, hb3, by simp; exact hs2⟩
          case measure => simp [intOf]; omega
      · obtain rfl : n = j := by omega
        have hcl : ∀ ty, (Builtin.clear_ #[22] ty #[.slice (some ⟨g, i * 3, none⟩) (n - i) (d - i)]).run Try.prog wr = .ok (.tuple #[]) (wr.setCells g (i * 3) (List.replicate ((n - i) * 3) (.int .i64 0))) := fun ty =>
          run_clear3 wr _ _ ty _ _ (Try.underlying22) (Try.zeroValue33) rfl rfl g (i * 3) (n - i) (d - i) (by omega)
            (fun k hk => by
              have e1 : k = (k / 3) * 3 + k % 3 := by omega
              have h := ho.at enc3_len (j := i + k / 3) (by omega) (i := k % 3) (by omega)
              rw [show (i + k / 3) * 3 + k % 3 = i * 3 + k by omega] at h
              rw [h]
              rcases (show k % 3 = 0 ∨ k % 3 = 1 ∨ k % 3 = 2 by omega) with e | e | e <;> rw [e] <;> rfl)
            (fun k _ => ho.free _)
        have HE := Lib.hid (show M.take i = L.filter fun x => !del x by have h := HK.out; rw [← HLN.out] at h; exact h.done)
        have HLM := Lib.hid ho.len
        have hic : (i : Int) ≤ (n : Int) := by omega
        have hic2 : i ≤ n := by omega
        have hid2 : i ≤ d := by omega
        have hidI : (i : Int) ≤ (d : Int) := by omega
        have hS2 := ho.wiped (vs := List.replicate ((n - i) * 3) (.int .i64 0)) hic2
        rw [HE.out] at hS2
        have hb2 := below_setCells3 hgb.1 (List.replicate ((n - i) * 3) (Value.int .i64 0)) (i * 3) hb
        clear ho hb
        go_wp2
        go_ret
        exact ⟨i, rfl, hS2, hb2⟩
  · have hke : L = L.filter fun x => !del x := by
      refine (filter_first L ?_).symm
      intro x hx
      obtain ⟨k, hk, rfl⟩ := List.getElem_of_mem hx
      have e : L[k] = (t0 L k, t1 L k, t2 L k) := (ge_get (L := L) (j := k) hk).symm
      have := HI.out.2.1 k (by rw [HLN.out] at hk; have := HI.out.1; omega)
      rw [e]; simpa using this
    go_enter Try.func45, Try.ntmps45
    go_wp2_with fail
    refine (index_Lease hS hi hF hB HC.out).mono ?_; rintro e w1 ⟨rfl, b1⟩
    rw [if_neg hin]
    have hS1 := ho.below b1
    have HKE := Lib.hid hke
    clear hke
    go_wp2
    go_ret
    exact ⟨n, rfl, by rw [← HKE.out]; exact hS1, b1.mono hB⟩
theorem delete_Lease {w : World} {B : Nat} {q : Option Addr} {n d : Nat} {L : List (Int × Int × Int)} (ho : OwnR 33 enc3 3 w B q n d L) (hB : B ≤ w.heap.size) (hn : n < 1000000) {F : Nat} {cap : Array Value} {del : Int × Int × Int → Bool}
    (hF : ∀ (args : Array Value) (w : World), (callFunc F args).run Try.prog w = .ok (.enter F args) w)
    (hcall : ∀ (w' : World) (x : Int × Int × Int), Below B w w' → Calls Try.prog F (#[aggL x.1 x.2.1 x.2.2] ++ cap) w' fun e w'' => e = .returned (.bool (del x)) ∧ Below w'.heap.size w' w'') :
    Calls Try.prog 45 #[.slice q n d, .func (.func F) #[] cap] w fun e w' => ∃ m, e = .returned (.slice q m d) ∧ S3 w' q m d (L.filter fun x => !del x) ∧ Below B w w' :=
  (delete_LeaseR ho hB hn hF hcall).mono fun e w' ⟨m, h1, h2, h3⟩ => ⟨m, h1, (h2.sr enc3_len).s3, h3⟩
end Go.Proofs.Ytgnegemiiahkaaa
