/- headref.Fair's closures that compare (P42). Conditions: what the map bears is bounded. -/
import Derived.Test.YtgnegemiiahkaaaFairRef1
namespace Go.Proofs.Ytgnegemiiahkaaa
open Go Go.RowKit
set_option linter.unusedVariables false
set_option linter.unusedSimpArgs false

def cmpF (bg : Nat → Int) (i j : Nat) : Int := if bg i = bg j then (i : Int) - (j : Int) else bg i - bg j
theorem cmpF_less (bg : Nat → Int) (i j : Nat) : decide (cmpF bg i j < 0) = lessF bg i j := by
  unfold cmpF lessF
  by_cases h : bg i = bg j
  · rw [if_pos h]; simp [h]; omega
  · rw [if_neg h]; simp [h]; omega
theorem fair_cmp {wv : World} {bb bm n i j : Nat} {bg : Nat → Int} (hbox : wv.heap[bb]? = some (.cells #[.map (some bm)] 106 (0, 0))) (hM : MapI wv bm n bg) (hi : i < 1000000) (hj : j < 1000000)
    (h1 : 0 ≤ bg i ∧ bg i ≤ 100000000) (h2 : 0 ≤ bg j ∧ bg j ≤ 100000000) {x : Int} (hx : cmpF bg i j = x) :
    Calls Try.prog 65 #[.int .i64 (i : Int), .int .i64 (j : Int), .pointer (some ⟨bb, 0, none⟩)] wv fun e w' => e = .returned (.int .i64 x) ∧ wv = w' := by
  have c0 : wv.cell? ⟨bb, 0, none⟩ = some (.map (some bm)) := blk_cell hbox 0
  have l1 := hM.look (i := i) (by omega)
  have l2 := hM.look (i := j) (by omega)
  obtain ⟨a, ha⟩ : ∃ a, bg i = a := ⟨_, rfl⟩
  obtain ⟨b, hb⟩ : ∃ b, bg j = b := ⟨_, rfl⟩
  unfold cmpF at hx
  rw [ha, hb] at hx
  rw [ha] at h1 l1
  rw [hb] at h2 l2
  clear ha hb hM hbox
  by_cases h : a = b
  · rw [if_pos h] at hx
    subst h
    subst hx
    go_enter Try.func65, Try.ntmps65
    go_wp2
    go_ret
    exact ⟨rfl, rfl⟩
  · rw [if_neg h] at hx
    subst hx
    have q1 : (a == b) = false := by simpa using h
    have q2 : (a != b) = true := by simpa using h
    go_enter Try.func65, Try.ntmps65
    go_wp2
    go_ret
    exact ⟨rfl, rfl⟩
theorem fair_is {wv : World} {bb : Nat} {x y : Int} {r : Bool} (hbox : wv.heap[bb]? = some (.cells #[.int .i64 y] 3 (0, 0))) (hr : (x == y) = r) :
    Calls Try.prog 67 #[.int .i64 x, .pointer (some ⟨bb, 0, none⟩)] wv fun e w' => e = .returned (.bool r) ∧ wv = w' := by
  have c0 : wv.cell? ⟨bb, 0, none⟩ = some (.int .i64 y) := blk_cell hbox 0
  clear hbox
  go_enter Try.func67, Try.ntmps67
  go_wp2
  go_ret
  exact ⟨by rw [← hr]; rfl, rfl⟩
theorem alloc_at (w : World) (o : Obj) (x : Nat) : (w.alloc o).heap[x]? = if x = w.heap.size then some o else w.heap[x]? := by
  show (w.heap.push o)[x]? = _
  rw [Array.getElem?_push]
/-- the state at the start -/
theorem FRef.start {w : World} {p q : Option Addr} {c m d : Nat} :
    FRef w p q c m d (((((((((w.alloc (.cells #[.slice p 8 c] 35)).alloc (.cells #[.slice q m d] 36)).alloc (.map #[] 0)).alloc (.cells #[.map (some (w.heap.size + 2))] 106)).alloc (.cells #[.int .i64 0, .int .i64 0, .int .i64 0, .int .i64 0, .int .i64 0, .int .i64 0, .int .i64 0, .int .i64 0] 3)).alloc (.cells #[.slice (some ⟨w.heap.size + 4, 0, none⟩) 8 8] 35)).alloc (.cells #[.slice none 0 0] 35)).alloc (.cells #[.int .i64 0] 3)).alloc (.cells #[.int .i64 0] 3)) startF none 0 none 0 := by
  refine ⟨?_, by simp, ?_, ?_, ?_, ?_, ?_, ?_, ?_, ?_, ?_, OwnI.nil _ _, OwnI.nil _ _, Sep.none_left⟩
  · exact (((((((((Below.refl _ _).alloc (Nat.le_refl _) _).alloc (by simp) _).alloc (by simp; omega) _).alloc (by simp; omega) _).alloc (by simp; omega) _).alloc (by simp; omega) _).alloc (by simp; omega) _).alloc (by simp; omega) _).alloc (by simp; omega) _
  · simp only [alloc_at, World.size_alloc]; repeat (first | rw [if_pos trivial] | rw [if_pos (by omega)] | rw [if_neg (by omega)])
  · simp only [alloc_at, World.size_alloc]; repeat (first | rw [if_pos trivial] | rw [if_pos (by omega)] | rw [if_neg (by omega)])
  · have hm := MapI.made ((w.alloc (.cells #[.slice p 8 c] 35)).alloc (.cells #[.slice q m d] 36))
    rw [show ((w.alloc (.cells #[.slice p 8 c] 35)).alloc (.cells #[.slice q m d] 36)).heap.size = w.heap.size + 2 by simp] at hm
    refine MapI.block hm ?_
    simp only [alloc_at, World.size_alloc]
    repeat (first | rw [if_pos trivial] | rw [if_pos (by omega)] | rw [if_neg (by omega)])
  · simp only [alloc_at, World.size_alloc]; repeat (first | rw [if_pos trivial] | rw [if_pos (by omega)] | rw [if_neg (by omega)])
  · simp only [alloc_at, World.size_alloc]; repeat (first | rw [if_pos trivial] | rw [if_pos (by omega)] | rw [if_neg (by omega)])
    rfl
  · simp only [alloc_at, World.size_alloc]; repeat (first | rw [if_pos trivial] | rw [if_pos (by omega)] | rw [if_neg (by omega)])
  · simp only [alloc_at, World.size_alloc]; repeat (first | rw [if_pos trivial] | rw [if_pos (by omega)] | rw [if_neg (by omega)])
    rfl
  · simp only [alloc_at, World.size_alloc]; repeat (first | rw [if_pos trivial] | rw [if_pos (by omega)] | rw [if_neg (by omega)])
    rfl
  · simp only [alloc_at, World.size_alloc]; repeat (first | rw [if_pos trivial] | rw [if_pos (by omega)] | rw [if_neg (by omega)])
    rfl
theorem FRef.upd {w0 wv v : World} {p q : Option Addr} {c m d : Nat} {s s' : FS} {qw qw' qo qo' : Option Addr} {dw dw' dd dd' b : Nat} (h : FRef w0 p q c m d wv s qw dw qo dd) (hb : w0.heap.size = b)
    (hbel : Below w0.heap.size w0 v) (hz : wv.heap.size ≤ v.heap.size) (hk : ∀ x, x < b + 9 → x ≠ b + 6 → x ≠ b + 7 → v.heap[x]? = wv.heap[x]?) (e1 : s'.E = s.E) (e2 : s'.bg = s.bg) (e3 : s'.next = s.next)
    (bq' : v.heap[b + 6]? = some (.cells #[.slice qw' s'.wait.length dw'] 35 (0, 0))) (bla' : v.heap[b + 7]? = some (.cells #[.int .i64 s'.last] 3 (0, 0)))
    (wr' : OwnI v (b + 9) qw' s'.wait.length dw' (natL s'.wait)) (or' : OwnI v (b + 9) qo' s'.order.length dd' (ordL s')) (sep' : Sep qw' qo') : FRef w0 p q c m d v s' qw' dw' qo' dd' := by
  subst hb
  have hz0 := h.size
  exact ⟨hbel, by omega, (hk _ (by omega) (by omega) (by omega)).trans h.bw, (hk _ (by omega) (by omega) (by omega)).trans h.bl, by rw [e2, e3]; exact h.bm.block (hk _ (by omega) (by omega) (by omega)), (hk _ (by omega) (by omega) (by omega)).trans h.bb, by rw [e1]; exact (hk _ (by omega) (by omega) (by omega)).trans h.arr, (hk _ (by omega) (by omega) (by omega)).trans h.be, bq', bla', by rw [e3]; exact (hk _ (by omega) (by omega) (by omega)).trans h.bn, wr', or', sep'⟩
theorem OwnI.keepG {w w' : World} {B n c : Nat} {p q : Option Addr} {m d : Nat} {M : List Int} (hq : OwnI w B q m d M) (hg : w.grownBy w' (Value.slice p n c).ownBlock) (hs : Sep p q) : OwnI w' B q m d M := by
  refine hq.blkEq (fun a ha => ?_)
  have h8 := hq.1.lt a.block (by rw [ha]; rfl)
  exact hg.block a.block h8.2 (fun e => by
    cases p with
    | none => simp [Value.ownBlock] at e
    | some x => simp only [Value.ownBlock, Option.some.injEq] at e; exact hs x a rfl ha e.symm)
theorem OwnI.hi {w : World} {B n c : Nat} {q : Option Addr} {L : List Int} (h : OwnI w B q n c L) {x : Nat} (hx : x < B) (v : Value) {j : Nat} : OwnI (w.setCell ⟨x, j, none⟩ v) B q n c L :=
  h.blkEq (fun a ha => Below.heap_setCell _ _ _ _ (by have := h.1.lt a.block (by rw [ha]; rfl); show a.block ≠ x; omega))
theorem FRef.cut {w0 wv v : World} {p q : Option Addr} {c m d : Nat} {s s' : FS} {gw : Nat} {qo : Option Addr} {dw dd b n' : Nat} (h : FRef w0 p q c m d wv s (some ⟨gw, 0, none⟩) dw qo dd) (hb : w0.heap.size = b)
    (hg : wv.grownBy v (Value.slice (some ⟨gw, 0, none⟩) s.wait.length dw).ownBlock) (ho : OwnI v (b + 9) (some ⟨gw, 0, none⟩) n' dw (natL s'.wait)) (e1 : s'.E = s.E) (e2 : s'.bg = s.bg) (e3 : s'.next = s.next) (e4 : s'.last = s.last) (e5 : s'.order = s.order) (e6 : s'.wait.length = n') :
    FRef w0 p q c m d (v.setCell ⟨b + 6, 0, none⟩ (.slice (some ⟨gw, 0, none⟩) n' dw)) s' (some ⟨gw, 0, none⟩) dw qo dd := by
  have hz0 := h.size
  have hz1 := hg.size
  have hgw := ho.blk
  have hk : ∀ x, x < b + 9 → v.heap[x]? = wv.heap[x]? := fun x hx => hg.block x (by omega) (fun e => by simp only [Value.ownBlock, Option.some.injEq] at e; omega)
  have hbel : Below w0.heap.size w0 v := h.below.grown hg h.below.size (fun j hj => by simp only [Value.ownBlock, Option.some.injEq] at hj; omega)
  refine h.upd (s' := s') hb (hbel.setCell (p := ⟨b + 6, 0, none⟩) (by show w0.heap.size ≤ b + 6; omega) _) (by simpa using hz1) (fun x hx h6 h7 => (Below.heap_setCell _ _ _ x h6).trans (hk x hx)) e1 e2 e3 ?_ ?_ ?_ ?_ h.sep
  · have ha := h.bq
    rw [hb] at ha
    have h9 := blk_set (j := 0) (v := .slice (some ⟨gw, 0, none⟩) n' dw) ((hk _ (by omega)).trans ha)
    rw [e6]; simpa using h9
  · have ha := h.bla
    rw [hb] at ha
    rw [e4]
    exact ((Below.heap_setCell _ _ _ _ (by show b + 7 ≠ b + 6; omega)).trans (hk _ (by omega))).trans ha
  · rw [e6]; exact ho.hi (by omega) _
  · have hq := h.orow
    rw [hb] at hq
    have h9 := (hq.keepG hg h.sep).hi (x := b + 6) (by omega) (.slice (some ⟨gw, 0, none⟩) n' dw) (j := 0)
    unfold ordL at *
    rw [e5]; exact h9
theorem FRef.setLast {w0 wv : World} {p q : Option Addr} {c m d : Nat} {s s' : FS} {qw qo : Option Addr} {dw dd b : Nat} {x : Int} (h : FRef w0 p q c m d wv s qw dw qo dd) (hb : w0.heap.size = b)
    (e1 : s'.E = s.E) (e2 : s'.bg = s.bg) (e3 : s'.next = s.next) (e4 : s'.last = x) (e5 : s'.order = s.order) (e6 : s'.wait = s.wait) :
    FRef w0 p q c m d (wv.setCell ⟨b + 7, 0, none⟩ (.int .i64 x)) s' qw dw qo dd := by
  have hz0 := h.size
  refine h.upd (s' := s') hb (h.below.setCell (p := ⟨b + 7, 0, none⟩) (by show w0.heap.size ≤ b + 7; omega) _) (by simp) (fun y hx h6 h7 => Below.heap_setCell _ _ _ y h7) e1 e2 e3 ?_ ?_ ?_ ?_ h.sep
  · have ha := h.bq
    rw [hb] at ha
    rw [e6]
    exact (Below.heap_setCell _ _ _ _ (by show b + 6 ≠ b + 7; omega)).trans ha
  · have ha := h.bla
    rw [hb] at ha
    have h9 := blk_set (j := 0) (v := .int .i64 x) ha
    rw [e4]; simpa using h9
  · have hq := h.wrow
    rw [hb] at hq
    rw [e6]; exact hq.hi (by omega) _
  · have hq := h.orow
    rw [hb] at hq
    unfold ordL at *
    rw [e5]; exact hq.hi (by omega) _
theorem FRef.pushO {w0 wv w4 : World} {p q : Option Addr} {c m d : Nat} {s s' : FS} {qw qo q' : Option Addr} {dw dd d' b : Nat} {o : Obj} (h : FRef w0 p q c m d wv s qw dw qo dd) (hb : w0.heap.size = b)
    (ho : OwnI w4 (b + 9) q' (s.order.length + 1) d' (ordL s')) (e1 : s'.E = s.E) (e2 : s'.bg = s.bg) (e3 : s'.next = s.next) (e4 : s'.last = s.last) (e5 : s'.order.length = s.order.length + 1) (e6 : s'.wait = s.wait) (hb4 : Below (b + 9) wv w4)
    (hg : (wv.alloc o).grownBy w4 (Value.slice qo s.order.length dd).ownBlock) (ha : ∃ g, q' = some ⟨g, 0, none⟩ ∧ (qo = some ⟨g, 0, none⟩ ∨ g = wv.heap.size + 1)) : FRef w0 p q c m d w4 s' qw dw q' d' := by
  have hz0 := h.size
  have hq := h.wrow
  rw [hb] at hq
  refine h.upd (s' := s') hb (h.below.trans (hb4.mono (by omega))) hb4.size (fun y hx _ _ => hb4.block y hx) e1 e2 e3 ?_ ?_ ?_ (by rw [e5]; exact ho) (Sep.symm (Sep.push h.sep.symm hq ha))
  · have ha := h.bq
    rw [hb] at ha
    rw [e6]; exact (hb4.block _ (by omega)).trans ha
  · have ha := h.bla
    rw [hb] at ha
    rw [e4]; exact (hb4.block _ (by omega)).trans ha
  · rw [e6]; exact OwnI.keep hq hg h.sep.symm
theorem Try.made8 (W : World) : (Instr.makeSlice 35 (.int .i64 8) (.int .i64 8)).run Try.prog W = .ok (.slice (some ⟨W.heap.size, 0, none⟩) 8 8) (W.alloc (.cells #[.int .i64 0, .int .i64 0, .int .i64 0, .int .i64 0, .int .i64 0, .int .i64 0, .int .i64 0, .int .i64 0] 3)) := by
  obtain ⟨i, hi, hz0, hz1, hz2⟩ := info_parts Try.tyIntsFr.info
  have h := run_make (P := Try.prog) W 35 3 i (.int .i64 0) Try.underlying35 hi hz0 .i64 .i64 8 8 (by omega) (by omega) (by rw [hz2]; omega) (by omega)
  rw [hz1, show madeCells (Value.int .i64 0).cells (Int.toNat 8 * 1) = #[.int .i64 0, .int .i64 0, .int .i64 0, .int .i64 0, .int .i64 0, .int .i64 0, .int .i64 0, .int .i64 0] by kernel_rfl] at h
  exact h
end Go.Proofs.Ytgnegemiiahkaaa
