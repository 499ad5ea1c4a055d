/- The contracts of world.New, World.next, Tick, Append, Crash and Peers (P72 to P76). Conditions: at most 8 peers, and what holds of a peer. -/
import Derived.Test.YtgbccpfehcjhbaaGreatDoorM14
import Derived.Test.YtgbccpfehcjhbaaGreatDoorRows
import Derived.Deep.QuietTactic
import Derived.BigQuiet
import Derived.IntWalk
import Derived.RegionTactic
import Derived.BigRegion
namespace Go.Proofs.YtgbccpfehcjhbaaGreatDoor
open Go Go.RowKit
set_option linter.unusedVariables false
set_option linter.unusedSimpArgs false

theorem Tryz.tyPeers : SliceTy Tryz.prog 64 67 (.agg #[.int .i64 0, .int .i64 0, .bool false]) 3 24 := ⟨Tryz.underlying64, by kernel_rfl⟩
abbrev OwnP (w : World) (B h n : Nat) (L : List Peer) : Prop := OwnR 67 encP 3 w B (some ⟨h, 0, none⟩) n n L
/-- a world's box and its row of peers -/
structure WorldAt (w : World) (T : TypeId) (B g h : Nat) (rate unit : Int) (n : Nat) (L : List Peer) (turn : Nat) : Prop where
  box : w.heap[g]? = some (.cells #[.int .i64 rate, .int .i64 unit, .slice (some ⟨h, 0, none⟩) n n, .int .i64 (turn : Int)] T (0, 0))
  own : OwnP w B h n L
  bg : B ≤ g
  ne : g ≠ h
theorem WorldAt.below {w w' : World} {T : TypeId} {B g h : Nat} {rate unit : Int} {n : Nat} {L : List Peer} {turn : Nat} (k : WorldAt w T B g h rate unit n L turn) (hb : Below w.heap.size w w') : WorldAt w' T B g h rate unit n L turn :=
  ⟨blk_below k.box hb, k.own.below hb, k.bg, k.ne⟩
theorem WorldAt.cells {w : World} {T : TypeId} {B g h : Nat} {rate unit : Int} {n : Nat} {L : List Peer} {turn : Nat} (k : WorldAt w T B g h rate unit n L turn) :
    w.cell? ⟨g, 0, none⟩ = some (.int .i64 rate) ∧ w.cell? ⟨g, 1, none⟩ = some (.int .i64 unit) ∧ w.cell? ⟨g, 2, none⟩ = some (.slice (some ⟨h, 0, none⟩) n n) ∧ w.cell? ⟨g, 3, none⟩ = some (.int .i64 (turn : Int)) ∧ w.frozen? ⟨g, 3, none⟩ = false ∧ g < w.heap.size ∧ h < w.heap.size ∧ B ≤ h ∧ L.length = n :=
  ⟨blk_cell k.box 0, blk_cell k.box 1, blk_cell k.box 2, blk_cell k.box 3, blk_free k.box 3, (Array.getElem?_eq_some_iff.1 k.box).1, k.own.blk.2, k.own.blk.1, k.own.len⟩
theorem cellsP {w : World} {B h n k : Nat} {L : List Peer} (ho : OwnP w B h n L) (hk : k < n) :
    w.cell? ⟨h, k * 3, none⟩ = some (.int .i64 (pl L k)) ∧ w.cell? ⟨h, k * 3 + 1, none⟩ = some (.int .i64 (pp L k)) ∧ w.cell? ⟨h, k * 3 + 2, none⟩ = some (.bool (pd L k)) :=
  ⟨ho.at encP_len hk (i := 0) (by omega), ho.at encP_len hk (i := 1) (by omega), ho.at encP_len hk (i := 2) (by omega)⟩
theorem freeP {w : World} {B h n : Nat} {L : List Peer} (ho : OwnP w B h n L) (k : Nat) :
    w.frozen? ⟨h, k * 3, none⟩ = false ∧ w.frozen? ⟨h, k * 3 + 1, none⟩ = false ∧ w.frozen? ⟨h, k * 3 + 2, none⟩ = false := ⟨ho.free _, ho.free _, ho.free _⟩

set_option maxHeartbeats 800000 in
theorem world_next {w : World} {T : TypeId} {B g h : Nat} {rate unit : Int} {n : Nat} {L : List Peer} {t : Nat} (k : WorldAt w T B g h rate unit n L t) (hn : n ≤ 8) (ht : t < n) {r : Int} {ok : Bool} (hr : r = if nx L t < n then (((t + nx L t) % n : Nat) : Int) else 0) (hok : ok = decide (nx L t < n)) :
    Calls Tryz.prog 131 #[.pointer (some ⟨g, 0, none⟩)] w fun e w' => e = .returned (.tuple #[.int .i64 r, .bool ok]) ∧ Below w.heap.size w w' := by
  have HRR := Lib.hid hr
  have HOK := Lib.hid hok
  clear hr hok
  obtain ⟨c0, c1, c2, c3, f3, hg, hh, hB, hl⟩ := k.cells
  have hown := k.own
  have hnx := nx_le L t
  rw [hl] at hnx
  have HL := Lib.hid hl
  clear k hl c0 c1 f3
  go_enter Tryz.func131, Tryz.ntmps131
  go_wp2
  go_loopw [11] (fun i wr => ∃ k : Nat, k ≤ nx L t ∧ i = .int .i64 k ∧ Below w.heap.size w wr) (fun i _ => n - (intOf i).toNat)
  case atStart => exact ⟨0, Nat.zero_le _, rfl, Below.refl _ _⟩
  case round =>
    obtain ⟨k, hk, rfl, hb⟩ := hrel
    have hsz := hb.size
    by_cases hkn : k < n
    · have hown2 := hown.below hb
      have d2 := (bdeep hb hg _).trans c2
      have d3 := (bdeep hb hg _).trans c3
      have hin : (t + k) % n < n := Nat.mod_lt _ (by omega)
      obtain ⟨e0, e1, e2⟩ := cellsP hown2 hin
      have q1 : Int.tmod ((t : Int) + (k : Int)) (n : Int) = (((t + k) % n : Nat) : Int) := by
        rw [Int.tmod_eq_emod_of_nonneg (by omega)]; simp
      have HN := Lib.hid (show k < nx L t → pd L ((t + k) % n) = true by intro h; rw [← HL.out]; exact nx_before h)
      have HA := Lib.hid (show nx L t < n → pd L ((t + nx L t) % n) = false by intro h; rw [← HL.out]; exact nx_at (by rw [HL.out]; exact h))
      have HB := Lib.hid hb
      clear hown2 c2 c3 e0 e1 hb
      generalize hi : (t + k) % n = i at *
      have HI := Lib.hid hi
      clear hi
      by_cases hkx : k < nx L t
      · rw [HN.out hkx] at e2
        go_wp2
        go_quiet (fail)
        go_wp2
        go_roundw
        case rel => exact ⟨k + 1, by omega, by go_num, below_drewN HB.out _⟩
        case measure => simp [intOf]; omega
      · obtain rfl : k = nx L t := by omega
        have hia := HA.out hkn
        rw [HI.out] at hia
        rw [hia] at e2
        obtain rfl : r = (i : Int) := by rw [HRR.out, if_pos hkn, HI.out]
        obtain rfl : ok = true := by rw [HOK.out, decide_eq_true hkn]
        clear HN HA HI HRR HOK
        generalize nx L t = k at *
        go_wp2
        go_quiet (fail)
        go_wp2
        go_ret2
        exact ⟨rfl, below_drewN HB.out _⟩
    · have hkx : nx L t = n := by omega
      obtain rfl : n = k := by omega
      obtain rfl : r = 0 := by rw [HRR.out, if_neg (by omega)]
      obtain rfl : ok = false := by rw [HOK.out, decide_eq_false (by omega)]
      clear hkx HRR HOK
      go_wp2
      go_ret2
      exact ⟨rfl, hb⟩

theorem WorldAt.turnTo {w : World} {T : TypeId} {B g h : Nat} {rate unit : Int} {n : Nat} {L : List Peer} {t : Nat} (k : WorldAt w T B g h rate unit n L t) (t' : Nat) : WorldAt (w.setCell ⟨g, 3, none⟩ (.int .i64 (t' : Int))) T B g h rate unit n L t' := by
  refine ⟨?_, k.own.apart (fun g' e => ?_), k.bg, k.ne⟩
  · have := blk_set (j := 3) (v := .int .i64 (t' : Int)) k.box
    simpa using this
  · simp only [Option.some.injEq, Addr.mk.injEq, and_true] at e
    rw [← e]; exact fun e2 => k.ne e2.symm
theorem WorldAt.upd {w : World} {T : TypeId} {B g h : Nat} {rate unit : Int} {n : Nat} {L : List Peer} {t : Nat} (k : WorldAt w T B g h rate unit n L t) {i f : Nat} {x : Peer} {v : Value} (hi : i < n) (hf : f < 3) (e : encP x = (encP (ge L i)).set f v) : WorldAt (w.setCell ⟨h, i * 3 + f, none⟩ v) T B g h rate unit n (L.set i x) t :=
  ⟨blk_other k.box k.ne, k.own.upd encP_len hi hf e, k.bg, k.ne⟩
theorem WorldAt.drew {w : World} {T : TypeId} {B g h : Nat} {rate unit : Int} {n : Nat} {L : List Peer} {t : Nat} (k : WorldAt w T B g h rate unit n L t) : WorldAt w.drew T B g h rate unit n L t := ⟨k.box, ⟨k.own.1.drew, k.own.2⟩, k.bg, k.ne⟩
theorem WorldAt.drewN {w : World} {T : TypeId} {B g h : Nat} {rate unit : Int} {n : Nat} {L : List Peer} {t : Nat} (k : WorldAt w T B g h rate unit n L t) (s : Nat) : WorldAt (w.drewN s) T B g h rate unit n L t := ⟨k.box, k.own.drewN s, k.bg, k.ne⟩
theorem WorldAt.to {w : World} {T : TypeId} {B g h : Nat} {rate unit : Int} {n : Nat} {L L' : List Peer} {t t' : Nat} (k : WorldAt w T B g h rate unit n L t) (e : L = L') (e' : t = t') : WorldAt w T B g h rate unit n L' t' := e ▸ e' ▸ k

/-- only the two blocks are changed -/
structure Only (w w' : World) (g h : Nat) : Prop where
  size : w.heap.size ≤ w'.heap.size
  same : ∀ b, b < w.heap.size → b ≠ g → b ≠ h → w'.heap[b]? = w.heap[b]?
theorem Only.refl (w : World) (g h : Nat) : Only w w g h := ⟨Nat.le_refl _, fun _ _ _ _ => rfl⟩
theorem Only.trans {a b c : World} {g h : Nat} (x : Only a b g h) (y : Only b c g h) : Only a c g h := ⟨Nat.le_trans x.size y.size, fun k h1 h2 h3 => (y.same k (Nat.lt_of_lt_of_le h1 x.size) h2 h3).trans (x.same k h1 h2 h3)⟩
theorem Only.below {a b c : World} {g h : Nat} (x : Only a b g h) (y : Below b.heap.size b c) : Only a c g h := x.trans ⟨y.size, fun k h1 _ _ => y.block k h1⟩
theorem Only.set {a b : World} {g h j : Nat} {v : Value} (x : Only a b g h) {g' : Nat} (hg : g' = g ∨ g' = h) : Only a (b.setCell ⟨g', j, none⟩ v) g h :=
  x.trans ⟨by simp, fun k h1 h2 h3 => Below.heap_setCell _ _ _ _ (fun e => by rcases hg with rfl | rfl; exact h2 e; exact h3 e)⟩
theorem Only.drewN {a b : World} {g h : Nat} (x : Only a b g h) (s : Nat) : Only a (b.drewN s) g h := ⟨x.size, x.same⟩
theorem only_part {g h i : Nat} {w0 w : World} {u v : Value} (hb : Only w0 w g h) (s : Nat) : Only w0 (((w.setCell ⟨g, 3, none⟩ u).setCell ⟨h, i, none⟩ v).drewN s) g h :=
  ((hb.set (.inl rfl)).set (.inr rfl)).drewN s
theorem only_three {g h i j k : Nat} {w0 w : World} {u v x : Value} (hb : Only w0 w g h) : Only w0 (((w.setCell ⟨h, i, none⟩ u).setCell ⟨h, j, none⟩ v).setCell ⟨h, k, none⟩ x) g h :=
  ((hb.set (.inr rfl)).set (.inr rfl)).set (.inr rfl)
theorem WorldAt.only {w w' : World} {T : TypeId} {B g h g' h' : Nat} {rate unit : Int} {n : Nat} {L : List Peer} {turn : Nat} (k : WorldAt w T B g h rate unit n L turn) (o : Only w w' g' h') (h1 : g ≠ g') (h2 : g ≠ h') (h3 : h ≠ g') (h4 : h ≠ h') : WorldAt w' T B g h rate unit n L turn := by
  refine ⟨?_, ⟨⟨k.own.1.1, ?_⟩, k.own.2⟩, k.bg, k.ne⟩
  · rw [o.same g (Array.getElem?_eq_some_iff.1 k.box).1 h1 h2]; exact k.box
  · rcases k.own.1.2 with h5 | ⟨g2, cap, cur, hv, hg, hh, r⟩
    · exact .inl h5
    · refine .inr ⟨g2, cap, cur, hv, hg, ?_, r⟩
      simp only [Value.slice.injEq, Option.some.injEq, Addr.mk.injEq, and_true, true_and] at hv
      rw [o.same g2 (Array.getElem?_eq_some_iff.1 hh).1 (by rw [← hv.1]; exact h3) (by rw [← hv.1]; exact h4)]; exact hh
theorem OwnI.only {w w' : World} {B g0 n c g' h' : Nat} {xs : List Int} (k : OwnI w B (some ⟨g0, 0, none⟩) n c xs) (o : Only w w' g' h') (h3 : g0 ≠ g') (h4 : g0 ≠ h') : OwnI w' B (some ⟨g0, 0, none⟩) n c xs := by
  refine ⟨⟨k.1.1, ?_⟩, k.2⟩
  rcases k.1.2 with h5 | ⟨g2, cap, cur, hv, hg, hh, r⟩
  · exact .inl h5
  · refine .inr ⟨g2, cap, cur, hv, hg, ?_, r⟩
    simp only [Value.slice.injEq, Option.some.injEq, Addr.mk.injEq, and_true, true_and] at hv
    rw [o.same g2 (Array.getElem?_eq_some_iff.1 hh).1 (by rw [← hv.1]; exact h3) (by rw [← hv.1]; exact h4)]; exact hh
theorem modCastW (i n : Nat) : (((i : Int) + 1) % (n : Int)) = (((i + 1) % n : Nat) : Int) := by simp
theorem WorldAt.part {w : World} {T : TypeId} {B g h : Nat} {rate unit : Int} {n : Nat} {M : List Peer} {t : Nat} (k : WorldAt w T B g h rate unit n M t) {i : Nat} (hi : i < n) (q : Int) (s : Nat) :
    WorldAt (((w.setCell ⟨g, 3, none⟩ (.int .i64 (((i : Int) + 1) % (n : Int)))).setCell ⟨h, i * 3 + 1, none⟩ (.int .i64 q)).drewN s) T B g h rate unit n (M.set i (pl M i, q, pd M i)) ((i + 1) % n) := by
  have k1 := k.turnTo ((i + 1) % n)
  rw [← modCastW] at k1
  exact (k1.upd (f := 1) (x := (pl M i, q, pd M i)) hi (by omega) rfl).drewN s
theorem WorldAt.byte {w : World} {T : TypeId} {B g h : Nat} {rate unit : Int} {n : Nat} {M : List Peer} {t : Nat} (k : WorldAt w T B g h rate unit n M t) {i : Nat} (hi : i < n) (q v : Int) (b : Bool) (s : Nat) :
    WorldAt (((((((w.setCell ⟨g, 3, none⟩ (.int .i64 (((i : Int) + 1) % (n : Int)))).setCell ⟨h, i * 3 + 1, none⟩ (.int .i64 q)).drewN s).setCell ⟨h, i * 3, none⟩ (.int .i64 v)).setCell ⟨h, i * 3 + 1, none⟩ (.int .i64 0)).setCell ⟨h, i * 3 + 2, none⟩ (.bool b))) T B g h rate unit n (M.set i (v, 0, b)) ((i + 1) % n) := by
  have hl := k.own.len
  have k1 := k.part hi q s
  have k2 := k1.upd (f := 0) (x := (v, q, pd M i)) (v := .int .i64 v) hi (by omega) (by rw [ge_set i (by omega), if_pos rfl]; rfl)
  have k3 := k2.upd (f := 1) (x := (v, 0, pd M i)) (v := .int .i64 0) hi (by omega) (by rw [ge_set i (by simp; omega), if_pos rfl]; rfl)
  have k4 := k3.upd (f := 2) (x := (v, 0, b)) (v := .bool b) hi (by omega) (by rw [ge_set i (by simp; omega), if_pos rfl]; rfl)
  exact k4.to (by simp only [List.set_set]) rfl
theorem below_part {B g h i : Nat} {w0 w : World} {u v : Value} (hb : Below B w0 w) (hg : B ≤ g) (hh : B ≤ h) (s : Nat) : Below B w0 (((w.setCell ⟨g, 3, none⟩ u).setCell ⟨h, i, none⟩ v).drewN s) :=
  below_drewN ((hb.setCell (p := ⟨g, 3, none⟩) hg _).setCell (p := ⟨h, i, none⟩) hh _) s
theorem below_three {B h i j k : Nat} {w0 w : World} {u v x : Value} (hb : Below B w0 w) (hh : B ≤ h) : Below B w0 (((w.setCell ⟨h, i, none⟩ u).setCell ⟨h, j, none⟩ v).setCell ⟨h, k, none⟩ x) :=
  ((hb.setCell (p := ⟨h, i, none⟩) hh _).setCell (p := ⟨h, j, none⟩) hh _).setCell (p := ⟨h, k, none⟩) hh _

set_option maxRecDepth 100000 in
set_option maxHeartbeats 1600000 in
theorem world_Tick {w : World} {T : TypeId} {B g h : Nat} {rate n t : Nat} {unit : Int} {L : List Peer} (k : WorldAt w T B g h rate unit n L t) (hn : 1 ≤ n ∧ n ≤ 8) (ht : t < n) (hG : GoodL L) (hr : rate ≤ 1000) (hu : 1 ≤ unit ∧ unit ≤ 1000) (hBw : B ≤ w.heap.size) :
    Calls Tryz.prog 114 #[.pointer (some ⟨g, 0, none⟩)] w fun e w' => e = .returned (.int .i64 (tickR unit (L, t) rate : Nat)) ∧ WorldAt w' T B g h rate unit n (runW unit (L, t) rate).1 (runW unit (L, t) rate).2 ∧ Below B w w' ∧ Only w w' g h := by
  obtain ⟨c0, c1, c2, c3, f3, hg, hh, hB, hl⟩ := k.cells
  have HL := Lib.hid hl
  have HG := Lib.hid hG
  have HT := Lib.hid (show t < (L, t).1.length by show t < L.length; omega)
  clear hl c1 c2 c3 f3 hG
  go_enter Tryz.func114, Tryz.ntmps114
  go_wp2
  go_loopw [11] (fun i wr => ∃ m : Nat, m ≤ rate ∧ i = .int .i64 m ∧ Hid (∀ j, j < m → stuckW (runW unit (L, t) j) = false) ∧ WorldAt wr T B g h rate unit n (runW unit (L, t) m).1 (runW unit (L, t) m).2 ∧ Below B w wr ∧ B ≤ wr.heap.size ∧ Only w wr g h) (fun i _ => rate - (intOf i).toNat)
  case atStart => exact ⟨0, Nat.zero_le _, rfl, Lib.hid (fun j hj => by omega), k, Below.refl _ _, hBw, Only.refl _ _ _⟩
  case round =>
    clear k c0 hg hh
    obtain ⟨m, hm, rfl, HJ, K, hb, hsz, hO⟩ := hrel
    by_cases hmr : m < rate
    · have hlm := runW_len (u := unit) (s := (L, t)) m
      have hSt : Hid (runW unit (L, t) (m + 1) = stepW unit (runW unit (L, t) m)) := Lib.hid rfl
      have hGm := runW_good (u := unit) (s := (L, t)) HG.out m
      have hTm := runW_turn (u := unit) (s := (L, t)) HT.out m
      have HST := Lib.hid (show ∀ (h : stuckW (runW unit (L, t) m) = true), tickR unit (L, t) rate = m ∧ runW unit (L, t) rate = runW unit (L, t) m from fun h => by
        refine ⟨fstP_one ⟨hm, HJ.out, fun _ => h⟩, ?_⟩
        have := runW_stuck h (rate - m)
        rwa [show m + (rate - m) = rate by omega] at this)
      obtain ⟨s, hs⟩ : ∃ s, runW unit (L, t) m = s := ⟨_, rfl⟩
      have HRM := Lib.hid hs
      rw [hs] at K hlm hSt hGm hTm HST
      clear hs
      obtain ⟨M, tm⟩ := s
      have hlM : M.length = n := by rw [← HL.out]; exact hlm
      have htm : tm < n := by rw [← hlM]; exact hTm
      clear hlm hTm
      have HLM := Lib.hid hlM
      have HGM := Lib.hid hGm
      clear hlM hGm
      obtain ⟨r, hr⟩ : ∃ r : Int, r = if nx M tm < n then (((tm + nx M tm) % n : Nat) : Int) else 0 := ⟨_, rfl⟩
      obtain ⟨ok, hok⟩ : ∃ ok : Bool, ok = decide (nx M tm < n) := ⟨_, rfl⟩
      have HNR := Lib.hid (world_next K hn.2 htm hr hok)
      have HRR := Lib.hid hr
      have HOK := Lib.hid hok
      clear hr hok
      go_wp2_with fail
      refine HNR.out.mono ?_; rintro e w2 ⟨rfl, b2⟩
      have K2 := K.below b2
      have hb2 := hb.trans (b2.mono hsz)
      have hsz2 := Nat.le_trans hsz b2.size
      have hO2 := hO.below b2
      clear K b2 hb hsz hO
      obtain ⟨c0, c1, c2, c3, f3, hg, hh, hB, _⟩ := K2.cells
      have hne := K2.ne
      have hne2 : h ≠ g := fun e => hne e.symm
      by_cases hx : nx M tm < n
      · obtain rfl : ok = true := by rw [HOK.out, decide_eq_true hx]
        have HRI := Lib.hid (show r = (((tm + nx M tm) % n : Nat) : Int) by rw [HRR.out, if_pos hx])
        clear HRR HOK HNR
        have HW : Hid ((tm + nx M tm) % n = who (M, tm)) := Lib.hid (by unfold who; rw [HLM.out])
        have HSN := Lib.hid (show stepW unit (M, tm) = (M.set (who (M, tm)) (putW unit (ge M (who (M, tm)))), (who (M, tm) + 1) % n) by unfold stepW; rw [if_pos (by rw [HLM.out]; exact hx), HLM.out])
        have HNS : Hid (stuckW (M, tm) = false) := Lib.hid (by show decide (nx M tm = M.length) = false; rw [HLM.out]; exact decide_eq_false (by omega))
        have hi : (tm + nx M tm) % n < n := Nat.mod_lt _ (by omega)
        have HPF : Hid (pd M ((tm + nx M tm) % n) = false) := Lib.hid (by have := nx_at (L := M) (t := tm) (by rw [HLM.out]; exact hx); rwa [HLM.out] at this)
        generalize (tm + nx M tm) % n = i at *
        obtain rfl : r = (i : Int) := HRI.out
        clear HRI
        obtain ⟨g1, g2, g3, g4⟩ := HGM.out i (by rw [HLM.out]; exact hi)
        have q1 : Int.tmod ((i : Int) + 1) (n : Int) = (((i + 1) % n : Nat) : Int) := by
          rw [Int.tmod_eq_emod_of_nonneg (by omega)]; simp
        obtain ⟨e0, e1, e2⟩ := cellsP K2.own hi
        obtain ⟨f0, f1, f2⟩ := freeP K2.own i
        rw [HPF.out] at e2
        change 0 ≤ pp M i at g1
        change pp M i < pl M i ∨ (pl M i = 0 ∧ pp M i = 0) at g2
        change pd M i = decide (pl M i = 0) at g3
        change pl M i ≤ 1000000 at g4
        rw [HPF.out] at g3
        have g5 : ¬ pl M i = 0 := of_decide_eq_false g3.symm
        have g6 : pp M i < pl M i := by omega
        clear g2 g3 g5 hx
        obtain ⟨q, hq⟩ : ∃ q, pp M i + 1 = q := ⟨_, rfl⟩
        have HJN := Lib.hid (show ∀ j, j < m + 1 → stuckW (runW unit (L, t) j) = false from fun j hj => by
          rcases Nat.lt_succ_iff_lt_or_eq.1 hj with h | rfl
          · exact HJ.out j h
          · rw [← HRM.out] at HNS; exact HNS.out)
        have HPUT : Hid (runW unit (L, t) (m + 1) = (M.set i (putW unit (pl M i, pp M i, false)), (i + 1) % n)) := Lib.hid (by
          rw [hSt.out, HSN.out, ← HW.out]
          have e : ge M i = (pl M i, pp M i, false) := by rw [← HPF.out]; rfl
          rw [e])
        have hq1 : 0 ≤ q := by omega
        have hq2 : q ≤ 1000000 := by omega
        have hq3 : q ≤ pl M i := by omega
        have HQ := Lib.hid hq
        have KP := fun s => K2.part hi q s
        have KB := fun v b s => K2.byte hi q v b s
        have BP := fun u v (j s : Nat) => below_part (i := j) (u := u) (v := v) hb2 (Nat.le_trans K2.bg (Nat.le_refl _)) hB s
        have OP := fun u v (j s : Nat) => only_part (i := j) (u := u) (v := v) hO2 s
        by_cases hc : q = unit
        · have hb1 : (q == unit) = true := by simp [hc]
          have HRES := Lib.hid (show runW unit (L, t) (m + 1) = (M.set i (pl M i - q, 0, (pl M i - q == 0)), (i + 1) % n) by
            rw [HPUT.out]; unfold putW; simp only; rw [HQ.out, if_pos (.inl hc)]; rfl)
          have HC := Lib.hid hc
          clear hc
          go_wp2
          go_quiet (fail)
          go_wp2
          go_region
          go_wp2
          go_roundw
          case rel => exact ⟨m + 1, by omega, by go_num, HJN, (KB _ _ _).to (by rw [HRES.out]) (by rw [HRES.out]), below_three (BP _ _ _ _) hB, by simp; exact hsz2, only_three (OP _ _ _ _)⟩
          case measure => simp [intOf]; omega
        · have hb1 : (q == unit) = false := by simp [hc]
          by_cases hc2 : q = pl M i
          · have hb3 : (q == pl M i) = true := by simp [hc2]
            have HRES := Lib.hid (show runW unit (L, t) (m + 1) = (M.set i (pl M i - q, 0, (pl M i - q == 0)), (i + 1) % n) by
              rw [HPUT.out]; unfold putW; simp only; rw [HQ.out, if_pos (.inr hc2)]; rfl)
            have HC := Lib.hid hc
            have HC2 := Lib.hid hc2
            clear hc hc2
            go_wp2
            go_quiet (fail)
            go_wp2
            go_region
            go_wp2
            go_roundw
            case rel => exact ⟨m + 1, by omega, by go_num, HJN, (KB _ _ _).to (by rw [HRES.out]) (by rw [HRES.out]), below_three (BP _ _ _ _) hB, by simp; exact hsz2, only_three (OP _ _ _ _)⟩
            case measure => simp [intOf]; omega
          · have hb3 : (q == pl M i) = false := by simp [hc2]
            have HRES := Lib.hid (show runW unit (L, t) (m + 1) = (M.set i (pl M i, q, pd M i), (i + 1) % n) by
              rw [HPUT.out]; unfold putW; simp only; rw [HQ.out, if_neg (by omega), HPF.out])
            have HC := Lib.hid hc
            have HC2 := Lib.hid hc2
            clear hc hc2
            go_wp2
            go_quiet (fail)
            go_wp2
            go_roundw
            case rel => exact ⟨m + 1, by omega, by go_num, HJN, (KP _).to (by rw [HRES.out]) (by rw [HRES.out]), BP _ _ _ _, by simp; exact hsz2, OP _ _ _ _⟩
            case measure => simp [intOf]; omega
      · obtain rfl : r = 0 := by rw [HRR.out, if_neg hx]
        obtain rfl : ok = false := by rw [HOK.out, decide_eq_false hx]
        clear HRR HOK HNR
        have HNS : Hid (stuckW (M, tm) = true) := Lib.hid (by show decide (nx M tm = M.length) = true; rw [HLM.out]; exact decide_eq_true (by have := nx_le M tm; rw [HLM.out] at this; omega))
        go_wp2
        go_ret
        exact ⟨ret_int (by rw [(HST.out HNS.out).1]), by rw [(HST.out HNS.out).2]; exact K2, hb2, hO2⟩
    · obtain rfl : rate = m := by omega
      have HR := Lib.hid (show tickR unit (L, t) rate = rate from fstP_one ⟨Nat.le_refl _, HJ.out, fun h => absurd h (Nat.lt_irrefl _)⟩)
      obtain ⟨c0, _⟩ := K.cells
      go_wp2
      go_ret
      exact ⟨ret_int (by rw [HR.out]), K, hb, hO⟩
end Go.Proofs.YtgbccpfehcjhbaaGreatDoor

/- The contracts of world.New, World.Append, Crash and Peers (P72, P73, P75, P76). Conditions: at most 8 peers, and what holds of a peer. -/
namespace Go.Proofs.YtgbccpfehcjhbaaGreatDoor
open Go Go.RowKit
set_option linter.unusedVariables false
set_option linter.unusedSimpArgs false

theorem world_Crash {w : World} {T : TypeId} {B g h : Nat} {rate unit i : Int} {n t : Nat} {L : List Peer} (k : WorldAt w T B g h rate unit n L t) (hn : n ≤ 8) {r : Int} (hr : crErr L i = r) {M : List Peer} (hM : crL L i = M) :
    Calls Tryz.prog 112 #[.pointer (some ⟨g, 0, none⟩), .int .i64 i] w fun e w' => e = .returned (.int .i64 r) ∧ WorldAt w' T B g h rate unit n M t ∧ Below B w w' ∧ Only w w' g h := by
  obtain ⟨c0, c1, c2, c3, f3, hg, hh, hB, hl⟩ := k.cells
  have HL := Lib.hid hl
  have HR := Lib.hid hr
  have HM := Lib.hid hM
  clear hl hr hM c0 c1 c3 f3
  by_cases h0 : i < 0
  · obtain rfl : r = 1 := by rw [← HR.out]; unfold crErr; rw [if_pos (.inl h0)]
    obtain rfl : M = L := by rw [← HM.out]; unfold crL; rw [if_pos (.inl h0)]
    go_enter Tryz.func112, Tryz.ntmps112
    go_wp2
    go_ret
    exact ⟨rfl, k, Below.refl _ _, Only.refl _ _ _⟩
  · obtain ⟨j, rfl⟩ := Int.eq_ofNat_of_zero_le (show 0 ≤ i by omega)
    by_cases h1 : j < n
    · obtain rfl : r = 0 := by rw [← HR.out]; unfold crErr; rw [if_neg (by rw [HL.out]; omega)]
      have HM2 : Hid (L.set j (pl L j, 0, pd L j) = M) := Lib.hid (by rw [← HM.out]; unfold crL; rw [if_neg (by rw [HL.out]; omega)]; rfl)
      obtain ⟨e0, e1, e2⟩ := cellsP k.own h1
      obtain ⟨f0, f1, f2⟩ := freeP k.own j
      have K := k.upd (f := 1) (x := (pl L j, 0, pd L j)) (v := .int .i64 0) h1 (by omega) rfl
      have hb := (Below.refl B w).setCell (p := ⟨h, j * 3 + 1, none⟩) hB (.int .i64 0)
      have hO := (Only.refl w g h).set (j := j * 3 + 1) (v := .int .i64 0) (.inr rfl)
      clear k
      go_enter Tryz.func112, Tryz.ntmps112
      go_wp2
      go_ret
      exact ⟨rfl, K.to HM2.out rfl, hb, hO⟩
    · obtain rfl : r = 1 := by rw [← HR.out]; unfold crErr; rw [if_pos (.inr (by rw [HL.out]; omega))]
      obtain rfl : M = L := by rw [← HM.out]; unfold crL; rw [if_pos (.inr (by rw [HL.out]; omega))]
      go_enter Tryz.func112, Tryz.ntmps112
      go_wp2
      go_ret
      exact ⟨rfl, k, Below.refl _ _, Only.refl _ _ _⟩

theorem world_Peers {w : World} {T : TypeId} {B g h : Nat} {rate unit : Int} {n t : Nat} {L : List Peer} (k : WorldAt w T B g h rate unit n L t) (hn : n ≤ 8) :
    Calls Tryz.prog 116 #[.pointer (some ⟨g, 0, none⟩)] w fun e w' => ∃ q d, e = .returned (.slice q n d) ∧ OwnR 67 encP 3 w' w.heap.size q n d L ∧ Below w.heap.size w w' := by
  obtain ⟨c0, c1, c2, c3, f3, hg, hh, hB, hl⟩ := k.cells
  have hS := k.own.sr encP_len
  go_enter Tryz.func116, Tryz.ntmps116
  go_wp2_with (at_builtin; refine wpL_append_R Tryz.tyPeers rfl (by omega) (by omega) encP_len encP_oneC rfl rfl (B := w.heap.size) (W0 := w) (by first | rfl | simp [Act.eval]) (by first | rfl | simp [Act.eval]) (OwnR.nil _ _) hS (Below.refl _ _) (by omega) (Nat.le_refl _) ?_; intro p' c' w3 ho1 hb3 hg1)
  rw [Nat.zero_add] at *
  go_ret
  exact ⟨_, _, rfl, (by simpa using ho1), hb3⟩

set_option maxRecDepth 100000 in
set_option maxHeartbeats 800000 in
theorem world_Append {w : World} {T : TypeId} {B g h : Nat} {rate unit a : Int} {n t : Nat} {L : List Peer} (k : WorldAt w T B g h rate unit n L t) (hn : n ≤ 8) (hG : GoodL L) (ha : -9223372036854775808 ≤ a ∧ a ≤ 9223372036854775807) (hBw : B ≤ w.heap.size) {r : Int} (hr : appErr L a = r) {M : List Peer} (hM : appL L a = M) :
    Calls Tryz.prog 110 #[.pointer (some ⟨g, 0, none⟩), .int .i64 a] w fun e w' => e = .returned (.int .i64 r) ∧ WorldAt w' T B g h rate unit n M t ∧ Below B w w' ∧ Only w w' g h := by
  obtain ⟨c0, c1, c2, c3, f3, hg, hh, hB, hl⟩ := k.cells
  have HL := Lib.hid hl
  have HR := Lib.hid hr
  have HM := Lib.hid hM
  have HG := Lib.hid hG
  clear hl hr hM c0 c1 c3 f3 hG
  by_cases h0 : a < 0
  · obtain rfl : r = 1 := by rw [← HR.out]; unfold appErr; rw [if_pos h0]
    obtain rfl : M = L := by rw [← HM.out]; unfold appL; rw [HR.out, if_neg (by omega)]
    go_enter Tryz.func110, Tryz.ntmps110
    go_wp2
    go_ret
    exact ⟨rfl, k, Below.refl _ _, Only.refl _ _ _⟩
  · go_enter Tryz.func110, Tryz.ntmps110
    go_wp2
    go_loopw [15] (fun i wr => ∃ j : Nat, j ≤ n ∧ i = .int .i64 j ∧ Hid (∀ x, x < j → ¬ 1000000 - pl L x < a) ∧ Below w.heap.size w wr) (fun i _ => n - (intOf i).toNat)
    case atStart => exact ⟨0, Nat.zero_le _, rfl, Lib.hid (fun x hx => by omega), Below.refl _ _⟩
    case round =>
      obtain ⟨j, hj, rfl, HJ, hb⟩ := hrel
      have K := k.below hb
      have hsz := hb.size
      by_cases hjn : j < n
      · obtain ⟨e0, e1, e2⟩ := cellsP K.own hjn
        obtain ⟨g1, g2, g3, g4⟩ := HG.out j (by rw [HL.out]; exact hjn)
        change 0 ≤ pp L j at g1
        change pp L j < pl L j ∨ (pl L j = 0 ∧ pp L j = 0) at g2
        change pl L j ≤ 1000000 at g4
        have g5 : 0 ≤ pl L j := by omega
        have hbA := hb.alloc hsz (.cells #[.int .i64 (pl L j), .int .i64 (pp L j), .bool (pd L j)] 67)
        have K2 := k.below hbA
        clear g2 g3
        by_cases hbig : 1000000 - pl L j < a
        · obtain rfl : r = 2 := by rw [← HR.out]; unfold appErr; rw [if_neg (by omega), if_pos ⟨j, by rw [HL.out]; exact hjn, hbig⟩]
          obtain rfl : M = L := by rw [← HM.out]; unfold appL; rw [HR.out, if_neg (by omega)]
          have hbB := hbA.mono hBw
          have hO := (Only.refl w g h).below hbA
          clear k K hb hbA
          go_wp2
          go_ret
          exact ⟨rfl, K2, hbB, hO⟩
        · clear K K2 hb
          go_wp2
          go_roundw
          case rel => exact ⟨j + 1, by omega, by go_num, Lib.hid (fun x hx => by rcases Nat.lt_succ_iff_lt_or_eq.1 hx with h | rfl; exact HJ.out x h; exact hbig), hbA⟩
          case measure => simp [intOf]; omega
      · obtain rfl : n = j := by omega
        have h00 : appErr L a = 0 := by
          unfold appErr
          rw [if_neg (by omega), if_neg (by rintro ⟨x, hx, hx2⟩; rw [HL.out] at hx; exact HJ.out x hx hx2)]
        obtain rfl : r = 0 := by rw [← HR.out]; exact h00
        have HM2 : Hid (M = tab n fun x => addP a (ge L x)) := Lib.hid (by rw [← HM.out]; unfold appL; rw [if_pos h00, HL.out])
        have hbB := hb.mono hBw
        have hO := (Only.refl w g h).below hb
        have hszB : B ≤ wr.heap.size := by omega
        obtain ⟨d0, d1, d2, d3, _, dg, dh, _, _⟩ := K.cells
        clear k hb hsz c2 h00 d0 d1 d3
        go_wp2
        go_loopw [30] (fun i wv => ∃ j : Nat, j ≤ n ∧ i = .int .i64 j ∧ WorldAt wv T B g h rate unit n (tab n fun x => if x < j then addP a (ge L x) else ge L x) t ∧ Below B w wv ∧ B ≤ wv.heap.size ∧ Only w wv g h) (fun i _ => n - (intOf i).toNat)
        case atStart => exact ⟨0, Nat.zero_le _, rfl, K.to (by simp only [Nat.not_lt_zero, if_false]; rw [← HL.out, tab_ge]) rfl, hbB, hszB, hO⟩
        case round =>
          rename_i wv
          clear K hbB hszB d2 dg dh hO
          obtain ⟨j, hj, rfl, K, hb, hsz, hO⟩ := hrel
          obtain ⟨d0, d1, d2, d3, _, dg, dh, _, _⟩ := K.cells
          by_cases hjn : j < n
          · obtain ⟨e0, e1, e2⟩ := cellsP K.own hjn
            obtain ⟨f0, f1, f2⟩ := freeP K.own j
            have hv : ge (tab n fun x => if x < j then addP a (ge L x) else ge L x) j = ge L j := by rw [ge_tab hjn, if_neg (Nat.lt_irrefl _)]
            rw [show pl (tab n fun x => if x < j then addP a (ge L x) else ge L x) j = pl L j by unfold pl; rw [hv]] at e0
            rw [show pp (tab n fun x => if x < j then addP a (ge L x) else ge L x) j = pp L j by unfold pp; rw [hv]] at e1
            rw [show pd (tab n fun x => if x < j then addP a (ge L x) else ge L x) j = pd L j by unfold pd; rw [hv]] at e2
            obtain ⟨g1, g2, g3, g4⟩ := HG.out j (by rw [HL.out]; exact hjn)
            change pl L j ≤ 1000000 at g4
            change 0 ≤ pp L j at g1
            change pp L j < pl L j ∨ (pl L j = 0 ∧ pp L j = 0) at g2
            have g5 : 0 ≤ pl L j := by omega
            have g6 : a ≤ 1000000 - pl L j := by have := HJ.out j hjn; omega
            have g7 : 0 ≤ a := by omega
            clear g2 g3
            have KN := fun s : Nat => (((K.upd (f := 0) (x := (pl L j + a, pp L j, pd L j)) (v := .int .i64 (pl L j + a)) hjn (by omega) (by rw [hv]; rfl)).drewN s).upd (f := 2) (x := addP a (ge L j)) (v := .bool (pl L j + a == 0)) hjn (by omega) (by rw [ge_set j (by rw [tab_length]; exact hjn), if_pos rfl]; rfl))
            have HT := Lib.hid (show ((tab n fun x => if x < j then addP a (ge L x) else ge L x).set j (pl L j + a, pp L j, pd L j)).set j (addP a (ge L j)) = tab n fun x => if x < j + 1 then addP a (ge L x) else ge L x by
              rw [List.set_set, tab_set]
              refine tab_congr fun x hx => ?_
              by_cases e : x = j
              · subst e; rw [if_pos rfl, if_pos (by omega)]
              · rw [if_neg e]; by_cases e2 : x < j
                · rw [if_pos e2, if_pos (by omega)]
                · rw [if_neg e2, if_neg (by omega)])
            have BN := fun s : Nat => (below_drewN (hb.setCell (p := ⟨h, j * 3, none⟩) hB (.int .i64 (pl L j + a))) s).setCell (p := ⟨h, j * 3 + 2, none⟩) hB (.bool (pl L j + a == 0))
            have ON := fun s : Nat => ((hO.set (j := j * 3) (v := .int .i64 (pl L j + a)) (.inr rfl)).drewN s).set (j := j * 3 + 2) (v := .bool (pl L j + a == 0)) (.inr rfl)
            clear K hv
            go_wp2
            go_region
            go_wp2
            go_roundw
            case rel => exact ⟨j + 1, by omega, by go_num, (KN _).to HT.out rfl, BN _, by simp; exact hsz, ON _⟩
            case measure => simp [intOf]; omega
          · obtain rfl : n = j := by omega
            have K2 := K.to (L' := M) (t' := t) (by rw [HM2.out]; exact tab_congr fun x hx => by rw [if_pos hx]) rfl
            clear K
            go_wp2
            go_ret
            exact ⟨rfl, K2, hb, hO⟩

theorem world_New_bad {w : World} {n rate unit : Int} (h : n < 1 ∨ (1 ≤ n ∧ 8 < n) ∨ (1 ≤ n ∧ n ≤ 8 ∧ rate < 0) ∨ (1 ≤ n ∧ n ≤ 8 ∧ 0 ≤ rate ∧ 1000 < rate) ∨ (1 ≤ n ∧ n ≤ 8 ∧ 0 ≤ rate ∧ rate ≤ 1000 ∧ unit < 1) ∨ (1 ≤ n ∧ n ≤ 8 ∧ 0 ≤ rate ∧ rate ≤ 1000 ∧ 1 ≤ unit ∧ 1000 < unit)) :
    Calls Tryz.prog 19 #[.int .i64 n, .int .i64 rate, .int .i64 unit] w fun e w' => e = .returned (.tuple #[.pointer none, .int .i64 1]) ∧ w' = w := by
  rcases h with h | ⟨h1, h2⟩ | ⟨h1, h2, h3⟩ | ⟨h1, h2, h3, h4⟩ | ⟨h1, h2, h3, h4, h5⟩ | ⟨h1, h2, h3, h4, h5, h6⟩
  all_goals
    go_enter Tryz.func19, Tryz.ntmps19
    go_wp2
    go_ret2
    exact ⟨rfl, rfl⟩
set_option maxRecDepth 100000 in
set_option maxHeartbeats 800000 in
theorem world_New {w : World} {n : Nat} {rate unit : Int} (h1 : 1 ≤ n) (h2 : n ≤ 8) (h3 : 0 ≤ rate) (h4 : rate ≤ 1000) (h5 : 1 ≤ unit) (h6 : unit ≤ 1000) :
    Calls Tryz.prog 19 #[.int .i64 (n : Int), .int .i64 rate, .int .i64 unit] w fun e w' => ∃ g h, e = .returned (.tuple #[.pointer (some ⟨g, 0, none⟩), .int .i64 0]) ∧ WorldAt w' 85 w.heap.size g h rate unit n (tab n fun _ => (0, 0, true)) 0 ∧ Below w.heap.size w w' := by
  go_enter Tryz.func19, Tryz.ntmps19
  go_wp2_with (refine wpL_make_R (z0 := ((0, 0, false) : Peer)) Tryz.tyPeers rfl encP_len (by omega) (by omega) (by omega) rfl rfl n (by first | rfl | simp [Act.eval]) (by first | rfl | simp [Act.eval]) rfl rfl (Below.refl w.heap.size w) (by omega) (Nat.le_refl _) ?_; intro h w1 hge ho hb1 hb0)
  have hX := blk_new w1 #[.int .i64 rate, .int .i64 unit, .slice (some ⟨h, 0, none⟩) n n, .int .i64 0] 85
  have hoA := ho.alloc (.cells #[.int .i64 rate, .int .i64 unit, .slice (some ⟨h, 0, none⟩) n n, .int .i64 0] 85)
  have hbA := hb1.alloc hb1.size (.cells #[.int .i64 rate, .int .i64 unit, .slice (some ⟨h, 0, none⟩) n n, .int .i64 0] 85)
  have K : WorldAt (w1.alloc (.cells #[.int .i64 rate, .int .i64 unit, .slice (some ⟨h, 0, none⟩) n n, .int .i64 0] 85)) 85 w.heap.size w1.heap.size h rate unit n (tab n fun x => (0, 0, decide (x < 0))) 0 :=
    ⟨hX, by simpa using hoA, hb1.size, fun e => by have := ho.blk.2; omega⟩
  have hszA := hbA.size
  clear hX hoA ho hb1 hb0
  go_wp2
  generalize w1.alloc (.cells #[.int .i64 rate, .int .i64 unit, .slice (some ⟨h, 0, none⟩) n n, .int .i64 0] 85) = WA at *
  generalize w1.heap.size = g at *
  go_loopw [43] (fun i wr => ∃ j : Nat, j ≤ n ∧ i = .int .i64 j ∧ WorldAt wr 85 w.heap.size g h rate unit n (tab n fun x => (0, 0, decide (x < j))) 0 ∧ Below w.heap.size w wr) (fun i _ => n - (intOf i).toNat)
  case atStart => exact ⟨0, Nat.zero_le _, rfl, K, hbA⟩
  case round =>
    clear K hbA hszA
    obtain ⟨j, hj, rfl, K, hb⟩ := hrel
    obtain ⟨d0, d1, d2, d3, _, dg, dh, dB, _⟩ := K.cells
    by_cases hjn : j < n
    · obtain ⟨e0, e1, e2⟩ := cellsP K.own hjn
      obtain ⟨f0, f1, f2⟩ := freeP K.own j
      have KN := K.upd (f := 2) (x := ((0, 0, true) : Peer)) (v := .bool true) hjn (by omega) (by rw [ge_tab hjn]; rfl)
      have HT := Lib.hid (show ((tab n fun x => ((0, 0, decide (x < j)) : Peer)).set j (0, 0, true)) = tab n fun x => (0, 0, decide (x < j + 1)) by
        rw [tab_set]
        refine tab_congr fun x hx => ?_
        by_cases e : x = j
        · subst e; rw [if_pos rfl, decide_eq_true (by omega)]
        · rw [if_neg e]; congr 2; simp only [decide_eq_decide]; omega)
      have BN := hb.setCell (p := ⟨h, j * 3 + 2, none⟩) dB (.bool true)
      clear K
      go_wp2
      go_roundw
      case rel => exact ⟨j + 1, by omega, by go_num, KN.to HT.out rfl, BN⟩
      case measure => simp [intOf]; omega
    · obtain rfl : n = j := by omega
      have K2 := K.to (L' := tab n fun _ => (0, 0, true)) (t' := 0) (tab_congr fun x hx => by rw [decide_eq_true hx]) rfl
      clear K
      go_wp2
      go_ret2
      exact ⟨g, h, rfl, K2, hb⟩
end Go.Proofs.YtgbccpfehcjhbaaGreatDoor
