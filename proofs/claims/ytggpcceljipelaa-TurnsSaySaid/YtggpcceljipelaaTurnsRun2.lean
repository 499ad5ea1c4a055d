/- The contract of turns.Run (P39). Conditions: the flows are well formed. -/
import Derived.Test.YtggpcceljipelaaTurnsRun1
import Derived.Deep.LoopGhost
namespace Go.Proofs.Ytggpcceljipelaa
open Go Go.RowKit
set_option linter.unusedVariables false
set_option linter.unusedSimpArgs false

def encG (x : Nat) : List Value := [.pointer (some ⟨x, 0, none⟩)]
theorem encG_len (x : Nat) : (encG x).length = 1 := rfl
theorem encG_one (x : Nat) : ∀ u ∈ encG x, u.oneCell' = true := by intro u hu; simp [encG] at hu; subst hu; rfl
theorem Try.tyQs : SliceTy Try.prog 114 115 (.pointer none) 1 8 := ⟨Try.underlying114, by kernel_rfl⟩
abbrev OwnG (w : World) (B : Nat) (q : Option Addr) (m d : Nat) (L : List Nat) : Prop := OwnR 115 encG 1 w B q m d L
structure IniSt (w : World) (Q : Nat → Int) (F : Nat → Sl) (k : Nat) (G : Nat → Nat) (q : Option Addr) (d : Nat) (wr : World) : Prop where
  row : OwnG wr w.heap.size q k d (tab k G)
  qs : ∀ j, j < k → QAt wr (G j) (Q j) (F j).1 (F j).2.1 (F j).2.2.1 0 0
  lo : ∀ j, j < k → w.heap.size ≤ G j
  inj : ∀ i j, i < k → j < k → i ≠ j → G i ≠ G j
  off : ∀ j, j < k → ∀ x, q = some x → x.block ≠ G j
  below : Below w.heap.size w wr
abbrev fBox (q : Int) (p : Option Addr) (n c : Nat) : Obj := .cells #[.int .i64 q, .slice p n c] 103
abbrev qBox (q : Int) (p : Option Addr) (n c : Nat) : Obj := .cells #[.int .i64 q, .slice p n c, .int .i64 0, .int .i64 0] 117
theorem IniSt.next {w wr w' : World} {Q : Nat → Int} {F : Nat → Sl} {k : Nat} {G : Nat → Nat} {q q' : Option Addr} {d d' : Nat} {o : Obj} (h : IniSt w Q F k G q d wr)
    (ho : OwnG w' w.heap.size q' (k + 1) d' (tab k G ++ [wr.heap.size + 1])) (hb : Below w.heap.size w w')
    (hg : (((wr.alloc (fBox (Q k) (F k).1 (F k).2.1 (F k).2.2.1)).alloc (qBox (Q k) (F k).1 (F k).2.1 (F k).2.2.1)).alloc o).grownBy w' (Value.slice q k d).ownBlock)
    (ha : ∃ g, q' = some ⟨g, 0, none⟩ ∧ (q = some ⟨g, 0, none⟩ ∨ g = ((wr.alloc (fBox (Q k) (F k).1 (F k).2.1 (F k).2.2.1)).alloc (qBox (Q k) (F k).1 (F k).2.1 (F k).2.2.1)).heap.size + 1)) :
    ∃ G', IniSt w Q F (k + 1) G' q' d' w' := by
  have hs : ((wr.alloc (fBox (Q k) (F k).1 (F k).2.1 (F k).2.2.1)).alloc (qBox (Q k) (F k).1 (F k).2.1 (F k).2.2.1)).heap.size = wr.heap.size + 1 + 1 := by simp
  have hs1 : (wr.alloc (fBox (Q k) (F k).1 (F k).2.1 (F k).2.2.1)).heap.size = wr.heap.size + 1 := by simp
  have hnew := blk_new (wr.alloc (fBox (Q k) (F k).1 (F k).2.1 (F k).2.2.1)) #[.int .i64 (Q k), .slice (F k).1 (F k).2.1 (F k).2.2.1, .int .i64 0, .int .i64 0] 117
  rw [hs1] at hnew
  have hqlt : ∀ x, q = some x → x.block < wr.heap.size := fun x hx => (h.row.1.lt x.block (by rw [hx]; rfl)).2
  have hglt : ∀ j, j < k → G j < wr.heap.size := fun j hj => (h.qs j hj).cells.2.2.2.2.2.2
  have hwb := h.below.size
  refine ⟨fun j => if j = k then wr.heap.size + 1 else G j, ⟨ho.cast ?_, fun j hj => ?_, fun j hj => ?_, fun i j hi hj hij => ?_, fun j hj => ?_, hb⟩⟩
  · rw [tab_succ, if_pos rfl]
    congr 1
    exact tab_congr (fun j hj => by rw [if_neg (by omega)])
  · by_cases e : j = k
    · subst e
      simp only [if_true]
      exact keep_blk hnew hg (fun x hx => by have := hqlt x hx; omega)
    · simp only [if_neg e]
      exact keep_blk (blk_alloc (blk_alloc (h.qs j (by omega)))) hg (h.off j (by omega))
  · by_cases e : j = k
    · simp only [if_pos e]; omega
    · simp only [if_neg e]; exact h.lo j (by omega)
  · by_cases e : i = k
    · by_cases e2 : j = k
      · omega
      · simp only [if_pos e, if_neg e2]; have := hglt j (by omega); omega
    · by_cases e2 : j = k
      · simp only [if_neg e, if_pos e2]; have := hglt i (by omega); omega
      · simp only [if_neg e, if_neg e2]; exact h.inj i j (by omega) (by omega) hij
  · by_cases e : j = k
    · simp only [if_pos e]
      exact off_push (fun x hx => by have := hqlt x hx; omega) (by rw [hs]; omega) ha
    · simp only [if_neg e]
      exact off_push (h.off j (by omega)) (by rw [hs]; have := hglt j (by omega); omega) ha

section
variable {w0 : World} {n : Nat} {Q : Nat → Int} {F : Nat → Sl} {G : Nat → Nat} {gq b9 B : Nat} {O : Option Obj} {skip : Nat} {wv : World} {mm mm' : Nat → Nat} {q : Option Addr} {m d : Nat} {L L' : List T2}
theorem RSt.cast (h : RSt w0 n Q F G gq b9 B O n wv mm q m d L) (e : ∀ j, j < n → mm j = mm' j) (eL : L = L') : RSt w0 n Q F G gq b9 B O skip wv mm' q m d L' :=
  ⟨h.below, h.size, h.row, fun j hj _ => by rw [← e j hj]; exact h.qs j hj (by omega), h.box, h.out.cast eL⟩
theorem RSt.whole {k : Nat} (h : RSt w0 n Q F G gq b9 B O k wv mm q m d L) (hk : QOk n Q F G wv (mm' k) k) (e : ∀ j, j < n → j ≠ k → mm j = mm' j) (eL : L = L') : RSt w0 n Q F G gq b9 B O n wv mm' q m d L' :=
  ⟨h.below, h.size, h.row, fun j hj _ => by
    by_cases e2 : j = k
    · subst e2; exact hk
    · rw [← e j hj e2]; exact h.qs j hj e2, h.box, h.out.cast eL⟩
end

set_option maxRecDepth 100000 in
set_option maxHeartbeats 3200000 in
theorem turns_Run_ok {w : World} {p : Option Addr} {n c : Nat} {Q : Nat → Int} {F : Nat → Sl} (hSL : SF w p n c Q F) (he : flowsErr n Q F = 0) :
    Calls Try.prog 62 #[.slice p n c] w fun e w' => ∃ M q m d, LastM (cnt Q (szs F)) n (allN n (szs F)) M ∧ e = .returned (.tuple #[.slice q m d, .int .i64 0]) ∧ OwnS w' w.heap.size q m d (outTo (cnt Q (szs F)) n M) ∧ Below w.heap.size w w' := by
  have hm := hSL.cap
  obtain ⟨h8, hok⟩ := flows_ok he
  have hall := all_le (X := szs F) hok
  have HE := Lib.hid he
  have HOK : Hid (OkF n Q (szs F)) := Lib.hid hok
  clear he hok
  obtain ⟨tot, htot⟩ : ∃ tot, allN n (szs F) = tot := ⟨_, rfl⟩
  have HTOT := Lib.hid htot
  rw [htot] at hall
  clear htot
  obtain ⟨f, hf⟩ : ∃ f : Nat → Nat, f = fun k => (szs F k).length := ⟨_, rfl⟩
  have HFF := Lib.hid hf
  clear hf
  go_enter Try.func62, Try.ntmps62
  go_wp2_with fail
  refine (turns_Check hSL HE.out).mono ?_; rintro e w1 ⟨rfl, b1⟩
  go_wp2
  go_loopw [5, 6, 19] (fun v sv iv wr => ∃ (k : Nat) (G : Nat → Nat) (q : Option Addr) (d : Nat), k ≤ n ∧ iv = .int .i64 k ∧ v = .slice q k d ∧ sv = .int .i64 (smN f k : Nat) ∧ Hid (IniSt w Q F k G q d wr)) (fun _ _ iv _ => n - (intOf iv).toNat)
  case atStart => exact ⟨0, fun _ => 0, none, 0, Nat.zero_le _, rfl, rfl, rfl, Lib.hid ⟨OwnR.nil _ _, fun j hj => by omega, fun j hj => by omega, fun i j hi => by omega, fun j hj => by omega, b1⟩⟩
  case round =>
    clear b1
    obtain ⟨k, G, q, d, hk, rfl, rfl, rfl, HI⟩ := hrel
    have hb := HI.out.below
    have hsz := hb.size
    have ho := HI.out.row
    by_cases hkn : k < n
    · obtain ⟨lb, lo, rfl, hlt, hc⟩ := (hSL.below hb).cells (by omega)
      obtain ⟨c0, c1⟩ := hc k hkn
      have hsi := (hSL.below hb).si k hkn
      have hl60 := (HOK.out k hkn).2.1
      have hsb : smN f k ≤ 60 * k := smN_le (fun j hj => by rw [HFF.out]; exact (HOK.out j (by omega)).2.1)
      have HS1 : Hid (smN f (k + 1) = smN f k + (szs F k).length) := Lib.hid (by rw [smN, HFF.out])
      have HNX := Lib.hid (fun (w' : World) (q' : Option Addr) (d' : Nat) (o : Obj) => @IniSt.next w wr w' Q F k G q q' d d' o HI.out)
      unfold szs at hl60 HS1
      obtain ⟨⟨pa, la, ca, xs⟩, hF⟩ : ∃ f, F k = f := ⟨_, rfl⟩
      rw [hF] at c1 hsi hl60 HS1 HNX
      simp only at c1 hsi hl60 HS1 HNX
      have hll := hsi.len
      rw [hll] at hl60 HS1
      have hmx := hsi.2.1
      obtain ⟨qk, hqk⟩ : ∃ qk, Q k = qk := ⟨_, rfl⟩
      rw [hqk] at c0 HNX
      have hbA := (hb.alloc hsz (fBox qk pa la ca)).alloc (by simp; omega) (qBox qk pa la ca)
      have hoA := (ho.alloc (fBox qk pa la ca)).alloc (qBox qk pa la ca)
      have HFX := Lib.hid (blk_alloc (o' := qBox qk pa la ca) (blk_new wr #[.int .i64 qk, .slice pa la ca] 103))
      have hof : ∀ x, q = some x → x.block ≠ wr.heap.size := fun x hx => by have := (ho.1.lt x.block (by rw [hx]; rfl)).2; omega
      clear hc hF hqk hsi hll ho hb
      go_wp2_with (at_builtin; refine wpL_push_R Try.tyQs rfl (by omega) (by omega) encG_len encG_one rfl (B := w.heap.size) (W0 := w) (by first | rfl | simp [Act.eval]) (wr.heap.size + 1) (by first | rfl | simp [Act.eval]) (by first | rfl | simp [Act.eval]) hoA hbA (by omega) (by simp; omega) ?_; intro p' c' w4 ho4 hb4 hg4 ha4; have x1 : w4.cell? ⟨wr.heap.size, 1, none⟩ = some (.slice pa la ca) := blk_cell (keep_blk HFX.out hg4 hof) 1)
      obtain ⟨G', HG'⟩ := HNX.out _ _ _ _ ho4 hb4 hg4 ha4
      have HG2 := Lib.hid HG'
      clear HG' HNX ho4 hb4 hg4 ha4 HI
      go_roundw
      case rel => exact ⟨k + 1, G', _, _, by omega, by go_num, rfl, by rw [HS1.out]; go_num, HG2⟩
      case measure => simp [intOf]; omega
    · obtain rfl : n = k := by omega
      have hsv : smN f n = tot := by rw [HFF.out]; exact HTOT.out
      rw [hsv]
      clear hsv
      obtain ⟨gq, hgq⟩ : ∃ gq : Nat, ∀ x, q = some x → x.block = gq := by
        cases q with
        | none => exact ⟨0, fun x hx => by cases hx⟩
        | some x => exact ⟨x.block, fun y hy => by cases hy; rfl⟩
      have hrow : 0 < n → q = some ⟨gq, 0, none⟩ := fun h0 => by
        obtain ⟨g, hg⟩ := ho.addr h0
        have := hgq _ hg
        rw [hg]; simp only at this; rw [this]
      have hgl : ∀ j, j < n → G j < wr.heap.size := fun j hj => (HI.out.qs j hj).cells.2.2.2.2.2.2
      have hgqlt : 0 < n → gq < wr.heap.size := fun h0 => (ho.1.lt gq (by rw [hrow h0]; rfl)).2
      have hE : Env w n Q F G gq wr.heap.size (wr.heap.size + 1) := ⟨h8, HOK.out, hSL.si, fun j hj => ⟨HI.out.lo j hj, by have := hgl j hj; omega⟩, HI.out.inj, ⟨hsz, by omega⟩, fun j hj => by have := hgl j hj; omega, fun h0 => by have := hgqlt h0; omega, fun h0 => by have := hgqlt h0; omega, fun j hj => HI.out.off j hj ⟨gq, 0, none⟩ (hrow (by omega))⟩
      have hR : RSt w n Q F G gq wr.heap.size (wr.heap.size + 1) (wr.heap[gq]?) n (wr.alloc (.cells #[.slice none 0 0] 93)) (fun _ => 0) none 0 0 [] := by
        have hal : ∀ x, x < wr.heap.size → (wr.alloc (.cells #[.slice none 0 0] 93)).heap[x]? = wr.heap[x]? := fun x hx => Below.heap_alloc wr _ x hx
        refine ⟨hb.alloc hsz _, by simp, fun h0 => hal _ (hgqlt h0), fun j hj _ => ⟨0, ?_, ?_⟩, blk_new _ _ _, OwnR.nil _ _⟩
        · rw [cnt_zero HOK.out hj]; exact (hal _ (hgl j hj)).trans (HI.out.qs j hj)
        · rw [cnt_zero HOK.out hj]; simpa using QSt.zero (HOK.out j hj).2
      have hcell : ∀ j, j < n → wr.cell? ⟨gq, j, none⟩ = some (.pointer (some ⟨G j, 0, none⟩)) := fun j hj => by
        have h1 := ho
        rw [hrow (by omega)] at h1
        have h2 := h1.at encG_len hj (i := 0) (by omega)
        rw [ge_tab hj, Nat.mul_one, Nat.add_zero] at h2
        exact h2
      have HEV := Lib.hid hE; have HR := Lib.hid hR; have HCE := Lib.hid hcell; have HROW := Lib.hid hrow
      have hcap := (ho.sr encG_len).2.1
      clear hE hR hcell hrow hgq hgl hgqlt HI ho
      obtain ⟨W1, hW1⟩ : ∃ x, x = wr := ⟨_, rfl⟩
      subst hW1
      go_wp2
      go_loopg [35] 60001 (fun gk v35 wv => ∃ (M : Nat) (x : Option Addr) (m d : Nat), gk = 60001 - M ∧ M ≤ 60000 ∧ Hid (RSt w n Q F G gq W1.heap.size (W1.heap.size + 1) (W1.heap[gq]?) n wv (fun _ => M) x m d (outTo (cnt Q (szs F)) n M)) ∧ Hid (∀ j, j < M → (outTo (cnt Q (szs F)) n j).length < tot))
      case atStart => exact ⟨0, none, 0, 0, rfl, by omega, Lib.hid HR.out, Lib.hid (fun j hj => by omega)⟩
      case round =>
        clear HR
        obtain ⟨M, x, m, dd, hgk, hM6, HR, HJ⟩ := hrel
        have hlen := HR.out.out.len
        have c9 : wr.cell? ⟨W1.heap.size, 0, none⟩ = some (.slice x m dd) := blk_cell HR.out.box 0
        have hO1 := out_le HOK.out M
        rw [HTOT.out, hlen] at hO1
        by_cases hlt : m < tot
        · have hM : M < 60000 := out_end HOK.out (by rw [hlen, HTOT.out]; exact hlt)
          have HJ2 := Lib.hid (show ∀ j, j < M + 1 → (outTo (cnt Q (szs F)) n j).length < tot from fun j hj => by
            rcases Nat.lt_succ_iff_lt_or_eq.1 hj with h | rfl
            · exact HJ.out j h
            · rw [hlen]; exact hlt)
          have HGK := Lib.hid hgk
          have HLEN := Lib.hid hlen
          clear hgk hlen
          go_wp2
          go_loopw [41] (fun iv wv => ∃ (k : Nat) (x : Option Addr) (m d : Nat), k ≤ n ∧ iv = .int .i64 k ∧ Hid (RSt w n Q F G gq W1.heap.size (W1.heap.size + 1) (W1.heap[gq]?) n wv (fun j => if j < k then M + 1 else M) x m d (outTo (cnt Q (szs F)) n M ++ rndTo (cnt Q (szs F) M) (cnt Q (szs F) (M + 1)) k))) (fun iv _ => n - (intOf iv).toNat)
          case atStart => exact ⟨0, x, m, dd, Nat.zero_le _, rfl, Lib.hid (HR.out.cast (fun j hj => by simp) (by simp [rndTo]))⟩
          case round =>
            rename_i wo
            clear HR c9
            obtain ⟨k, x, m, dd, hk, rfl, HR⟩ := hrel
            by_cases hkn : k < n
            · obtain rfl := HROW.out (show 0 < n by omega)
              have cg : wr.cell? ⟨gq, k, none⟩ = some (.pointer (some ⟨G k, 0, none⟩)) := (World.cell?_of_block (a := ⟨gq, k, none⟩) (HR.out.row (by omega))).trans (HCE.out k hkn)
              have HR2 := Lib.hid (HR.out.alloc HEV.out (.cells #[.int .i64 (k : Int)] 3))
              have HK := Lib.hid (blk_new wr #[.int .i64 (k : Int)] 3)
              have HOF := Lib.hid (off_new HR.out.out)
              have hsz := HR.out.size
              clear HR
              obtain ⟨sh, hQ, hS⟩ := HR2.out.qs k hkn (by omega)
              simp only [Nat.lt_irrefl, if_false] at hQ hS
              have hnn : 0 ≤ (M : Int) * Q k := Int.mul_nonneg (by omega) (by have := (HOK.out k hkn).1.1; omega)
              have hL0 : (outTo (cnt Q (szs F)) n M ++ rndTo (cnt Q (szs F) M) (cnt Q (szs F) (M + 1)) k).length ≤ 2000 := by
                have h2 := out_le HOK.out M
                have h3 := rnd_len (n := k) (c0 := cnt Q (szs F) M) (c1 := cnt Q (szs F) (M + 1)) (fun j hj => cnt_mono HOK.out (by omega))
                have h4 := smN_le (f := cnt Q (szs F) (M + 1)) (b := 60) (n := k) (fun j hj => Nat.le_trans (cnt_is HOK.out (m := M + 1) (by omega)).1 (HOK.out j (by omega)).2.1)
                rw [HTOT.out] at h2
                rw [List.length_append]
                omega
              have hRR : RunR w n Q F G gq W1.heap.size (W1.heap.size + 1) (W1.heap[gq]?) k (cnt Q (szs F) M k) wr.heap.size (fun j => if j < k then M + 1 else M) (outTo (cnt Q (szs F)) n M ++ rndTo (cnt Q (szs F) M) (cnt Q (szs F) (M + 1)) k) (cnt Q (szs F) M k) (wr.alloc (.cells #[.int .i64 (k : Int)] 3)) :=
                ⟨Nat.le_refl _, x, m, dd, HR2.out.cast (fun _ _ => rfl) (by rw [sents_self]; simp), HK.out, HOF.out, hsz⟩
              have HC := Lib.hid (queue_turn (fun args w => by simp [callFunc, Try.func82, Try.f82, go_sem]) (run_told HEV.out hkn hL0) hQ hRR (HOK.out k hkn).2 (HOK.out k hkn).1 hS hnn)
              clear hQ hRR hS hL0 HR2 HK HOF
              go_wp2_with fail
              refine HC.out.mono ?_; rintro e w2 ⟨rfl, at2, sh2, hQ2, hR2, hS2⟩
              have HN : Hid (((M + 1 : Nat) : Int) * Q k = (M : Int) * Q k + Q k) := Lib.hid (by rw [Int.natCast_add, Int.add_mul]; simp)
              have hat : at2 = cnt Q (szs F) (M + 1) k := isC_one (HOK.out k hkn).2 hS2.1 (by rw [← HN.out]; exact cnt_is HOK.out hkn)
              subst hat
              obtain ⟨_, x2, m2, d2, hRS, _, _, _⟩ := hR2
              have HR3 := Lib.hid (hRS.whole (mm' := fun j => if j < k + 1 then M + 1 else M) (L' := outTo (cnt Q (szs F)) n M ++ rndTo (cnt Q (szs F) M) (cnt Q (szs F) (M + 1)) (k + 1)) (by
                simp only [Nat.lt_succ_self, if_true]
                exact ⟨sh2, hQ2, by rw [HN.out]; exact hS2⟩) (fun j hj hjk => by
                by_cases e : j < k
                · rw [if_pos e, if_pos (by omega)]
                · rw [if_neg e, if_neg (by omega)]) (by rw [List.append_assoc]; rfl))
              clear hQ2 hS2 hRS HC hnn
              go_wp2
              go_roundw
              case rel => exact ⟨k + 1, x2, m2, d2, by omega, by go_num, HR3⟩
              case measure => simp [intOf]; omega
            · obtain rfl : n = k := by omega
              have HR3 := Lib.hid (HR.out.cast (skip := n) (mm' := fun _ => M + 1) (L' := outTo (cnt Q (szs F)) n (M + 1)) (fun j hj => by rw [if_pos hj]) rfl)
              clear HR
              go_wp2
              go_roundg (60001 - (M + 1))
              case measure => rw [HGK.out]; omega
              case rel => exact ⟨M + 1, x, m, dd, rfl, by omega, HR3, HJ2⟩
        · have HLM := Lib.hid (show LastM (cnt Q (szs F)) n (allN n (szs F)) M by rw [HTOT.out]; exact ⟨HJ.out, by rw [hlen]; exact hlt⟩)
          clear hlen
          go_wp2
          go_ret2
          exact ⟨M, x, m, dd, HLM.out, rfl, HR.out.out.base (by have := HEV.out.eb; omega), HR.out.below⟩
end Go.Proofs.Ytggpcceljipelaa
