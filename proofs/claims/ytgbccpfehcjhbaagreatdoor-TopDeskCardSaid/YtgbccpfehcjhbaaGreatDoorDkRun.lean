/- The contract of desk.Run (P77), where each line is answered. Conditions: how each line is answered. -/
import Derived.Test.YtgbccpfehcjhbaaGreatDoorDkBld
namespace Go.Proofs.YtgbccpfehcjhbaaGreatDoor
open Go Go.RowKit
set_option linter.unusedVariables false
set_option linter.unusedSimpArgs false

/-- line i is answered t, in whatever world -/
def Answers (s : DS) (W : List ByteArray) (t : Bytes) (s' : DS) : Prop :=
  ∀ (w : World) (bd g h : Nat) (p : Option Addr) (n c : Nat), Laid w → DeskAt w bd g h s → SS w p n c W → 0 < n → n ≤ 1000000 → Calls Tryz.prog 21 #[.pointer (some ⟨bd, 0, none⟩), .slice p n c] w (AnsPost w bd g h t s')
def RunPost (w : World) (t : Bytes) (e : Ending) (w' : World) : Prop := e = .returned (.string (str t)) ∧ Below w.heap.size w w'
set_option maxRecDepth 100000 in
set_option maxHeartbeats 6400000 in
theorem dk_Run {w : World} (LD : Laid w) {s : ByteArray} (hs : s.size ≤ 65536) (hM : (linesOf s).length ≤ 200) {st : Nat → DS} {T : Nat → Bytes} (h0 : st 0 = startDS) (hT : ∀ i, i < (linesOf s).length → (T i).length ≤ 20000)
    (hW : ∀ i, i < (linesOf s).length → wordsOf (gsW (linesOf s) i) ≠ [] ∧ gsW (wordsOf (gsW (linesOf s) i)) 0 ≠ ⟨#[35]⟩ ∧ Answers (st i) (wordsOf (gsW (linesOf s) i)) (T i) (st (i + 1))) :
    Calls Tryz.prog 5 #[.string s] w (RunPost w (outTo T (linesOf s).length)) := by
  have HW := Lib.hid hW; have HT := Lib.hid hT; have H0 := Lib.hid h0
  have HLD := Lib.hid LD
  have hpl := pcs_len_le s 10
  have hpp : 0 < (pcs s 10).length := by rw [pcs_len]; omega
  obtain ⟨P, hP⟩ : ∃ P, pcs s 10 = P := ⟨_, rfl⟩
  have HP := Lib.hid hP
  obtain ⟨N, hN⟩ : ∃ N, P.length = N := ⟨_, rfl⟩
  have HN := Lib.hid hN
  have hlo : linesOf s = if gsW P (N - 1) = ⟨#[]⟩ then P.take (N - 1) else P := by unfold linesOf; rw [hP, hN]
  rw [hP, hN] at hpl hpp
  have hPsz : ∀ j, j < N → (gsW P j).size ≤ 65536 := fun j hj => by
    have := pcs_size (s := s) (c := 10) (x := gsW P j) (by rw [hP, gs_get (by rw [hN]; exact hj)]; exact List.getElem_mem _)
    omega
  have HPS := Lib.hid hPsz
  have hsz : (s.size : Int) ≤ 65536 := by omega
  obtain ⟨last, hlast⟩ : ∃ last, gsW P (N - 1) = last := ⟨_, rfl⟩
  have HLA := Lib.hid hlast
  rw [hlast] at hlo
  have q9 : IntKind.i64.wrap ((N : Int) - 1) = (N : Int) - 1 := IntWalk.i64_in _ (by omega)
  clear hW hT h0 LD hP hN hPsz hlast
  have HLO := Lib.hid hlo
  clear hlo
  have h8 := HLD.out.sz
  go_enter Tryz.func5, Tryz.ntmps5
  go_wp2_with fail
  refine (dk_Split HLD.out (by omega) 10).mono ?_; rintro e w1 ⟨rfl, s1, b1, z1⟩
  rw [HP.out, HN.out] at s1 ⊢
  have L1 := Lib.hid (HLD.out.below b1)
  have S1 := Lib.hid s1
  have B1 := Lib.hid b1
  obtain ⟨b0, hb0⟩ : ∃ b0, w.heap.size = b0 := ⟨_, rfl⟩
  rw [hb0] at s1 S1 z1 h8 ⊢
  obtain ⟨pb, po, hpe, hplt, hpc⟩ := s1.cells hpp
  cases hpe
  have cl := hpc (N - 1) (by omega)
  rw [HLA.out, Nat.zero_add] at cl
  clear hpc s1 b1
  have q2 : decide ((65536 : Int) < (s.size : Int)) = false := decide_eq_false (by omega)
  have q3 : ¬ (65536 : Int) < (s.size : Int) := by omega
  have HM := Lib.hid hM
  clear hM
  rcases (show (last.data.toList = [] ∧ linesOf s = P.take (N - 1)) ∨ (last.data.toList ≠ [] ∧ linesOf s = P) by
    rw [HLO.out]
    by_cases hle : last = ⟨#[]⟩
    · exact .inl ⟨by rw [hle], by rw [if_pos hle]⟩
    · exact .inr ⟨fun e => hle (by rw [← str_of last, e]; rfl), by rw [if_neg hle]⟩) with ⟨hle, hlo⟩ | ⟨hle, hlo⟩
  · have HLN := Lib.hid hlo
    have HMM : Hid ((linesOf s).length = N - 1) := Lib.hid (by rw [hlo, List.length_take, HN.out]; omega)
    have S2 := Lib.hid (S1.out.take (k := N - 1) (by omega))
    have e1 : last.toList = [] := by rw [ByteArray.toList_eq]; exact hle
    have e2 : last.toList.isEmpty = true := by rw [e1]; rfl
    have hN200 : ¬ (200 : Int) < ((N - 1 : Nat) : Int) := by have := HM.out; rw [HMM.out] at this; omega
    have q4 : decide ((200 : Int) < ((N - 1 : Nat) : Int)) = false := decide_eq_false hN200
    clear hlo hle
    go_wp2_with fail
    obtain ⟨M, hMM⟩ : ∃ M, N - 1 = M := ⟨_, rfl⟩
    rw [hMM] at HMM S2 HLN ⊢
    have HPL : Hid (∀ j, j < M → (gsW (P.take M) j).size ≤ 65536) := Lib.hid (fun j hj => by
      have e : gsW (P.take M) j = gsW P j := by unfold gsW; rw [List.getD, List.getD, List.getElem?_take, if_pos hj]
      rw [e]; exact HPS.out j (by omega))
    clear q4 hN200 hMM
    refine (world_New (n := 2) (rate := 1) (unit := 1) (by omega) (by omega) (by omega) (by omega) (by omega) (by omega)).mono ?_
    rintro e w2 ⟨g, h, rfl, hw2, b2⟩
    have HW2 := Lib.hid hw2; have B2 := Lib.hid b2
    have hz2 := b2.size
    obtain ⟨_, _, _, _, _, hgl, hhl, hhB, _⟩ := hw2.cells
    have hgB := hw2.bg
    have hX := ((Below.refl w2.heap.size w2).alloc (Nat.le_refl _) (.cells #[.pointer (some ⟨g, 0, none⟩)] 53)).alloc (by simp) (.cells #[.pointer none, .slice none 0 0] 57)
    have TD := Lib.hid (blk_alloc (o' := .cells #[.pointer none, .slice none 0 0] 57) (blk_new w2 #[.pointer (some ⟨g, 0, none⟩)] 53))
    have hTB := blk_new (w2.alloc (.cells #[.pointer (some ⟨g, 0, none⟩)] 53)) #[.pointer none, .slice none 0 0] 57
    rw [World.size_alloc] at hTB
    have TB := Lib.hid hTB
    have HX := Lib.hid hX
    have hlt3 : w2.heap.size + 1 < ((w2.alloc (.cells #[.pointer (some ⟨g, 0, none⟩)] 53)).alloc (.cells #[.pointer none, .slice none 0 0] 57)).heap.size := by simp
    have h1b := L1.out.sz
    have hb1z := B1.out.size
    clear hw2 b2 hX hTB
    go_wp2
    generalize (w2.alloc (.cells #[.pointer (some ⟨g, 0, none⟩)] 53)).alloc (.cells #[.pointer none, .slice none 0 0] 57) = W3 at *
    obtain ⟨bd, hbd⟩ : ∃ bd, w2.heap.size = bd := ⟨_, rfl⟩
    rw [hbd] at TD TB hlt3 hgl hhl hz2 ⊢
    have B12 := Lib.hid (B2.out.trans (HX.out.mono B2.out.size))
    have B03 := Lib.hid (B1.out.trans (B12.out.mono (by omega)))
    have HRS : Hid (RunSt w b0 bd (bd + 1) M N (P.take M) (st 0) (outTo T 0) W3 g h) := Lib.hid ⟨L1.out.below B12.out, ⟨by rw [H0.out]; exact startDS_good, TD.out, by rw [H0.out]; exact worldAt_base (HW2.out.below HX.out) (by omega), by omega, by omega, by omega⟩, .inl ⟨Nat.le_refl _, .slice none 0 0, TB.out, World.ownsRowF_of (World.ownsRow_nil _ _ _ _), by simp [Value.ownBlock]⟩, S2.out.below B12.out, by rw [hb0] at *; exact B03.out, by omega, by omega, hlt3, ⟨by omega, by omega⟩, hb0, by omega, by omega⟩
    clear HW2 B2 HX TD TB hgl hhl hhB hgB hlt3 hbd h1b hb1z cl e1 e2
    go_loopw [45] (fun iv wv => ∃ (i g h : Nat), i ≤ M ∧ iv = .int .i64 (i : Int) ∧ Hid (RunSt w b0 bd (bd + 1) M N (P.take M) (st i) (outTo T i) wv g h)) (fun iv _ => M - (intOf iv).toNat)
    case atStart => exact ⟨0, g, h, Nat.zero_le _, rfl, HRS⟩
    case round =>
      clear HRS
      obtain ⟨i, g, h, hi, rfl, HRS⟩ := hrel
      have hout := outTo_len (T := T) (n := M) (fun j hj => HT.out j (by rw [HMM.out]; exact hj)) i hi
      have hMM2 := HM.out
      rw [HMM.out] at hMM2
      have hmul : i * 20001 ≤ 200 * 20001 := Nat.mul_le_mul_right 20001 (by omega)
      by_cases hiM : i < M
      · obtain ⟨pb, po, hpe, hplt, hpc⟩ := HRS.out.lines.cells (by omega)
        cases hpe
        have c0 := hpc i hiM
        rw [Nat.zero_add] at c0
        obtain ⟨hw1, hw2, hw3⟩ := HW.out i (by rw [HMM.out]; exact hiM)
        have ht := HT.out i (by rw [HMM.out]; exact hiM)
        rw [HLN.out] at hw1 hw2 hw3
        have hls := HPL.out i hiM
        obtain ⟨ln, hln⟩ : ∃ ln, gsW (P.take M) i = ln := ⟨_, rfl⟩
        rw [hln] at c0 hw1 hw2 hw3 hls
        have HW3 := Lib.hid hw3
        have LR := Lib.hid HRS.out.laid
        have hsr := HRS.out.sz
        have hq1 := pcs_len_le ln 32
        have hq2 : ∀ x ∈ pcs ln 32, x.size ≤ 65536 := fun x hx => Nat.le_trans (pcs_size hx) hls
        obtain ⟨Q, hQ⟩ : ∃ Q, pcs ln 32 = Q := ⟨_, rfl⟩
        obtain ⟨K, hK⟩ : ∃ K, Q.length = K := ⟨_, rfl⟩
        have hwo : wordsOf ln = Q.filter isW := by unfold wordsOf; rw [hQ]
        have HWO := Lib.hid hwo
        rw [hwo] at hw1 hw2
        have HW1 := Lib.hid hw1; have HW2 := Lib.hid hw2
        rw [hQ, hK] at hq1
        have HQ := Lib.hid hQ; have HK := Lib.hid hK
        clear hpc hln hw1 hw2 hw3 hq2 hwo hQ hK hplt
        have z1 : (i : Int) < (M : Int) := by omega
        go_wp2_with fail
        refine (dk_Split LR.out (by omega) 32).mono ?_; rintro e w4 ⟨rfl, s4, b4, z4⟩
        rw [HQ.out, HK.out] at s4 ⊢
        have R4 := Lib.hid (HRS.out.next b4)
        have S4 := Lib.hid s4
        obtain ⟨qb, hqb⟩ : ∃ qb, wr.heap.size = qb := ⟨_, rfl⟩
        rw [hqb] at S4 ⊢
        clear s4 b4 c0
        go_wp2
        go_loopw [11, 52] (fun ov jv wv => ∃ (j m : Nat) (q : Option Addr) (d : Nat), j ≤ K ∧ m ≤ j ∧ ov = .slice q m d ∧ jv = .int .i64 (j : Int) ∧ OwnSt wv w4.heap.size q m d ((Q.take j).filter isW) ∧ Below w4.heap.size w4 wv) (fun _ jv _ => K - (intOf jv).toNat)
        case atStart => exact ⟨0, 0, none, 0, Nat.zero_le _, Nat.le_refl _, rfl, rfl, OwnR.nil _ _, Below.refl _ _⟩
        case round =>
          obtain ⟨j, m, q, d, hj, hm, rfl, rfl, ho, hb5⟩ := hrel
          have hz5 := hb5.size
          by_cases hjK : j < K
          · obtain ⟨pb, po, hpe, hplt, hpc⟩ := S4.out.cells (by omega)
            have c1 := (bdeep hb5 hplt (po + j)).trans (hpc j hjK)
            cases hpe
            rw [Nat.zero_add] at c1
            have HNX : Hid ((Q.take (j + 1)).filter isW = (Q.take j).filter isW ++ if isW (gsW Q j) then [gsW Q j] else []) := Lib.hid (by
              rw [List.take_succ_eq_append_getElem (by rw [HK.out]; exact hjK), List.filter_append, ← gs_get (by rw [HK.out]; exact hjK)]
              by_cases h : isW (gsW Q j) = true <;> simp [h])
            obtain ⟨x, hx⟩ : ∃ x, gsW Q j = x := ⟨_, rfl⟩
            rw [hx] at c1 HNX
            clear hpc hx hplt
            by_cases hem : x.data.toList = []
            · have e1 : x.toList = [] := by rw [ByteArray.toList_eq]; exact hem
              have e2 : x.toList.isEmpty = true := by rw [e1]; rfl
              have HNY : Hid ((Q.take (j + 1)).filter isW = (Q.take j).filter isW) := Lib.hid (by rw [HNX.out, isW_not hem, if_neg Bool.false_ne_true, List.append_nil])
              clear hem HNX
              go_wp2_with fail
              go_roundw
              case rel => exact ⟨j + 1, m, q, d, hjK, by omega, rfl, by go_num, by rw [HNY.out]; exact ho, hb5⟩
              case measure => simp [intOf]; omega
            · have e1 : ¬ x.toList = [] := by rw [ByteArray.toList_eq]; exact hem
              have e2 : x.toList.isEmpty = false := by rw [ByteArray.toList_eq]; simpa using hem
              have HNY : Hid ((Q.take (j + 1)).filter isW = (Q.take j).filter isW ++ [x]) := Lib.hid (by rw [HNX.out, isW_is hem, if_pos rfl])
              clear hem HNX
              go_wp2_with (at_builtin; refine wpL_push_R Tryz.tyStrs rfl (by omega) (by omega) encS_len encS_one rfl rfl (B := w4.heap.size) (W0 := w4) x (by first | rfl | simp [Act.eval]) (by first | rfl | simp [Act.eval]) ho hb5 (by omega) hz5 ?_; intro p' c' w5 ho4 hb4 hg4 ha4)
              go_roundw
              case rel => exact ⟨j + 1, m + 1, p', c', hjK, by omega, rfl, by go_num, by rw [HNY.out]; exact ho4, hb4⟩
              case measure => simp [intOf]; omega
          · obtain rfl : K = j := by omega
            have HE : Hid ((Q.take K).filter isW = Q.filter isW) := Lib.hid (by rw [← HK.out, List.take_length])
            rw [HE.out] at ho
            have hm0 : 0 < m := by
              rcases Nat.eq_zero_or_pos m with h | h
              · exact absurd (List.eq_nil_of_length_eq_zero (ho.len.trans h)) HW1.out
              · exact h
            obtain ⟨gq, rfl⟩ := ho.addr hm0
            have c1 := ho.cell hm0
            have R5 := Lib.hid (R4.out.next (hb5.mono (by omega)))
            have HC := Lib.hid (HW3.out wr bd _ _ _ _ _ R5.out.laid R5.out.desk (by rw [HWO.out]; exact ho.ss) hm0 (by omega))
            have e0 : ¬ (gsW (Q.filter isW) 0).data.toList = [35] := fun h => HW2.out (by rw [← str_of (gsW (Q.filter isW) 0), h]; rfl)
            have e1 : ((gsW (Q.filter isW) 0).toList == [35]) = false := by rw [str_beq]; exact decide_eq_false e0
            have e2 : ¬ (gsW (Q.filter isW) 0).toList = [35] := by rw [ByteArray.toList_eq]; exact e0
            have z2 : ((m : Int) == 0) = false := by simp; omega
            have z3 : ¬ (m : Int) = 0 := by omega
            obtain ⟨wd, hwd⟩ : ∃ wd, gsW (Q.filter isW) 0 = wd := ⟨_, rfl⟩
            rw [hwd] at c1 e1 e2
            clear ho hb5 HW2 hwd e0
            go_wp2_with fail
            refine HC.out.mono ?_; rintro e w6 hA
            obtain ⟨rfl, g6, h6, R6⟩ := R5.out.ans hA
            have HR6 := Lib.hid R6
            have hs6 := R6.sz
            clear hA R6
            go_wp2_with fail
            refine (Tryz.Builder_WriteString_k (bd + 1) (bd + 1) (Lib.byteCells (outTo T i)) (str (T i)) w6 HR6.out.bld (by rw [str_size]; unfold Lib.byteCells; rw [List.length_map]; omega) (by omega)).mono ?_
            rintro e w7 ⟨rfl, hB7, hb7, ho7⟩
            have HR7 := Lib.hid (HR6.out.writ (x := T i) (by unfold Lib.byteCells at hB7 ⊢; rw [List.map_append]; exact hB7) hb7 ho7)
            have hs7 := HR7.out.sz
            clear hB7 hb7 ho7
            go_wp2_with fail
            refine (Tryz.Builder_WriteByte_k (bd + 1) (bd + 1) (Lib.byteCells (outTo T i ++ T i)) 10 w7 HR7.out.bld (by unfold Lib.byteCells; rw [List.length_map, List.length_append]; omega) (by omega)).mono ?_
            rintro e w8 ⟨rfl, hB8, hb8, ho8⟩
            have HR8 := Lib.hid (HR7.out.writ (x := [10]) (by unfold Lib.byteCells at hB8 ⊢; rw [List.map_append]; exact hB8) hb8 ho8)
            clear hB8 hb8 ho8
            go_wp2
            go_roundw
            case rel => exact ⟨i + 1, g6, h6, hiM, by go_num, Lib.hid (by rw [show outTo T (i + 1) = outTo T i ++ T i ++ [10] from (List.append_assoc ..).symm]; exact HR8.out)⟩
            case measure => simp [intOf]; omega
      · obtain rfl : M = i := by omega
        have HOU : Hid (outTo T M = outTo T (linesOf s).length) := Lib.hid (by rw [HMM.out])
        have hsr := HRS.out.sz
        have HBL := Lib.hid HRS.out.below
        have HC := Lib.hid (Tryz.Builder_String_any_k (bd + 1) (bd + 1) (outTo T M) wr HRS.out.bld (by omega))
        go_wp2_with fail
        refine HC.out.mono ?_; rintro e w6 ⟨rfl, _, b6, _⟩
        have hb6 := HBL.out.trans (b6.mono (by omega))
        go_wp2
        go_ret
        exact ⟨by rw [← HOU.out]; rfl, hb6⟩
  · have HLN := Lib.hid hlo
    have HMM : Hid ((linesOf s).length = N) := Lib.hid (by rw [hlo, HN.out])
    have S2 := Lib.hid S1.out
    have e1 : ¬ last.toList = [] := by rw [ByteArray.toList_eq]; exact hle
    have e2 : last.toList.isEmpty = false := by rw [ByteArray.toList_eq]; simpa using hle
    have hN200 : ¬ (200 : Int) < (N : Int) := by have := HM.out; rw [HMM.out] at this; omega
    have q4 : decide ((200 : Int) < (N : Int)) = false := decide_eq_false hN200
    clear hlo hle
    go_wp2_with fail
    have HPL : Hid (∀ j, j < N → (gsW P j).size ≤ 65536) := Lib.hid HPS.out
    clear q4 hN200
    refine (world_New (n := 2) (rate := 1) (unit := 1) (by omega) (by omega) (by omega) (by omega) (by omega) (by omega)).mono ?_
    rintro e w2 ⟨g, h, rfl, hw2, b2⟩
    have HW2 := Lib.hid hw2; have B2 := Lib.hid b2
    have hz2 := b2.size
    obtain ⟨_, _, _, _, _, hgl, hhl, hhB, _⟩ := hw2.cells
    have hgB := hw2.bg
    have hX := ((Below.refl w2.heap.size w2).alloc (Nat.le_refl _) (.cells #[.pointer (some ⟨g, 0, none⟩)] 53)).alloc (by simp) (.cells #[.pointer none, .slice none 0 0] 57)
    have TD := Lib.hid (blk_alloc (o' := .cells #[.pointer none, .slice none 0 0] 57) (blk_new w2 #[.pointer (some ⟨g, 0, none⟩)] 53))
    have hTB := blk_new (w2.alloc (.cells #[.pointer (some ⟨g, 0, none⟩)] 53)) #[.pointer none, .slice none 0 0] 57
    rw [World.size_alloc] at hTB
    have TB := Lib.hid hTB
    have HX := Lib.hid hX
    have hlt3 : w2.heap.size + 1 < ((w2.alloc (.cells #[.pointer (some ⟨g, 0, none⟩)] 53)).alloc (.cells #[.pointer none, .slice none 0 0] 57)).heap.size := by simp
    have h1b := L1.out.sz
    have hb1z := B1.out.size
    clear hw2 b2 hX hTB
    go_wp2
    generalize (w2.alloc (.cells #[.pointer (some ⟨g, 0, none⟩)] 53)).alloc (.cells #[.pointer none, .slice none 0 0] 57) = W3 at *
    obtain ⟨bd, hbd⟩ : ∃ bd, w2.heap.size = bd := ⟨_, rfl⟩
    rw [hbd] at TD TB hlt3 hgl hhl hz2 ⊢
    have B12 := Lib.hid (B2.out.trans (HX.out.mono B2.out.size))
    have B03 := Lib.hid (B1.out.trans (B12.out.mono (by omega)))
    have HRS : Hid (RunSt w b0 bd (bd + 1) N N P (st 0) (outTo T 0) W3 g h) := Lib.hid ⟨L1.out.below B12.out, ⟨by rw [H0.out]; exact startDS_good, TD.out, by rw [H0.out]; exact worldAt_base (HW2.out.below HX.out) (by omega), by omega, by omega, by omega⟩, .inl ⟨Nat.le_refl _, .slice none 0 0, TB.out, World.ownsRowF_of (World.ownsRow_nil _ _ _ _), by simp [Value.ownBlock]⟩, S2.out.below B12.out, by rw [hb0] at *; exact B03.out, by omega, by omega, hlt3, ⟨by omega, by omega⟩, hb0, by omega, by omega⟩
    clear HW2 B2 HX TD TB hgl hhl hhB hgB hlt3 hbd h1b hb1z cl e1 e2
    go_loopw [45] (fun iv wv => ∃ (i g h : Nat), i ≤ N ∧ iv = .int .i64 (i : Int) ∧ Hid (RunSt w b0 bd (bd + 1) N N P (st i) (outTo T i) wv g h)) (fun iv _ => N - (intOf iv).toNat)
    case atStart => exact ⟨0, g, h, Nat.zero_le _, rfl, HRS⟩
    case round =>
      clear HRS
      obtain ⟨i, g, h, hi, rfl, HRS⟩ := hrel
      have hout := outTo_len (T := T) (n := N) (fun j hj => HT.out j (by rw [HMM.out]; exact hj)) i hi
      have hMM2 := HM.out
      rw [HMM.out] at hMM2
      have hmul : i * 20001 ≤ 200 * 20001 := Nat.mul_le_mul_right 20001 (by omega)
      by_cases hiM : i < N
      · obtain ⟨pb, po, hpe, hplt, hpc⟩ := HRS.out.lines.cells (by omega)
        cases hpe
        have c0 := hpc i hiM
        rw [Nat.zero_add] at c0
        obtain ⟨hw1, hw2, hw3⟩ := HW.out i (by rw [HMM.out]; exact hiM)
        have ht := HT.out i (by rw [HMM.out]; exact hiM)
        rw [HLN.out] at hw1 hw2 hw3
        have hls := HPL.out i hiM
        obtain ⟨ln, hln⟩ : ∃ ln, gsW P i = ln := ⟨_, rfl⟩
        rw [hln] at c0 hw1 hw2 hw3 hls
        have HW3 := Lib.hid hw3
        have LR := Lib.hid HRS.out.laid
        have hsr := HRS.out.sz
        have hq1 := pcs_len_le ln 32
        have hq2 : ∀ x ∈ pcs ln 32, x.size ≤ 65536 := fun x hx => Nat.le_trans (pcs_size hx) hls
        obtain ⟨Q, hQ⟩ : ∃ Q, pcs ln 32 = Q := ⟨_, rfl⟩
        obtain ⟨K, hK⟩ : ∃ K, Q.length = K := ⟨_, rfl⟩
        have hwo : wordsOf ln = Q.filter isW := by unfold wordsOf; rw [hQ]
        have HWO := Lib.hid hwo
        rw [hwo] at hw1 hw2
        have HW1 := Lib.hid hw1; have HW2 := Lib.hid hw2
        rw [hQ, hK] at hq1
        have HQ := Lib.hid hQ; have HK := Lib.hid hK
        clear hpc hln hw1 hw2 hw3 hq2 hwo hQ hK hplt
        have z1 : (i : Int) < (N : Int) := by omega
        go_wp2_with fail
        refine (dk_Split LR.out (by omega) 32).mono ?_; rintro e w4 ⟨rfl, s4, b4, z4⟩
        rw [HQ.out, HK.out] at s4 ⊢
        have R4 := Lib.hid (HRS.out.next b4)
        have S4 := Lib.hid s4
        obtain ⟨qb, hqb⟩ : ∃ qb, wr.heap.size = qb := ⟨_, rfl⟩
        rw [hqb] at S4 ⊢
        clear s4 b4 c0
        go_wp2
        go_loopw [11, 52] (fun ov jv wv => ∃ (j m : Nat) (q : Option Addr) (d : Nat), j ≤ K ∧ m ≤ j ∧ ov = .slice q m d ∧ jv = .int .i64 (j : Int) ∧ OwnSt wv w4.heap.size q m d ((Q.take j).filter isW) ∧ Below w4.heap.size w4 wv) (fun _ jv _ => K - (intOf jv).toNat)
        case atStart => exact ⟨0, 0, none, 0, Nat.zero_le _, Nat.le_refl _, rfl, rfl, OwnR.nil _ _, Below.refl _ _⟩
        case round =>
          obtain ⟨j, m, q, d, hj, hm, rfl, rfl, ho, hb5⟩ := hrel
          have hz5 := hb5.size
          by_cases hjK : j < K
          · obtain ⟨pb, po, hpe, hplt, hpc⟩ := S4.out.cells (by omega)
            have c1 := (bdeep hb5 hplt (po + j)).trans (hpc j hjK)
            cases hpe
            rw [Nat.zero_add] at c1
            have HNX : Hid ((Q.take (j + 1)).filter isW = (Q.take j).filter isW ++ if isW (gsW Q j) then [gsW Q j] else []) := Lib.hid (by
              rw [List.take_succ_eq_append_getElem (by rw [HK.out]; exact hjK), List.filter_append, ← gs_get (by rw [HK.out]; exact hjK)]
              by_cases h : isW (gsW Q j) = true <;> simp [h])
            obtain ⟨x, hx⟩ : ∃ x, gsW Q j = x := ⟨_, rfl⟩
            rw [hx] at c1 HNX
            clear hpc hx hplt
            by_cases hem : x.data.toList = []
            · have e1 : x.toList = [] := by rw [ByteArray.toList_eq]; exact hem
              have e2 : x.toList.isEmpty = true := by rw [e1]; rfl
              have HNY : Hid ((Q.take (j + 1)).filter isW = (Q.take j).filter isW) := Lib.hid (by rw [HNX.out, isW_not hem, if_neg Bool.false_ne_true, List.append_nil])
              clear hem HNX
              go_wp2_with fail
              go_roundw
              case rel => exact ⟨j + 1, m, q, d, hjK, by omega, rfl, by go_num, by rw [HNY.out]; exact ho, hb5⟩
              case measure => simp [intOf]; omega
            · have e1 : ¬ x.toList = [] := by rw [ByteArray.toList_eq]; exact hem
              have e2 : x.toList.isEmpty = false := by rw [ByteArray.toList_eq]; simpa using hem
              have HNY : Hid ((Q.take (j + 1)).filter isW = (Q.take j).filter isW ++ [x]) := Lib.hid (by rw [HNX.out, isW_is hem, if_pos rfl])
              clear hem HNX
              go_wp2_with (at_builtin; refine wpL_push_R Tryz.tyStrs rfl (by omega) (by omega) encS_len encS_one rfl rfl (B := w4.heap.size) (W0 := w4) x (by first | rfl | simp [Act.eval]) (by first | rfl | simp [Act.eval]) ho hb5 (by omega) hz5 ?_; intro p' c' w5 ho4 hb4 hg4 ha4)
              go_roundw
              case rel => exact ⟨j + 1, m + 1, p', c', hjK, by omega, rfl, by go_num, by rw [HNY.out]; exact ho4, hb4⟩
              case measure => simp [intOf]; omega
          · obtain rfl : K = j := by omega
            have HE : Hid ((Q.take K).filter isW = Q.filter isW) := Lib.hid (by rw [← HK.out, List.take_length])
            rw [HE.out] at ho
            have hm0 : 0 < m := by
              rcases Nat.eq_zero_or_pos m with h | h
              · exact absurd (List.eq_nil_of_length_eq_zero (ho.len.trans h)) HW1.out
              · exact h
            obtain ⟨gq, rfl⟩ := ho.addr hm0
            have c1 := ho.cell hm0
            have R5 := Lib.hid (R4.out.next (hb5.mono (by omega)))
            have HC := Lib.hid (HW3.out wr bd _ _ _ _ _ R5.out.laid R5.out.desk (by rw [HWO.out]; exact ho.ss) hm0 (by omega))
            have e0 : ¬ (gsW (Q.filter isW) 0).data.toList = [35] := fun h => HW2.out (by rw [← str_of (gsW (Q.filter isW) 0), h]; rfl)
            have e1 : ((gsW (Q.filter isW) 0).toList == [35]) = false := by rw [str_beq]; exact decide_eq_false e0
            have e2 : ¬ (gsW (Q.filter isW) 0).toList = [35] := by rw [ByteArray.toList_eq]; exact e0
            have z2 : ((m : Int) == 0) = false := by simp; omega
            have z3 : ¬ (m : Int) = 0 := by omega
            obtain ⟨wd, hwd⟩ : ∃ wd, gsW (Q.filter isW) 0 = wd := ⟨_, rfl⟩
            rw [hwd] at c1 e1 e2
            clear ho hb5 HW2 hwd e0
            go_wp2_with fail
            refine HC.out.mono ?_; rintro e w6 hA
            obtain ⟨rfl, g6, h6, R6⟩ := R5.out.ans hA
            have HR6 := Lib.hid R6
            have hs6 := R6.sz
            clear hA R6
            go_wp2_with fail
            refine (Tryz.Builder_WriteString_k (bd + 1) (bd + 1) (Lib.byteCells (outTo T i)) (str (T i)) w6 HR6.out.bld (by rw [str_size]; unfold Lib.byteCells; rw [List.length_map]; omega) (by omega)).mono ?_
            rintro e w7 ⟨rfl, hB7, hb7, ho7⟩
            have HR7 := Lib.hid (HR6.out.writ (x := T i) (by unfold Lib.byteCells at hB7 ⊢; rw [List.map_append]; exact hB7) hb7 ho7)
            have hs7 := HR7.out.sz
            clear hB7 hb7 ho7
            go_wp2_with fail
            refine (Tryz.Builder_WriteByte_k (bd + 1) (bd + 1) (Lib.byteCells (outTo T i ++ T i)) 10 w7 HR7.out.bld (by unfold Lib.byteCells; rw [List.length_map, List.length_append]; omega) (by omega)).mono ?_
            rintro e w8 ⟨rfl, hB8, hb8, ho8⟩
            have HR8 := Lib.hid (HR7.out.writ (x := [10]) (by unfold Lib.byteCells at hB8 ⊢; rw [List.map_append]; exact hB8) hb8 ho8)
            clear hB8 hb8 ho8
            go_wp2
            go_roundw
            case rel => exact ⟨i + 1, g6, h6, hiM, by go_num, Lib.hid (by rw [show outTo T (i + 1) = outTo T i ++ T i ++ [10] from (List.append_assoc ..).symm]; exact HR8.out)⟩
            case measure => simp [intOf]; omega
      · obtain rfl : N = i := by omega
        have HOU : Hid (outTo T N = outTo T (linesOf s).length) := Lib.hid (by rw [HMM.out])
        have hsr := HRS.out.sz
        have HBL := Lib.hid HRS.out.below
        have HC := Lib.hid (Tryz.Builder_String_any_k (bd + 1) (bd + 1) (outTo T N) wr HRS.out.bld (by omega))
        go_wp2_with fail
        refine HC.out.mono ?_; rintro e w6 ⟨rfl, _, b6, _⟩
        have hb6 := HBL.out.trans (b6.mono (by omega))
        go_wp2
        go_ret
        exact ⟨by rw [← HOU.out]; rfl, hb6⟩
end Go.Proofs.YtgbccpfehcjhbaaGreatDoor
