/- The contract of desk.Run (P77). Conditions: how each line is answered. -/
import Derived.Test.YtgbccpfehcjhbaaGreatDoorM29
import Derived.Test.YtgbccpfehcjhbaaGreatDoorM18
import Derived.Test.YtgbccpfehcjhbaaGreatDoorM19
import Derived.Test.YtgbccpfehcjhbaaGreatDoorM30
import Derived.WalkSpells
namespace Go.Proofs.YtgbccpfehcjhbaaGreatDoor
open Go Go.RowKit
set_option linter.unusedVariables false
set_option linter.unusedSimpArgs false

/-- a line that is not answered -/
def skips (W : List ByteArray) : Prop := W = [] ∨ gsW W 0 = ⟨#[35]⟩
/-- what one line makes of the world and of what has been said -/
def StepOk (W : List ByteArray) (s s' : DS) (u u' : Bytes) : Prop := (skips W ∧ s' = s ∧ u' = u) ∨ (¬ skips W ∧ ∃ t : Bytes, t.length ≤ 20000 ∧ Replies s W t s' ∧ u' = u ++ (t ++ [10]))
theorem step_len {W : Nat → List ByteArray} {st : Nat → DS} {U : Nat → Bytes} {n : Nat} (h0 : U 0 = []) (h : ∀ i, i < n → StepOk (W i) (st i) (st (i + 1)) (U i) (U (i + 1))) : ∀ i, i ≤ n → (U i).length ≤ i * 20001
  | 0, _ => by rw [h0, Nat.zero_mul]; exact Nat.le_refl 0
  | i + 1, hi => by
    have h1 := step_len h0 h i (by omega)
    rcases h i (by omega) with ⟨_, _, e⟩ | ⟨_, t, ht, _, e⟩
    · have := congrArg List.length e; omega
    · have := congrArg List.length e
      rw [List.length_append, List.length_append, List.length_singleton] at this
      omega
def RunPost (w : World) (t : Bytes) (e : Ending) (w' : World) : Prop := e = .returned (.string (str t)) ∧ Below w.heap.size w w'
set_option maxRecDepth 100000 in
set_option maxHeartbeats 6400000 in
theorem dk_RunG {w : World} (LD : Laid w) {s : ByteArray} (hs : s.size ≤ 65536) (hM : (linesOf s).length ≤ 200) {st : Nat → DS} {U : Nat → Bytes} (h0 : st 0 = startDS) (hu0 : U 0 = [])
    (hW : ∀ i, i < (linesOf s).length → StepOk (wordsOf (gsW (linesOf s) i)) (st i) (st (i + 1)) (U i) (U (i + 1))) :
    Calls Tryz.prog 5 #[.string s] w (RunPost w (U (linesOf s).length)) := by
  have HW := Lib.hid hW; have HUL := Lib.hid (step_len hu0 hW); have H0 := Lib.hid h0; have HU0 := Lib.hid hu0
  have HLD := Lib.hid LD
  have hpl := pcs_len_le s 10
  have hpp : 0 < (pcs s 10).length := by rw [pcs_len]; omega
  obtain ⟨P, hP⟩ : ∃ P, pcs s 10 = P := ⟨_, rfl⟩
  have HP := Lib.hid hP
  obtain ⟨N, hN⟩ : ∃ N, P.length = N := ⟨_, rfl⟩
  have HN := Lib.hid hN
  have hlo : linesOf s = if gsW P (N - 1) = ⟨#[]⟩ then P.take (N - 1) else P := by unfold linesOf; rw [hP, hN]
  rw [hP, hN] at hpl hpp
  have hPsz : ∀ j, j < N → (gsW P j).size ≤ 65536 := fun j hj => by
    have := pcs_size (s := s) (c := 10) (x := gsW P j) (by rw [hP, gs_get (by rw [hN]; exact hj)]; exact List.getElem_mem _)
    omega
  have HPS := Lib.hid hPsz
  have hsz : (s.size : Int) ≤ 65536 := by omega
  obtain ⟨last, hlast⟩ : ∃ last, gsW P (N - 1) = last := ⟨_, rfl⟩
  have HLA := Lib.hid hlast
  rw [hlast] at hlo
  have q9 : IntKind.i64.wrap ((N : Int) - 1) = (N : Int) - 1 := IntWalk.i64_in _ (by omega)
  clear hW hu0 h0 LD hP hN hPsz hlast
  have HLO := Lib.hid hlo
  clear hlo
  have h8 := HLD.out.sz
  go_enter Tryz.func5, Tryz.ntmps5
  go_wp2_with fail
  refine (dk_Split HLD.out (by omega) 10).mono ?_; rintro e w1 ⟨rfl, s1, b1, z1⟩
  rw [HP.out, HN.out] at s1 ⊢
  have L1 := Lib.hid (HLD.out.below b1)
  have S1 := Lib.hid s1
  have B1 := Lib.hid b1
  obtain ⟨b0, hb0⟩ : ∃ b0, w.heap.size = b0 := ⟨_, rfl⟩
  rw [hb0] at s1 S1 z1 h8 ⊢
  obtain ⟨pb, po, hpe, hplt, hpc⟩ := s1.cells hpp
  cases hpe
  have cl := hpc (N - 1) (by omega)
  rw [HLA.out, Nat.zero_add] at cl
  clear hpc s1 b1
  have q2 : decide ((65536 : Int) < (s.size : Int)) = false := decide_eq_false (by omega)
  have q3 : ¬ (65536 : Int) < (s.size : Int) := by omega
  have HM := Lib.hid hM
  clear hM
  rcases (show (last.data.toList = [] ∧ linesOf s = P.take (N - 1)) ∨ (last.data.toList ≠ [] ∧ linesOf s = P) by
    rw [HLO.out]
    by_cases hle : last = ⟨#[]⟩
    · exact .inl ⟨by rw [hle], by rw [if_pos hle]⟩
    · exact .inr ⟨fun e => hle (by rw [← str_of last, e]; rfl), by rw [if_neg hle]⟩) with ⟨hle, hlo⟩ | ⟨hle, hlo⟩
  · have HLN := Lib.hid hlo
    have HMM : Hid ((linesOf s).length = N - 1) := Lib.hid (by rw [hlo, List.length_take, HN.out]; omega)
    have S2 := Lib.hid (S1.out.take (k := N - 1) (by omega))
    have e1 : last.toList = [] := by rw [ByteArray.toList_eq]; exact hle
    have e2 : last.toList.isEmpty = true := by rw [e1]; rfl
    have hN200 : ¬ (200 : Int) < ((N - 1 : Nat) : Int) := by have := HM.out; rw [HMM.out] at this; omega
    have q4 : decide ((200 : Int) < ((N - 1 : Nat) : Int)) = false := decide_eq_false hN200
    clear hlo hle
    go_wp2_with fail
    obtain ⟨M, hMM⟩ : ∃ M, N - 1 = M := ⟨_, rfl⟩
    rw [hMM] at HMM S2 HLN ⊢
    have HPL : Hid (∀ j, j < M → (gsW (P.take M) j).size ≤ 65536) := Lib.hid (fun j hj => by
      have e : gsW (P.take M) j = gsW P j := by unfold gsW; rw [List.getD, List.getD, List.getElem?_take, if_pos hj]
      rw [e]; exact HPS.out j (by omega))
    clear q4 hN200 hMM
    refine (world_New (n := 2) (rate := 1) (unit := 1) (by omega) (by omega) (by omega) (by omega) (by omega) (by omega)).mono ?_
    rintro e w2 ⟨g, h, rfl, hw2, b2⟩
    have HW2 := Lib.hid hw2; have B2 := Lib.hid b2
    have hz2 := b2.size
    obtain ⟨_, _, _, _, _, hgl, hhl, hhB, _⟩ := hw2.cells
    have hgB := hw2.bg
    have hX := ((Below.refl w2.heap.size w2).alloc (Nat.le_refl _) (.cells #[.pointer (some ⟨g, 0, none⟩)] 53)).alloc (by simp) (.cells #[.pointer none, .slice none 0 0] 57)
    have TD := Lib.hid (blk_alloc (o' := .cells #[.pointer none, .slice none 0 0] 57) (blk_new w2 #[.pointer (some ⟨g, 0, none⟩)] 53))
    have hTB := blk_new (w2.alloc (.cells #[.pointer (some ⟨g, 0, none⟩)] 53)) #[.pointer none, .slice none 0 0] 57
    rw [World.size_alloc] at hTB
    have TB := Lib.hid hTB
    have HX := Lib.hid hX
    have hlt3 : w2.heap.size + 1 < ((w2.alloc (.cells #[.pointer (some ⟨g, 0, none⟩)] 53)).alloc (.cells #[.pointer none, .slice none 0 0] 57)).heap.size := by simp
    have h1b := L1.out.sz
    have hb1z := B1.out.size
    clear hw2 b2 hX hTB
    go_wp2
    generalize (w2.alloc (.cells #[.pointer (some ⟨g, 0, none⟩)] 53)).alloc (.cells #[.pointer none, .slice none 0 0] 57) = W3 at *
    obtain ⟨bd, hbd⟩ : ∃ bd, w2.heap.size = bd := ⟨_, rfl⟩
    rw [hbd] at TD TB hlt3 hgl hhl hz2 ⊢
    have B12 := Lib.hid (B2.out.trans (HX.out.mono B2.out.size))
    have B03 := Lib.hid (B1.out.trans (B12.out.mono (by omega)))
    have HRS : Hid (RunSt w b0 bd (bd + 1) M N (P.take M) (st 0) (U 0) W3 g h) := Lib.hid ⟨L1.out.below B12.out, ⟨by rw [H0.out]; exact startDS_good, TD.out, by rw [H0.out]; exact worldAt_base (HW2.out.below HX.out) (by omega), by omega, by omega, by omega⟩, .inl (by rw [HU0.out]; exact ⟨Nat.le_refl _, .slice none 0 0, TB.out, World.ownsRowF_of (World.ownsRow_nil _ _ _ _), by simp [Value.ownBlock]⟩), S2.out.below B12.out, by rw [hb0] at *; exact B03.out, by omega, by omega, hlt3, ⟨by omega, by omega⟩, hb0, by omega, by omega⟩
    clear HW2 B2 HX TD TB hgl hhl hhB hgB hlt3 hbd h1b hb1z cl e1 e2
    go_loopw [45] (fun iv wv => ∃ (i g h : Nat), i ≤ M ∧ iv = .int .i64 (i : Int) ∧ Hid (RunSt w b0 bd (bd + 1) M N (P.take M) (st i) (U i) wv g h)) (fun iv _ => M - (intOf iv).toNat)
    case atStart => exact ⟨0, g, h, Nat.zero_le _, rfl, HRS⟩
    case round =>
      clear HRS
      obtain ⟨i, g, h, hi, rfl, HRS⟩ := hrel
      have hout := HUL.out i (by rw [HMM.out]; exact hi)
      have hMM2 := HM.out
      rw [HMM.out] at hMM2
      have hmul : i * 20001 ≤ 200 * 20001 := Nat.mul_le_mul_right 20001 (by omega)
      by_cases hiM : i < M
      · obtain ⟨pb, po, hpe, hplt, hpc⟩ := HRS.out.lines.cells (by omega)
        cases hpe
        have c0 := hpc i hiM
        rw [Nat.zero_add] at c0
        have hw3 := HW.out i (by rw [HMM.out]; exact hiM)
        rw [HLN.out] at hw3
        have hls := HPL.out i hiM
        obtain ⟨ln, hln⟩ : ∃ ln, gsW (P.take M) i = ln := ⟨_, rfl⟩
        rw [hln] at c0 hw3 hls
        have HW3 := Lib.hid hw3
        have LR := Lib.hid HRS.out.laid
        have hsr := HRS.out.sz
        have hq1 := pcs_len_le ln 32
        have hq2 : ∀ x ∈ pcs ln 32, x.size ≤ 65536 := fun x hx => Nat.le_trans (pcs_size hx) hls
        obtain ⟨Q, hQ⟩ : ∃ Q, pcs ln 32 = Q := ⟨_, rfl⟩
        obtain ⟨K, hK⟩ : ∃ K, Q.length = K := ⟨_, rfl⟩
        have hwo : wordsOf ln = Q.filter isW := by unfold wordsOf; rw [hQ]
        have HWO := Lib.hid hwo
        rw [hQ, hK] at hq1
        have HQ := Lib.hid hQ; have HK := Lib.hid hK
        clear hpc hln hw3 hq2 hwo hQ hK hplt
        have z1 : (i : Int) < (M : Int) := by omega
        go_wp2_with fail
        refine (dk_Split LR.out (by omega) 32).mono ?_; rintro e w4 ⟨rfl, s4, b4, z4⟩
        rw [HQ.out, HK.out] at s4 ⊢
        have R4 := Lib.hid (HRS.out.next b4)
        have S4 := Lib.hid s4
        obtain ⟨qb, hqb⟩ : ∃ qb, wr.heap.size = qb := ⟨_, rfl⟩
        rw [hqb] at S4 ⊢
        clear s4 b4 c0
        go_wp2
        go_loopw [11, 52] (fun ov jv wv => ∃ (j m : Nat) (q : Option Addr) (d : Nat), j ≤ K ∧ m ≤ j ∧ ov = .slice q m d ∧ jv = .int .i64 (j : Int) ∧ OwnSt wv w4.heap.size q m d ((Q.take j).filter isW) ∧ Below w4.heap.size w4 wv) (fun _ jv _ => K - (intOf jv).toNat)
        case atStart => exact ⟨0, 0, none, 0, Nat.zero_le _, Nat.le_refl _, rfl, rfl, OwnR.nil _ _, Below.refl _ _⟩
        case round =>
          obtain ⟨j, m, q, d, hj, hm, rfl, rfl, ho, hb5⟩ := hrel
          have hz5 := hb5.size
          by_cases hjK : j < K
          · obtain ⟨pb, po, hpe, hplt, hpc⟩ := S4.out.cells (by omega)
            have c1 := (bdeep hb5 hplt (po + j)).trans (hpc j hjK)
            cases hpe
            rw [Nat.zero_add] at c1
            have HNX : Hid ((Q.take (j + 1)).filter isW = (Q.take j).filter isW ++ if isW (gsW Q j) then [gsW Q j] else []) := Lib.hid (by
              rw [List.take_succ_eq_append_getElem (by rw [HK.out]; exact hjK), List.filter_append, ← gs_get (by rw [HK.out]; exact hjK)]
              by_cases h : isW (gsW Q j) = true <;> simp [h])
            obtain ⟨x, hx⟩ : ∃ x, gsW Q j = x := ⟨_, rfl⟩
            rw [hx] at c1 HNX
            clear hpc hx hplt
            by_cases hem : x.data.toList = []
            · have e1 : x.toList = [] := by rw [ByteArray.toList_eq]; exact hem
              have e2 : x.toList.isEmpty = true := by rw [e1]; rfl
              have HNY : Hid ((Q.take (j + 1)).filter isW = (Q.take j).filter isW) := Lib.hid (by rw [HNX.out, isW_not hem, if_neg Bool.false_ne_true, List.append_nil])
              clear hem HNX
              go_wp2_with fail
              go_roundw
              case rel => exact ⟨j + 1, m, q, d, hjK, by omega, rfl, by go_num, by rw [HNY.out]; exact ho, hb5⟩
              case measure => simp [intOf]; omega
            · have e1 : ¬ x.toList = [] := by rw [ByteArray.toList_eq]; exact hem
              have e2 : x.toList.isEmpty = false := by rw [ByteArray.toList_eq]; simpa using hem
              have HNY : Hid ((Q.take (j + 1)).filter isW = (Q.take j).filter isW ++ [x]) := Lib.hid (by rw [HNX.out, isW_is hem, if_pos rfl])
              clear hem HNX
              go_wp2_with (at_builtin; refine wpL_push_R Tryz.tyStrs rfl (by omega) (by omega) encS_len encS_one rfl rfl (B := w4.heap.size) (W0 := w4) x (by first | rfl | simp [Act.eval]) (by first | rfl | simp [Act.eval]) ho hb5 (by omega) hz5 ?_; intro p' c' w5 ho4 hb4 hg4 ha4)
              go_roundw
              case rel => exact ⟨j + 1, m + 1, p', c', hjK, by omega, rfl, by go_num, by rw [HNY.out]; exact ho4, hb4⟩
              case measure => simp [intOf]; omega
          · obtain rfl : K = j := by omega
            have HE : Hid ((Q.take K).filter isW = Q.filter isW) := Lib.hid (by rw [← HK.out, List.take_length])
            rw [HE.out] at ho
            have hsk := HW3.out
            rw [HWO.out] at hsk
            rcases hsk with ⟨hsk, hse, hue⟩ | ⟨hns, t, ht, hre, hue⟩
            · have HR5 : Hid (RunSt w b0 bd (bd + 1) M N (P.take M) (st (i + 1)) (U (i + 1)) wr g h) := Lib.hid (by rw [hse, hue]; exact R4.out.next (hb5.mono (by omega)))
              clear hse hue
              rcases hsk with h1 | h1
              · obtain rfl : m = 0 := by rw [← ho.len, h1]; rfl
                clear ho h1
                go_wp2_with fail
                go_roundw
                case rel => exact ⟨i + 1, g, h, hiM, by go_num, HR5⟩
                case measure => simp [intOf]; omega
              · by_cases hm0 : m = 0
                · subst hm0
                  clear ho h1
                  go_wp2_with fail
                  go_roundw
                  case rel => exact ⟨i + 1, g, h, hiM, by go_num, HR5⟩
                  case measure => simp [intOf]; omega
                · have hm1 : 0 < m := by omega
                  obtain ⟨gq, rfl⟩ := ho.addr hm1
                  have c1 := ho.cell hm1
                  rw [h1] at c1
                  have z2 : ((m : Int) == 0) = false := by simp; omega
                  have z3 : ¬ (m : Int) = 0 := by omega
                  clear ho h1
                  go_wp2_with fail
                  go_roundw
                  case rel => exact ⟨i + 1, g, h, hiM, by go_num, HR5⟩
                  case measure => simp [intOf]; omega
            · have HNS : Hid (Q.filter isW ≠ [] ∧ gsW (Q.filter isW) 0 ≠ ⟨#[35]⟩) := Lib.hid ⟨fun h => hns (.inl h), fun h => hns (.inr h)⟩
              have HRE := Lib.hid hre; have HUE := Lib.hid hue
              clear hns hre hue
              have hm0 : 0 < m := by
                rcases Nat.eq_zero_or_pos m with h | h
                · exact absurd (List.eq_nil_of_length_eq_zero (ho.len.trans h)) HNS.out.1
                · exact h
              obtain ⟨gq, rfl⟩ := ho.addr hm0
              have c1 := ho.cell hm0
              have R5 := Lib.hid (R4.out.next (hb5.mono (by omega)))
              have HC := Lib.hid (HRE.out wr bd _ _ _ _ _ R5.out.laid R5.out.desk ho.ss hm0 (by omega))
              have e0 : ¬ (gsW (Q.filter isW) 0).data.toList = [35] := fun h => HNS.out.2 (by rw [← str_of (gsW (Q.filter isW) 0), h]; rfl)
              have e1 : ((gsW (Q.filter isW) 0).toList == [35]) = false := by rw [str_beq]; exact decide_eq_false e0
              have e2 : ¬ (gsW (Q.filter isW) 0).toList = [35] := by rw [ByteArray.toList_eq]; exact e0
              have z2 : ((m : Int) == 0) = false := by simp; omega
              have z3 : ¬ (m : Int) = 0 := by omega
              obtain ⟨wd, hwd⟩ : ∃ wd, gsW (Q.filter isW) 0 = wd := ⟨_, rfl⟩
              rw [hwd] at c1 e1 e2
              clear ho hb5 hwd e0
              go_wp2_with fail
              refine HC.out.mono ?_; rintro e w6 hA
              obtain ⟨rfl, g6, h6, R6⟩ := R5.out.ans hA
              have HR6 := Lib.hid R6
              have hs6 := R6.sz
              clear hA R6
              go_wp2_with fail
              refine (Tryz.Builder_WriteString_k (bd + 1) (bd + 1) (Lib.byteCells (U i)) (str t) w6 HR6.out.bld (by rw [str_size]; unfold Lib.byteCells; rw [List.length_map]; omega) (by omega)).mono ?_
              rintro e w7 ⟨rfl, hB7, hb7, ho7⟩
              have HR7 := Lib.hid (HR6.out.writ (x := t) (by unfold Lib.byteCells at hB7 ⊢; rw [List.map_append]; exact hB7) hb7 ho7)
              have hs7 := HR7.out.sz
              clear hB7 hb7 ho7
              go_wp2_with fail
              refine (Tryz.Builder_WriteByte_k (bd + 1) (bd + 1) (Lib.byteCells (U i ++ t)) 10 w7 HR7.out.bld (by unfold Lib.byteCells; rw [List.length_map, List.length_append]; omega) (by omega)).mono ?_
              rintro e w8 ⟨rfl, hB8, hb8, ho8⟩
              have HR8 := Lib.hid (HR7.out.writ (x := [10]) (by unfold Lib.byteCells at hB8 ⊢; rw [List.map_append]; exact hB8) hb8 ho8)
              clear hB8 hb8 ho8
              go_wp2
              go_roundw
              case rel => exact ⟨i + 1, g6, h6, hiM, by go_num, Lib.hid (by rw [HUE.out, ← List.append_assoc]; exact HR8.out)⟩
              case measure => simp [intOf]; omega
      · obtain rfl : M = i := by omega
        have HOU : Hid (U M = U (linesOf s).length) := Lib.hid (by rw [HMM.out])
        have hsr := HRS.out.sz
        have HBL := Lib.hid HRS.out.below
        have HC := Lib.hid (Tryz.Builder_String_any_k (bd + 1) (bd + 1) (U M) wr HRS.out.bld (by omega))
        go_wp2_with fail
        refine HC.out.mono ?_; rintro e w6 ⟨rfl, _, b6, _⟩
        have hb6 := HBL.out.trans (b6.mono (by omega))
        go_wp2
        go_ret
        exact ⟨by rw [← HOU.out]; rfl, hb6⟩
  · have HLN := Lib.hid hlo
    have HMM : Hid ((linesOf s).length = N) := Lib.hid (by rw [hlo, HN.out])
    have S2 := Lib.hid S1.out
    have e1 : ¬ last.toList = [] := by rw [ByteArray.toList_eq]; exact hle
    have e2 : last.toList.isEmpty = false := by rw [ByteArray.toList_eq]; simpa using hle
    have hN200 : ¬ (200 : Int) < (N : Int) := by have := HM.out; rw [HMM.out] at this; omega
    have q4 : decide ((200 : Int) < (N : Int)) = false := decide_eq_false hN200
    clear hlo hle
    go_wp2_with fail
    have HPL : Hid (∀ j, j < N → (gsW P j).size ≤ 65536) := Lib.hid HPS.out
    clear q4 hN200
    refine (world_New (n := 2) (rate := 1) (unit := 1) (by omega) (by omega) (by omega) (by omega) (by omega) (by omega)).mono ?_
    rintro e w2 ⟨g, h, rfl, hw2, b2⟩
    have HW2 := Lib.hid hw2; have B2 := Lib.hid b2
    have hz2 := b2.size
    obtain ⟨_, _, _, _, _, hgl, hhl, hhB, _⟩ := hw2.cells
    have hgB := hw2.bg
    have hX := ((Below.refl w2.heap.size w2).alloc (Nat.le_refl _) (.cells #[.pointer (some ⟨g, 0, none⟩)] 53)).alloc (by simp) (.cells #[.pointer none, .slice none 0 0] 57)
    have TD := Lib.hid (blk_alloc (o' := .cells #[.pointer none, .slice none 0 0] 57) (blk_new w2 #[.pointer (some ⟨g, 0, none⟩)] 53))
    have hTB := blk_new (w2.alloc (.cells #[.pointer (some ⟨g, 0, none⟩)] 53)) #[.pointer none, .slice none 0 0] 57
    rw [World.size_alloc] at hTB
    have TB := Lib.hid hTB
    have HX := Lib.hid hX
    have hlt3 : w2.heap.size + 1 < ((w2.alloc (.cells #[.pointer (some ⟨g, 0, none⟩)] 53)).alloc (.cells #[.pointer none, .slice none 0 0] 57)).heap.size := by simp
    have h1b := L1.out.sz
    have hb1z := B1.out.size
    clear hw2 b2 hX hTB
    go_wp2
    generalize (w2.alloc (.cells #[.pointer (some ⟨g, 0, none⟩)] 53)).alloc (.cells #[.pointer none, .slice none 0 0] 57) = W3 at *
    obtain ⟨bd, hbd⟩ : ∃ bd, w2.heap.size = bd := ⟨_, rfl⟩
    rw [hbd] at TD TB hlt3 hgl hhl hz2 ⊢
    have B12 := Lib.hid (B2.out.trans (HX.out.mono B2.out.size))
    have B03 := Lib.hid (B1.out.trans (B12.out.mono (by omega)))
    have HRS : Hid (RunSt w b0 bd (bd + 1) N N P (st 0) (U 0) W3 g h) := Lib.hid ⟨L1.out.below B12.out, ⟨by rw [H0.out]; exact startDS_good, TD.out, by rw [H0.out]; exact worldAt_base (HW2.out.below HX.out) (by omega), by omega, by omega, by omega⟩, .inl (by rw [HU0.out]; exact ⟨Nat.le_refl _, .slice none 0 0, TB.out, World.ownsRowF_of (World.ownsRow_nil _ _ _ _), by simp [Value.ownBlock]⟩), S2.out.below B12.out, by rw [hb0] at *; exact B03.out, by omega, by omega, hlt3, ⟨by omega, by omega⟩, hb0, by omega, by omega⟩
    clear HW2 B2 HX TD TB hgl hhl hhB hgB hlt3 hbd h1b hb1z cl e1 e2
    go_loopw [45] (fun iv wv => ∃ (i g h : Nat), i ≤ N ∧ iv = .int .i64 (i : Int) ∧ Hid (RunSt w b0 bd (bd + 1) N N P (st i) (U i) wv g h)) (fun iv _ => N - (intOf iv).toNat)
    case atStart => exact ⟨0, g, h, Nat.zero_le _, rfl, HRS⟩
    case round =>
      clear HRS
      obtain ⟨i, g, h, hi, rfl, HRS⟩ := hrel
      have hout := HUL.out i (by rw [HMM.out]; exact hi)
      have hMM2 := HM.out
      rw [HMM.out] at hMM2
      have hmul : i * 20001 ≤ 200 * 20001 := Nat.mul_le_mul_right 20001 (by omega)
      by_cases hiM : i < N
      · obtain ⟨pb, po, hpe, hplt, hpc⟩ := HRS.out.lines.cells (by omega)
        cases hpe
        have c0 := hpc i hiM
        rw [Nat.zero_add] at c0
        have hw3 := HW.out i (by rw [HMM.out]; exact hiM)
        rw [HLN.out] at hw3
        have hls := HPL.out i hiM
        obtain ⟨ln, hln⟩ : ∃ ln, gsW P i = ln := ⟨_, rfl⟩
        rw [hln] at c0 hw3 hls
        have HW3 := Lib.hid hw3
        have LR := Lib.hid HRS.out.laid
        have hsr := HRS.out.sz
        have hq1 := pcs_len_le ln 32
        have hq2 : ∀ x ∈ pcs ln 32, x.size ≤ 65536 := fun x hx => Nat.le_trans (pcs_size hx) hls
        obtain ⟨Q, hQ⟩ : ∃ Q, pcs ln 32 = Q := ⟨_, rfl⟩
        obtain ⟨K, hK⟩ : ∃ K, Q.length = K := ⟨_, rfl⟩
        have hwo : wordsOf ln = Q.filter isW := by unfold wordsOf; rw [hQ]
        have HWO := Lib.hid hwo
        rw [hQ, hK] at hq1
        have HQ := Lib.hid hQ; have HK := Lib.hid hK
        clear hpc hln hw3 hq2 hwo hQ hK hplt
        have z1 : (i : Int) < (N : Int) := by omega
        go_wp2_with fail
        refine (dk_Split LR.out (by omega) 32).mono ?_; rintro e w4 ⟨rfl, s4, b4, z4⟩
        rw [HQ.out, HK.out] at s4 ⊢
        have R4 := Lib.hid (HRS.out.next b4)
        have S4 := Lib.hid s4
        obtain ⟨qb, hqb⟩ : ∃ qb, wr.heap.size = qb := ⟨_, rfl⟩
        rw [hqb] at S4 ⊢
        clear s4 b4 c0
        go_wp2
        go_loopw [11, 52] (fun ov jv wv => ∃ (j m : Nat) (q : Option Addr) (d : Nat), j ≤ K ∧ m ≤ j ∧ ov = .slice q m d ∧ jv = .int .i64 (j : Int) ∧ OwnSt wv w4.heap.size q m d ((Q.take j).filter isW) ∧ Below w4.heap.size w4 wv) (fun _ jv _ => K - (intOf jv).toNat)
        case atStart => exact ⟨0, 0, none, 0, Nat.zero_le _, Nat.le_refl _, rfl, rfl, OwnR.nil _ _, Below.refl _ _⟩
        case round =>
          obtain ⟨j, m, q, d, hj, hm, rfl, rfl, ho, hb5⟩ := hrel
          have hz5 := hb5.size
          by_cases hjK : j < K
          · obtain ⟨pb, po, hpe, hplt, hpc⟩ := S4.out.cells (by omega)
            have c1 := (bdeep hb5 hplt (po + j)).trans (hpc j hjK)
            cases hpe
            rw [Nat.zero_add] at c1
            have HNX : Hid ((Q.take (j + 1)).filter isW = (Q.take j).filter isW ++ if isW (gsW Q j) then [gsW Q j] else []) := Lib.hid (by
              rw [List.take_succ_eq_append_getElem (by rw [HK.out]; exact hjK), List.filter_append, ← gs_get (by rw [HK.out]; exact hjK)]
              by_cases h : isW (gsW Q j) = true <;> simp [h])
            obtain ⟨x, hx⟩ : ∃ x, gsW Q j = x := ⟨_, rfl⟩
            rw [hx] at c1 HNX
            clear hpc hx hplt
            by_cases hem : x.data.toList = []
            · have e1 : x.toList = [] := by rw [ByteArray.toList_eq]; exact hem
              have e2 : x.toList.isEmpty = true := by rw [e1]; rfl
              have HNY : Hid ((Q.take (j + 1)).filter isW = (Q.take j).filter isW) := Lib.hid (by rw [HNX.out, isW_not hem, if_neg Bool.false_ne_true, List.append_nil])
              clear hem HNX
              go_wp2_with fail
              go_roundw
              case rel => exact ⟨j + 1, m, q, d, hjK, by omega, rfl, by go_num, by rw [HNY.out]; exact ho, hb5⟩
              case measure => simp [intOf]; omega
            · have e1 : ¬ x.toList = [] := by rw [ByteArray.toList_eq]; exact hem
              have e2 : x.toList.isEmpty = false := by rw [ByteArray.toList_eq]; simpa using hem
              have HNY : Hid ((Q.take (j + 1)).filter isW = (Q.take j).filter isW ++ [x]) := Lib.hid (by rw [HNX.out, isW_is hem, if_pos rfl])
              clear hem HNX
              go_wp2_with (at_builtin; refine wpL_push_R Tryz.tyStrs rfl (by omega) (by omega) encS_len encS_one rfl rfl (B := w4.heap.size) (W0 := w4) x (by first | rfl | simp [Act.eval]) (by first | rfl | simp [Act.eval]) ho hb5 (by omega) hz5 ?_; intro p' c' w5 ho4 hb4 hg4 ha4)
              go_roundw
              case rel => exact ⟨j + 1, m + 1, p', c', hjK, by omega, rfl, by go_num, by rw [HNY.out]; exact ho4, hb4⟩
              case measure => simp [intOf]; omega
          · obtain rfl : K = j := by omega
            have HE : Hid ((Q.take K).filter isW = Q.filter isW) := Lib.hid (by rw [← HK.out, List.take_length])
            rw [HE.out] at ho
            have hsk := HW3.out
            rw [HWO.out] at hsk
            rcases hsk with ⟨hsk, hse, hue⟩ | ⟨hns, t, ht, hre, hue⟩
            · have HR5 : Hid (RunSt w b0 bd (bd + 1) N N P (st (i + 1)) (U (i + 1)) wr g h) := Lib.hid (by rw [hse, hue]; exact R4.out.next (hb5.mono (by omega)))
              clear hse hue
              rcases hsk with h1 | h1
              · obtain rfl : m = 0 := by rw [← ho.len, h1]; rfl
                clear ho h1
                go_wp2_with fail
                go_roundw
                case rel => exact ⟨i + 1, g, h, hiM, by go_num, HR5⟩
                case measure => simp [intOf]; omega
              · by_cases hm0 : m = 0
                · subst hm0
                  clear ho h1
                  go_wp2_with fail
                  go_roundw
                  case rel => exact ⟨i + 1, g, h, hiM, by go_num, HR5⟩
                  case measure => simp [intOf]; omega
                · have hm1 : 0 < m := by omega
                  obtain ⟨gq, rfl⟩ := ho.addr hm1
                  have c1 := ho.cell hm1
                  rw [h1] at c1
                  have z2 : ((m : Int) == 0) = false := by simp; omega
                  have z3 : ¬ (m : Int) = 0 := by omega
                  clear ho h1
                  go_wp2_with fail
                  go_roundw
                  case rel => exact ⟨i + 1, g, h, hiM, by go_num, HR5⟩
                  case measure => simp [intOf]; omega
            · have HNS : Hid (Q.filter isW ≠ [] ∧ gsW (Q.filter isW) 0 ≠ ⟨#[35]⟩) := Lib.hid ⟨fun h => hns (.inl h), fun h => hns (.inr h)⟩
              have HRE := Lib.hid hre; have HUE := Lib.hid hue
              clear hns hre hue
              have hm0 : 0 < m := by
                rcases Nat.eq_zero_or_pos m with h | h
                · exact absurd (List.eq_nil_of_length_eq_zero (ho.len.trans h)) HNS.out.1
                · exact h
              obtain ⟨gq, rfl⟩ := ho.addr hm0
              have c1 := ho.cell hm0
              have R5 := Lib.hid (R4.out.next (hb5.mono (by omega)))
              have HC := Lib.hid (HRE.out wr bd _ _ _ _ _ R5.out.laid R5.out.desk ho.ss hm0 (by omega))
              have e0 : ¬ (gsW (Q.filter isW) 0).data.toList = [35] := fun h => HNS.out.2 (by rw [← str_of (gsW (Q.filter isW) 0), h]; rfl)
              have e1 : ((gsW (Q.filter isW) 0).toList == [35]) = false := by rw [str_beq]; exact decide_eq_false e0
              have e2 : ¬ (gsW (Q.filter isW) 0).toList = [35] := by rw [ByteArray.toList_eq]; exact e0
              have z2 : ((m : Int) == 0) = false := by simp; omega
              have z3 : ¬ (m : Int) = 0 := by omega
              obtain ⟨wd, hwd⟩ : ∃ wd, gsW (Q.filter isW) 0 = wd := ⟨_, rfl⟩
              rw [hwd] at c1 e1 e2
              clear ho hb5 hwd e0
              go_wp2_with fail
              refine HC.out.mono ?_; rintro e w6 hA
              obtain ⟨rfl, g6, h6, R6⟩ := R5.out.ans hA
              have HR6 := Lib.hid R6
              have hs6 := R6.sz
              clear hA R6
              go_wp2_with fail
              refine (Tryz.Builder_WriteString_k (bd + 1) (bd + 1) (Lib.byteCells (U i)) (str t) w6 HR6.out.bld (by rw [str_size]; unfold Lib.byteCells; rw [List.length_map]; omega) (by omega)).mono ?_
              rintro e w7 ⟨rfl, hB7, hb7, ho7⟩
              have HR7 := Lib.hid (HR6.out.writ (x := t) (by unfold Lib.byteCells at hB7 ⊢; rw [List.map_append]; exact hB7) hb7 ho7)
              have hs7 := HR7.out.sz
              clear hB7 hb7 ho7
              go_wp2_with fail
              refine (Tryz.Builder_WriteByte_k (bd + 1) (bd + 1) (Lib.byteCells (U i ++ t)) 10 w7 HR7.out.bld (by unfold Lib.byteCells; rw [List.length_map, List.length_append]; omega) (by omega)).mono ?_
              rintro e w8 ⟨rfl, hB8, hb8, ho8⟩
              have HR8 := Lib.hid (HR7.out.writ (x := [10]) (by unfold Lib.byteCells at hB8 ⊢; rw [List.map_append]; exact hB8) hb8 ho8)
              clear hB8 hb8 ho8
              go_wp2
              go_roundw
              case rel => exact ⟨i + 1, g6, h6, hiM, by go_num, Lib.hid (by rw [HUE.out, ← List.append_assoc]; exact HR8.out)⟩
              case measure => simp [intOf]; omega
      · obtain rfl : N = i := by omega
        have HOU : Hid (U N = U (linesOf s).length) := Lib.hid (by rw [HMM.out])
        have hsr := HRS.out.sz
        have HBL := Lib.hid HRS.out.below
        have HC := Lib.hid (Tryz.Builder_String_any_k (bd + 1) (bd + 1) (U N) wr HRS.out.bld (by omega))
        go_wp2_with fail
        refine HC.out.mono ?_; rintro e w6 ⟨rfl, _, b6, _⟩
        have hb6 := HBL.out.trans (b6.mono (by omega))
        go_wp2
        go_ret
        exact ⟨by rw [← HOU.out]; rfl, hb6⟩
set_option maxRecDepth 100000 in
set_option maxHeartbeats 3200000 in
theorem dk_Run_big {w : World} (LD : Laid w) {s : ByteArray} (hs : s.size ≤ 1048576) (hb : 65536 < s.size ∨ 200 < (linesOf s).length) :
    Calls Tryz.prog 5 #[.string s] w (RunPost w [101, 114, 114, 111, 114, 32, 50, 10]) := by
  have HLD := Lib.hid LD
  have hpl := pcs_len_le s 10
  have hpp : 0 < (pcs s 10).length := by rw [pcs_len]; omega
  obtain ⟨P, hP⟩ : ∃ P, pcs s 10 = P := ⟨_, rfl⟩
  have HP := Lib.hid hP
  obtain ⟨N, hN⟩ : ∃ N, P.length = N := ⟨_, rfl⟩
  have HN := Lib.hid hN
  have hlo : linesOf s = if gsW P (N - 1) = ⟨#[]⟩ then P.take (N - 1) else P := by unfold linesOf; rw [hP, hN]
  rw [hP, hN] at hpl hpp
  obtain ⟨last, hlast⟩ : ∃ last, gsW P (N - 1) = last := ⟨_, rfl⟩
  have HLA := Lib.hid hlast
  rw [hlast] at hlo
  have q9 : IntKind.i64.wrap ((N : Int) - 1) = (N : Int) - 1 := IntWalk.i64_in _ (by omega)
  clear LD hP hN hlast
  have HLO := Lib.hid hlo
  have HB := Lib.hid hb
  clear hlo hb
  go_enter Tryz.func5, Tryz.ntmps5
  go_wp2_with fail
  refine (dk_Split HLD.out (by omega) 10).mono ?_; rintro e w1 ⟨rfl, s1, b1, z1⟩
  rw [HP.out, HN.out] at s1 ⊢
  have B1 := Lib.hid b1
  obtain ⟨pb, po, hpe, hplt, hpc⟩ := s1.cells hpp
  cases hpe
  have cl := hpc (N - 1) (by omega)
  rw [HLA.out, Nat.zero_add] at cl
  clear hpc s1 b1 z1
  rcases (show (last.data.toList = [] ∧ linesOf s = P.take (N - 1)) ∨ (last.data.toList ≠ [] ∧ linesOf s = P) by
    rw [HLO.out]
    by_cases hle : last = ⟨#[]⟩
    · exact .inl ⟨by rw [hle], by rw [if_pos hle]⟩
    · exact .inr ⟨fun e => hle (by rw [← str_of last, e]; rfl), by rw [if_neg hle]⟩) with ⟨hle, hlo⟩ | ⟨hle, hlo⟩
  · have HLN : Hid ((linesOf s).length = N - 1) := Lib.hid (by rw [hlo, List.length_take, HN.out]; omega)
    have e1 : last.toList = [] := by rw [ByteArray.toList_eq]; exact hle
    have e2 : last.toList.isEmpty = true := by rw [e1]; rfl
    have hB2 := HB.out
    rw [HLN.out] at hB2
    by_cases h65 : 65536 < s.size
    · have q2 : decide ((65536 : Int) < (s.size : Int)) = true := decide_eq_true (by omega)
      have q3 : (65536 : Int) < (s.size : Int) := by omega
      clear hlo hle hB2
      go_wp2_with fail
      go_ret
      exact ⟨rfl, B1.out⟩
    · have q2 : decide ((65536 : Int) < (s.size : Int)) = false := decide_eq_false (by omega)
      have q3 : ¬ (65536 : Int) < (s.size : Int) := by omega
      have hN200 : (200 : Int) < ((N - 1 : Nat) : Int) := by omega
      have q4 : decide ((200 : Int) < ((N - 1 : Nat) : Int)) = true := decide_eq_true hN200
      clear hlo hle hB2
      go_wp2_with fail
      go_ret
      exact ⟨rfl, B1.out⟩
  · have HLN : Hid ((linesOf s).length = N) := Lib.hid (by rw [hlo, HN.out])
    have e1 : ¬ last.toList = [] := by rw [ByteArray.toList_eq]; exact hle
    have e2 : last.toList.isEmpty = false := by rw [ByteArray.toList_eq]; simpa using hle
    have hB2 := HB.out
    rw [HLN.out] at hB2
    by_cases h65 : 65536 < s.size
    · have q2 : decide ((65536 : Int) < (s.size : Int)) = true := decide_eq_true (by omega)
      have q3 : (65536 : Int) < (s.size : Int) := by omega
      clear hlo hle hB2
      go_wp2_with fail
      go_ret
      exact ⟨rfl, B1.out⟩
    · have q2 : decide ((65536 : Int) < (s.size : Int)) = false := decide_eq_false (by omega)
      have q3 : ¬ (65536 : Int) < (s.size : Int) := by omega
      have hN200 : (200 : Int) < (N : Int) := by omega
      have q4 : decide ((200 : Int) < (N : Int)) = true := decide_eq_true hN200
      clear hlo hle hB2
      go_wp2_with fail
      go_ret
      exact ⟨rfl, B1.out⟩
end Go.Proofs.YtgbccpfehcjhbaaGreatDoor

/- The reference's Lines of a text (P77). Conditions: the library's variables are laid; the text is of at most 1048576 bytes. -/
namespace Go.Proofs.YtgbccpfehcjhbaaGreatDoor
open Go Go.RowKit
set_option linter.unusedVariables false
set_option linter.unusedSimpArgs false

open Classical in
/-- the rows of words that are answered -/
noncomputable def rowsG (ls : List ByteArray) : List (List ByteArray) := (ls.map wordsOf).filter fun W => decide (¬ skips W)
theorem rowsG_skip {ls : List ByteArray} {x : ByteArray} (h : skips (wordsOf x)) : rowsG (ls ++ [x]) = rowsG ls := by
  unfold rowsG
  simp [List.filter_append, h]
theorem rowsG_keep {ls : List ByteArray} {x : ByteArray} (h : ¬ skips (wordsOf x)) : rowsG (ls ++ [x]) = rowsG ls ++ [wordsOf x] := by
  unfold rowsG
  simp [List.filter_append, h]
def strLen : Value → Nat
  | .string b => b.size
  | _ => 0
def WW (x : Bytes) (i : Nat) : List ByteArray := if i ≤ x.length then wstW x i else wordsOf (str x)
def OO (x : Bytes) (i : Nat) : Bytes := if i ≤ x.length then wstO x i else []
theorem WW_le {x : Bytes} {i : Nat} (h : i ≤ x.length) : WW x i = wstW x i := if_pos h
theorem WW_gt {x : Bytes} {i : Nat} (h : ¬ i ≤ x.length) : WW x i = wordsOf (str x) := if_neg h
theorem OO_le {x : Bytes} {i : Nat} (h : i ≤ x.length) : OO x i = wstO x i := if_pos h
theorem OO_gt {x : Bytes} {i : Nat} (h : ¬ i ≤ x.length) : OO x i = [] := if_neg h
theorem ww_let {x : Bytes} {i : Nat} (hi : i < x.length) (hb : x[i] ≠ 32) : WW x (i + 1) = WW x i ∧ OO x (i + 1) = OO x i ++ [x[i]] := by
  rw [WW_le (by omega), WW_le (by omega), OO_le (by omega), OO_le (by omega)]
  exact wst_let hi hb
theorem ww_sp {x : Bytes} {i : Nat} (h : (∃ hi : i < x.length, x[i] = 32) ∨ i = x.length) : WW x (i + 1) = WW x i ++ (if OO x i = [] then [] else [str (OO x i)]) ∧ OO x (i + 1) = [] := by
  rcases h with ⟨hi, hb⟩ | rfl
  · rw [WW_le (by omega), WW_le (by omega), OO_le (show i ≤ x.length by omega), OO_le (by omega)]
    exact wst_sp hi hb
  · rw [WW_gt (by omega), WW_le (by omega), OO_le (Nat.le_refl _), OO_gt (by omega)]
    exact ⟨wst_end x, rfl⟩
theorem ww_bd (x : Bytes) {i : Nat} (hi : i ≤ x.length) : 2 * (WW x i).length + (OO x i).length ≤ x.length := by
  rw [WW_le hi, OO_le hi]
  have := wst_bd x i hi
  omega
theorem extract_one {l : Bytes} {i : Nat} (h : i < l.length) : (str l).extract i (i + 1) = str [l[i]] := by
  apply ByteArray.ext
  apply Array.ext'
  rw [ByteArray.data_extract, Array.toList_extract, List.extract_eq_take_drop]
  show (l.drop i).take (i + 1 - i) = [l[i]]
  rw [show i + 1 - i = 1 by omega, List.drop_eq_getElem_cons h]
  rfl
theorem words_nil : wordsOf (str []) = [] := by rw [wst_end]; rfl
def LinesPost (w : World) (s : ByteArray) (e : Ending) (w' : World) : Prop :=
  ∃ (p : Option Addr) (a c : Nat) (T : List Sl), e = .returned (.tuple #[.slice p a c, .bool (decide ((linesOf s).length ≤ 200))]) ∧ SlSt 30 isSS w' w.heap.size none p a c T (rowsG (linesOf s)) ∧ a ≤ 600000 ∧ Below w.heap.size w w'
set_option maxRecDepth 100000 in
set_option maxHeartbeats 6400000 in
theorem ref_Lines {w : World} (LD : Laid w) {s : ByteArray} (hs : s.size ≤ 1048576) : Calls Tryz.prog 6 #[.string s] w (LinesPost w s) := by
  have HLD := Lib.hid LD
  obtain ⟨l0, hl0⟩ : ∃ l0, s = str l0 := ⟨s.data.toList, (str_of s).symm⟩
  subst hl0
  have hs0 : l0.length ≤ 1048576 := hs
  clear LD hs
  go_enter Tryz.func6, Tryz.ntmps6
  go_wp2
  go_loopw [0, 4, 5] (fun tv ov nv wv => ∃ (l : Bytes) (nd a c : Nat) (p : Option Addr) (T : List Sl) (ls : List ByteArray), tv = .string (str l) ∧ ov = .slice p a c ∧ nv = .int .i64 (nd : Int) ∧ Hid (linesOf (str l0) = ls ++ linesOf (str l)) ∧ Hid (ls.length = nd) ∧ nd + l.length ≤ l0.length ∧ (2 * a + l.length ≤ l0.length ∨ (l.length = 0 ∧ 2 * a ≤ l0.length + 1)) ∧ Hid (SlSt 30 isSS wv w.heap.size none p a c T (rowsG ls)) ∧ Hid (Below w.heap.size w wv)) (fun tv _ _ _ => strLen tv)
  case atStart => exact ⟨l0, 0, 0, 0, none, [], [], rfl, rfl, rfl, Lib.hid rfl, Lib.hid rfl, by omega, .inl (by omega), Lib.hid SlSt.nil, Lib.hid (Below.refl _ _)⟩
  case round =>
    obtain ⟨l, nd, a, c, p, T, ls, rfl, rfl, rfl, HLS, HLN, hnd, hal, HSL, HBW⟩ := hrel
    have hzw := HBW.out.size
    by_cases hl : l = []
    · subst hl
      have HLE : Hid (linesOf (str l0) = ls) := Lib.hid (by rw [HLS.out, lines_nil, List.append_nil])
      have HDE : Hid ((linesOf (str l0)).length = nd) := Lib.hid (by rw [HLE.out]; exact HLN.out)
      have e1 : (str []).toList = [] := by rw [ByteArray.toList_eq]; rfl
      have e2 : (str []).toList.isEmpty = true := by rw [e1]; rfl
      generalize str [] = E0 at *
      go_wp2
      go_ret2
      refine ⟨p, a, c, T, ?_, by rw [HLE.out]; exact HSL.out, by omega, HBW.out⟩
      rw [HDE.out]
      by_cases h2 : nd ≤ 200
      · rw [decide_eq_true h2]
        simp [Act.eval]
        omega
      · rw [decide_eq_false h2]
        simp [Act.eval]
        omega
    · have LDW := Lib.hid (HLD.out.below HBW.out)
      have HLC := Lib.hid (lines_cut hl)
      have hlp : 0 < l.length := List.length_pos_iff.2 hl
      have e1 : ¬ (str l).toList = [] := by rw [ByteArray.toList_eq]; exact hl
      have e2 : (str l).toList.isEmpty = false := by rw [ByteArray.toList_eq, str_data]; simpa using hl
      have HC := Lib.hid (dk_Cut LDW.out (s := str l) (by rw [str_size]; omega) 10)
      rw [str_data] at HC
      obtain ⟨x, hx⟩ : ∃ x, (Lib.cut l [10]).1 = x := ⟨_, rfl⟩
      obtain ⟨r, hr⟩ : ∃ r, (Lib.cut l [10]).2.1 = r := ⟨_, rfl⟩
      obtain ⟨fb, hfb⟩ : ∃ fb, (Lib.cut l [10]).2.2 = fb := ⟨_, rfl⟩
      rw [hx, hr] at HLC
      rw [hx, hr, hfb] at HC
      have hsz : x.length + r.length ≤ l.length ∧ r.length < l.length ∧ x.length ≤ l.length ∧ (x.length + 1 + r.length = l.length ∨ (r.length = 0 ∧ x.length = l.length)) := by
        rcases HLC.out.2 with h | ⟨h, h2⟩
        · omega
        · rw [h, h2]; simp; omega
      have HLX : Hid (linesOf (str l0) = (ls ++ [str x]) ++ linesOf (str r)) := Lib.hid (by rw [HLS.out, HLC.out.1]; simp)
      have HLY : Hid ((ls ++ [str x]).length = nd + 1) := Lib.hid (by rw [List.length_append, HLN.out]; rfl)
      have hsl : (str l).size = l.length := rfl
      have hsr : (str r).size = r.length := rfl
      clear hx hr hfb hl HLC HLS HLN
      have HMS : Hid (strLen (.string (str r)) < strLen (.string (str l))) := Lib.hid (by show (str r).size < (str l).size; omega)
      obtain ⟨SX, hSX⟩ : ∃ SX, str x = SX := ⟨_, rfl⟩
      have HSX := Lib.hid hSX
      have hxs : SX.size = x.length := by rw [← hSX]; rfl
      rw [hSX] at HC
      generalize str l = LL at *
      obtain ⟨RR, hRR⟩ : ∃ RR, str r = RR := ⟨_, rfl⟩
      have HRR := Lib.hid hRR
      rw [hRR] at HC
      clear hSX hRR hsr hsl
      go_wp2_with fail
      refine HC.out.mono ?_; rintro e w4 ⟨rfl, k4, hw4⟩
      have b4 : Below wr.heap.size wr w4 := by rw [hw4]; exact below_drewN (Below.refl _ _) _
      have HSL4 := Lib.hid (SlSt.below isSS_keeps HSL.out b4)
      have HBW4 := Lib.hid (HBW.out.trans (b4.mono hzw))
      have hz4 := b4.size
      clear b4 hw4 HSL HBW e1 e2
      go_wp2
      go_loopw [9, 10, 11] (fun wsv ov iv wv => ∃ (i m c2 : Nat) (q : Option Addr), i ≤ x.length + 1 ∧ iv = .int .i64 (i : Int) ∧ wsv = .slice q m c2 ∧ ov = .string (str (OO x i)) ∧ Hid (OwnSt wv w4.heap.size q m c2 (WW x i)) ∧ Hid (Below w4.heap.size w4 wv)) (fun _ _ iv _ => x.length + 2 - (intOf iv).toNat)
      case atStart => exact ⟨0, 0, 0, none, Nat.zero_le _, rfl, rfl, rfl, Lib.hid (OwnR.nil _ _), Lib.hid (Below.refl _ _)⟩
      case round =>
        obtain ⟨i, m, c2, q, hi, rfl, rfl, rfl, HO, HB5⟩ := hrel
        have hz5 := HB5.out.size
        by_cases hix : i ≤ x.length
        · have hbd := ww_bd x hix
          rw [HO.out.len] at hbd
          by_cases hlet : ∃ h : i < x.length, x[i] ≠ 32
          · obtain ⟨hiN, hb⟩ := hlet
            obtain ⟨h1, h2⟩ := ww_let hiN hb
            have HNW := Lib.hid h1; have HNO := Lib.hid h2
            have hib : i < SX.size := by rw [hxs]; exact hiN
            have hsx : SX[i] = x[i] := by have := HSX.out; subst this; rfl
            have hq : ¬ (SX[i].toNat : Int) = 32 := by
              rw [hsx]
              intro e
              apply hb
              have : x[i].toNat = 32 := by omega
              exact UInt8.toNat_inj.1 (by rw [this]; rfl)
            have HEX : Hid (SX.extract i (i + 1) = str [x[i]]) := Lib.hid (by
              have := HSX.out
              subst this
              exact extract_one hiN)
            have hos : (str (OO x i)).size = (OO x i).length := rfl
            have hes : (SX.extract i (i + 1)).size = 1 := by rw [HEX.out]; rfl
            obtain ⟨OV, hOV⟩ : ∃ OV, str (OO x i) = OV := ⟨_, rfl⟩
            have HOV := Lib.hid hOV
            rw [hOV] at hos ⊢
            have g1 : ¬ 9223372036854775807 < OV.size + 1 := by omega
            clear h1 h2 hb hsx hOV
            go_wp2
            go_roundw
            case rel => exact ⟨i + 1, m, c2, q, by omega, by go_num, rfl, by rw [HNO.out, HEX.out, ← HOV.out]; rfl, by rw [HNW.out]; exact HO, HB5⟩
            case measure => simp [intOf]; omega
          · have hsp : (∃ h : i < x.length, x[i] = 32) ∨ i = x.length := by
              rcases Nat.lt_or_ge i x.length with h | h
              · exact .inl ⟨h, Classical.not_not.1 (fun hb => hlet ⟨h, hb⟩)⟩
              · exact .inr (by omega)
            obtain ⟨h1, h2⟩ := ww_sp hsp
            have HNW := Lib.hid h1; have HNO := Lib.hid h2
            have HSP := Lib.hid hsp
            clear h1 h2 hlet hsp
            by_cases hoo : OO x i = []
            · have HNW2 : Hid (WW x (i + 1) = WW x i) := Lib.hid (by rw [HNW.out, if_pos hoo, List.append_nil])
              have e1 : (str (OO x i)).toList = [] := by rw [ByteArray.toList_eq]; exact hoo
              have e2 : (str (OO x i)).toList.isEmpty = true := by rw [e1]; rfl
              obtain ⟨OV, hOV⟩ : ∃ OV, str (OO x i) = OV := ⟨_, rfl⟩
              rw [hOV] at e1 e2 ⊢
              clear hoo hOV HNW
              rcases HSP.out with ⟨hiN, hb⟩ | hie
              · have hib : i < SX.size := by rw [hxs]; exact hiN
                have hsx : SX[i] = x[i] := by have := HSX.out; subst this; rfl
                have hq : (SX[i].toNat : Int) = 32 := by rw [hsx, hb]; rfl
                clear hb hsx
                go_wp2
                go_roundw
                case rel => exact ⟨i + 1, m, c2, q, by omega, by go_num, rfl, by rw [HNO.out]; rfl, by rw [HNW2.out]; exact HO, HB5⟩
                case measure => simp [intOf]; omega
              · have hq : ¬ (i : Int) < (x.length : Int) := by omega
                have hq2 : (i : Int) ≤ (x.length : Int) := by omega
                clear hie
                go_wp2
                go_roundw
                case rel => exact ⟨i + 1, m, c2, q, by omega, by go_num, rfl, by rw [HNO.out]; rfl, by rw [HNW2.out]; exact HO, HB5⟩
                case measure => simp [intOf]; omega
            · have HNW2 : Hid (WW x (i + 1) = WW x i ++ [str (OO x i)]) := Lib.hid (by rw [HNW.out, if_neg hoo])
              have e1 : ¬ (str (OO x i)).toList = [] := by rw [ByteArray.toList_eq]; exact hoo
              have e2 : (str (OO x i)).toList.isEmpty = false := by rw [ByteArray.toList_eq, str_data]; simpa using hoo
              obtain ⟨OV, hOV⟩ : ∃ OV, str (OO x i) = OV := ⟨_, rfl⟩
              rw [hOV] at e1 e2 HNW2 ⊢
              clear hoo hOV HNW
              have ho := HO.out
              have hb5 := HB5.out
              rcases HSP.out with ⟨hiN, hb⟩ | hie
              · have hib : i < SX.size := by rw [hxs]; exact hiN
                have hsx : SX[i] = x[i] := by have := HSX.out; subst this; rfl
                have hq : (SX[i].toNat : Int) = 32 := by rw [hsx, hb]; rfl
                clear hb hsx
                go_wp2_with (at_builtin; refine wpL_push_R Tryz.tyStrs rfl (by omega) (by omega) encS_len encS_one rfl rfl (B := w4.heap.size) (W0 := w4) OV (by first | rfl | simp [Act.eval]) (by first | rfl | simp [Act.eval]) ho hb5 (by omega) hz5 ?_; intro p7 c7 w7 ho7 hb7 hg7 ha7)
                go_roundw
                case rel => exact ⟨i + 1, m + 1, c7, p7, by omega, by go_num, rfl, by rw [HNO.out]; rfl, Lib.hid (by rw [HNW2.out]; exact ho7), Lib.hid hb7⟩
                case measure => simp [intOf]; omega
              · have hq : ¬ (i : Int) < (x.length : Int) := by omega
                have hq2 : (i : Int) ≤ (x.length : Int) := by omega
                clear hie
                go_wp2_with (at_builtin; refine wpL_push_R Tryz.tyStrs rfl (by omega) (by omega) encS_len encS_one rfl rfl (B := w4.heap.size) (W0 := w4) OV (by first | rfl | simp [Act.eval]) (by first | rfl | simp [Act.eval]) ho hb5 (by omega) hz5 ?_; intro p7 c7 w7 ho7 hb7 hg7 ha7)
                go_roundw
                case rel => exact ⟨i + 1, m + 1, c7, p7, by omega, by go_num, rfl, by rw [HNO.out]; rfl, Lib.hid (by rw [HNW2.out]; exact ho7), Lib.hid hb7⟩
                case measure => simp [intOf]; omega
        · have HO2 : Hid (OwnSt wr w4.heap.size q m c2 (wordsOf (str x))) := Lib.hid (by have h := HO.out; rw [WW_gt hix] at h; exact h)
          have hq2 : ¬ (i : Int) ≤ (x.length : Int) := by omega
          have HSL5 := Lib.hid (SlSt.below isSS_keeps HSL4.out HB5.out)
          have HBW5 := HBW4.out.trans (HB5.out.mono (by omega))
          have hz45 := HBW5.size
          have HBWH := Lib.hid HBW5
          clear HO
          by_cases hsk : skips (wordsOf (str x))
          · have HRS := Lib.hid (rowsG_skip (ls := ls) hsk)
            by_cases hm0 : m = 0
            · subst hm0
              clear hsk HBW5
              go_wp2_with fail
              go_roundw
              case rel => exact ⟨r, nd + 1, a, c, p, T, ls ++ [str x], by rw [HRR.out], rfl, by go_num, HLX, HLY, by omega, by omega, by rw [HRS.out]; exact HSL5, HBWH⟩
              case measure => rw [← HRR.out]; exact HMS.out
            · have h1 : gsW (wordsOf (str x)) 0 = ⟨#[35]⟩ := by
                rcases hsk with h | h
                · exact absurd (by rw [← HO2.out.len, h]; rfl) hm0
                · exact h
              have hm1 : 0 < m := by omega
              obtain ⟨gq, rfl⟩ := HO2.out.addr hm1
              have c1 := HO2.out.cell hm1
              rw [h1] at c1
              have z2 : (0 : Int) < (m : Int) := by omega
              clear hsk HBW5 h1
              go_wp2_with fail
              go_roundw
              case rel => exact ⟨r, nd + 1, a, c, p, T, ls ++ [str x], by rw [HRR.out], rfl, by go_num, HLX, HLY, by omega, by omega, by rw [HRS.out]; exact HSL5, HBWH⟩
              case measure => rw [← HRR.out]; exact HMS.out
          · have HRK := Lib.hid (rowsG_keep (ls := ls) hsk)
            have hm1 : 0 < m := by
              rcases Nat.eq_zero_or_pos m with h | h
              · exact absurd (.inl (List.eq_nil_of_length_eq_zero (HO2.out.len.trans h))) hsk
              · exact h
            have hx1 : 0 < x.length := by
              rcases Nat.eq_zero_or_pos x.length with h | h
              · exact absurd (.inl (by rw [List.eq_nil_of_length_eq_zero h]; exact words_nil)) hsk
              · exact h
            have hne : ¬ (gsW (wordsOf (str x)) 0).data.toList = [35] := fun h => hsk (.inr (by rw [← str_of (gsW (wordsOf (str x)) 0), h]; rfl))
            have e1 : ((gsW (wordsOf (str x)) 0).toList == [35]) = false := by rw [str_beq]; exact decide_eq_false hne
            have e2 : ¬ (gsW (wordsOf (str x)) 0).toList = [35] := by rw [ByteArray.toList_eq]; exact hne
            have HQA := Lib.hid (fun y (hy : q = some y) => HO2.out.1.lt y.block (by rw [hy]; rfl))
            obtain ⟨gq, hgq⟩ := HO2.out.addr hm1
            have HSS := Lib.hid HO2.out.ss
            subst hgq
            have c1 := HO2.out.cell hm1
            obtain ⟨wd, hwd⟩ : ∃ wd, gsW (wordsOf (str x)) 0 = wd := ⟨_, rfl⟩
            rw [hwd] at c1 e1 e2
            have z2 : (0 : Int) < (m : Int) := by omega
            have HT5 := HSL5.out.1
            clear hsk hne hwd
            go_wp2_with (at_builtin; refine wpL_push_R Tryz.tyLS rfl (by omega) (by omega) encSl_len encSl_one rfl rfl (B := w.heap.size) (W0 := w) ((some ⟨gq, 0, none⟩, m, c2) : Sl) (by first | rfl | simp [Act.eval]) (by first | rfl | simp [Act.eval]) HT5 HBW5 (by omega) hz45 ?_; intro p7 c7 w7 ho7 hb7 hg7 ha7)
            have HSL7 := Lib.hid (SlSt.push isSS_keeps HSL5.out (t := (some ⟨gq, 0, none⟩, m, c2)) (x := wordsOf (str x)) HSS.out (fun y hy => by
              have k1 := HQA.out y hy
              refine ⟨k1.2, fun z hz => ?_, fun z hz => by cases hz⟩
              have := HSL4.out.addr_lt z hz; omega) (fun z hz => by cases hz) ho7 hg7 ha7)
            go_roundw
            case rel => exact ⟨r, nd + 1, a + 1, c7, p7, T ++ [(some ⟨gq, 0, none⟩, m, c2)], ls ++ [str x], by rw [HRR.out], rfl, by go_num, HLX, HLY, by omega, by omega, Lib.hid (by rw [HRK.out]; exact HSL7.out), Lib.hid hb7⟩
            case measure => rw [← HRR.out]; exact HMS.out
end Go.Proofs.YtgbccpfehcjhbaaGreatDoor
