/- The answers are short and hold no line's end (plain). Conditions: what each theorem says. -/
import Derived.Test.YtgbccpfehcjhbaaGreatDoorM29
import Derived.Test.YtgbccpfehcjhbaaGreatDoorM19
import Derived.Test.YtgbccpfehcjhbaaGreatDoorM31
namespace Go.Proofs.YtgbccpfehcjhbaaGreatDoor
open Go Go.RowKit
set_option linter.unusedVariables false
set_option linter.unusedSimpArgs false

/-- numbers that are told -/
def told0 (Y : List Int) : Prop := Y.length ≤ 1000 ∧ ∀ x ∈ Y, 0 ≤ x ∧ x ≤ 1000000000000
theorem told0_curve {Y : List Int} (h : curveErr Y = 0) : told0 Y := by
  have hc := curve_of h rfl
  refine ⟨by have := hc.le; omega, fun x hx => ?_⟩
  obtain ⟨j, hj, rfl⟩ := List.getElem_of_mem hx
  have := hc.bd j hj
  rw [gi_get hj] at this
  omega
theorem told0_one {x : Int} (h : 0 ≤ x ∧ x ≤ 1000000000000) : told0 [x] := ⟨by simp, fun y hy => by simp only [List.mem_singleton] at hy; subst hy; exact h⟩
theorem told0_conv {xs ys : List Int} (h : bothErr xs ys = 0) (hf : fits (convL xs ys)) : told0 (convL xs ys) := by
  obtain ⟨h1, h2, h3⟩ := bothErr_ok h
  exact told0_curve (chain_curve (curve_of h1 rfl) (curve_of h2 h3.symm) hf)
theorem told0_deconv {xs ys : List Int} (h : bothErr xs ys = 0) : told0 (dcvL xs ys) := by
  obtain ⟨h1, h2, h3⟩ := bothErr_ok h
  exact told0_curve (dcv_curve (curve_of h1 rfl) (curve_of h2 h3.symm))
theorem told0_shape {xs ys : List Int} (h : bothErr xs ys = 0) (hf : fits (convL xs (clsL ys))) : told0 (convL xs (clsL ys)) := by
  obtain ⟨h1, h2, h3⟩ := bothErr_ok h
  have hy := curve_of h2 h3.symm
  exact told0_curve (chain_curve (curve_of h1 rfl) (curve_of (cls_curve hy) (by unfold clsL; rw [tab_length]; exact h3.symm)) hf)
theorem told0_close {xs : List Int} (h : curveErr xs = 0) : told0 (clsL xs) := told0_curve (cls_curve (curve_of h rfl))
theorem told0_bucket {h r n : Int} (he : shErr h r (n < 0 ∨ 1000000 < n) = 0) : told0 (tab (h.toNat + 1) (bucketV r n)) := by
  obtain ⟨h0, h1, r0, r1, hn⟩ := shErr_ok he
  refine ⟨by rw [tab_length]; omega, fun x hx => ?_⟩
  obtain ⟨j, hj, rfl⟩ : ∃ j, j < h.toNat + 1 ∧ bucketV r n j = x := by unfold tab at hx; simpa using hx
  unfold bucketV
  split
  · omega
  · have := rt_bd (r := r) (t := (j : Int)) r0 r1 (by omega) (by omega)
    omega
theorem scan_bd : ∀ (l : List Int) (a : Int), 0 ≤ scan a l ∧ scan a l ≤ 3
  | [], _ => by simp [scan]
  | v :: r, a => by
    have := scan_bd r v
    unfold scan
    repeat' split
    all_goals omega
theorem curveErr_bd (xs : List Int) : 0 ≤ curveErr xs ∧ curveErr xs ≤ 3 := by
  have := scan_bd xs 0
  unfold curveErr
  repeat' split
  all_goals omega
theorem bothErr_bd (xs ys : List Int) : 0 ≤ bothErr xs ys ∧ bothErr xs ys ≤ 4 := by
  have := curveErr_bd xs; have := curveErr_bd ys
  unfold bothErr
  repeat' split
  all_goals omega
theorem delayE_bd (xs ys : List Int) : 0 ≤ delayE xs ys ∧ delayE xs ys ≤ 5 := by
  have := bothErr_bd xs ys
  unfold delayE
  repeat' split
  all_goals omega
theorem shErr_bd {h r : Int} {P : Prop} [Decidable P] : 0 ≤ shErr h r P ∧ shErr h r P ≤ 1 := by
  unfold shErr
  split <;> omega
theorem no10 {l : Bytes} (h : ∀ b ∈ l, 32 ≤ b.toNat) : ¬ (10 : UInt8) ∈ l := fun e => by have := h 10 e; simp at this
theorem app32 {a b : Bytes} (ha : ∀ x ∈ a, 32 ≤ x.toNat) (hb : ∀ x ∈ b, 32 ≤ x.toNat) : ∀ x ∈ a ++ b, 32 ≤ x.toNat := fun x hx => (List.mem_append.1 hx).elim (ha x) (hb x)
theorem itoa32 {v : Int} (h : 0 ≤ v) : ∀ x ∈ Lib.itoa v, 32 ≤ x.toNat := fun x hx => by have := itoa_in h x hx; omega
theorem clean_okS {Y : List Int} (h : told0 Y) : Clean (okS Y) := by
  refine ⟨?_, no10 ?_⟩
  · have h1 := numsS_len h.1 (fun x hx => by have := h.2 x hx; omega)
    unfold okS
    rw [List.length_append]
    show 3 + (numsS Y).length ≤ _
    omega
  · refine app32 (by decide) (fun x hx => ?_)
    have := numsS_in (fun x hx => (h.2 x hx).1) x hx
    omega
theorem clean_err {c : Int} (h : 0 ≤ c ∧ c ≤ 1000) : Clean (errS c) := by
  refine ⟨?_, no10 (app32 (by decide) (itoa32 h.1))⟩
  have := itoa_len (n := c) (by omega) (by omega)
  unfold errS
  rw [List.length_append]
  show 6 + _ ≤ _
  omega
theorem clean_ok : Clean [111, 107] := ⟨by decide, by decide⟩
theorem clean_peers {L : List Peer} (hG : GoodL L) (hn : L.length ≤ 8) : Clean (peersS L) := by
  have hb := good_bd hG
  refine ⟨?_, no10 ?_⟩
  · have := peersS_len hb L.length (Nat.le_refl _)
    rw [List.take_length] at this
    omega
  · refine app32 (by decide) (fun x hx => ?_)
    obtain ⟨p, hp, hx⟩ := List.mem_flatMap.1 hx
    obtain ⟨k, hk, rfl⟩ := List.getElem_of_mem hp
    have h1 := hb k hk
    unfold pl pp at h1
    rw [ge_get hk] at h1
    exact app32 (app32 (app32 (by decide) (itoa32 h1.1)) (by decide)) (itoa32 h1.2.2.1) x hx
theorem clean_text {O : Out} (h : OutGood O) : Clean (textOf O) := by
  cases O with
  | ok t => exact h
  | err c => exact clean_err h
theorem fitOut_good {want : Int} {Y : List Int} (hw : 0 ≤ want ∧ want ≤ 1000) (h : want = 0 → fits Y → told0 Y) : OutGood (fitOut want Y) := by
  by_cases h0 : want = 0
  · by_cases hf : fits Y
    · rw [fitOut_ok h0 hf]; exact clean_okS (h h0 hf)
    · rw [fitOut_big h0 hf]; exact ⟨by omega, by omega⟩
  · rw [fitOut_err h0]; exact hw
theorem oneOut_good {r : Int × Int} (hr : 0 ≤ r.2 ∧ r.2 ≤ 1000) (h : r.2 = 0 → 0 ≤ r.1 ∧ r.1 ≤ 1000000000000) : OutGood (oneOut r) := by
  unfold oneOut
  split
  · rename_i h0; exact clean_okS (told0_one (h h0))
  · exact hr
theorem errOut_good {er : Int} (h : 0 ≤ er ∧ er ≤ 1000) : OutGood (errOut er [111, 107]) := by
  unfold errOut
  split
  · exact clean_ok
  · exact h
theorem windowVE_good (n w t : Int) : (0 ≤ (windowVE n w t).2 ∧ (windowVE n w t).2 ≤ 1000) ∧ ((windowVE n w t).2 = 0 → 0 ≤ (windowVE n w t).1 ∧ (windowVE n w t).1 ≤ 1000000000000) := by
  unfold windowVE
  split
  · rename_i h
    obtain ⟨h1, h2, h3, h4, h5, h6⟩ := h
    have := doneAt_bd (n := n.toNat) (w := w.toNat) (t := t.toNat) (by omega) (by omega)
    simp only
    omega
  · simp
theorem boundErr_bd (xs : List Int) (r l : Int) : 0 ≤ boundErr xs r l ∧ boundErr xs r l ≤ 3 := by
  have := curveErr_bd xs
  unfold boundErr
  repeat' split
  all_goals omega
theorem boundVE_good (xs : List Int) (r l : Int) : (0 ≤ (boundVE xs r l).2 ∧ (boundVE xs r l).2 ≤ 1000) ∧ ((boundVE xs r l).2 = 0 → 0 ≤ (boundVE xs r l).1 ∧ (boundVE xs r l).1 ≤ 1000000000000) := by
  have h1 := boundErr_bd xs r l
  have h2 := boundVE_bd xs r l
  unfold boundVE at *
  split
  · rename_i h; simp only; omega
  · rename_i h
    rw [if_neg h] at h2
    split
    · rename_i h3; rw [if_pos h3] at h2; simp only at *; omega
    · simp
theorem planErr_bd (xs : List Int) (d : Int) : 0 ≤ planErr xs d ∧ planErr xs d ≤ 3 := by
  have := curveErr_bd xs
  unfold planErr
  repeat' split
  all_goals omega
theorem rateVE_good (xs : List Int) (l d : Int) : (0 ≤ (rateVE xs l d).2 ∧ (rateVE xs l d).2 ≤ 1000) ∧ ((rateVE xs l d).2 = 0 → 0 ≤ (rateVE xs l d).1 ∧ (rateVE xs l d).1 ≤ 1000000000000) := by
  have h1 := planErr_bd xs d
  by_cases h : planErr xs d = 0
  · by_cases hl : l < 0 ∨ 1000000 < l
    · unfold rateVE
      rw [if_neg (show ¬ planErr xs d ≠ 0 from fun k => k h), if_pos hl]
      simp
    · have := rateVE_of h (show 0 ≤ l ∧ l ≤ 1000000 by omega)
      rcases this with ⟨_, h2, h3⟩ | ⟨_, _, h2, h3⟩ | ⟨_, h2, h3, h4, h5⟩ <;> omega
  · unfold rateVE
    rw [if_pos h]
    simp only
    omega
theorem appErr_bd (L : List Peer) (a : Int) : 0 ≤ appErr L a ∧ appErr L a ≤ 2 := by
  unfold appErr
  repeat' split
  all_goals omega
theorem crErr_bd (L : List Peer) (a : Int) : 0 ≤ crErr L a ∧ crErr L a ≤ 1 := by
  unfold crErr
  split <;> omega
theorem cmdOut_good {s : DS} (hs : s.Good) (L : List ByteArray) : ∀ c, OutGood (cmdOut c s L).1 ∧ (cmdOut c s L).2.Good
  | 0 => ⟨fitOut_good (by have := bothErr_bd (numsL (gsW L 1)) (numsL (gsW L 2)); omega) (fun h hf => told0_conv h hf), hs⟩
  | 1 => ⟨fitOut_good (by have := bothErr_bd (numsL (gsW L 1)) (numsL (gsW L 2)); omega) (fun h hf => told0_deconv h), hs⟩
  | 2 => ⟨fitOut_good (by have := bothErr_bd (numsL (gsW L 1)) (numsL (gsW L 2)); omega) (fun h hf => told0_shape h hf), hs⟩
  | 3 => ⟨fitOut_good (by have := curveErr_bd (numsL (gsW L 1)); omega) (fun h hf => told0_close h), hs⟩
  | 4 => ⟨fitOut_good (by have := bothErr_bd (numsL (gsW L 1)) (numsL (gsW L 2)); omega) (fun h hf => told0_one (by have := back_bd h; omega)), hs⟩
  | 5 => ⟨fitOut_good (by have := delayE_bd (numsL (gsW L 1)) (numsL (gsW L 2)); omega) (fun h hf => told0_one (by have := delay_bd h; omega)), hs⟩
  | 6 => ⟨fitOut_good (by have := shErr_bd (h := nV L 1) (r := nV L 2) (P := nV L 3 < 0 ∨ 1000000 < nV L 3); omega) (fun h hf => told0_bucket h), hs⟩
  | 7 => ⟨oneOut_good (windowVE_good _ _ _).1 (windowVE_good _ _ _).2, hs⟩
  | 8 => ⟨oneOut_good (boundVE_good _ _ _).1 (boundVE_good _ _ _).2, hs⟩
  | 9 => ⟨oneOut_good (rateVE_good _ _ _).1 (rateVE_good _ _ _).2, hs⟩
  | 10 => by
    show OutGood (worldOut (nV L 1) (nV L 2) (nV L 3)) ∧ (worldDS (nV L 1) (nV L 2) (nV L 3) s).Good
    unfold worldOut worldDS
    by_cases h : newOk (nV L 1) (nV L 2) (nV L 3)
    · rw [if_pos h, if_pos h]; exact ⟨clean_ok, newDS_good h⟩
    · rw [if_neg h, if_neg h]; exact ⟨⟨by omega, by omega⟩, hs⟩
  | 11 => ⟨errOut_good (by have := appErr_bd s.L (nV L 1); omega), appL_good' hs _⟩
  | 12 => ⟨errOut_good (by have := crErr_bd s.L (nV L 1); omega), crL_good' hs _⟩
  | 13 => ⟨clean_okS (told0_one (by
      have hle : tickR s.unit (s.L, s.turn) s.rate ≤ 1000 := by
        have := (fstP_is (fun m => stuckW (runW s.unit (s.L, s.turn) m)) s.rate).1
        have := hs.rate
        unfold tickR; omega
      omega)), tick_good hs⟩
  | 14 => ⟨clean_peers hs.good hs.n.2, hs⟩
  | c + 15 => ⟨⟨by omega, by omega⟩, hs⟩
theorem lineR_good {s s' : DS} {L : List ByteArray} {O : Out} (hs : s.Good) (h : LineR s L O s') : OutGood O ∧ s'.Good := by
  cases h with
  | ok c hc hw hin => exact cmdOut_good hs L c
  | bad c hc hw hno => exact ⟨⟨by omega, by omega⟩, hs⟩
  | none hn => exact ⟨⟨by omega, by omega⟩, hs⟩
end Go.Proofs.YtgbccpfehcjhbaaGreatDoor

/- What a script comes to, line after line (plain), and desk.Run by it. Conditions: what each theorem says. -/
namespace Go.Proofs.YtgbccpfehcjhbaaGreatDoor
open Go Go.RowKit
set_option linter.unusedVariables false
set_option linter.unusedSimpArgs false

noncomputable def nextO (s : DS) (W : List ByteArray) : Out × DS := (Classical.choose (lineR_exists s W), Classical.choose (Classical.choose_spec (lineR_exists s W)))
theorem nextO_is (s : DS) (W : List ByteArray) : LineR s W (nextO s W).1 (nextO s W).2 := Classical.choose_spec (Classical.choose_spec (lineR_exists s W))
open Classical in
noncomputable def stepRun (st : DS × Bytes) (W : List ByteArray) : DS × Bytes := if skips W then st else ((nextO st.1 W).2, st.2 ++ (textOf (nextO st.1 W).1 ++ [10]))
theorem stepRun_skip {st : DS × Bytes} {W : List ByteArray} (h : skips W) : stepRun st W = st := if_pos h
theorem stepRun_keep {st : DS × Bytes} {W : List ByteArray} (h : ¬ skips W) : stepRun st W = ((nextO st.1 W).2, st.2 ++ (textOf (nextO st.1 W).1 ++ [10])) := if_neg h
noncomputable def runF (Ls : List (List ByteArray)) : DS × Bytes := Ls.foldl stepRun (startDS, [])
theorem runF_snoc (Ls : List (List ByteArray)) (W : List ByteArray) : runF (Ls ++ [W]) = stepRun (runF Ls) W := by unfold runF; rw [List.foldl_append]; rfl
theorem step_good {st : DS × Bytes} (h : st.1.Good) (W : List ByteArray) : (stepRun st W).1.Good := by
  by_cases hs : skips W
  · rw [stepRun_skip hs]; exact h
  · rw [stepRun_keep hs]; exact (lineR_good h (nextO_is _ _)).2
theorem fold_good : ∀ (Ls : List (List ByteArray)) (st : DS × Bytes), st.1.Good → (Ls.foldl stepRun st).1.Good
  | [], _, h => h
  | W :: r, st, h => fold_good r _ (step_good h W)
theorem runF_good (Ls : List (List ByteArray)) : (runF Ls).1.Good := fold_good _ _ startDS_good
theorem fold_rows : ∀ (ls : List ByteArray) (st : DS × Bytes), (ls.map wordsOf).foldl stepRun st = (rowsG ls).foldl stepRun st
  | [], _ => rfl
  | x :: r, st => by
    have ih := fold_rows r
    unfold rowsG at *
    rw [List.map_cons, List.foldl_cons, List.filter_cons]
    by_cases h : skips (wordsOf x)
    · rw [stepRun_skip h, if_neg (by simpa using h)]
      exact ih st
    · rw [if_pos (by simpa using h), List.foldl_cons]
      exact ih _
theorem runF_rows (ls : List ByteArray) : runF (ls.map wordsOf) = runF (rowsG ls) := fold_rows ls _
theorem fold_ext : ∀ (Ls : List (List ByteArray)) (st : DS × Bytes), ∃ rem, (Ls.foldl stepRun st).2 = st.2 ++ rem
  | [], st => ⟨[], by simp⟩
  | W :: r, st => by
    obtain ⟨rem, hr⟩ := fold_ext r (stepRun st W)
    rw [List.foldl_cons, hr]
    by_cases h : skips W
    · rw [stepRun_skip h]; exact ⟨rem, rfl⟩
    · rw [stepRun_keep h]; exact ⟨(textOf (nextO st.1 W).1 ++ [10]) ++ rem, by simp⟩
theorem runF_ext (Ls : List (List ByteArray)) (r : Nat) : ∃ rem, (runF Ls).2 = (runF (Ls.take r)).2 ++ rem := by
  obtain ⟨rem, h⟩ := fold_ext (Ls.drop r) (runF (Ls.take r))
  refine ⟨rem, ?_⟩
  rw [← h]
  unfold runF
  rw [← List.foldl_append, List.take_append_drop]
theorem runF_take {Ls : List (List ByteArray)} {r : Nat} (h : r < Ls.length) : runF (Ls.take (r + 1)) = stepRun (runF (Ls.take r)) Ls[r] := by
  rw [List.take_succ_eq_append_getElem h, runF_snoc]
/-- what is left to be read, where a line is answered -/
theorem rem_next {Ls : List (List ByteArray)} {r : Nat} (h : r < Ls.length) (hk : ¬ skips Ls[r]) {rem : Bytes} (hr : (runF Ls).2 = (runF (Ls.take r)).2 ++ rem) :
    ∃ rem', rem = textOf (nextO (runF (Ls.take r)).1 Ls[r]).1 ++ 10 :: rem' ∧ (runF Ls).2 = (runF (Ls.take (r + 1))).2 ++ rem' := by
  obtain ⟨rem', h2⟩ := runF_ext Ls (r + 1)
  refine ⟨rem', ?_, h2⟩
  rw [hr, runF_take h, stepRun_keep hk, List.append_assoc] at h2
  have := List.append_cancel_left h2
  rw [this]; simp
theorem rem_last {Ls : List (List ByteArray)} {rem : Bytes} (hr : (runF Ls).2 = (runF (Ls.take Ls.length)).2 ++ rem) : rem = [] := by
  rw [List.take_length] at hr
  have h : (runF Ls).2 ++ [] = (runF Ls).2 ++ rem := by rw [List.append_nil]; exact hr
  exact (List.append_cancel_left h).symm
theorem rowsG_keeps {ls : List ByteArray} {W : List ByteArray} (h : W ∈ rowsG ls) : ¬ skips W ∧ ∃ x ∈ ls, W = wordsOf x := by
  unfold rowsG at h
  rw [List.mem_filter, List.mem_map] at h
  obtain ⟨⟨x, hx, rfl⟩, h2⟩ := h
  exact ⟨by simpa using h2, x, hx, rfl⟩
theorem lines_size {s x : ByteArray} (h : x ∈ linesOf s) : x.size ≤ s.size := by
  unfold linesOf at h
  split at h
  · exact pcs_size (List.mem_of_mem_take h)
  · exact pcs_size h
theorem words_size {x : ByteArray} (j : Nat) : (gsW (wordsOf x) j).size ≤ x.size := by
  by_cases hj : j < (wordsOf x).length
  · rw [gs_get hj]
    have hm : (wordsOf x)[j] ∈ wordsOf x := List.getElem_mem _
    unfold wordsOf at hm
    exact pcs_size (List.mem_filter.1 hm).1
  · unfold gsW
    rw [List.getD_eq_getElem?_getD, List.getElem?_eq_none (by omega)]
    exact Nat.zero_le _
theorem words_count (x : ByteArray) : (wordsOf x).length ≤ x.size + 1 := by
  unfold wordsOf
  exact Nat.le_trans (List.length_filter_le _ _) (pcs_len_le x 32)
theorem not_skips_pos {W : List ByteArray} (h : ¬ skips W) : 0 < W.length := by
  cases W with
  | nil => exact absurd (.inl rfl) h
  | cons a r => simp
theorem step_all {s : ByteArray} (hs : s.size ≤ 65536) (i : Nat) (hi : i < (linesOf s).length) :
    StepOk (wordsOf (gsW (linesOf s) i)) (runF (((linesOf s).map wordsOf).take i)).1 (runF (((linesOf s).map wordsOf).take (i + 1))).1 (runF (((linesOf s).map wordsOf).take i)).2 (runF (((linesOf s).map wordsOf).take (i + 1))).2 := by
  have hl : i < ((linesOf s).map wordsOf).length := by simpa using hi
  have hx : (gsW (linesOf s) i).size ≤ 65536 := by
    rw [gs_get hi]
    have := lines_size (s := s) (x := (linesOf s)[i]) (List.getElem_mem _)
    omega
  have e : ((linesOf s).map wordsOf)[i] = wordsOf (gsW (linesOf s) i) := by rw [List.getElem_map, gs_get hi]
  rw [runF_take hl, e]
  by_cases h : skips (wordsOf (gsW (linesOf s) i))
  · rw [stepRun_skip h]; exact .inl ⟨h, rfl, rfl⟩
  · rw [stepRun_keep h]
    have hR := nextO_is (runF (((linesOf s).map wordsOf).take i)).1 (wordsOf (gsW (linesOf s) i))
    have hG := lineR_good (runF_good _) hR
    exact .inr ⟨h, _, (clean_text hG.1).1, replies_of (fun j => by have := words_size (x := gsW (linesOf s) i) j; omega) (not_skips_pos h) hR hG.1, rfl⟩
theorem runF_len {s : ByteArray} (hs : s.size ≤ 65536) (hM : (linesOf s).length ≤ 200) : (runF (rowsG (linesOf s))).2.length ≤ 200 * 20001 := by
  have h := step_len (W := fun i => wordsOf (gsW (linesOf s) i)) (st := fun i => (runF (((linesOf s).map wordsOf).take i)).1) (U := fun i => (runF (((linesOf s).map wordsOf).take i)).2) (n := (linesOf s).length) rfl (step_all hs) _ (Nat.le_refl _)
  rw [← runF_rows]
  have e : ((linesOf s).map wordsOf).take (linesOf s).length = (linesOf s).map wordsOf := List.take_of_length_le (by simp)
  simp only [e] at h
  exact Nat.le_trans h (Nat.mul_le_mul_right _ hM)
theorem dk_Run_all {w : World} (LD : Laid w) {s : ByteArray} (hs : s.size ≤ 65536) (hM : (linesOf s).length ≤ 200) :
    Calls Tryz.prog 5 #[.string s] w (RunPost w (runF (rowsG (linesOf s))).2) := by
  have h := dk_RunG LD hs hM (st := fun i => (runF (((linesOf s).map wordsOf).take i)).1) (U := fun i => (runF (((linesOf s).map wordsOf).take i)).2) rfl rfl (step_all hs)
  have e : ((linesOf s).map wordsOf).take (linesOf s).length = (linesOf s).map wordsOf := List.take_of_length_le (by simp)
  simp only [e] at h
  rw [← runF_rows]
  exact h
end Go.Proofs.YtgbccpfehcjhbaaGreatDoor
