/- The reference's number of a word; slices.Contains (P77). Conditions: what each theorem says. -/
import Derived.Test.YtgbccpfehcjhbaaGreatDoorM19
import Derived.Deep.QuietTactic
import Derived.Test.YtgbccpfehcjhbaaGreatDoorM30
import Derived.Test.YtgbccpfehcjhbaaGreatDoorM32
import Derived.Test.YtgbccpfehcjhbaaGreatDoorM25
namespace Go.Proofs.YtgbccpfehcjhbaaGreatDoor
open Go Go.RowKit
set_option linter.unusedVariables false
set_option linter.unusedSimpArgs false

theorem decFrom_lt {n : Nat} : ∀ (l : List UInt8) (a m k : Nat), a < 10 ^ k → Lib.decFrom a l = some m → m < 10 ^ (k + l.length)
  | [], a, m, k, ha, h => by
    simp only [Lib.decFrom, Option.some.injEq] at h
    subst h; simpa using ha
  | b :: r, a, m, k, ha, h => by
    simp only [Lib.decFrom] at h
    cases hb : Lib.digitVal b with
    | none => rw [hb] at h; cases h
    | some d =>
      rw [hb] at h
      have hd : d < 10 := by
        unfold Lib.digitVal at hb
        split at hb
        · cases hb; omega
        · cases hb
      have h2 := decFrom_lt (n := n) r (a * 10 + d) m (k + 1) (by rw [Nat.pow_succ]; omega) h
      rw [List.length_cons, show k + (r.length + 1) = k + 1 + r.length by omega]
      exact h2
theorem numW_bytes {s : ByteArray} {v : Int} (h : numW s = some v) : s.size ≤ 9 ∧ s.data.toList ≠ [] ∧ (∀ b ∈ s.data.toList, 48 ≤ b.toNat ∧ b.toNat ≤ 57) ∧ Lib.decFrom 0 s.data.toList = some v.toNat ∧ s = str (Lib.itoa v) := by
  obtain ⟨h1, h2, h3, h4⟩ := numW_some h
  have e : s.data.toList = Lib.itoa v := by rw [h4]; rfl
  refine ⟨h2, by rw [e]; exact itoa_ne h3, by rw [e]; exact itoa_in h3, ?_, h4⟩
  rw [e, itoa_dig h3]
  exact decFrom_digits _
def numR (s : ByteArray) : Int := (numW s).getD (-1)
theorem numR_none {s : ByteArray} (h : ∀ v, numW s ≠ some v) : numR s = -1 := by
  unfold numR
  cases e : numW s with
  | none => rfl
  | some v => exact absurd e (h v)
theorem numR_some {s : ByteArray} {v : Int} (h : numW s = some v) : numR s = v := by unfold numR; rw [h]; rfl
set_option maxRecDepth 100000 in
set_option maxHeartbeats 1600000 in
theorem ref_number {w : World} {s : ByteArray} (hs : s.size ≤ 1048576) :
    Calls Tryz.prog 27 #[.string s] w fun e w' => e = .returned (.int .i64 (numR s)) ∧ w = w' := by
  obtain ⟨n, hn⟩ : ∃ n, s.size = n := ⟨_, rfl⟩
  have HN := Lib.hid hn
  have hl : s.data.toList.length = n := by rw [← hn]; rfl
  have HL := Lib.hid hl
  rw [hn] at hs
  clear hl
  go_enter Tryz.func27, Tryz.ntmps27
  go_wp2
  go_loopw [3, 7] (fun av iv wv => ∃ i a : Nat, i ≤ n ∧ i ≤ 9 ∧ av = .int .i64 (a : Int) ∧ iv = .int .i64 (i : Int) ∧ w = wv ∧ Hid (Lib.decFrom 0 (s.data.toList.take i) = some a) ∧ a < 1000000000) (fun _ iv _ => n - (intOf iv).toNat)
  case atStart => exact ⟨0, 0, Nat.zero_le _, by omega, rfl, rfl, rfl, Lib.hid rfl, by omega⟩
  case round =>
    obtain ⟨i, a, hi, hi9, rfl, rfl, rfl, HA, hab⟩ := hrel
    by_cases hiN : i < n
    · have hib : i < s.size := by rw [HN.out]; exact hiN
      have hget : s.data.toList[i]? = some s[i] := by
        rw [List.getElem?_eq_getElem (by rw [HL.out]; exact hiN)]
        rfl
      have HG := Lib.hid hget
      have hmem : s[i] ∈ s.data.toList := List.mem_of_getElem? hget
      have HM := Lib.hid hmem
      clear hget hmem
      by_cases hb : s[i].toNat < 48 ∨ 57 < s[i].toNat ∨ 8 < i
      · have HR : Hid (numR s = -1) := Lib.hid (numR_none fun v hv => by
          obtain ⟨h1, h2, h3, _⟩ := numW_bytes hv
          have := h3 _ HM.out
          omega)
        rcases (show s[i].toNat < 48 ∨ (48 ≤ s[i].toNat ∧ 57 < s[i].toNat) ∨ (48 ≤ s[i].toNat ∧ s[i].toNat ≤ 57 ∧ 8 < i) by omega) with h1 | ⟨h1, h2⟩ | ⟨h1, h2, h3⟩
        · have q1 : (s[i].toNat : Int) < 48 := by omega
          clear hb
          go_wp2
          go_ret
          exact ⟨by rw [HR.out]; rfl, rfl⟩
        · have q1 : ¬ (s[i].toNat : Int) < 48 := by omega
          have q2 : (57 : Int) < (s[i].toNat : Int) := by omega
          clear hb
          go_wp2
          go_ret
          exact ⟨by rw [HR.out]; rfl, rfl⟩
        · have q1 : ¬ (s[i].toNat : Int) < 48 := by omega
          have q2 : ¬ (57 : Int) < (s[i].toNat : Int) := by omega
          have q3 : (8 : Int) < (i : Int) := by omega
          clear hb
          go_wp2
          go_ret
          exact ⟨by rw [HR.out]; rfl, rfl⟩
      · have q1 : ¬ (s[i].toNat : Int) < 48 := by omega
        have q2 : ¬ (57 : Int) < (s[i].toNat : Int) := by omega
        have q3 : ¬ (8 : Int) < (i : Int) := by omega
        have HD : Hid (Lib.decFrom 0 (s.data.toList.take (i + 1)) = some (a * 10 + (s[i].toNat - 48))) := Lib.hid (Lib.decFrom_take _ i 0 a s[i] (s[i].toNat - 48) HA.out HG.out (by unfold Lib.digitVal; rw [if_pos (by omega)]))
        have hlt := decFrom_lt (n := 0) _ 0 _ 0 (by omega) HD.out
        have hlt2 : a * 10 + (s[i].toNat - 48) < 1000000000 := by
          have h9 : (s.data.toList.take (i + 1)).length ≤ 9 := by rw [List.length_take]; omega
          have : 10 ^ (0 + (s.data.toList.take (i + 1)).length) ≤ 10 ^ 9 := Nat.pow_le_pow_right (by omega) (by omega)
          omega
        clear hlt
        go_wp2
        go_roundw
        case rel => exact ⟨i + 1, a * 10 + (s[i].toNat - 48), hiN, by omega, by go_num, by go_num, trivial, HD, hlt2⟩
        case measure => simp [intOf]; omega
    · obtain rfl : n = i := by omega
      have HA2 : Hid (Lib.decFrom 0 s.data.toList = some a) := Lib.hid (by have h := HA.out; rw [← HL.out, List.take_length] at h; exact h)
      by_cases he : s.data.toList = []
      · have e1 : s.toList = [] := by rw [ByteArray.toList_eq]; exact he
        have e2 : s.toList.isEmpty = true := by rw [e1]; rfl
        have HR : Hid (numR s = -1) := Lib.hid (numR_none fun v hv => (numW_bytes hv).2.1 he)
        clear he
        go_wp2
        go_ret
        exact ⟨by rw [HR.out]; rfl, rfl⟩
      · have e1 : ¬ s.toList = [] := by rw [ByteArray.toList_eq]; exact he
        have e2 : s.toList.isEmpty = false := by rw [ByteArray.toList_eq]; simpa using he
        have HC := Lib.hid (dec_any (w := w) (n := (a : Int)) (by omega) (by omega))
        clear he
        by_cases hes : str (Lib.itoa (a : Int)) = s
        · have HR : Hid (numR s = (a : Int)) := Lib.hid (numR_some (by rw [← hes]; exact numW_itoa (by omega) (by omega)))
          rw [hes] at HC
          have d1 : (s.toList != s.toList) = false := by simp
          have d2 : (s.toList == s.toList) = true := by simp
          clear hes
          go_wp2_with fail
          refine HC.out.mono ?_; rintro e w' ⟨rfl, rfl⟩
          go_wp2
          go_ret
          exact ⟨by rw [HR.out]; rfl, rfl⟩
        · have HR : Hid (numR s = -1) := Lib.hid (numR_none fun v hv => by
            obtain ⟨_, _, _, h4, h5⟩ := numW_bytes hv
            have h0 := numW_lt hv
            rw [HA2.out] at h4
            cases h4
            apply hes
            rw [show ((v.toNat : Nat) : Int) = v by omega]
            exact h5.symm)
          have d1 := str_ne hes
          have d3 : ¬ (str (Lib.itoa (a : Int))).toList = s.toList := by simpa using d1
          generalize str (Lib.itoa (a : Int)) = T at *
          clear hes
          go_wp2_with fail
          refine HC.out.mono ?_; rintro e w' ⟨rfl, rfl⟩
          go_wp2
          go_ret
          exact ⟨by rw [HR.out]; rfl, rfl⟩
set_option maxHeartbeats 1000000 in
theorem slices_IndexI {w : World} {p : Option Addr} {n c : Nat} {xs : List Int} (h : SI w p n c xs) {v : Int} {i : Nat} (hi : FirstP (fun k => gi xs k == v) n i) :
    Calls Tryz.prog 42 #[.slice p n c, .int .i64 v] w fun e w' => e = .returned (.int .i64 (if i < n then i else -1)) ∧ Below w.heap.size w w' := by
  have hm := h.2.1
  have HI := Lib.hid hi; have hin := hi.1; clear hi
  go_enter Tryz.func42, Tryz.ntmps42
  go_wp2
  go_loop [8] (fun v => ∃ k : Nat, k ≤ i ∧ v = .int .i64 k) (fun v => n - (intOf v).toNat)
  case atStart => exact ⟨0, by omega, rfl⟩
  case round =>
    obtain ⟨k, hk, rfl⟩ := hrel
    by_cases hkn : k < n
    · obtain ⟨b, off, rfl, hlt, hc⟩ := h.cells (by omega)
      have c1 := hc k hkn
      clear hc h
      by_cases hki : k < i
      · have hz : (gi xs k == v) = false := HI.out.2.1 k hki
        have hz2 : (v == gi xs k) = false := by rw [BEq.comm]; exact hz
        go_wp2
        go_round
        case rel => exact ⟨k + 1, by omega, by go_num⟩
        case measure => simp [intOf]; omega
      · obtain rfl : i = k := by omega
        have hz : (gi xs i == v) = true := HI.out.2.2 hkn
        have hz2 : (v == gi xs i) = true := by rw [BEq.comm]; exact hz
        go_wp2
        go_ret
        exact ⟨by first | rfl | (rw [if_pos hkn]), Below.refl _ _⟩
    · obtain rfl : i = k := by omega
      go_wp2
      go_ret
      exact ⟨by first | rfl | (rw [if_neg hkn]), Below.refl _ _⟩

theorem slices_ContainsI {w : World} {p : Option Addr} {n c : Nat} {xs : List Int} (h : SI w p n c xs) {v : Int} {i : Nat} (hi : FirstP (fun k => gi xs k == v) n i) :
    Calls Tryz.prog 28 #[.slice p n c, .int .i64 v] w fun e w' => e = .returned (.bool (decide (i < n))) ∧ Below w.heap.size w w' := by
  have HC := Lib.hid (slices_IndexI h hi)
  have hle := hi.1
  by_cases hin : i < n
  · rw [if_pos hin] at HC
    have q1 : decide (i < n) = true := decide_eq_true hin
    rw [q1]
    clear h hi
    go_enter Tryz.func28, Tryz.ntmps28
    go_wp2_with fail
    refine HC.out.mono ?_; rintro e w' ⟨rfl, b⟩
    go_wp2
    go_ret
    exact ⟨by simp, b⟩
  · rw [if_neg hin] at HC
    have q1 : decide (i < n) = false := decide_eq_false hin
    rw [q1]
    clear h hi
    go_enter Tryz.func28, Tryz.ntmps28
    go_wp2_with fail
    refine HC.out.mono ?_; rintro e w' ⟨rfl, b⟩
    go_wp2
    go_ret
    exact ⟨by simp, b⟩
end Go.Proofs.YtgbccpfehcjhbaaGreatDoor

/- The words of a line as the reference reads them (plain). Conditions: what each theorem says. -/
namespace Go.Proofs.YtgbccpfehcjhbaaGreatDoor
open Go Go.RowKit
set_option linter.unusedVariables false
set_option linter.unusedSimpArgs false

/-- the numbers of a line, and its lists, of the first i words -/
def numsOf (L : List ByteArray) (f : List Bool) : Nat → List Int
  | 0 => []
  | i + 1 => numsOf L f i ++ if f.getD i false then [nV L (i + 1)] else []
def listsOf (L : List ByteArray) (f : List Bool) : Nat → List (List Int)
  | 0 => []
  | i + 1 => listsOf L f i ++ if f.getD i false then [] else [numsL (gsW L (i + 1))]
theorem numsOf_len (L : List ByteArray) (f : List Bool) : ∀ i, (numsOf L f i).length ≤ i
  | 0 => Nat.le_refl _
  | i + 1 => by
    have := numsOf_len L f i
    unfold numsOf
    split <;> simp <;> omega
theorem listsOf_len (L : List ByteArray) (f : List Bool) : ∀ i, (listsOf L f i).length ≤ i
  | 0 => Nat.le_refl _
  | i + 1 => by
    have := listsOf_len L f i
    unfold listsOf
    split <;> simp <;> omega
def rawL (s : ByteArray) : List Int := (pcs s 44).map numR
theorem numR_nv {x : ByteArray} (h : numW x ≠ none) : numR x = nv x := by
  rw [numR_some (nv_some h)]
theorem raw_ok {s : ByteArray} (h : numsOk s) : rawL s = numsL s := by
  unfold rawL numsL
  exact List.map_congr_left fun x hx => numR_nv (h x hx)
theorem numR_neg {x : ByteArray} : numR x = -1 ↔ numW x = none := by
  constructor
  · intro h
    cases e : numW x with
    | none => rfl
    | some v =>
      have := numR_some e
      have := numW_lt e
      omega
  · intro h; exact numR_none (fun v hv => by rw [h] at hv; cases hv)
/-- does a piece that is no number stand among the first? -/
theorem raw_bad (s : ByteArray) : fstP (fun k => gi (rawL s) k == -1) (rawL s).length < (rawL s).length ↔ ¬ numsOk s := by
  have hl : (rawL s).length = (pcs s 44).length := List.length_map _
  obtain ⟨h1, h2, h3⟩ := fstP_is (fun k => gi (rawL s) k == -1) (rawL s).length
  generalize fstP (fun k => gi (rawL s) k == -1) (rawL s).length = i at *
  have hg : ∀ j, j < (rawL s).length → gi (rawL s) j = numR (gsW (pcs s 44) j) := fun j hj => by
    have hj2 : j < (pcs s 44).length := by rw [← hl]; exact hj
    simp [gi, rawL, gsW, List.getD, hj2]
  constructor
  · intro hi hok
    have h4 : gi (rawL s) i = -1 := by have := h3 hi; simpa using this
    rw [hg i hi, numR_neg, gs_get (by rw [← hl]; exact hi)] at h4
    exact hok _ (List.getElem_mem _) h4
  · intro hno
    apply Classical.byContradiction
    intro hi
    apply hno
    intro x hx e
    obtain ⟨j, hj, rfl⟩ := List.getElem_of_mem hx
    have hj2 : j < (rawL s).length := by rw [hl]; exact hj
    have h4 : ¬ gi (rawL s) j = -1 := by have := h2 j (by omega); simpa using this
    rw [hg j hj2, gs_get hj] at h4
    exact h4 (numR_neg.2 e)
theorem pcs_one {s : ByteArray} (h : (pcs s 44).length = 1) : pcs s 44 = [s] := by
  rw [pcs_len] at h
  unfold pcs
  rw [show Lib.countB s ⟨#[44]⟩ = 0 by omega]
  rfl
theorem one_num {s : ByteArray} : (numsOk s ∧ (pcs s 44).length = 1) ↔ numW s ≠ none := by
  constructor
  · rintro ⟨h1, h2⟩
    have := pcs_one h2
    exact h1 s (by rw [this]; exact List.mem_singleton.2 rfl)
  · intro h
    obtain ⟨v, hv⟩ : ∃ v, numW s = some v := ⟨_, nv_some h⟩
    obtain ⟨_, _, _, _, h5⟩ := numW_bytes hv
    have hb := numW_lt hv
    have hp : pcs s 44 = [s] := by
      have := pcs_nums (Y := [v]) (by simp) (by intro x hx; simp only [List.mem_singleton] at hx; subst hx; exact hb.1)
      rw [show numsS [v] = Lib.itoa v by unfold numsS; rw [List.map_cons, List.map_nil, Lib.join_one], ← h5, List.map_cons, List.map_nil, ← h5] at this
      exact this
    refine ⟨?_, by rw [hp]; rfl⟩
    rw [numsOk, hp]
    intro x hx
    simp only [List.mem_singleton] at hx
    subst hx; exact h
theorem fmt_len (c : Nat) : (str (fmt c)).size = (cmdF c).length := by
  show (fmt c).length = _
  unfold fmt; rw [List.length_map]
theorem fmt_at (c i : Nat) (h : i < (str (fmt c)).size) : (str (fmt c))[i].toNat = if (cmdF c).getD i false then 78 else 76 := by
  have hl : i < (cmdF c).length := by rw [← fmt_len]; exact h
  have e : (str (fmt c))[i] = (fmt c)[i]'(by show i < (fmt c).length; exact h) := rfl
  rw [e]
  have e2 : (fmt c)[i]'(by show i < (fmt c).length; exact h) = if (cmdF c)[i] then 78 else 76 := by simp [fmt]
  rw [e2, List.getD_eq_getElem?_getD, List.getElem?_eq_getElem hl]
  simp only [Option.getD_some]
  split <;> rfl
theorem cmdF_len (c : Nat) : (cmdF c).length ≤ 3 := by
  unfold cmdF
  split <;> simp
theorem cmdW_ne (c : Nat) (hc : c < 15) : ∀ j, j < c → str (cmdW c) ≠ str (cmdW j) := by
  have h : ∀ (c : Fin 15) (j : Fin 15), j < c → cmdW c ≠ cmdW j := by decide
  intro j hj e
  exact h ⟨c, hc⟩ ⟨j, by omega⟩ hj (str_inj e)
end Go.Proofs.YtgbccpfehcjhbaaGreatDoor

/- The reference's fault, told, within (P77). Conditions: what each theorem says. -/
namespace Go.Proofs.YtgbccpfehcjhbaaGreatDoor
open Go Go.RowKit
set_option linter.unusedVariables false
set_option linter.unusedSimpArgs false

def TextEq (w : World) (t : Bytes) (e : Ending) (w' : World) : Prop := e = .returned (.string (str t)) ∧ w = w'
def TextPost (w : World) (t : Bytes) (e : Ending) (w' : World) : Prop := e = .returned (.string (str t)) ∧ Below w.heap.size w w'
theorem ref_fault {w : World} {c : Int} (h : 0 ≤ c ∧ c ≤ 1000) : Calls Tryz.prog 26 #[.int .i64 c] w (TextEq w (errS c)) := by
  have HC := Lib.hid (dec_any (w := w) (n := c) h.1 (by omega))
  have hl := itoa_len (n := c) (by omega) (by omega)
  rw [← str_size] at hl
  have HE : Hid (str (errS c) = ⟨#[101, 114, 114, 111, 114, 32]⟩ ++ str (Lib.itoa c)) := Lib.hid rfl
  generalize str (Lib.itoa c) = T at *
  go_enter Tryz.func26, Tryz.ntmps26
  go_wp2_with fail
  refine HC.out.mono ?_; rintro e w' ⟨rfl, rfl⟩
  have g1 : ¬ 9223372036854775807 < 6 + T.size := by omega
  go_wp2
  go_ret
  exact ⟨by rw [HE.out]; rfl, rfl⟩
set_option maxHeartbeats 800000 in
theorem ref_told {w : World} {p : Option Addr} {n c : Nat} {Y : List Int} (h : SI w p n c Y) (hT : fits Y → told0 Y) :
    Calls Tryz.prog 76 #[.slice p n c, .int .i64 0] w (TextEq w (textOf (fitOut 0 Y))) := by
  by_cases hf : fits Y
  · have ht := hT hf
    have HO : Hid (textOf (fitOut 0 Y) = okS Y) := Lib.hid (by rw [fitOut_ok rfl hf]; rfl)
    have HF := Lib.hid (ref_Fits_ok h hf)
    have HN := Lib.hid (ref_Numbers h (by rw [← h.len]; exact ht.1) ht.2)
    have hl := numsS_len ht.1 (fun x hx => by have := ht.2 x hx; omega)
    rw [← str_size] at hl
    have HE : Hid (str (okS Y) = ⟨#[111, 107, 32]⟩ ++ str (numsS Y)) := Lib.hid rfl
    generalize str (numsS Y) = T at *
    clear h hT hf ht
    go_enter Tryz.func76, Tryz.ntmps76
    go_wp2_with fail
    refine HF.out.mono ?_; rintro e w' ⟨rfl, rfl⟩
    go_wp2_with fail
    refine HN.out.mono ?_; rintro e w' ⟨rfl, rfl⟩
    have g1 : ¬ 9223372036854775807 < 3 + T.size := by omega
    go_wp2
    go_ret
    exact ⟨by rw [HO.out, HE.out]; rfl, rfl⟩
  · have HO : Hid (textOf (fitOut 0 Y) = errS 2) := Lib.hid (by rw [fitOut_big rfl hf]; rfl)
    have HF := Lib.hid (ref_Fits_big h hf)
    clear h hT hf
    go_enter Tryz.func76, Tryz.ntmps76
    go_wp2_with fail
    refine HF.out.mono ?_; rintro e w' ⟨rfl, rfl⟩
    go_wp2_with fail
    refine (ref_fault (by omega)).mono ?_; rintro e w' ⟨rfl, rfl⟩
    go_wp2
    go_ret
    exact ⟨by rw [HO.out]; rfl, rfl⟩
theorem ref_withinI {w : World} {x a b : Int} {r : Bool} (h : decide (a ≤ x ∧ x ≤ b) = r) :
    Calls Tryz.prog 43 #[.int .i64 x, .int .i64 a, .int .i64 b] w fun e w' => e = .returned (.bool r) ∧ w = w' := by
  by_cases h1 : a ≤ x
  · by_cases h2 : x ≤ b
    · have q : r = true := by rw [← h]; simp [h1, h2]
      subst q; clear h
      go_enter Tryz.func43, Tryz.ntmps43
      go_wp2
      go_ret
      exact ⟨by simp [h1, h2], rfl⟩
    · have q : r = false := by rw [← h]; simp [h2]
      subst q; clear h
      go_enter Tryz.func43, Tryz.ntmps43
      go_wp2
      go_ret
      exact ⟨by simp [h2], rfl⟩
  · have q : r = false := by rw [← h]; simp [h1]
    subst q; clear h
    go_enter Tryz.func43, Tryz.ntmps43
    go_wp2
    go_ret
    exact ⟨by simp [h1], rfl⟩
theorem ref_dec {w : World} {n : Int} (h0 : 0 ≤ n) (h1 : n ≤ 1000000000000) :
    Calls Tryz.prog 17 #[.int .i64 n] w fun e w' => ∃ T : ByteArray, e = .returned (.string T) ∧ w = w' ∧ T.size ≤ 14 ∧ Hid (str (okS [n]) = ⟨#[111, 107, 32]⟩ ++ T) := by
  refine (dec_any h0 h1).mono ?_
  rintro e w' ⟨rfl, rfl⟩
  exact ⟨_, rfl, rfl, by rw [str_size]; exact itoa_len (by omega) h1, Lib.hid (by unfold okS; rw [List.map_cons, List.map_nil, Lib.join_one]; rfl)⟩
end Go.Proofs.YtgbccpfehcjhbaaGreatDoor
