/- The contract of the desk's line: nums (P77). Conditions: the library's variables are laid. -/
import Derived.Test.YtgbccpfehcjhbaaGreatDoorDkLine
namespace Go.Proofs.YtgbccpfehcjhbaaGreatDoor
open Go Go.RowKit
set_option linter.unusedVariables false
set_option linter.unusedSimpArgs false

/-- the pieces of a text between a byte -/
def pcs (s : ByteArray) (c : UInt8) : List ByteArray := Lib.splitB ⟨#[c]⟩ 0 (Lib.countB s ⟨#[c]⟩) s
theorem pcs_len (s : ByteArray) (c : UInt8) : (pcs s c).length = Lib.countB s ⟨#[c]⟩ + 1 := Lib.splitB_all ⟨#[c]⟩ (Nat.le_refl 1) 0 _ s rfl
theorem pcs_len_le (s : ByteArray) (c : UInt8) : (pcs s c).length ≤ s.size + 1 := by
  have := Lib.countB_le ⟨#[c]⟩ (Nat.le_refl 1) s.size s (Nat.le_refl _)
  rw [pcs_len]; omega
theorem splitB_size (sep : ByteArray) : ∀ (k : Nat) (s x : ByteArray), x ∈ Lib.splitB sep 0 k s → x.size ≤ s.size
  | 0, s, x, h => by
    simp only [Lib.splitB, List.mem_singleton] at h
    subst h; exact Nat.le_refl _
  | k + 1, s, x, h => by
    unfold Lib.splitB at h
    split at h
    · simp only [List.mem_singleton] at h
      subst h; exact Nat.le_refl _
    · rcases List.mem_cons.1 h with h | h
      · subst h; rw [ByteArray.size_extract]; omega
      · have := splitB_size sep k _ x h
        rw [ByteArray.size_extract] at this; omega
theorem pcs_size {s x : ByteArray} {c : UInt8} (h : x ∈ pcs s c) : x.size ≤ s.size := splitB_size _ _ _ _ h
theorem ss_new {w : World} {L : List ByteArray} (hl : L.length ≤ 9223372036854775807) : SS (w.alloc (.cells (L.map Value.string).toArray 9)) (some ⟨w.heap.size, 0, none⟩) L.length L.length L := by
  refine ⟨rfl, ⟨Nat.le_refl _, hl⟩, fun _ => ⟨w.heap.size, 0, rfl, by simp, fun j hj => ?_⟩⟩
  have h := blk_new w ((L.map Value.string).toArray) 9
  rw [Nat.zero_add]
  unfold World.cell?
  simp only [heap_alloc_new w]
  simp [gsW, hj]
def SplitPost (w : World) (s : ByteArray) (c : UInt8) (e : Ending) (w' : World) : Prop :=
  e = .returned (.slice (some ⟨w.heap.size, 0, none⟩) (pcs s c).length (pcs s c).length) ∧ SS w' (some ⟨w.heap.size, 0, none⟩) (pcs s c).length (pcs s c).length (pcs s c) ∧ Below w.heap.size w w' ∧ w'.heap.size = w.heap.size + 1
theorem dk_Split {w : World} (LD : Laid w) {s : ByteArray} (hs : s.size < 4294967281) (c : UInt8) :
    Calls Tryz.prog 18 #[.string s, .string ⟨#[c]⟩] w (SplitPost w s c) := by
  obtain ⟨m, hm⟩ := LD.ml
  have hl := pcs_len_le s c
  refine (Tryz.strings_Split s ⟨#[c]⟩ m w hs hm (Nat.le_refl 1)).mono fun e w' ⟨he, hw⟩ => ?_
  rw [← pcs_len] at he
  subst hw
  exact ⟨he, ss_new (L := pcs s c) (by omega), (Below.refl _ _).alloc (Nat.le_refl _) _, by simp⟩
def nv (x : ByteArray) : Int := (numW x).getD 0
theorem nv_some {x : ByteArray} (h : numW x ≠ none) : numW x = some (nv x) := by
  unfold nv
  cases hx : numW x with
  | none => exact absurd hx h
  | some v => rfl
/-- the numbers of a word, where all are numbers -/
def numsL (s : ByteArray) : List Int := (pcs s 44).map nv
def numsOk (s : ByteArray) : Prop := ∀ x ∈ pcs s 44, numW x ≠ none
theorem take_snoc_nums {P : List ByteArray} {k : Nat} (h : k < P.length) : (P.map nv).take (k + 1) = (P.map nv).take k ++ [nv (gsW P k)] := by
  rw [List.take_succ_eq_append_getElem (by simpa using h), gs_get h, List.getElem_map]
theorem Tryz.tyIntsDk : SliceTy Tryz.prog 35 3 (.int .i64 0) 1 8 := ⟨Tryz.underlying35, by kernel_rfl⟩
def NumsPost (w : World) (bl : Nat) (L : List ByteArray) (k : Nat) (Y : List Int) (e : Ending) (w' : World) : Prop :=
  ∃ q d, e = .returned (.slice q Y.length d) ∧ SI w' q Y.length d Y ∧ LineS w' bl L k ∧ Chg (fun x => x = bl) w w' ∧ (∀ a, q = some a → w.heap.size ≤ a.block)

set_option maxHeartbeats 1600000 in
theorem dk_nums {w : World} (LD : Laid w) {bl k : Nat} {L : List ByteArray} (h : LineS w bl L k) (hk : k < L.length) (hok : numsOk (gsW L k)) (hz : (gsW L k).size ≤ 900000) (hb : 8 ≤ bl) :
    Calls Tryz.prog 58 #[.pointer (some ⟨bl, 0, none⟩)] w (NumsPost w bl L (k + 1) (numsL (gsW L k))) := by
  have HW := Lib.hid (dk_word h hk)
  have HLD := Lib.hid LD
  obtain ⟨s, hs⟩ : ∃ s, gsW L k = s := ⟨_, rfl⟩
  rw [hs] at HW hok hz ⊢
  have hpl := pcs_len_le s 44
  obtain ⟨P, hP⟩ : ∃ P, pcs s 44 = P := ⟨_, rfl⟩
  have HP := Lib.hid hP
  have HOK := Lib.hid (show ∀ x ∈ P, numW x ≠ none by rw [← hP]; exact hok)
  obtain ⟨N, hN⟩ : ∃ N, P.length = N := ⟨_, rfl⟩
  have HN := Lib.hid hN
  have HY : Hid (numsL s = P.map nv) := Lib.hid (by rw [← hP]; rfl)
  rw [hP, hN] at hpl
  have hYl : Hid ((P.map nv).length = N) := Lib.hid (by rw [List.length_map]; exact hN)
  have HSZ : Hid (∀ j, j < N → (gsW P j).size ≤ 1000000000) := Lib.hid (fun j hj => by
    rw [gs_get (by rw [hN]; exact hj)]
    have := pcs_size (s := s) (c := 44) (x := P[j]'(by rw [hN]; exact hj)) (by rw [hP]; exact List.getElem_mem _)
    omega)
  clear LD h hok hs hP hN
  go_enter Tryz.func58, Tryz.ntmps58
  go_wp2_with fail
  refine HW.out.mono ?_; rintro e w1 ⟨rfl, hl1, b1⟩
  have L1 := Lib.hid (HLD.out.chg b1 (fun x hx => by omega))
  have HL1 := Lib.hid hl1
  clear hl1
  go_wp2_with fail
  refine (dk_Split L1.out (by omega) 44).mono ?_; rintro e w2 ⟨rfl, hs2, b2, hz2⟩
  rw [HP.out, HN.out] at hs2 ⊢
  have L2 := Lib.hid (L1.out.below b2)
  have HL2 := Lib.hid (HL1.out.below b2)
  have C2 := Lib.hid (b1.then b2)
  clear hz2
  go_wp2
  go_loopw [3, 10] (fun ov iv wv => ∃ (i : Nat) (q : Option Addr) (d : Nat), i ≤ N ∧ ov = .slice q i d ∧ iv = .int .i64 (i : Int) ∧ OwnI wv w2.heap.size q i d ((P.map nv).take i) ∧ Below w2.heap.size w2 wv) (fun _ iv _ => N - (intOf iv).toNat)
  case atStart => exact ⟨0, none, 0, Nat.zero_le _, rfl, rfl, OwnI.nil _ _, Below.refl _ _⟩
  case round =>
    obtain ⟨i, q, d, hi, rfl, rfl, ho, hb3⟩ := hrel
    by_cases hiN : i < N
    · obtain ⟨pb, po, hpe, hplt, hpc⟩ := hs2.cells (by omega)
      cases hpe
      have c0 := (bdeep hb3 hplt (0 + i)).trans (hpc i hiN)
      rw [Nat.zero_add] at c0
      have HNV := Lib.hid (nv_some (HOK.out (gsW P i) (by rw [gs_get (by rw [HN.out]; exact hiN)]; exact List.getElem_mem _)))
      have HNX := Lib.hid (take_snoc_nums (P := P) (k := i) (by rw [HN.out]; exact hiN))
      have L3 := Lib.hid (L2.out.below hb3)
      have hz3 := hb3.size
      clear hpc
      go_wp2_with fail
      refine (dk_number L3.out HNV.out).mono ?_; rintro e w3 ⟨rfl, b3⟩
      have ho3 := ho.below b3
      have hb33 := hb3.trans (b3.mono hz3)
      have hz33 := hb33.size
      clear ho c0 b3
      go_wp2_with (at_builtin; refine wpL_push_int Tryz.tyIntsDk rfl rfl (B := w2.heap.size) (W0 := w2) (by first | rfl | simp [Act.eval]) (by first | rfl | simp [Act.eval]) ho3 hb33 (by omega) hz33 ?_; intro p' c' w4 ho4 hb4 hg4 ha4)
      go_roundw
      case rel => exact ⟨i + 1, p', c', hiN, rfl, by go_num, by rw [HNX.out]; exact ho4, hb4⟩
      case measure => simp [intOf]; omega
    · obtain rfl : N = i := by omega
      have HE : Hid ((P.map nv).take N = P.map nv) := Lib.hid (by rw [← hYl.out, List.take_length])
      rw [HE.out] at ho
      go_wp2
      go_ret
      refine ⟨q, d, ?_, ?_, HL2.out.below hb3, C2.out.then hb3, ?_⟩
      · rw [HY.out, hYl.out]
        rfl
      · rw [HY.out, hYl.out]; exact ho.si
      · intro a ha
        have h9 := ho.1.lt a.block (by rw [ha]; rfl)
        have := C2.out.size
        omega
def NumsBad (w : World) (bl : Nat) (e : Ending) (w' : World) : Prop := e = faultE 9 ∧ Chg (fun x => x = bl) w w'
set_option maxHeartbeats 1600000 in
theorem dk_nums_bad {w : World} (LD : Laid w) {bl k : Nat} {L : List ByteArray} (h : LineS w bl L k) (hno : k < L.length → ¬ numsOk (gsW L k) ∧ (gsW L k).size ≤ 900000) (hb : 8 ≤ bl) :
    Calls Tryz.prog 58 #[.pointer (some ⟨bl, 0, none⟩)] w (NumsBad w bl) := by
  by_cases hk : k < L.length
  · obtain ⟨hno, hz⟩ := hno hk
    have HW := Lib.hid (dk_word h hk)
    have HLD := Lib.hid LD
    obtain ⟨s, hs⟩ : ∃ s, gsW L k = s := ⟨_, rfl⟩
    rw [hs] at HW hno hz
    have hpl := pcs_len_le s 44
    obtain ⟨P, hP⟩ : ∃ P, pcs s 44 = P := ⟨_, rfl⟩
    have HP := Lib.hid hP
    obtain ⟨N, hN⟩ : ∃ N, P.length = N := ⟨_, rfl⟩
    have HN := Lib.hid hN
    have HNO := Lib.hid (show ¬ ∀ j, j < N → numW (gsW P j) ≠ none from fun hall => hno (by
      intro x hx
      rw [hP] at hx
      obtain ⟨j, hj, rfl⟩ := List.getElem_of_mem hx
      rw [← gs_get hj]
      exact hall j (by rw [← hN]; exact hj)))
    rw [hP, hN] at hpl
    have HSZ : Hid (∀ j, j < N → (gsW P j).size ≤ 1000000000) := Lib.hid (fun j hj => by
      rw [gs_get (by rw [hN]; exact hj)]
      have := pcs_size (s := s) (c := 44) (x := P[j]'(by rw [hN]; exact hj)) (by rw [hP]; exact List.getElem_mem _)
      omega)
    clear LD h hno hs hP hN
    go_enter Tryz.func58, Tryz.ntmps58
    go_wp2_with fail
    refine HW.out.mono ?_; rintro e w1 ⟨rfl, hl1, b1⟩
    have L1 := Lib.hid (HLD.out.chg b1 (fun x hx => by omega))
    clear hl1
    go_wp2_with fail
    refine (dk_Split L1.out (by omega) 44).mono ?_; rintro e w2 ⟨rfl, hs2, b2, hz2⟩
    rw [HP.out, HN.out] at hs2 ⊢
    have L2 := Lib.hid (L1.out.below b2)
    have C2 := Lib.hid (b1.then b2)
    clear hz2
    go_wp2
    go_loopw [3, 10] (fun ov iv wv => ∃ (i : Nat) (q : Option Addr) (d : Nat) (Y : List Int), i ≤ N ∧ ov = .slice q i d ∧ iv = .int .i64 (i : Int) ∧ OwnI wv w2.heap.size q i d Y ∧ Below w2.heap.size w2 wv ∧ Hid (∀ j, j < i → numW (gsW P j) ≠ none)) (fun _ iv _ => N - (intOf iv).toNat)
    case atStart => exact ⟨0, none, 0, [], Nat.zero_le _, rfl, rfl, OwnI.nil _ _, Below.refl _ _, Lib.hid (fun j hj => by omega)⟩
    case round =>
      obtain ⟨i, q, d, Y, hi, rfl, rfl, ho, hb3, HA⟩ := hrel
      by_cases hiN : i < N
      · obtain ⟨pb, po, hpe, hplt, hpc⟩ := hs2.cells (by omega)
        cases hpe
        have c0 := (bdeep hb3 hplt (0 + i)).trans (hpc i hiN)
        rw [Nat.zero_add] at c0
        have L3 := Lib.hid (L2.out.below hb3)
        have hz3 := hb3.size
        have hgz := HSZ.out i hiN
        clear hpc
        by_cases hni : numW (gsW P i) = none
        · have HNI := Lib.hid hni
          clear hni
          go_wp2_with fail
          refine (dk_number_bad L3.out hgz HNI.out).mono ?_; rintro e w3 ⟨rfl, b3⟩
          have hb33 := hb3.trans (b3.mono hz3)
          go_wp2
          exact ⟨rfl, rfl, C2.out.then hb33⟩
        · have HNV := Lib.hid (nv_some hni)
          have HA2 : Hid (∀ j, j < i + 1 → numW (gsW P j) ≠ none) := Lib.hid (fun j hj => by
            rcases Nat.lt_succ_iff_lt_or_eq.1 hj with h9 | h9
            · exact HA.out j h9
            · subst h9; exact hni)
          clear hni
          go_wp2_with fail
          refine (dk_number L3.out HNV.out).mono ?_; rintro e w3 ⟨rfl, b3⟩
          have ho3 := ho.below b3
          have hb33 := hb3.trans (b3.mono hz3)
          have hz33 := hb33.size
          clear ho c0 b3
          go_wp2_with (at_builtin; refine wpL_push_int Tryz.tyIntsDk rfl rfl (B := w2.heap.size) (W0 := w2) (by first | rfl | simp [Act.eval]) (by first | rfl | simp [Act.eval]) ho3 hb33 (by omega) hz33 ?_; intro p' c' w4 ho4 hb4 hg4 ha4)
          go_roundw
          case rel => exact ⟨i + 1, p', c', _, hiN, rfl, by go_num, ho4, hb4, HA2⟩
          case measure => simp [intOf]; omega
      · obtain rfl : N = i := by omega
        exact absurd HA.out HNO.out
  · have hke := h.le
    obtain rfl : L.length = k := by omega
    have HW := Lib.hid (dk_word_bad h)
    clear hno LD h
    go_enter Tryz.func58, Tryz.ntmps58
    go_wp2_with fail
    refine HW.out.mono ?_; rintro e w1 ⟨rfl, b1⟩
    go_wp2
    exact ⟨rfl, rfl, Chg.of b1⟩
end Go.Proofs.YtgbccpfehcjhbaaGreatDoor
