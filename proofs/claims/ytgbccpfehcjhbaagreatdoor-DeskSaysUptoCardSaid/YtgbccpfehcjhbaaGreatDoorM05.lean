/- The contracts of desk.told, desk.one, desk.done (P77). Conditions: the library's variables are laid; the numbers are bounded. -/
import Derived.Test.YtgbccpfehcjhbaaGreatDoorM04
import Derived.Lib.Join
import Derived.IntWalk
namespace Go.Proofs.YtgbccpfehcjhbaaGreatDoor
open Go Go.RowKit
set_option linter.unusedVariables false
set_option linter.unusedSimpArgs false

def encS (x : ByteArray) : List Value := [.string x]
theorem encS_len (x : ByteArray) : (encS x).length = 1 := rfl
theorem encS_one (x : ByteArray) : ∀ u ∈ encS x, u.oneCell' = true := by
  intro u hu
  simp only [encS, List.mem_singleton] at hu
  subst hu; rfl
theorem Tryz.tyStrs : SliceTy Tryz.prog 30 9 (.string ⟨#[]⟩) 1 16 := ⟨Tryz.underlying30, by kernel_rfl⟩
abbrev OwnSt (w : World) (B : Nat) (q : Option Addr) (n d : Nat) (L : List ByteArray) : Prop := OwnR 9 encS 1 w B q n d L
theorem OwnSt.cell {w : World} {B g n d j : Nat} {L : List ByteArray} (h : OwnSt w B (some ⟨g, 0, none⟩) n d L) (hj : j < n) : w.cell? ⟨g, j, none⟩ = some (.string (gsW L j)) := by
  have h1 := h.at encS_len hj (i := 0) (by omega)
  rw [Nat.mul_one, Nat.add_zero] at h1
  rw [h1]
  have e : ge L j = gsW L j := by rw [ge_get (by rw [h.len]; exact hj), gs_get (by rw [h.len]; exact hj)]
  rw [e]; rfl
theorem OwnSt.ss {w : World} {B n d : Nat} {q : Option Addr} {L : List ByteArray} (h : OwnSt w B q n d L) : SS w q n d L := by
  refine ⟨h.len, Own.cap h.1, fun hn => ?_⟩
  obtain ⟨g, rfl⟩ := h.addr hn
  exact ⟨g, 0, rfl, h.blk.2, fun j hj => by rw [Nat.zero_add]; exact h.cell hj⟩

theorem nDigits_le : ∀ (k u : Nat), u < 10 ^ (k + 1) → Lib.nDigits u ≤ k + 1
  | 0, u, h => by rw [Lib.nDigits_small (by simpa using h)]; exact Nat.le_refl _
  | k + 1, u, h => by
    by_cases h9 : u < 10
    · rw [Lib.nDigits_small h9]; omega
    · rw [Lib.nDigits_big h9]
      have := nDigits_le k (u / 10) (by rw [Nat.pow_succ] at h; omega)
      omega
theorem itoa_len {n : Int} (h0 : -1000000000000 ≤ n) (h1 : n ≤ 1000000000000) : (Lib.itoa n).length ≤ 14 := by
  unfold Lib.itoa
  split
  · rw [List.length_cons, Lib.decDigits_length]
    have := nDigits_le 12 n.natAbs (by show n.natAbs < 10000000000000; omega)
    omega
  · rw [Lib.decDigits_length]
    have := nDigits_le 12 n.toNat (by show n.toNat < 10000000000000; omega)
    omega
/-- "ok " and the numbers -/
def okS (Y : List Int) : Bytes := [111, 107, 32] ++ Lib.join (Y.map Lib.itoa) [44]
theorem join_len (k : Nat) : ∀ (L : List Bytes), (∀ x ∈ L, x.length ≤ k) → (Lib.join L [44]).length ≤ L.length * (k + 1)
  | [], _ => by rw [Lib.join_nil]; simp
  | x :: r, h => by
    rw [Lib.join_length]
    have hl : ∀ (M : List Bytes), (∀ x ∈ M, x.length ≤ k) → Lib.lens M ≤ M.length * k := by
      intro M
      induction M with
      | nil => intro _; simp [Lib.lens]
      | cons a t ih =>
        intro hM
        have h1 := hM a (List.mem_cons_self ..)
        have h2 := ih (fun y hy => hM y (List.mem_cons_of_mem _ hy))
        have : Lib.lens (a :: t) = a.length + Lib.lens t := by simp [Lib.lens]
        rw [this, List.length_cons, Nat.succ_mul]; omega
    have h3 := hl (x :: r) h
    have e1 : (x :: r).length * (k + 1) = (r.length + 1) * k + (r.length + 1) := by rw [List.length_cons, Nat.mul_succ]
    rw [List.length_cons] at h3
    rw [e1]
    simp only [List.length_cons, List.length_nil, Nat.zero_add, Nat.one_mul]
    omega
theorem okS_len {Y : List Int} (hn : Y.length ≤ 1000) (hb : ∀ x ∈ Y, -1000000000000 ≤ x ∧ x ≤ 1000000000000) : (Lib.join (Y.map Lib.itoa) [44]).length ≤ 15000 := by
  have := join_len 14 (Y.map Lib.itoa) (fun x hx => by
    obtain ⟨y, hy, rfl⟩ := List.mem_map.1 hx
    exact itoa_len (hb y hy).1 (hb y hy).2)
  rw [List.length_map] at this
  have : Y.length * (14 + 1) ≤ 1000 * 15 := Nat.mul_le_mul_right 15 hn
  omega

theorem dk_Join {w : World} {q : Option Addr} {n d : Nat} {L : List ByteArray} (h : SS w q n d L) (hl : (Lib.join (L.map (·.data.toList)) [44]).length ≤ 1000000) (hn : n ≤ 1000000) :
    Calls Tryz.prog 100 #[.slice q n d, .string ⟨#[44]⟩] w fun e w' => e = .returned (.string (str (Lib.join (L.map (·.data.toList)) [44]))) ∧ Below w.heap.size w w' := by
  by_cases h0 : 0 < n
  · obtain ⟨b, off, rfl, hlt, hc⟩ := h.cells h0
    have h2 := Tryz.strings_Join b off d L ⟨#[44]⟩ w (fun j x hx => by
      obtain ⟨hj, rfl⟩ := List.getElem?_eq_some_iff.1 hx
      rw [← gs_get hj]
      exact hc j (by rw [← h.len]; exact hj)) hlt (by rw [h.len]; omega) (by rw [h.len]; exact h.2.1.1) (by show (Lib.join (L.map (·.data.toList)) [44]).length ≤ _; omega)
    rw [h.len] at h2
    exact h2.mono fun e w' ⟨he, hb⟩ => ⟨he, hb⟩
  · obtain rfl : n = 0 := by omega
    obtain rfl : L = [] := List.eq_nil_of_length_eq_zero h.len
    exact (Tryz.strings_Join_none q d ⟨#[44]⟩ w).mono fun e w' ⟨he, hw⟩ => ⟨he, by rw [hw]; exact Below.refl _ _⟩
set_option maxHeartbeats 1600000 in
theorem dk_told {w : World} (LD : Laid w) {p : Option Addr} {n c : Nat} {Y : List Int} (h : SI w p n c Y) (hn : n ≤ 1000) (hb : ∀ x ∈ Y, -1000000000000 ≤ x ∧ x ≤ 1000000000000) :
    Calls Tryz.prog 60 #[.slice p n c, .int .i64 0] w fun e w' => e = .returned (.string (str (okS Y))) ∧ Below w.heap.size w w' := by
  have hcap := h.2.1
  have HX := Lib.hid h; have HLD := Lib.hid LD
  have HB := Lib.hid hb
  have HLEN := Lib.hid (okS_len (Y := Y) (by rw [h.len]; exact hn) hb)
  have HYL := Lib.hid h.len
  clear h LD hb
  go_enter Tryz.func60, Tryz.ntmps60
  go_wp2
  go_loopw [5, 14] (fun ov iv wv => ∃ (i : Nat) (q : Option Addr) (d : Nat), i ≤ n ∧ ov = .slice q i d ∧ iv = .int .i64 (i : Int) ∧ OwnSt wv w.heap.size q i d ((Y.take i).map fun x => str (Lib.itoa x)) ∧ Below w.heap.size w wv) (fun _ iv _ => n - (intOf iv).toNat)
  case atStart => exact ⟨0, none, 0, Nat.zero_le _, rfl, rfl, OwnR.nil _ _, Below.refl _ _⟩
  case round =>
    obtain ⟨i, q, d, hi, rfl, rfl, ho, hb3⟩ := hrel
    have hz3 := hb3.size
    by_cases hiN : i < n
    · obtain ⟨pb, po, rfl, hplt, hpc⟩ := HX.out.cells (by omega)
      have c0 := (bdeep hb3 hplt (po + i)).trans (hpc i hiN)
      have hyb := HB.out (gi Y i) (by rw [gi_get (by rw [HYL.out]; exact hiN)]; exact List.getElem_mem _)
      have L3 := Lib.hid (HLD.out.below hb3)
      have HNX : Hid ((Y.take (i + 1)).map (fun x => str (Lib.itoa x)) = (Y.take i).map (fun x => str (Lib.itoa x)) ++ [str (Lib.itoa (gi Y i))]) := Lib.hid (by
        rw [List.take_succ_eq_append_getElem (by rw [HYL.out]; exact hiN), List.map_append, ← gi_get (by rw [HYL.out]; exact hiN)]; rfl)
      obtain ⟨y, hy⟩ : ∃ y, gi Y i = y := ⟨_, rfl⟩
      rw [hy] at c0 hyb HNX
      clear hpc hy
      go_wp2_with fail
      refine (dk_Itoa L3.out (n := y) (by omega) (by omega)).mono ?_; rintro e w3 ⟨rfl, b3⟩
      have ho3 := ho.below b3
      have hb33 := hb3.trans (b3.mono hz3)
      have hz33 := hb33.size
      clear ho c0 b3
      go_wp2_with (at_builtin; refine wpL_push_R Tryz.tyStrs rfl (by omega) (by omega) encS_len encS_one rfl rfl (B := w.heap.size) (W0 := w) (str (Lib.itoa y)) (by first | rfl | simp [Act.eval]) (by first | rfl | simp [Act.eval]) ho3 hb33 (by omega) hz33 ?_; intro p' c' w4 ho4 hb4 hg4 ha4)
      go_roundw
      case rel => exact ⟨i + 1, p', c', hiN, rfl, by go_num, by rw [HNX.out]; exact ho4, hb4⟩
      case measure => simp [intOf]; omega
    · obtain rfl : n = i := by omega
      have HE : Hid ((Y.take n).map (fun x => str (Lib.itoa x)) = Y.map fun x => str (Lib.itoa x)) := Lib.hid (by rw [← HYL.out, List.take_length])
      rw [HE.out] at ho
      have HJ : Hid (((Y.map fun x => str (Lib.itoa x)).map (·.data.toList)) = Y.map Lib.itoa) := Lib.hid (by rw [List.map_map]; rfl)
      have HJC := Lib.hid (dk_Join ho.ss (by rw [HJ.out]; have := HLEN.out; omega) (by omega))
      rw [HJ.out] at HJC
      go_wp2_with fail
      refine HJC.out.mono ?_; rintro e w5 ⟨rfl, b5⟩
      have hb5 := hb3.trans (b5.mono hz3)
      have hjl := HLEN.out
      rw [show (Lib.join (Y.map Lib.itoa) [44]).length = (str (Lib.join (Y.map Lib.itoa) [44])).size from rfl] at hjl
      have HOS : Hid (str (okS Y) = ⟨#[111, 107, 32]⟩ ++ str (Lib.join (Y.map Lib.itoa) [44])) := Lib.hid (by unfold okS; rfl)
      generalize str (Lib.join (Y.map Lib.itoa) [44]) = T at *
      go_wp2
      go_ret
      exact ⟨by rw [HOS.out]; rfl, hb5⟩
theorem dk_told_bad {w : World} {v : Value} {er : Int} (h0 : ¬ er = 0) :
    Calls Tryz.prog 60 #[v, .int .i64 er] w fun e w' => e = faultE er ∧ Below w.heap.size w w' := by
  have q1 : (er == 0) = false := by simpa using h0
  have q2 : (er != 0) = true := by simpa using h0
  go_enter Tryz.func60, Tryz.ntmps60
  go_wp2_with fail
  refine dk_bad.mono ?_; rintro e w3 ⟨rfl, b3⟩
  go_wp2
  exact ⟨rfl, rfl, b3⟩
theorem dk_one {w : World} (LD : Laid w) {n : Int} (hb : -1000000000000 ≤ n ∧ n ≤ 1000000000000) :
    Calls Tryz.prog 66 #[.int .i64 n, .int .i64 0] w fun e w' => e = .returned (.string (str (okS [n]))) ∧ Below w.heap.size w w' := by
  have HB := (Below.refl w.heap.size w).alloc (Nat.le_refl _) (.cells #[.int .i64 n] 3)
  have HC := Lib.hid (dk_told (w := w.alloc (.cells #[.int .i64 n] 3)) (LD.below HB) (OwnI.lit1 w (B := w.heap.size) (Nat.le_refl _) n).si (by omega) (by intro x hx; simp only [List.mem_singleton] at hx; subst hx; exact hb))
  have HB2 := Lib.hid HB
  clear HB LD
  go_enter Tryz.func66, Tryz.ntmps66
  go_wp2_with fail
  refine HC.out.mono ?_; rintro e w3 ⟨rfl, b3⟩
  have hb3 := HB2.out.trans (b3.mono HB2.out.size)
  go_wp2
  go_ret
  exact ⟨rfl, hb3⟩
theorem dk_one_bad {w : World} {n er : Int} (h0 : ¬ er = 0) :
    Calls Tryz.prog 66 #[.int .i64 n, .int .i64 er] w fun e w' => e = faultE er ∧ Below w.heap.size w w' := by
  have HB := Lib.hid ((Below.refl w.heap.size w).alloc (Nat.le_refl _) (.cells #[.int .i64 n] 3))
  go_enter Tryz.func66, Tryz.ntmps66
  go_wp2_with fail
  refine (dk_told_bad h0).mono ?_; rintro e w3 ⟨rfl, b3⟩
  have hb3 := HB.out.trans (b3.mono HB.out.size)
  go_wp2
  exact ⟨rfl, rfl, hb3⟩
theorem dk_done {w : World} : Calls Tryz.prog 108 #[.int .i64 0] w fun e w' => e = .returned (.string (str [111, 107])) ∧ w = w' := by
  go_enter Tryz.func108, Tryz.ntmps108
  go_wp2
  go_ret
  exact ⟨rfl, rfl⟩
theorem dk_done_bad {w : World} {er : Int} (h0 : ¬ er = 0) :
    Calls Tryz.prog 108 #[.int .i64 er] w fun e w' => e = faultE er ∧ Below w.heap.size w w' := by
  have q1 : (er == 0) = false := by simpa using h0
  have q2 : (er != 0) = true := by simpa using h0
  go_enter Tryz.func108, Tryz.ntmps108
  go_wp2_with fail
  refine dk_bad.mono ?_; rintro e w3 ⟨rfl, b3⟩
  go_wp2
  exact ⟨rfl, rfl, b3⟩
end Go.Proofs.YtgbccpfehcjhbaaGreatDoor

/- The contracts of headref.Dec, headref.Numbers: numbers as texts. Conditions: the numbers are bounded. -/
namespace Go.Proofs.YtgbccpfehcjhbaaGreatDoor
open Go Go.RowKit
set_option linter.unusedVariables false
set_option linter.unusedSimpArgs false

theorem dec_digit {w : World} {n : Nat} (h : n < 10) :
    Calls Tryz.prog 17 #[.int .i64 (n : Int)] w fun e w' => e = .returned (.string (str (Lib.decDigits n))) ∧ w = w' := by
  rw [Lib.decDigits_one h]
  rcases (show n = 0 ∨ n = 1 ∨ n = 2 ∨ n = 3 ∨ n = 4 ∨ n = 5 ∨ n = 6 ∨ n = 7 ∨ n = 8 ∨ n = 9 by omega) with rfl | rfl | rfl | rfl | rfl | rfl | rfl | rfl | rfl | rfl <;>
  · go_enter Tryz.func17, Tryz.ntmps17
    go_wp2_with fail
    go_ret
    exact ⟨rfl, rfl⟩
theorem dec_nat : ∀ (k : Nat) (n : Nat) (w : World), k ≤ 17 → n < 10 ^ (k + 1) →
    Calls Tryz.prog 17 #[.int .i64 (n : Int)] w fun e w' => e = .returned (.string (str (Lib.decDigits n))) ∧ w = w' := by
  intro k
  induction k with
  | zero => intro n w _ h; exact dec_digit (by simpa using h)
  | succ k ih =>
    intro n w hk h
    by_cases h9 : n < 10
    · exact dec_digit h9
    · have hpk : (10 : Nat) ^ (k + 1) ≤ 10 ^ 17 := Nat.pow_le_pow_right (by omega) (by omega)
      have hlt : n / 10 < 10 ^ (k + 1) := by rw [Nat.pow_succ] at h; omega
      have HI := Lib.hid (ih (n / 10) w (by omega) hlt)
      have HD := Lib.hid (dec_digit (w := w) (n := n % 10) (by omega))
      have HE : Hid (Lib.decDigits n = Lib.decDigits (n / 10) ++ Lib.decDigits (n % 10)) := Lib.hid (by
        rw [Lib.decDigits_one (show n % 10 < 10 by omega)]
        conv => lhs; rw [Lib.decDigits, dif_neg h9])
      have h1 := nDigits_le k (n / 10) hlt
      have h2 := nDigits_le 0 (n % 10) (by omega)
      rw [← Lib.decDigits_length, ← str_size] at h1 h2
      have e1 : Int.tdiv (n : Int) 10 = ((n / 10 : Nat) : Int) := by rw [Int.tdiv_eq_ediv_of_nonneg (by omega)]; simp
      have e2 : Int.tmod (n : Int) 10 = ((n % 10 : Nat) : Int) := by rw [Int.tmod_eq_emod_of_nonneg (by omega)]; simp
      have b1 : n / 10 < 1000000000000000000 := by
        have : (10 : Nat) ^ 17 = 100000000000000000 := by decide
        omega
      have e3 : IntKind.i64.wrap ((n / 10 : Nat) : Int) = ((n / 10 : Nat) : Int) := IntWalk.i64_in _ (by omega)
      have e4 : IntKind.i64.wrap ((n % 10 : Nat) : Int) = ((n % 10 : Nat) : Int) := IntWalk.i64_in _ (by omega)
      obtain ⟨a, ha⟩ : ∃ a, n / 10 = a := ⟨_, rfl⟩
      obtain ⟨b, hb⟩ : ∃ b, n % 10 = b := ⟨_, rfl⟩
      rw [ha, hb] at HE
      rw [ha] at HI h1 e1 e3; rw [hb] at HD h2 e2 e4
      clear ih ha hb hpk h b1
      have g1 : ¬ (n : Int) < 10 := by omega
      have g2 : ¬ (n : Int) < 0 := by omega
      rw [HE.out]
      generalize hA : str (Lib.decDigits a) = A at *
      generalize hB : str (Lib.decDigits b) = B at *
      have g3 : ¬ 9223372036854775807 < A.size + B.size := by omega
      go_enter Tryz.func17, Tryz.ntmps17
      go_wp2_with fail
      refine HI.out.mono ?_; rintro e w' ⟨rfl, rfl⟩
      go_wp2_with fail
      refine HD.out.mono ?_; rintro e w' ⟨rfl, rfl⟩
      go_wp2_with fail
      go_ret
      exact ⟨by rw [← hA, ← hB]; rfl, rfl⟩
theorem dec_any {w : World} {n : Int} (h0 : 0 ≤ n) (h1 : n ≤ 1000000000000) :
    Calls Tryz.prog 17 #[.int .i64 n] w fun e w' => e = .returned (.string (str (Lib.itoa n))) ∧ w = w' := by
  obtain ⟨m, rfl⟩ := Int.eq_ofNat_of_zero_le h0
  have h := dec_nat 13 m w (by omega) (by have : (10 : Nat) ^ (13 + 1) = 100000000000000 := by decide
                                          omega)
  rw [show Lib.itoa ((m : Nat) : Int) = Lib.decDigits m by unfold Lib.itoa; rw [if_neg (by omega)]; rfl]
  exact h
theorem dec_minus {w : World} :
    Calls Tryz.prog 17 #[.int .i64 (-1)] w fun e w' => e = .returned (.string (str (Lib.itoa (-1)))) ∧ w = w' := by
  have HD := Lib.hid (dec_digit (w := w) (n := 1) (by omega))
  have HI : Hid (Lib.itoa (-1) = [45] ++ Lib.decDigits 1) := Lib.hid (by unfold Lib.itoa; rfl)
  rw [Lib.decDigits_one (by omega)] at HD HI
  rw [HI.out]
  go_enter Tryz.func17, Tryz.ntmps17
  go_wp2_with fail
  refine HD.out.mono ?_; rintro e w' ⟨rfl, rfl⟩
  go_wp2_with fail
  go_ret
  exact ⟨rfl, rfl⟩
theorem join_push (x : Bytes) : ∀ (L : List Bytes), L ≠ [] → Lib.join (L ++ [x]) [44] = Lib.join L [44] ++ ([44] ++ x)
  | [], h => absurd rfl h
  | a :: r, _ => by
    rw [List.cons_append, Lib.join_cons, Lib.join_cons]
    unfold Lib.joinTail
    rw [List.map_append, List.flatten_append, List.append_assoc]
    simp
/-- numbers with commas between -/
def numsS (Y : List Int) : Bytes := Lib.join (Y.map Lib.itoa) [44]
theorem numsS_take {Y : List Int} {i : Nat} (h : i < Y.length) : numsS (Y.take (i + 1)) = numsS (Y.take i) ++ ((if 0 < i then [44] else []) ++ Lib.itoa (gi Y i)) := by
  unfold numsS
  rw [List.take_succ_eq_append_getElem h, ← gi_get h, List.map_append, List.map_cons, List.map_nil]
  by_cases h0 : 0 < i
  · rw [if_pos h0]
    have hne : (Y.take i).map Lib.itoa ≠ [] := by
      intro e
      have := congrArg List.length e
      rw [List.length_map, List.length_take, List.length_nil] at this
      omega
    rw [join_push _ _ hne]
  · obtain rfl : i = 0 := by omega
    simp [Lib.join_nil, Lib.join_one]
theorem numsS_len {Y : List Int} (hn : Y.length ≤ 1000) (hb : ∀ x ∈ Y, -1000000000000 ≤ x ∧ x ≤ 1000000000000) : (numsS Y).length ≤ 15000 := okS_len hn hb
set_option maxHeartbeats 1600000 in
theorem ref_Numbers {w : World} {p : Option Addr} {n c : Nat} {Y : List Int} (h : SI w p n c Y) (hn : n ≤ 1000) (hb : ∀ x ∈ Y, 0 ≤ x ∧ x ≤ 1000000000000) :
    Calls Tryz.prog 12 #[.slice p n c] w fun e w' => e = .returned (.string (str (numsS Y))) ∧ w = w' := by
  have hcap := h.2.1
  have HX := Lib.hid h
  have HB := Lib.hid hb
  have HYL := Lib.hid h.len
  have HLT : Hid (∀ i, i ≤ n → (numsS (Y.take i)).length ≤ 15000) := Lib.hid (fun i hi => numsS_len (by rw [List.length_take, HYL.out]; omega) (fun x hx => by
    have := hb x (List.mem_of_mem_take hx)
    omega))
  clear h hb
  go_enter Tryz.func12, Tryz.ntmps12
  go_wp2
  go_loopw [3, 8] (fun ov iv wv => ∃ i : Nat, i ≤ n ∧ ov = .string (str (numsS (Y.take i))) ∧ iv = .int .i64 (i : Int) ∧ w = wv) (fun _ iv _ => n - (intOf iv).toNat)
  case atStart => exact ⟨0, Nat.zero_le _, rfl, rfl, rfl⟩
  case round =>
    obtain ⟨i, hi, rfl, rfl, rfl⟩ := hrel
    by_cases hiN : i < n
    · obtain ⟨pb, po, rfl, hplt, hpc⟩ := HX.out.cells (by omega)
      have c0 := hpc i hiN
      have hyb := HB.out (gi Y i) (by rw [gi_get (by rw [HYL.out]; exact hiN)]; exact List.getElem_mem _)
      have HNX := Lib.hid (numsS_take (Y := Y) (i := i) (by rw [HYL.out]; exact hiN))
      have hl1 := HLT.out i hi
      have hl2 := itoa_len (n := gi Y i) (by omega) (by omega)
      rw [← str_size] at hl1 hl2
      obtain ⟨y, hy⟩ : ∃ y, gi Y i = y := ⟨_, rfl⟩
      rw [hy] at c0 hyb HNX hl2
      have HC := Lib.hid (dec_any (w := w) (n := y) hyb.1 hyb.2)
      clear hpc hy hplt
      generalize hA : str (numsS (Y.take i)) = A at *
      generalize hB : str (Lib.itoa y) = B at *
      have g1 : ¬ 9223372036854775807 < A.size + 1 := by omega
      have g2 : ¬ 9223372036854775807 < A.size + 1 + B.size := by omega
      have g3 : ¬ 9223372036854775807 < A.size + B.size := by omega
      by_cases hi0 : 0 < i
      · have g4 : (0 : Int) < (i : Int) := by omega
        go_wp2_with fail
        refine HC.out.mono ?_; rintro e w' ⟨rfl, rfl⟩
        go_wp2_with fail
        go_roundw
        case rel => exact ⟨i + 1, hiN, by rw [HNX.out, if_pos hi0, ← hA, ← hB, ← List.append_assoc]; rfl, by go_num, by first | rfl | trivial⟩
        case measure => simp [intOf]; omega
      · obtain rfl : i = 0 := by omega
        rw [Nat.add_zero] at c0
        go_wp2_with fail
        refine HC.out.mono ?_; rintro e w' ⟨rfl, rfl⟩
        go_wp2_with fail
        go_roundw
        case rel => exact ⟨1, hiN, by rw [HNX.out, if_neg (by omega), ← hA, ← hB]; rfl, by go_num, by first | rfl | trivial⟩
        case measure => simp [intOf]; omega
    · obtain rfl : n = i := by omega
      have HE : Hid (Y.take n = Y) := Lib.hid (by rw [← HYL.out, List.take_length])
      rw [HE.out]
      go_wp2_with fail
      go_ret
      exact ⟨rfl, rfl⟩
end Go.Proofs.YtgbccpfehcjhbaaGreatDoor
