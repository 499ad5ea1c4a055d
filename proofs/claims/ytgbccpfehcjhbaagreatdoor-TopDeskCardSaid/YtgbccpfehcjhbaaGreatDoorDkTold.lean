/- The contracts of desk.told, desk.one, desk.done (P77). Conditions: the library's variables are laid; the numbers are bounded. -/
import Derived.Test.YtgbccpfehcjhbaaGreatDoorDkNums
import Derived.Lib.Join
namespace Go.Proofs.YtgbccpfehcjhbaaGreatDoor
open Go Go.RowKit
set_option linter.unusedVariables false
set_option linter.unusedSimpArgs false

def encS (x : ByteArray) : List Value := [.string x]
theorem encS_len (x : ByteArray) : (encS x).length = 1 := rfl
theorem encS_one (x : ByteArray) : ∀ u ∈ encS x, u.oneCell' = true := by
  intro u hu
  simp only [encS, List.mem_singleton] at hu
  subst hu; rfl
theorem Tryz.tyStrs : SliceTy Tryz.prog 30 9 (.string ⟨#[]⟩) 1 16 := ⟨Tryz.underlying30, by kernel_rfl⟩
abbrev OwnSt (w : World) (B : Nat) (q : Option Addr) (n d : Nat) (L : List ByteArray) : Prop := OwnR 9 encS 1 w B q n d L
theorem OwnSt.cell {w : World} {B g n d j : Nat} {L : List ByteArray} (h : OwnSt w B (some ⟨g, 0, none⟩) n d L) (hj : j < n) : w.cell? ⟨g, j, none⟩ = some (.string (gsW L j)) := by
  have h1 := h.at encS_len hj (i := 0) (by omega)
  rw [Nat.mul_one, Nat.add_zero] at h1
  rw [h1]
  have e : ge L j = gsW L j := by rw [ge_get (by rw [h.len]; exact hj), gs_get (by rw [h.len]; exact hj)]
  rw [e]; rfl
theorem OwnSt.ss {w : World} {B n d : Nat} {q : Option Addr} {L : List ByteArray} (h : OwnSt w B q n d L) : SS w q n d L := by
  refine ⟨h.len, Own.cap h.1, fun hn => ?_⟩
  obtain ⟨g, rfl⟩ := h.addr hn
  exact ⟨g, 0, rfl, h.blk.2, fun j hj => by rw [Nat.zero_add]; exact h.cell hj⟩

theorem nDigits_le : ∀ (k u : Nat), u < 10 ^ (k + 1) → Lib.nDigits u ≤ k + 1
  | 0, u, h => by rw [Lib.nDigits_small (by simpa using h)]; exact Nat.le_refl _
  | k + 1, u, h => by
    by_cases h9 : u < 10
    · rw [Lib.nDigits_small h9]; omega
    · rw [Lib.nDigits_big h9]
      have := nDigits_le k (u / 10) (by rw [Nat.pow_succ] at h; omega)
      omega
theorem itoa_len {n : Int} (h0 : -1000000000000 ≤ n) (h1 : n ≤ 1000000000000) : (Lib.itoa n).length ≤ 14 := by
  unfold Lib.itoa
  split
  · rw [List.length_cons, Lib.decDigits_length]
    have := nDigits_le 12 n.natAbs (by show n.natAbs < 10000000000000; omega)
    omega
  · rw [Lib.decDigits_length]
    have := nDigits_le 12 n.toNat (by show n.toNat < 10000000000000; omega)
    omega
/-- "ok " and the numbers -/
def okS (Y : List Int) : Bytes := [111, 107, 32] ++ Lib.join (Y.map Lib.itoa) [44]
theorem join_len (k : Nat) : ∀ (L : List Bytes), (∀ x ∈ L, x.length ≤ k) → (Lib.join L [44]).length ≤ L.length * (k + 1)
  | [], _ => by rw [Lib.join_nil]; simp
  | x :: r, h => by
    rw [Lib.join_length]
    have hl : ∀ (M : List Bytes), (∀ x ∈ M, x.length ≤ k) → Lib.lens M ≤ M.length * k := by
      intro M
      induction M with
      | nil => intro _; simp [Lib.lens]
      | cons a t ih =>
        intro hM
        have h1 := hM a (List.mem_cons_self ..)
        have h2 := ih (fun y hy => hM y (List.mem_cons_of_mem _ hy))
        have : Lib.lens (a :: t) = a.length + Lib.lens t := by simp [Lib.lens]
        rw [this, List.length_cons, Nat.succ_mul]; omega
    have h3 := hl (x :: r) h
    have e1 : (x :: r).length * (k + 1) = (r.length + 1) * k + (r.length + 1) := by rw [List.length_cons, Nat.mul_succ]
    rw [List.length_cons] at h3
    rw [e1]
    simp only [List.length_cons, List.length_nil, Nat.zero_add, Nat.one_mul]
    omega
theorem okS_len {Y : List Int} (hn : Y.length ≤ 1000) (hb : ∀ x ∈ Y, -1000000000000 ≤ x ∧ x ≤ 1000000000000) : (Lib.join (Y.map Lib.itoa) [44]).length ≤ 15000 := by
  have := join_len 14 (Y.map Lib.itoa) (fun x hx => by
    obtain ⟨y, hy, rfl⟩ := List.mem_map.1 hx
    exact itoa_len (hb y hy).1 (hb y hy).2)
  rw [List.length_map] at this
  have : Y.length * (14 + 1) ≤ 1000 * 15 := Nat.mul_le_mul_right 15 hn
  omega

theorem dk_Join {w : World} {q : Option Addr} {n d : Nat} {L : List ByteArray} (h : SS w q n d L) (hl : (Lib.join (L.map (·.data.toList)) [44]).length ≤ 1000000) (hn : n ≤ 1000000) :
    Calls Tryz.prog 100 #[.slice q n d, .string ⟨#[44]⟩] w fun e w' => e = .returned (.string (str (Lib.join (L.map (·.data.toList)) [44]))) ∧ Below w.heap.size w w' := by
  by_cases h0 : 0 < n
  · obtain ⟨b, off, rfl, hlt, hc⟩ := h.cells h0
    have h2 := Tryz.strings_Join b off d L ⟨#[44]⟩ w (fun j x hx => by
      obtain ⟨hj, rfl⟩ := List.getElem?_eq_some_iff.1 hx
      rw [← gs_get hj]
      exact hc j (by rw [← h.len]; exact hj)) hlt (by rw [h.len]; omega) (by rw [h.len]; exact h.2.1.1) (by show (Lib.join (L.map (·.data.toList)) [44]).length ≤ _; omega)
    rw [h.len] at h2
    exact h2.mono fun e w' ⟨he, hb⟩ => ⟨he, hb⟩
  · obtain rfl : n = 0 := by omega
    obtain rfl : L = [] := List.eq_nil_of_length_eq_zero h.len
    exact (Tryz.strings_Join_none q d ⟨#[44]⟩ w).mono fun e w' ⟨he, hw⟩ => ⟨he, by rw [hw]; exact Below.refl _ _⟩
set_option maxHeartbeats 1600000 in
theorem dk_told {w : World} (LD : Laid w) {p : Option Addr} {n c : Nat} {Y : List Int} (h : SI w p n c Y) (hn : n ≤ 1000) (hb : ∀ x ∈ Y, -1000000000000 ≤ x ∧ x ≤ 1000000000000) :
    Calls Tryz.prog 60 #[.slice p n c, .int .i64 0] w fun e w' => e = .returned (.string (str (okS Y))) ∧ Below w.heap.size w w' := by
  have hcap := h.2.1
  have HX := Lib.hid h; have HLD := Lib.hid LD
  have HB := Lib.hid hb
  have HLEN := Lib.hid (okS_len (Y := Y) (by rw [h.len]; exact hn) hb)
  have HYL := Lib.hid h.len
  clear h LD hb
  go_enter Tryz.func60, Tryz.ntmps60
  go_wp2
  go_loopw [5, 14] (fun ov iv wv => ∃ (i : Nat) (q : Option Addr) (d : Nat), i ≤ n ∧ ov = .slice q i d ∧ iv = .int .i64 (i : Int) ∧ OwnSt wv w.heap.size q i d ((Y.take i).map fun x => str (Lib.itoa x)) ∧ Below w.heap.size w wv) (fun _ iv _ => n - (intOf iv).toNat)
  case atStart => exact ⟨0, none, 0, Nat.zero_le _, rfl, rfl, OwnR.nil _ _, Below.refl _ _⟩
  case round =>
    obtain ⟨i, q, d, hi, rfl, rfl, ho, hb3⟩ := hrel
    have hz3 := hb3.size
    by_cases hiN : i < n
    · obtain ⟨pb, po, rfl, hplt, hpc⟩ := HX.out.cells (by omega)
      have c0 := (bdeep hb3 hplt (po + i)).trans (hpc i hiN)
      have hyb := HB.out (gi Y i) (by rw [gi_get (by rw [HYL.out]; exact hiN)]; exact List.getElem_mem _)
      have L3 := Lib.hid (HLD.out.below hb3)
      have HNX : Hid ((Y.take (i + 1)).map (fun x => str (Lib.itoa x)) = (Y.take i).map (fun x => str (Lib.itoa x)) ++ [str (Lib.itoa (gi Y i))]) := Lib.hid (by
        rw [List.take_succ_eq_append_getElem (by rw [HYL.out]; exact hiN), List.map_append, ← gi_get (by rw [HYL.out]; exact hiN)]; rfl)
      obtain ⟨y, hy⟩ : ∃ y, gi Y i = y := ⟨_, rfl⟩
      rw [hy] at c0 hyb HNX
      clear hpc hy
      go_wp2_with fail
      refine (dk_Itoa L3.out (n := y) (by omega) (by omega)).mono ?_; rintro e w3 ⟨rfl, b3⟩
      have ho3 := ho.below b3
      have hb33 := hb3.trans (b3.mono hz3)
      have hz33 := hb33.size
      clear ho c0 b3
      go_wp2_with (at_builtin; refine wpL_push_R Tryz.tyStrs rfl (by omega) (by omega) encS_len encS_one rfl rfl (B := w.heap.size) (W0 := w) (str (Lib.itoa y)) (by first | rfl | simp [Act.eval]) (by first | rfl | simp [Act.eval]) ho3 hb33 (by omega) hz33 ?_; intro p' c' w4 ho4 hb4 hg4 ha4)
      go_roundw
      case rel => exact ⟨i + 1, p', c', hiN, rfl, by go_num, by rw [HNX.out]; exact ho4, hb4⟩
      case measure => simp [intOf]; omega
    · obtain rfl : n = i := by omega
      have HE : Hid ((Y.take n).map (fun x => str (Lib.itoa x)) = Y.map fun x => str (Lib.itoa x)) := Lib.hid (by rw [← HYL.out, List.take_length])
      rw [HE.out] at ho
      have HJ : Hid (((Y.map fun x => str (Lib.itoa x)).map (·.data.toList)) = Y.map Lib.itoa) := Lib.hid (by rw [List.map_map]; rfl)
      have HJC := Lib.hid (dk_Join ho.ss (by rw [HJ.out]; have := HLEN.out; omega) (by omega))
      rw [HJ.out] at HJC
      go_wp2_with fail
      refine HJC.out.mono ?_; rintro e w5 ⟨rfl, b5⟩
      have hb5 := hb3.trans (b5.mono hz3)
      have hjl := HLEN.out
      rw [show (Lib.join (Y.map Lib.itoa) [44]).length = (str (Lib.join (Y.map Lib.itoa) [44])).size from rfl] at hjl
      have HOS : Hid (str (okS Y) = ⟨#[111, 107, 32]⟩ ++ str (Lib.join (Y.map Lib.itoa) [44])) := Lib.hid (by unfold okS; rfl)
      generalize str (Lib.join (Y.map Lib.itoa) [44]) = T at *
      go_wp2
      go_ret
      exact ⟨by rw [HOS.out]; rfl, hb5⟩
theorem dk_told_bad {w : World} {v : Value} {er : Int} (h0 : ¬ er = 0) :
    Calls Tryz.prog 60 #[v, .int .i64 er] w fun e w' => e = faultE er ∧ Below w.heap.size w w' := by
  have q1 : (er == 0) = false := by simpa using h0
  have q2 : (er != 0) = true := by simpa using h0
  go_enter Tryz.func60, Tryz.ntmps60
  go_wp2_with fail
  refine dk_bad.mono ?_; rintro e w3 ⟨rfl, b3⟩
  go_wp2
  exact ⟨rfl, rfl, b3⟩
theorem dk_one {w : World} (LD : Laid w) {n : Int} (hb : -1000000000000 ≤ n ∧ n ≤ 1000000000000) :
    Calls Tryz.prog 66 #[.int .i64 n, .int .i64 0] w fun e w' => e = .returned (.string (str (okS [n]))) ∧ Below w.heap.size w w' := by
  have HB := (Below.refl w.heap.size w).alloc (Nat.le_refl _) (.cells #[.int .i64 n] 3)
  have HC := Lib.hid (dk_told (w := w.alloc (.cells #[.int .i64 n] 3)) (LD.below HB) (OwnI.lit1 w (B := w.heap.size) (Nat.le_refl _) n).si (by omega) (by intro x hx; simp only [List.mem_singleton] at hx; subst hx; exact hb))
  have HB2 := Lib.hid HB
  clear HB LD
  go_enter Tryz.func66, Tryz.ntmps66
  go_wp2_with fail
  refine HC.out.mono ?_; rintro e w3 ⟨rfl, b3⟩
  have hb3 := HB2.out.trans (b3.mono HB2.out.size)
  go_wp2
  go_ret
  exact ⟨rfl, hb3⟩
theorem dk_one_bad {w : World} {n er : Int} (h0 : ¬ er = 0) :
    Calls Tryz.prog 66 #[.int .i64 n, .int .i64 er] w fun e w' => e = faultE er ∧ Below w.heap.size w w' := by
  have HB := Lib.hid ((Below.refl w.heap.size w).alloc (Nat.le_refl _) (.cells #[.int .i64 n] 3))
  go_enter Tryz.func66, Tryz.ntmps66
  go_wp2_with fail
  refine (dk_told_bad h0).mono ?_; rintro e w3 ⟨rfl, b3⟩
  have hb3 := HB.out.trans (b3.mono HB.out.size)
  go_wp2
  exact ⟨rfl, rfl, hb3⟩
theorem dk_done {w : World} : Calls Tryz.prog 108 #[.int .i64 0] w fun e w' => e = .returned (.string (str [111, 107])) ∧ w = w' := by
  go_enter Tryz.func108, Tryz.ntmps108
  go_wp2
  go_ret
  exact ⟨rfl, rfl⟩
theorem dk_done_bad {w : World} {er : Int} (h0 : ¬ er = 0) :
    Calls Tryz.prog 108 #[.int .i64 er] w fun e w' => e = faultE er ∧ Below w.heap.size w w' := by
  have q1 : (er == 0) = false := by simpa using h0
  have q2 : (er != 0) = true := by simpa using h0
  go_enter Tryz.func108, Tryz.ntmps108
  go_wp2_with fail
  refine dk_bad.mono ?_; rintro e w3 ⟨rfl, b3⟩
  go_wp2
  exact ⟨rfl, rfl, b3⟩
end Go.Proofs.YtgbccpfehcjhbaaGreatDoor
