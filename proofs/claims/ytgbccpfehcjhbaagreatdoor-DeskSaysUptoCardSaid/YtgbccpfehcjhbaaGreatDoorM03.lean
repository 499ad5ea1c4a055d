/- What the desk's walks stand on: the library's variables, which blocks a call may change, numerals. Conditions: what each theorem says. -/
import Derived.Test.YtgbccpfehcjhbaaGreatDoorRows
import Derived.Test.YtgbccpfehcjhbaaGreatDoorM01
import Derived.Test.YtgbccpfehcjhbaaGreatDoorM02
import Derived.Test.YtgbccpfehcjhbaaGreatDoorShelf
import Derived.Lib.AppendIntMem
namespace Go.Proofs.YtgbccpfehcjhbaaGreatDoor
open Go Go.RowKit
set_option linter.unusedVariables false

/-- the library's variables that the desk's callees read -/
structure Laid (w : World) : Prop where
  ml : ∃ m, w.cell? ⟨0, 0, none⟩ = some (.int .i64 m)
  tab : Lib.TabIs Tryz.prog w "internal/strconv.uint64pow10" .u64 Lib.pow10Tab
  es : ∃ te pe, w.cell? ⟨6, 0, none⟩ = some (.iface te pe)
  er : ∃ te pe, w.cell? ⟨7, 0, none⟩ = some (.iface te pe)
  sz : 8 ≤ w.heap.size
/-- all is as it was but the blocks of S, and what is new -/
structure Chg (S : Nat → Prop) (w w' : World) : Prop where
  os : w'.os = w.os
  tape : w'.tape = w.tape
  output : w'.output = w.output
  size : w.heap.size ≤ w'.heap.size
  same : ∀ x, x < w.heap.size → ¬ S x → w'.heap[x]? = w.heap[x]?
theorem Chg.refl (S : Nat → Prop) (w : World) : Chg S w w := ⟨rfl, rfl, rfl, Nat.le_refl _, fun _ _ _ => rfl⟩
theorem Chg.trans {S : Nat → Prop} {a b c : World} (h : Chg S a b) (k : Chg S b c) : Chg S a c :=
  ⟨k.os.trans h.os, k.tape.trans h.tape, k.output.trans h.output, Nat.le_trans h.size k.size, fun x hx hs => (k.same x (Nat.lt_of_lt_of_le hx h.size) hs).trans (h.same x hx hs)⟩
theorem Chg.mono {S S' : Nat → Prop} {a b : World} (h : Chg S a b) (hs : ∀ x, x < a.heap.size → S x → S' x) : Chg S' a b :=
  ⟨h.os, h.tape, h.output, h.size, fun x hx hn => h.same x hx (fun e => hn (hs x hx e))⟩
theorem Chg.of {S : Nat → Prop} {a b : World} (h : Below a.heap.size a b) : Chg S a b := ⟨h.os, h.tape, h.output, h.size, fun x hx _ => h.block x hx⟩
theorem Chg.then {S : Nat → Prop} {a b c : World} (h : Chg S a b) (k : Below b.heap.size b c) : Chg S a c := h.trans (Chg.of k)
theorem Chg.below {S : Nat → Prop} {a b : World} {B : Nat} (h : Chg S a b) (hB : B ≤ a.heap.size) (hs : ∀ x, x < B → ¬ S x) : Below B a b :=
  ⟨h.os, h.tape, h.output, h.size, fun x hx => h.same x (Nat.lt_of_lt_of_le hx hB) (hs x hx)⟩
theorem Chg.set {S : Nat → Prop} {a b : World} (h : Chg S a b) {g j : Nat} (v : Value) (hg : a.heap.size ≤ g ∨ S g) : Chg S a (b.setCell ⟨g, j, none⟩ v) :=
  ⟨h.os, h.tape, h.output, by simpa using h.size, fun x hx hn => (Below.heap_setCell b _ v x (by
    show x ≠ g
    rcases hg with hg | hg
    · omega
    · intro e; subst e; exact hn hg)).trans (h.same x hx hn)⟩
theorem Chg.drewN {S : Nat → Prop} {a b : World} (h : Chg S a b) (k : Nat) : Chg S a (b.drewN k) := ⟨h.os, h.tape, h.output, h.size, h.same⟩
theorem Chg.alloc {S : Nat → Prop} {a b : World} (h : Chg S a b) (o : Obj) : Chg S a (b.alloc o) := h.then ((Below.refl _ _).alloc (Nat.le_refl _) o)
theorem Laid.keep {w w' : World} (h : Laid w) (hs : w.heap.size ≤ w'.heap.size) (e : ∀ x, x < 8 → w'.heap[x]? = w.heap[x]?) : Laid w' := by
  have hc : ∀ x, x < 8 → w'.cell? ⟨x, 0, none⟩ = w.cell? ⟨x, 0, none⟩ := fun x hx => by unfold World.cell?; simp only [e x hx]
  refine ⟨?_, ?_, ?_, ?_, Nat.le_trans h.sz hs⟩
  · rw [hc 0 (by omega)]; exact h.ml
  · have ht := h.tab
    unfold Lib.TabIs World.var? at *
    rw [show Tryz.prog.globalNamed "internal/strconv.uint64pow10" = some 3 by kernel_rfl] at ht ⊢
    simp only [Option.bind_some] at ht ⊢
    rw [e 3 (by omega)]
    exact ht
  · rw [hc 6 (by omega)]; exact h.es
  · rw [hc 7 (by omega)]; exact h.er
theorem Laid.below {w w' : World} (h : Laid w) (hb : Below w.heap.size w w') : Laid w' := h.keep hb.size (fun x hx => hb.block x (Nat.lt_of_lt_of_le hx h.sz))
theorem Laid.chg {S : Nat → Prop} {w w' : World} (h : Laid w) (hb : Chg S w w') (hs : ∀ x, S x → 8 ≤ x) : Laid w' :=
  h.keep hb.size (fun x hx => hb.same x (Nat.lt_of_lt_of_le hx h.sz) (fun e => by have := hs x e; omega))

abbrev Bytes := List UInt8
def str (l : Bytes) : ByteArray := ⟨l.toArray⟩
theorem str_data (l : Bytes) : (str l).data.toList = l := rfl
theorem str_size (l : Bytes) : (str l).size = l.length := rfl
theorem str_of (s : ByteArray) : str s.data.toList = s := rfl
theorem str_inj {a b : Bytes} (h : str a = str b) : a = b := by have := congrArg (fun x => x.data.toList) h; exact this
theorem str_ne {s t : ByteArray} (h : ¬ s = t) : (s.toList == t.toList) = false := by
  rw [beq_eq_false_iff_ne, ByteArray.toList_eq, ByteArray.toList_eq]
  intro e
  exact h (by rw [← str_of s, e, str_of])
theorem str_beq {s : ByteArray} {l : Bytes} : (s.toList == l) = decide (s.data.toList = l) := by
  rw [ByteArray.toList_eq, Bool.eq_iff_iff]; simp
/-- the number that a word is: a canonical numeral of at most nine digits -/
def numW (s : ByteArray) : Option Int :=
  match Lib.atoiAll s.data.toList with
  | .ok v => if s.size ≤ 9 ∧ 0 ≤ v ∧ s = str (Lib.itoa v) then some v else none
  | _ => none
theorem numW_some {s : ByteArray} {v : Int} (h : numW s = some v) : Lib.atoiAll s.data.toList = .ok v ∧ s.size ≤ 9 ∧ 0 ≤ v ∧ s = str (Lib.itoa v) := by
  unfold numW at h
  split at h
  · rename_i u hu
    split at h
    · rename_i hc
      cases h
      exact ⟨hu, hc⟩
    · cases h
  · cases h
theorem decDigits_len_lt {u : Nat} (h : (Lib.decDigits u).length ≤ 9) : u < 1000000000 := by
  rw [Lib.decDigits_length] at h
  have h1 := Lib.lt_pow_nDigits u
  have h2 : 10 ^ Lib.nDigits u ≤ 10 ^ 9 := Nat.pow_le_pow_right (by omega) h
  omega
theorem numW_lt {s : ByteArray} {v : Int} (h : numW s = some v) : 0 ≤ v ∧ v < 1000000000 := by
  obtain ⟨_, h2, h3, h4⟩ := numW_some h
  refine ⟨h3, ?_⟩
  have hs : s.size = (Lib.itoa v).length := by rw [h4, str_size]
  unfold Lib.itoa at hs
  rw [if_neg (by omega)] at hs
  have := decDigits_len_lt (u := v.toNat) (by omega)
  omega
/-- what is said of a fault -/
abbrev faultE (e : Int) : Ending := .panicked [{ v := .iface 87 (.agg #[.int .i64 e]), recovered := false }]

theorem dk_Itoa {w : World} (L : Laid w) {n : Int} (h0 : -9223372036854775808 ≤ n) (h1 : n ≤ 9223372036854775807) :
    Calls Tryz.prog 38 #[.int .i64 n] w fun e w' => e = .returned (.string (str (Lib.itoa n))) ∧ Below w.heap.size w w' :=
  (Tryz.strconv_Itoa n h0 h1 w L.tab).mono fun e w' ⟨he, k, os, hw⟩ => ⟨he, by rw [hw]; exact Lib.below_grow _ _ (Nat.le_refl _) _ _⟩
theorem dk_bad {w : World} {x : Int} : Calls Tryz.prog 73 #[.int .i64 x] w fun e w' => e = faultE x ∧ Below w.heap.size w w' := by
  go_enter Tryz.func73, Tryz.ntmps73
  go_wp2
  exact ⟨rfl, rfl, Below.refl _ _⟩
end Go.Proofs.YtgbccpfehcjhbaaGreatDoor

/- The contract of desk.number (P77). Conditions: the library's variables are laid. -/
namespace Go.Proofs.YtgbccpfehcjhbaaGreatDoor
open Go Go.RowKit
set_option linter.unusedVariables false
set_option linter.unusedSimpArgs false

theorem bytesWorld_any {w w' : World} {t : TypeId} (h : w' = w ∨ ∃ x, w' = Lib.bytesWorld w t x) : Below w.heap.size w w' := by
  rcases h with rfl | ⟨x, rfl⟩
  · exact Below.refl _ _
  · exact Lib.bytesWorld_below _ _ _
theorem dk_Atoi_ok {w : World} {s : ByteArray} (hs : s.size ≤ 1000000000) {v : Int} (h : Lib.atoiAll s.data.toList = .ok v) :
    Calls Tryz.prog 129 #[.string s] w fun e w' => e = .returned (.tuple #[.int .i64 v, .nilIface]) ∧ Below w.heap.size w w' :=
  (Tryz.strconv_Atoi_ok s (by omega) v h w).mono fun e w' ⟨he, hw⟩ => ⟨he, bytesWorld_any hw⟩
def AtoiBad (w : World) (e : Ending) (w' : World) : Prop := ∃ (n : Int) (T : TypeId) (a : Addr), e = .returned (.tuple #[.int .i64 n, .iface T (.pointer (some a))]) ∧ Below w.heap.size w w'
theorem dk_Atoi_bad {w : World} (L : Laid w) {s : ByteArray} (hs : s.size ≤ 1000000000) (h : ∀ v, Lib.atoiAll s.data.toList ≠ .ok v) :
    Calls Tryz.prog 129 #[.string s] w (AtoiBad w) := by
  rcases (show (∃ v, Lib.atoiAll s.data.toList = .ok v) ∨ Lib.atoiAll s.data.toList = Lib.NumEnd.syntax ∨ Lib.atoiAll s.data.toList = Lib.NumEnd.range by
    rcases Lib.atoiAll s.data.toList with v | _ | _
    · exact .inl ⟨v, rfl⟩
    · exact .inr (.inl rfl)
    · exact .inr (.inr rfl)) with ⟨v, hc⟩ | hc | hc
  · exact absurd hc (h v)
  · obtain ⟨te, pe, hv⟩ := L.es
    exact (Tryz.strconv_Atoi_syntax s (by omega) hc _ w hv (.inr ⟨te, pe, rfl⟩)).mono fun e w' ⟨N, he, _, _, hb⟩ => ⟨_, _, _, he, hb⟩
  · obtain ⟨te, pe, hv⟩ := L.er
    exact (Tryz.strconv_Atoi_range s (by omega) hc _ w hv (.inr ⟨te, pe, rfl⟩)).mono fun e w' ⟨N, he, _, _, hb⟩ => ⟨_, _, _, he, hb⟩
set_option maxHeartbeats 800000 in
theorem dk_number {w : World} (L : Laid w) {s : ByteArray} {v : Int} (h : numW s = some v) :
    Calls Tryz.prog 99 #[.string s] w fun e w' => e = .returned (.int .i64 v) ∧ Below w.heap.size w w' := by
  obtain ⟨h1, h2, h3, h4⟩ := numW_some h
  have h5 := numW_lt h
  have HA := Lib.hid (dk_Atoi_ok (w := w) (by omega) h1)
  have HI := Lib.hid (fun (w1 : World) (L1 : Laid w1) => dk_Itoa (w := w1) L1 (n := v) (by omega) (by omega))
  rw [← h4] at HI
  have HL := Lib.hid L
  clear h1 h4 h L
  have q1 : decide ((s.size : Int) ≤ 9) = true := by simp; omega
  have q2 : decide ((9 : Int) < (s.size : Int)) = false := by simp; omega
  have q3 : decide (v < 0) = false := by simp; omega
  go_enter Tryz.func99, Tryz.ntmps99
  go_wp2_with fail
  refine HA.out.mono ?_; rintro e w1 ⟨rfl, b1⟩
  have L1 := Lib.hid (HL.out.below b1)
  go_wp2_with fail
  refine (HI.out _ L1.out).mono ?_; rintro e w2 ⟨rfl, b2⟩
  have b12 := b1.trans (b2.mono b1.size)
  go_wp2
  go_ret
  exact ⟨rfl, b12⟩
set_option maxHeartbeats 800000 in
theorem dk_number_bad {w : World} (L : Laid w) {s : ByteArray} (hs : s.size ≤ 1000000000) (h : numW s = none) :
    Calls Tryz.prog 99 #[.string s] w fun e w' => e = faultE 9 ∧ Below w.heap.size w w' := by
  have HL := Lib.hid L
  by_cases hok : ∃ v, Lib.atoiAll s.data.toList = .ok v
  · obtain ⟨v, hv⟩ := hok
    have hvb := Lib.atoiAll_bounds hv
    have HA := Lib.hid (dk_Atoi_ok (w := w) hs hv)
    have hno : ¬ (s.size ≤ 9 ∧ 0 ≤ v ∧ s = str (Lib.itoa v)) := fun hc => by
      unfold numW at h
      rw [hv] at h
      simp only at h
      rw [if_pos hc] at h
      cases h
    clear h hv L
    by_cases h9 : s.size ≤ 9
    · have q2 : decide ((9 : Int) < (s.size : Int)) = false := by simp; omega
      by_cases h0 : 0 ≤ v
      · have q3 : decide (v < 0) = false := by simp; omega
        have HI := Lib.hid (fun (w1 : World) (L1 : Laid w1) => dk_Itoa (w := w1) L1 (n := v) (by omega) (by omega))
        have hne : ¬ s = str (Lib.itoa v) := fun e => hno ⟨h9, h0, e⟩
        generalize str (Lib.itoa v) = t at *
        have q4 := str_ne hne
        clear hno
        go_enter Tryz.func99, Tryz.ntmps99
        go_wp2_with fail
        refine HA.out.mono ?_; rintro e w1 ⟨rfl, b1⟩
        have L1 := Lib.hid (HL.out.below b1)
        go_wp2_with fail
        refine (HI.out _ L1.out).mono ?_; rintro e w2 ⟨rfl, b2⟩
        have b12 := b1.trans (b2.mono b1.size)
        go_wp2_with fail
        refine dk_bad.mono ?_; rintro e w3 ⟨rfl, b3⟩
        have b13 := b12.trans (b3.mono b12.size)
        go_wp2
        exact ⟨rfl, rfl, b13⟩
      · have q3 : decide (v < 0) = true := by simp; omega
        clear hno
        go_enter Tryz.func99, Tryz.ntmps99
        go_wp2_with fail
        refine HA.out.mono ?_; rintro e w1 ⟨rfl, b1⟩
        go_wp2_with fail
        refine dk_bad.mono ?_; rintro e w3 ⟨rfl, b3⟩
        have b13 := b1.trans (b3.mono b1.size)
        go_wp2
        exact ⟨rfl, rfl, b13⟩
    · have q2 : decide ((9 : Int) < (s.size : Int)) = true := by simp; omega
      clear hno
      go_enter Tryz.func99, Tryz.ntmps99
      go_wp2_with fail
      refine HA.out.mono ?_; rintro e w1 ⟨rfl, b1⟩
      go_wp2_with fail
      refine dk_bad.mono ?_; rintro e w3 ⟨rfl, b3⟩
      have b13 := b1.trans (b3.mono b1.size)
      go_wp2
      exact ⟨rfl, rfl, b13⟩
  · have HA := Lib.hid (dk_Atoi_bad L hs (fun v e => hok ⟨v, e⟩))
    clear h hok L
    go_enter Tryz.func99, Tryz.ntmps99
    go_wp2_with fail
    refine HA.out.mono ?_; rintro e w1 ⟨n, T, a, rfl, b1⟩
    go_wp2_with fail
    refine dk_bad.mono ?_; rintro e w3 ⟨rfl, b3⟩
    have b13 := b1.trans (b3.mono b1.size)
    go_wp2
    exact ⟨rfl, rfl, b13⟩
end Go.Proofs.YtgbccpfehcjhbaaGreatDoor
