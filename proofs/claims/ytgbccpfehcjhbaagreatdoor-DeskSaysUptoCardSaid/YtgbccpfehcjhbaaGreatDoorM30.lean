/- The reference's table of forms (P77). Conditions: the library's variables are laid. -/
import Derived.Test.YtgbccpfehcjhbaaGreatDoorM29
import Derived.Deep.QuietTactic
import Derived.Test.YtgbccpfehcjhbaaGreatDoorM19
namespace Go.Proofs.YtgbccpfehcjhbaaGreatDoor
open Go Go.RowKit
set_option linter.unusedVariables false
set_option linter.unusedSimpArgs false

theorem dk_Cut {w : World} (LD : Laid w) {s : ByteArray} (hs : s.size ≤ 4000000000) (c : UInt8) :
    Calls Tryz.prog 9 #[.string s, .string ⟨#[c]⟩] w fun e w' => e = .returned (.tuple #[.string (str (Lib.cut s.data.toList [c]).1), .string (str (Lib.cut s.data.toList [c]).2.1), .bool (Lib.cut s.data.toList [c]).2.2]) ∧ ∃ k, w' = w.drewN k := by
  obtain ⟨m, hm⟩ := LD.ml
  exact Tryz.strings_Cut s ⟨#[c]⟩ m w (by omega) hm
def fmt (c : Nat) : Bytes := (cmdF c).map fun b => if b then 78 else 76
def fstr (c : Nat) : Bytes := cmdW c ++ [32] ++ fmt c
theorem cut_form (c : Nat) (hc : c < 15) : Lib.cut (fstr c) [32] = (cmdW c, fmt c, true) := by
  have h : ∀ c : Fin 15, Lib.cut (fstr c) [32] = (cmdW c, fmt c, true) := by decide
  exact h ⟨c, hc⟩
theorem fstr_len (c : Nat) (hc : c < 15) : (str (fstr c)).size ≤ 100 := by
  have h : ∀ c : Fin 15, (fstr c).length ≤ 100 := by decide
  exact h ⟨c, hc⟩
/-- the table of forms -/
def formTab : List Value := [.string (str (fstr 0)), .string (str (fstr 1)), .string (str (fstr 2)), .string (str (fstr 3)), .string (str (fstr 4)), .string (str (fstr 5)), .string (str (fstr 6)), .string (str (fstr 7)), .string (str (fstr 8)), .string (str (fstr 9)), .string (str (fstr 10)), .string (str (fstr 11)), .string (str (fstr 12)), .string (str (fstr 13)), .string (str (fstr 14))]
theorem formTab_get {c : Nat} (hc : c < 15) : formTab[c]? = some (.string (str (fstr c))) := by
  match c, hc with
  | 0, _ => rfl
  | 1, _ => rfl
  | 2, _ => rfl
  | 3, _ => rfl
  | 4, _ => rfl
  | 5, _ => rfl
  | 6, _ => rfl
  | 7, _ => rfl
  | 8, _ => rfl
  | 9, _ => rfl
  | 10, _ => rfl
  | 11, _ => rfl
  | 12, _ => rfl
  | 13, _ => rfl
  | 14, _ => rfl
  | c + 15, h => exact absurd h (by omega)
set_option maxRecDepth 100000 in
set_option maxHeartbeats 3200000 in
theorem ref_form {w : World} (LD : Laid w) {s : ByteArray} {K : Nat} (hK : K ≤ 15) (h1 : ∀ j, j < K → s ≠ str (cmdW j)) (h2 : K < 15 → s = str (cmdW K)) :
    Calls Tryz.prog 25 #[.string s] w fun e w' => e = .returned (.tuple #[.string (if K < 15 then str (fmt K) else ⟨#[]⟩), .bool (decide (K < 15))]) ∧ Below w.heap.size w w' := by
  have HLD := Lib.hid LD
  have H1 := Lib.hid h1; have H2 := Lib.hid h2
  clear LD h1 h2
  have hT : ∀ c, c < 15 → (w.alloc (.cells formTab.toArray 9)).cell? ⟨w.heap.size, c, none⟩ = some (.string (str (fstr c))) := fun c hc => by
    unfold World.cell?
    rw [heap_alloc_new w]
    have := formTab_get hc
    simp [this]
  have HT := Lib.hid hT
  have HX := Lib.hid ((Below.refl w.heap.size w).alloc (Nat.le_refl _) (.cells formTab.toArray 9))
  clear hT
  go_enter Tryz.func25, Tryz.ntmps25
  go_wp2
  go_loopw [11] (fun iv wv => ∃ i : Nat, i ≤ K ∧ iv = .int .i64 (i : Int) ∧ Below (w.alloc (.cells formTab.toArray 9)).heap.size (w.alloc (.cells formTab.toArray 9)) wv) (fun iv _ => 15 - (intOf iv).toNat)
  case atStart => exact ⟨0, Nat.zero_le _, rfl, Below.refl _ _⟩
  case round =>
    obtain ⟨i, hi, rfl, hb⟩ := hrel
    have hbb := HX.out.trans (hb.mono (by simp))
    by_cases hi15 : i < 15
    · have hc0 := (bdeep hb (show w.heap.size < _ by simp) i).trans (HT.out i hi15)
      have HCF := Lib.hid (cut_form i hi15)
      have HC := Lib.hid (dk_Cut (HLD.out.below hbb) (s := str (fstr i)) (by have := fstr_len i hi15; omega) 32)
      rw [show (str (fstr i)).data.toList = fstr i from rfl, HCF.out] at HC
      have hz := hb.size
      have hBB := Lib.hid hbb; have HB := Lib.hid hb
      clear hbb hb
      by_cases hiK : i < K
      · have hne := H1.out i hiK
        have d1 := str_ne (fun e => hne (Eq.symm e) : ¬ str (cmdW i) = s)
        have d2 : ¬ (str (cmdW i)).toList = s.toList := by simpa using d1
        clear hne
        generalize str (cmdW i) = T1 at *
        generalize str (fmt i) = T2 at *
        generalize str (fstr i) = T0 at *
        go_wp2_with fail
        refine HC.out.mono ?_; rintro e w4 ⟨rfl, k, rfl⟩
        go_wp2
        go_roundw
        case rel => exact ⟨i + 1, hiK, by go_num, below_drewN HB.out k⟩
        case measure => simp [intOf]; omega
      · obtain rfl : K = i := by omega
        have hs := H2.out hi15
        have HQ1 : Hid (decide (K < 15) = true) := Lib.hid (decide_eq_true hi15)
        have HS := Lib.hid hs
        rw [← hs] at HC
        have d2 : (s.toList == s.toList) = true := by simp
        obtain ⟨T2, hT2⟩ : ∃ T2, str (fmt K) = T2 := ⟨_, rfl⟩
        rw [hT2] at HC
        have HT2 := Lib.hid hT2
        clear hs H1 H2 hT2
        generalize str (fstr K) = T0 at *
        go_wp2_with fail
        refine HC.out.mono ?_; rintro e w4 ⟨rfl, k, rfl⟩
        go_wp2
        go_ret2
        exact ⟨by first | (rw [HT2.out]; rfl) | (rw [HT2.out]; simp), below_drewN hBB.out k⟩
    · obtain rfl : i = 15 := by omega
      obtain rfl : K = 15 := by omega
      go_wp2
      go_ret2
      exact ⟨rfl, hbb⟩
end Go.Proofs.YtgbccpfehcjhbaaGreatDoor

/- Rows of slices that a call makes ([][]int, [][]string). Conditions: what each theorem says. -/
namespace Go.Proofs.YtgbccpfehcjhbaaGreatDoor
open Go Go.RowKit
set_option linter.unusedVariables false
set_option linter.unusedSimpArgs false

abbrev Sl := Option Addr × Nat × Nat
def encSl (x : Sl) : List Value := [.slice x.1 x.2.1 x.2.2]
theorem encSl_len (x : Sl) : (encSl x).length = 1 := rfl
theorem encSl_one (x : Sl) : ∀ u ∈ encSl x, u.oneCell' = true := by
  intro u hu
  simp only [encSl, List.mem_singleton] at hu
  subst hu; rfl
theorem Tryz.tyLI : SliceTy Tryz.prog 74 35 (.slice none 0 0) 1 24 := ⟨Tryz.underlying74, by kernel_rfl⟩
theorem Tryz.tyLS : SliceTy Tryz.prog 23 30 (.slice none 0 0) 1 24 := ⟨Tryz.underlying23, by kernel_rfl⟩
/-- what is said of a slice stays true where its block stays -/
def Keeps {α : Type} (A : World → Sl → α → Prop) : Prop := ∀ (w w' : World) (t : Sl) (x : α), A w t x → w.heap.size ≤ w'.heap.size → (∀ a, t.1 = some a → w'.heap[a.block]? = w.heap[a.block]?) → A w' t x
/-- a row of slices at p, apart from the row q -/
def SlSt {α : Type} [Inhabited α] (E : TypeId) (A : World → Sl → α → Prop) (w : World) (B : Nat) (q p : Option Addr) (a c : Nat) (T : List Sl) (XS : List α) : Prop :=
  OwnR E encSl 1 w B p a c T ∧ XS.length = a ∧ Sep p q ∧ ∀ j, j < a → A w (ge T j) (ge XS j) ∧ ∀ y, (ge T j).1 = some y → y.block < w.heap.size ∧ (∀ z, p = some z → y.block ≠ z.block) ∧ ∀ z, q = some z → y.block ≠ z.block
section
variable {α : Type} [Inhabited α] {E : TypeId} {A : World → Sl → α → Prop} {w w' : World} {B a c : Nat} {p q : Option Addr} {T : List Sl} {XS : List α}
theorem SlSt.nil : SlSt E A w B q none 0 0 [] ([] : List α) := ⟨OwnR.nil _ _, rfl, Sep.none_left, fun j hj => absurd hj (Nat.not_lt_zero _)⟩
theorem SlSt.below (hA : Keeps A) (h : SlSt E A w B q p a c T XS) (hb : Below w.heap.size w w') : SlSt E A w' B q p a c T XS := by
  obtain ⟨h1, h2, h3, h4⟩ := h
  refine ⟨h1.below hb, h2, h3, fun j hj => ?_⟩
  obtain ⟨k1, k2⟩ := h4 j hj
  exact ⟨hA _ _ _ _ k1 hb.size (fun y hy => hb.block _ (k2 y hy).1), fun y hy => ⟨Nat.lt_of_lt_of_le (k2 y hy).1 hb.size, (k2 y hy).2⟩⟩
theorem own_at {x : Option Addr} {n d : Nat} {k : Nat} (h : some k = (Value.slice x n d).ownBlock) : ∃ z, x = some z ∧ z.block = k := by
  cases x with
  | none => simp [Value.ownBlock] at h
  | some z => simp only [Value.ownBlock, Option.some.injEq] at h; exact ⟨z, rfl, h.symm⟩
theorem ge_app_lt {L : List α} {x : α} {j : Nat} (h : j < L.length) : ge (L ++ [x]) j = ge L j := by
  rw [ge_get (by simp; omega), ge_get h, List.getElem_append_left h]
theorem ge_app_eq {L : List α} {x : α} : ge (L ++ [x]) L.length = x := by
  rw [ge_get (by simp)]; simp
/-- behind the push of a slice -/
theorem SlSt.push (hA : Keeps A) (h : SlSt E A w B q p a c T XS) {t : Sl} {x : α} {o : Obj} {p' : Option Addr} {c' : Nat} (ht : A w t x) (hb : ∀ y, t.1 = some y → y.block < w.heap.size ∧ (∀ z, p = some z → y.block ≠ z.block) ∧ ∀ z, q = some z → y.block ≠ z.block) (hq : ∀ z, q = some z → z.block < w.heap.size)
    (ho : OwnR E encSl 1 w' B p' (a + 1) c' (T ++ [t])) (hg : (w.alloc o).grownBy w' (Value.slice p a c).ownBlock) (hp : ∃ g, p' = some ⟨g, 0, none⟩ ∧ (p = some ⟨g, 0, none⟩ ∨ g = w.heap.size + 1)) : SlSt E A w' B q p' (a + 1) c' (T ++ [t]) (XS ++ [x]) := by
  obtain ⟨h1, h2, h3, h4⟩ := h
  have hsz : w.heap.size + 1 ≤ w'.heap.size := by have := hg.size; rwa [World.size_alloc] at this
  have hT : T.length = a := h1.len
  have hkeep : ∀ (t' : Sl) (x' : α), A w t' x' → (∀ y, t'.1 = some y → y.block < w.heap.size ∧ (∀ z, p = some z → y.block ≠ z.block) ∧ ∀ z, q = some z → y.block ≠ z.block) → A w' t' x' ∧ ∀ y, t'.1 = some y → y.block < w'.heap.size ∧ (∀ z, p' = some z → y.block ≠ z.block) ∧ ∀ z, q = some z → y.block ≠ z.block := by
    intro t' x' k1 k2
    refine ⟨hA w w' t' x' k1 (by omega) (fun y hy => ?_), fun y hy => ⟨by have := (k2 y hy).1; omega, fun z hz => ?_, (k2 y hy).2.2⟩⟩
    · have k := k2 y hy
      rw [hg.block y.block (by rw [World.size_alloc]; omega) (fun e => by
        obtain ⟨z, hz, e2⟩ := own_at e
        exact k.2.1 z hz e2.symm)]
      exact ((Below.refl w.heap.size w).alloc (Nat.le_refl _) o).block _ k.1
    · obtain ⟨g, rfl, hg2⟩ := hp
      cases hz
      rcases hg2 with hg2 | hg2
      · exact (k2 y hy).2.1 _ hg2
      · have := (k2 y hy).1
        show y.block ≠ g
        omega
  refine ⟨ho, by simp [h2], ?_, fun j hj => ?_⟩
  · obtain ⟨g, rfl, hg2⟩ := hp
    intro y z hy hz
    cases hy
    rcases hg2 with hg2 | hg2
    · exact h3 _ _ hg2 hz
    · have := hq z hz
      show g ≠ z.block
      omega
  · by_cases hja : j < a
    · rw [ge_app_lt (by rw [hT]; exact hja), ge_app_lt (by rw [h2]; exact hja)]
      exact hkeep _ _ (h4 j hja).1 (h4 j hja).2
    · obtain rfl : j = a := by omega
      have e1 : ge (T ++ [t]) j = t := by rw [← hT]; exact ge_app_eq
      have e2 : ge (XS ++ [x]) j = x := by rw [← h2]; exact ge_app_eq
      rw [e1, e2]
      exact hkeep _ _ ht hb
/-- behind a push to the other row -/
theorem SlSt.other (hA : Keeps A) (h : SlSt E A w B q p a c T XS) {o : Obj} {q' : Option Addr} {m d : Nat} (hpw : ∀ z, p = some z → z.block < w.heap.size)
    (hg : (w.alloc o).grownBy w' (Value.slice q m d).ownBlock) (hp : ∃ g, q' = some ⟨g, 0, none⟩ ∧ (q = some ⟨g, 0, none⟩ ∨ g = w.heap.size + 1)) : SlSt E A w' B q' p a c T XS := by
  obtain ⟨h1, h2, h3, h4⟩ := h
  have hsz : w.heap.size + 1 ≤ w'.heap.size := by have := hg.size; rwa [World.size_alloc] at this
  have hblk : ∀ k, k < w.heap.size → (∀ z, q = some z → k ≠ z.block) → w'.heap[k]? = w.heap[k]? := fun k hk hne => by
    rw [hg.block k (by rw [World.size_alloc]; omega) (fun e => by
      obtain ⟨z, hz, e2⟩ := own_at e
      exact hne z hz e2.symm)]
    exact ((Below.refl w.heap.size w).alloc (Nat.le_refl _) o).block _ hk
  have hnew : ∀ k, k < w.heap.size → (∀ z, q = some z → k ≠ z.block) → ∀ z, q' = some z → k ≠ z.block := fun k hk hne z hz => by
    obtain ⟨g, rfl, hg2⟩ := hp
    cases hz
    rcases hg2 with hg2 | hg2
    · exact hne _ hg2
    · show k ≠ g
      omega
  refine ⟨⟨⟨h1.1.1, ?_⟩, h1.2⟩, h2, ?_, fun j hj => ?_⟩
  · rcases h1.1.2 with h5 | ⟨g2, cap, cur, hv, hg2, hh2, r⟩
    · exact .inl h5
    · refine .inr ⟨g2, cap, cur, hv, hg2, ?_, r⟩
      simp only [Value.slice.injEq, true_and] at hv
      exact (hblk g2 (Array.getElem?_eq_some_iff.1 hh2).1 (fun z hz => h3 _ z hv.1 hz)).trans hh2
  · intro y z hy hz
    exact hnew y.block (hpw y hy) (fun z hz => h3 y z hy hz) z hz
  · obtain ⟨k1, k2⟩ := h4 j hj
    exact ⟨hA _ _ _ _ k1 (by omega) (fun y hy => hblk _ (k2 y hy).1 (k2 y hy).2.2), fun y hy => ⟨by have := (k2 y hy).1; omega, (k2 y hy).2.1, hnew _ (k2 y hy).1 (k2 y hy).2.2⟩⟩
theorem SlSt.addr_lt (h : SlSt E A w B q p a c T XS) : ∀ z, p = some z → z.block < w.heap.size := fun z hz => by
  rcases h.1.1.2 with h5 | ⟨g2, cap, cur, hv, hg2, hh2, r⟩
  · simp only [Value.slice.injEq] at h5
    rw [hz] at h5
    exact absurd h5.1.1 (by simp)
  · simp only [Value.slice.injEq, true_and] at hv
    rw [hz] at hv
    cases hv.1
    exact (Array.getElem?_eq_some_iff.1 hh2).1
end
theorem OwnI.keepW {w w' : World} {B n c : Nat} {p q : Option Addr} {m d : Nat} {M : List Int} {o : Obj} (hq : OwnI w B q m d M) (hg : (w.alloc o).grownBy w' (Value.slice p n c).ownBlock) (hs : Sep p q) : OwnI w' B q m d M := by
  refine ⟨(hq.1.alloc o).kept hg ?_, hq.2⟩
  cases q with
  | none => exact .inl rfl
  | some a =>
    refine .inr (fun e => ?_)
    cases p with
    | none => simp [Value.ownBlock] at e
    | some z => simp only [Value.ownBlock, Option.some.injEq] at e; exact hs z a rfl rfl e.symm
def isSI (w : World) (t : Sl) (x : List Int) : Prop := SI w t.1 t.2.1 t.2.2 x
theorem isSI_keeps : Keeps isSI := fun w w' t x h hs e => by
  refine ⟨h.1, h.2.1, fun hn => ?_⟩
  obtain ⟨b, off, hp, hlt, hc⟩ := h.2.2 hn
  refine ⟨b, off, hp, Nat.lt_of_lt_of_le hlt hs, fun j hj => ?_⟩
  rw [← hc j hj]
  unfold World.cell?
  simp only [e _ hp]
def isSS (w : World) (t : Sl) (x : List ByteArray) : Prop := SS w t.1 t.2.1 t.2.2 x
theorem isSS_keeps : Keeps isSS := fun w w' t x h hs e => SS.keep h hs e
end Go.Proofs.YtgbccpfehcjhbaaGreatDoor
