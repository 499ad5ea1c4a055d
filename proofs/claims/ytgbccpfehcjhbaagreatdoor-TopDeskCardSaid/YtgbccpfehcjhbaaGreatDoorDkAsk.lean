/- What the desk answers to the six lines that headtop.TopDesk asks (P77). Conditions: what each theorem says. -/
import Derived.Test.YtgbccpfehcjhbaaGreatDoorDkRun
import Derived.Test.YtgbccpfehcjhbaaGreatDoorDkText
namespace Go.Proofs.YtgbccpfehcjhbaaGreatDoor
open Go Go.RowKit
set_option linter.unusedVariables false
set_option linter.unusedSimpArgs false

theorem numsS_len' {Y : List Int} (hb : ∀ x ∈ Y, 0 ≤ x ∧ x ≤ 1000000000000) : (numsS Y).length ≤ Y.length * 15 := by
  have := join_len 14 (Y.map Lib.itoa) (fun x hx => by
    obtain ⟨y, hy, rfl⟩ := List.mem_map.1 hx
    exact itoa_len (by have := hb y hy; omega) (hb y hy).2)
  rw [List.length_map] at this
  exact this
theorem curve_mem {Y : List Int} {n : Nat} (h : Curve Y n) : ∀ x ∈ Y, 0 ≤ x ∧ x ≤ 1000000 := by
  intro x hx
  obtain ⟨j, hj, rfl⟩ := List.getElem_of_mem hx
  have := h.bd j (by rw [← h.len]; exact hj)
  rw [gi_get hj] at this
  exact this
theorem curve_ne {Y : List Int} {n : Nat} (h : Curve Y n) : Y ≠ [] := by
  intro e
  have h1 := h.len; have h2 := h.pos
  rw [e] at h1
  simp at h1; omega
theorem curve_small {Y : List Int} {n : Nat} (h : Curve Y n) : (numsS Y).length ≤ 1000 := by
  have h1 := numsS_len' (Y := Y) (fun x hx => by have := curve_mem h x hx; omega)
  have h2 := h.len; have h3 := h.le
  omega
theorem curve_nums {Y : List Int} {n : Nat} (h : Curve Y n) : numsL (str (numsS Y)) = Y := numsL_of (curve_ne h) (fun x hx => by have := curve_mem h x hx; omega)
theorem curve_ok {Y : List Int} {n : Nat} (h : Curve Y n) : numsOk (str (numsS Y)) := numsOk_of (curve_ne h) (fun x hx => by have := curve_mem h x hx; omega)

theorem ans_conv {f g : List Int} (he : bothErr f g = 0) (hf : fits (convL f g)) (s : DS) : Answers s (([[99, 111, 110, 118], numsS f, numsS g] : List Bytes).map str) (okS (convL f g)) s := by
  obtain ⟨h1, h2, h3⟩ := bothErr_ok he
  have cf := curve_of h1 rfl
  have cg := curve_of h2 rfl
  intro w bd g' h' p n c LD D hs h0 hn
  refine dk_answer LD D hs h0 (by omega) (fun v bl LV HL hb8 => ?_)
  have z1 := curve_small cf; have z2 := curve_small cg
  have hr := read_conv (bd := bd) LV HL (by show 2 < 3; omega) (curve_ok cf) (curve_ok cg) (by show (str (numsS f)).size ≤ _; rw [str_size]; omega) (by show (str (numsS g)).size ≤ _; rw [str_size]; omega) hb8
  refine hr.mono fun e w' h => ReadPost.wider h (fun _ _ => trivial) (fun x e x' Dx hp => DeskPost.pure Dx ?_)
  have e1 : numsL (gsW (([[99, 111, 110, 118], numsS f, numsS g] : List Bytes).map str) 1) = f := curve_nums cf
  have e2 : numsL (gsW (([[99, 111, 110, 118], numsS f, numsS g] : List Bytes).map str) (1 + 1)) = g := curve_nums cg
  rw [e1, e2, fitOut_ok he hf] at hp
  exact hp
theorem ans_deconv {f g : List Int} (he : bothErr f g = 0) (hf : fits (dcvL f g)) (s : DS) : Answers s (([[100, 101, 99, 111, 110, 118], numsS f, numsS g] : List Bytes).map str) (okS (dcvL f g)) s := by
  obtain ⟨h1, h2, h3⟩ := bothErr_ok he
  have cf := curve_of h1 rfl
  have cg := curve_of h2 rfl
  intro w bd g' h' p n c LD D hs h0 hn
  refine dk_answer LD D hs h0 (by omega) (fun v bl LV HL hb8 => ?_)
  have z1 := curve_small cf; have z2 := curve_small cg
  have hr := read_deconv (bd := bd) LV HL (by show 2 < 3; omega) (curve_ok cf) (curve_ok cg) (by show (str (numsS f)).size ≤ _; rw [str_size]; omega) (by show (str (numsS g)).size ≤ _; rw [str_size]; omega) hb8
  refine hr.mono fun e w' h => ReadPost.wider h (fun _ _ => trivial) (fun x e x' Dx hp => DeskPost.pure Dx ?_)
  have e1 : numsL (gsW (([[100, 101, 99, 111, 110, 118], numsS f, numsS g] : List Bytes).map str) 1) = f := curve_nums cf
  have e2 : numsL (gsW (([[100, 101, 99, 111, 110, 118], numsS f, numsS g] : List Bytes).map str) (1 + 1)) = g := curve_nums cg
  rw [e1, e2, fitOut_ok he hf] at hp
  exact hp
theorem ans_back {f g : List Int} (he : bothErr f g = 0) (s : DS) : Answers s (([[98, 97, 99, 107], numsS f, numsS g] : List Bytes).map str) (okS [backV f g]) s := by
  obtain ⟨h1, h2, h3⟩ := bothErr_ok he
  have cf := curve_of h1 rfl
  have cg := curve_of h2 rfl
  intro w bd g' h' p n c LD D hs h0 hn
  refine dk_answer LD D hs h0 (by omega) (fun v bl LV HL hb8 => ?_)
  have z1 := curve_small cf; have z2 := curve_small cg
  have hr := read_back (bd := bd) LV HL (by show 2 < 3; omega) (curve_ok cf) (curve_ok cg) (by show (str (numsS f)).size ≤ _; rw [str_size]; omega) (by show (str (numsS g)).size ≤ _; rw [str_size]; omega) hb8
  refine hr.mono fun e w' h => ReadPost.wider h (fun _ _ => trivial) (fun x e x' Dx hp => DeskPost.pure Dx ?_)
  have e1 : numsL (gsW (([[98, 97, 99, 107], numsS f, numsS g] : List Bytes).map str) 1) = f := curve_nums cf
  have e2 : numsL (gsW (([[98, 97, 99, 107], numsS f, numsS g] : List Bytes).map str) (1 + 1)) = g := curve_nums cg
  have hfit : fits [backV f g] := by
    intro j hj
    obtain rfl : j = 0 := by simpa using hj
    exact (back_bd he).2
  rw [e1, e2, fitOut_ok he hfit] at hp
  exact hp
theorem ans_append {v : Int} (h0 : 0 ≤ v) (h1 : v < 1000000000) {s : DS} (ha : appErr s.L v = 0) : Answers s (([[97, 112, 112, 101, 110, 100], Lib.itoa v] : List Bytes).map str) [111, 107] { s with L := appL s.L v } := by
  intro w bd g' h' p n c LD D hs hp hn
  refine dk_answer LD D hs hp (by omega) (fun x bl LV HL hb8 => ?_)
  have hr := read_append (bd := bd) (g := g') (hh := h') (s := s) LV HL (by show 1 < 2; omega) (numW_itoa h0 h1) hb8
  refine hr.mono fun e w' h => ReadPost.wider h (fun _ h => h) (fun x e x' Dx hp => ?_)
  rw [ha] at hp
  exact hp
theorem ans_tick (s : DS) : Answers s (([[116, 105, 99, 107]] : List Bytes).map str) (okS [((tickR s.unit (s.L, s.turn) s.rate : Nat) : Int)]) { s with L := (runW s.unit (s.L, s.turn) s.rate).1, turn := (runW s.unit (s.L, s.turn) s.rate).2 } := by
  intro w bd g' h' p n c LD D hs hp hn
  refine dk_answer LD D hs hp (by omega) (fun x bl LV HL hb8 => ?_)
  exact read_tick (bd := bd) (g := g') (hh := h') (s := s) HL
theorem ans_peers (s : DS) : Answers s (([[112, 101, 101, 114, 115]] : List Bytes).map str) (peersS s.L) s := by
  intro w bd g' h' p n c LD D hs hp hn
  refine dk_answer LD D hs hp (by omega) (fun x bl LV HL hb8 => ?_)
  have hr := read_peers (bd := bd) (g := g') (hh := h') (s := s) HL
  exact hr.mono fun e w' h => ReadPost.wider h (fun _ h => h) (fun x e x' Dx hp => DeskPost.pure Dx hp)

/-- the lines that are asked: their words -/
def askW (f g : List Int) (n : Int) : Nat → List Bytes
  | 0 => [[99, 111, 110, 118], numsS f, numsS g]
  | 1 => [[100, 101, 99, 111, 110, 118], numsS f, numsS g]
  | 2 => [[98, 97, 99, 107], numsS f, numsS g]
  | 3 => [[97, 112, 112, 101, 110, 100], Lib.itoa n]
  | 4 => [[116, 105, 99, 107]]
  | _ => [[112, 101, 101, 114, 115]]
def askL (f g : List Int) (n : Int) : List Bytes := [Lib.join (askW f g n 0) [32], Lib.join (askW f g n 1) [32], Lib.join (askW f g n 2) [32], Lib.join (askW f g n 3) [32], Lib.join (askW f g n 4) [32], Lib.join (askW f g n 5) [32]]
def deskN (n : Int) : DS := { startDS with L := appL startDS.L n }
def deskT (n : Int) : DS := { deskN n with L := (runW 1 ((deskN n).L, 0) 1).1, turn := (runW 1 ((deskN n).L, 0) 1).2 }
def askS (n : Int) : Nat → DS
  | 0 => startDS
  | 1 => startDS
  | 2 => startDS
  | 3 => startDS
  | 4 => deskN n
  | _ => deskT n
def askT (f g : List Int) (n : Int) : Nat → Bytes
  | 0 => okS (convL f g)
  | 1 => okS (dcvL f g)
  | 2 => okS [backV f g]
  | 3 => [111, 107]
  | 4 => okS [((tickR 1 ((deskN n).L, 0) 1 : Nat) : Int)]
  | _ => peersS (deskT n).L
theorem start_app {n : Int} (h0 : 0 ≤ n) (h1 : n < 1000) : appErr startDS.L n = 0 := by
  unfold appErr
  rw [if_neg (by omega), if_neg]
  rintro ⟨k, hk, h⟩
  have hk2 : k < 2 := hk
  have : pl startDS.L k = 0 := by unfold pl startDS; simp only; rw [ge_tab hk2]
  omega
theorem ask_word {f g : List Int} {n : Int} {i : Nat} (he : bothErr f g = 0) (h0 : 0 ≤ n) : askW f g n i ≠ [] ∧ ∀ y ∈ askW f g n i, ((32 : UInt8) ∉ y ∧ (10 : UInt8) ∉ y) ∧ y ≠ [] := by
  obtain ⟨h1, h2, h3⟩ := bothErr_ok he
  have cf := curve_of h1 rfl
  have cg := curve_of h2 rfl
  have nf := numsS_in (fun x hx => (curve_mem cf x hx).1)
  have ng := numsS_in (fun x hx => (curve_mem cg x hx).1)
  have Nf : ((32 : UInt8) ∉ numsS f ∧ (10 : UInt8) ∉ numsS f) ∧ numsS f ≠ [] := ⟨⟨not_in nf (by decide), not_in nf (by decide)⟩, numsS_ne (curve_ne cf) (fun x hx => (curve_mem cf x hx).1)⟩
  have Ng : ((32 : UInt8) ∉ numsS g ∧ (10 : UInt8) ∉ numsS g) ∧ numsS g ≠ [] := ⟨⟨not_in ng (by decide), not_in ng (by decide)⟩, numsS_ne (curve_ne cg) (fun x hx => (curve_mem cg x hx).1)⟩
  have ni : ∀ b ∈ Lib.itoa n, 44 ≤ b.toNat := fun b hb => by have := (itoa_in h0 b hb).1; omega
  have Nn : ((32 : UInt8) ∉ Lib.itoa n ∧ (10 : UInt8) ∉ Lib.itoa n) ∧ Lib.itoa n ≠ [] := ⟨⟨not_in ni (by decide), not_in ni (by decide)⟩, itoa_ne h0⟩
  unfold askW
  split
  · refine ⟨by simp, fun y hy => ?_⟩
    simp only [List.mem_cons, List.not_mem_nil, or_false] at hy
    rcases hy with rfl | rfl | rfl
    · decide
    · exact Nf
    · exact Ng
  · refine ⟨by simp, fun y hy => ?_⟩
    simp only [List.mem_cons, List.not_mem_nil, or_false] at hy
    rcases hy with rfl | rfl | rfl
    · decide
    · exact Nf
    · exact Ng
  · refine ⟨by simp, fun y hy => ?_⟩
    simp only [List.mem_cons, List.not_mem_nil, or_false] at hy
    rcases hy with rfl | rfl | rfl
    · decide
    · exact Nf
    · exact Ng
  · refine ⟨by simp, fun y hy => ?_⟩
    simp only [List.mem_cons, List.not_mem_nil, or_false] at hy
    rcases hy with rfl | rfl
    · decide
    · exact Nn
  · refine ⟨by simp, fun y hy => ?_⟩
    simp only [List.mem_cons, List.not_mem_nil, or_false] at hy
    subst hy; decide
  · refine ⟨by simp, fun y hy => ?_⟩
    simp only [List.mem_cons, List.not_mem_nil, or_false] at hy
    subst hy; decide
theorem ask_words {f g : List Int} {n : Int} (i : Nat) (he : bothErr f g = 0) (h0 : 0 ≤ n) : wordsOf (str (Lib.join (askW f g n i) [32])) = (askW f g n i).map str :=
  words_of (ask_word he h0).1 (fun y hy => ⟨((ask_word he h0).2 y hy).1.1, ((ask_word he h0).2 y hy).2⟩)
theorem join_no {c d : UInt8} (hd : ¬ c = d) : ∀ {L : List Bytes}, (∀ y ∈ L, c ∉ y) → c ∉ Lib.join L [d]
  | [], _ => by simp [Lib.join_nil]
  | x :: r, h => by
    rw [Lib.join_cons]
    intro e
    rcases List.mem_append.1 e with e | e
    · exact h x (List.mem_cons_self ..) e
    · unfold Lib.joinTail at e
      obtain ⟨z, hz, e⟩ := List.mem_flatten.1 e
      obtain ⟨u, hu, rfl⟩ := List.mem_map.1 hz
      rcases List.mem_append.1 e with e | e
      · simp only [List.mem_singleton] at e
        exact hd e
      · exact h u (List.mem_cons_of_mem _ hu) e
theorem ask_lines {f g : List Int} {n : Int} (he : bothErr f g = 0) (h0 : 0 ≤ n) : linesOf (str (scriptOf (askL f g n))) = (askL f g n).map str := by
  refine lines_of fun y hy => ?_
  have hno : ∀ i, (10 : UInt8) ∉ Lib.join (askW f g n i) [32] := fun i => join_no (by decide) (fun y hy => ((ask_word he h0).2 y hy).1.2)
  unfold askL at hy
  simp only [List.mem_cons, List.not_mem_nil, or_false] at hy
  rcases hy with rfl | rfl | rfl | rfl | rfl | rfl <;> exact hno _
end Go.Proofs.YtgbccpfehcjhbaaGreatDoor
