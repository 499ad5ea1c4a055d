/- What desk.Run answers to the script of headtop.TopDesk (P77). Conditions: what each theorem says. -/
import Derived.Test.YtgbccpfehcjhbaaGreatDoorDkAsk
namespace Go.Proofs.YtgbccpfehcjhbaaGreatDoor
open Go Go.RowKit
set_option linter.unusedVariables false
set_option linter.unusedSimpArgs false

theorem deskN_L {n : Int} (h0 : 0 ≤ n) (h1 : n < 1000) : (deskN n).L = [(n, 0, decide (n = 0)), (n, 0, decide (n = 0))] := by
  show appL startDS.L n = _
  unfold appL
  rw [if_pos (start_app h0 h1)]
  have e : n = 0 + n := by omega
  conv => rhs; rw [e]
  rfl
theorem pos_nx {n : Int} : nx [(n, 0, false), (n, 0, false)] 0 = 0 := by simp [nx, fstP, pd, ge]
theorem pos_step {n : Int} : stepW 1 ([(n, 0, false), (n, 0, false)], 0) = ([(n - 1, 0, decide (n - 1 = 0)), (n, 0, false)], 1) := by
  unfold stepW
  have hw : who ([(n, 0, false), (n, 0, false)], 0) = 0 := by unfold who; rw [pos_nx]; rfl
  rw [hw]
  simp only
  rw [pos_nx, if_pos (by simp)]
  have hp : putW 1 (n, 0, false) = (n - 1, 0, decide (n - 1 = 0)) := by
    unfold putW
    rw [if_pos (.inl (by simp))]
    simp
  show ([(n, 0, false), (n, 0, false)].set 0 (putW 1 (n, 0, false)), (0 + 1) % 2) = _
  rw [hp]
  rfl
theorem pos_tick {n : Int} : tickR 1 ([(n, 0, false), (n, 0, false)], 0) 1 = 1 := by
  have h : stuckW ([((n : Int), (0 : Int), false), (n, 0, false)], 0) = false := by
    unfold stuckW
    rw [pos_nx]
    simp
  unfold tickR fstP
  show (if fstP _ 0 < 0 then _ else if stuckW ([(n, 0, false), (n, 0, false)], 0) = true then 0 else 0 + 1) = 1
  rw [h]
  simp [fstP]
theorem tick_pos {f g : List Int} {n : Int} (h0 : 0 < n) (h1 : n < 1000) : askT f g n 4 = okS [1] := by
  show okS [((tickR 1 ((deskN n).L, 0) 1 : Nat) : Int)] = _
  rw [deskN_L (by omega) h1, decide_eq_false (by omega : ¬ n = 0), pos_tick]
  rfl
theorem tick_zero {f g : List Int} : askT f g 0 4 = okS [0] := by
  show okS [((tickR 1 ((deskN 0).L, 0) 1 : Nat) : Int)] = _
  rw [deskN_L (by omega) (by omega)]
  rfl
theorem peers_pos {f g : List Int} {n : Int} (h0 : 0 < n) (h1 : n < 1000) : askT f g n 5 = [111, 107, 32] ++ Lib.itoa (n - 1) ++ [47, 48, 32] ++ Lib.itoa n ++ [47, 48] := by
  show peersS (runW 1 ((deskN n).L, 0) 1).1 = _
  rw [deskN_L (by omega) h1, decide_eq_false (by omega : ¬ n = 0)]
  show peersS (stepW 1 ([(n, 0, false), (n, 0, false)], 0)).1 = _
  rw [pos_step]
  have z : Lib.itoa 0 = [48] := by unfold Lib.itoa; rw [if_neg (by omega)]; exact Lib.decDigits_one (by omega)
  simp [peersS, z]
theorem peers_zero {f g : List Int} : askT f g 0 5 = [111, 107, 32, 48, 47, 48, 32, 48, 47, 48] := by
  show peersS (runW 1 ((deskN 0).L, 0) 1).1 = _
  rw [deskN_L (by omega) (by omega)]
  have z : Lib.itoa 0 = [48] := by unfold Lib.itoa; rw [if_neg (by omega)]; exact Lib.decDigits_one (by omega)
  have e : (runW 1 (([(0, 0, decide ((0 : Int) = 0)), (0, 0, decide ((0 : Int) = 0))] : List Peer), 0) 1).1 = [(0, 0, true), (0, 0, true)] := by rfl
  rw [e]
  simp [peersS, z]
/-- what tick and peers are said to answer -/
def sayTick (n : Int) : Bytes := if n = 0 then [111, 107, 32, 48, 10] else [111, 107, 32, 49, 10]
def sayPeers (n : Int) : Bytes := if n = 0 then [111, 107, 32, 48, 47, 48, 32, 48, 47, 48, 10] else [111, 107, 32] ++ Lib.itoa (n - 1) ++ [47, 48, 32] ++ Lib.itoa n ++ [47, 48, 10]
def sayAll (f g : List Int) (n : Int) : Bytes := [111, 107, 32] ++ numsS (convL f g) ++ [10, 111, 107, 32] ++ numsS (dcvL f g) ++ [10, 111, 107, 32] ++ Lib.itoa (backV f g) ++ [10, 111, 107, 10] ++ sayTick n ++ sayPeers n
theorem ask_says {f g : List Int} {n : Int} (h0 : 0 ≤ n) (h1 : n < 1000) : outTo (askT f g n) 6 = sayAll f g n := by
  have e : outTo (askT f g n) 6 = [111, 107, 32] ++ numsS (convL f g) ++ [10, 111, 107, 32] ++ numsS (dcvL f g) ++ [10, 111, 107, 32] ++ Lib.itoa (backV f g) ++ [10, 111, 107, 10] ++ (askT f g n 4 ++ [10]) ++ (askT f g n 5 ++ [10]) := by
    simp only [outTo, askT, okS, numsS, List.map_cons, List.map_nil, Lib.join_one]
    simp
  rw [e]
  unfold sayAll sayTick sayPeers
  by_cases hz : n = 0
  · subst hz
    rw [if_pos rfl, if_pos rfl, tick_zero, peers_zero]
    have z : Lib.itoa 0 = [48] := by unfold Lib.itoa; rw [if_neg (by omega)]; exact Lib.decDigits_one (by omega)
    simp [okS, Lib.join_one, z]
  · rw [if_neg hz, if_neg hz, tick_pos (by omega) h1, peers_pos (by omega) h1]
    have z : Lib.itoa 1 = [49] := by unfold Lib.itoa; rw [if_neg (by omega)]; exact Lib.decDigits_one (by omega)
    simp [okS, Lib.join_one, z]
theorem ask_T_len {f g : List Int} {n : Int} (he : bothErr f g = 0) (hc : fits (convL f g)) (h0 : 0 ≤ n) (h1 : n < 1000) : ∀ i, i < 6 → (askT f g n i).length ≤ 20000 := by
  have ok_le : ∀ {Y : List Int}, tellable Y → (okS Y).length ≤ 20000 := fun {Y} h => by
    have := okS_len h.1 h.2
    unfold okS
    rw [List.length_append]
    simp only [List.length_cons, List.length_nil]
    omega
  intro i hi
  rcases (show i = 0 ∨ i = 1 ∨ i = 2 ∨ i = 3 ∨ i = 4 ∨ i = 5 by omega) with rfl | rfl | rfl | rfl | rfl | rfl
  · exact ok_le (tellable_conv he hc)
  · exact ok_le (tellable_deconv he)
  · exact ok_le (tellable_one (by have := back_bd he; omega))
  · show 2 ≤ 20000; omega
  · by_cases hz : n = 0
    · subst hz; rw [tick_zero]; exact ok_le (tellable_one (by omega))
    · rw [tick_pos (by omega) h1]; exact ok_le (tellable_one (by omega))
  · by_cases hz : n = 0
    · subst hz; rw [peers_zero]; simp
    · rw [peers_pos (by omega) h1]
      have a := itoa_len (n := n) (by omega) (by omega)
      have b := itoa_len (n := n - 1) (by omega) (by omega)
      simp only [List.length_append, List.length_cons, List.length_nil]
      omega
theorem ask_size {f g : List Int} {n : Int} (he : bothErr f g = 0) (h0 : 0 ≤ n) (h1 : n < 1000) : (scriptOf (askL f g n)).length ≤ 65536 := by
  obtain ⟨a1, a2, a3⟩ := bothErr_ok he
  have z1 := curve_small (curve_of a1 rfl); have z2 := curve_small (curve_of a2 rfl)
  have z3 := itoa_len (n := n) (by omega) (by omega)
  unfold scriptOf askL
  simp only [List.cons_append, List.nil_append, Lib.join_cons, Lib.joinTail, List.map_cons, List.map_nil, List.flatten_cons, List.flatten_nil, askW, List.length_append, List.length_cons, List.length_nil]
  omega
set_option maxHeartbeats 800000 in
theorem ask_run {w : World} (LD : Laid w) {f g : List Int} {n : Int} (he : bothErr f g = 0) (hc : fits (convL f g)) (hd : fits (dcvL f g)) (h0 : 0 ≤ n) (h1 : n < 1000) :
    Calls Tryz.prog 5 #[.string (str (scriptOf (askL f g n)))] w (RunPost w (sayAll f g n)) := by
  have hl := ask_lines (f := f) (g := g) (n := n) he h0
  have hlen : (linesOf (str (scriptOf (askL f g n)))).length = 6 := by rw [hl]; rfl
  have hr := dk_Run LD (s := str (scriptOf (askL f g n))) (by rw [str_size]; exact ask_size he h0 h1) (by rw [hlen]; omega) (st := askS n) (T := askT f g n) rfl (by rw [hlen]; exact ask_T_len he hc h0 h1) (fun i hi => by
    rw [hlen] at hi
    rw [hl]
    have hg : gsW ((askL f g n).map str) i = str (Lib.join (askW f g n i) [32]) := by
      rcases (show i = 0 ∨ i = 1 ∨ i = 2 ∨ i = 3 ∨ i = 4 ∨ i = 5 by omega) with rfl | rfl | rfl | rfl | rfl | rfl <;> rfl
    rw [hg, ask_words i he h0]
    rcases (show i = 0 ∨ i = 1 ∨ i = 2 ∨ i = 3 ∨ i = 4 ∨ i = 5 by omega) with rfl | rfl | rfl | rfl | rfl | rfl
    · exact ⟨by simp [askW], fun e => absurd (str_inj e) (by decide), ans_conv he hc _⟩
    · exact ⟨by simp [askW], fun e => absurd (str_inj e) (by decide), ans_deconv he hd _⟩
    · exact ⟨by simp [askW], fun e => absurd (str_inj e) (by decide), ans_back he _⟩
    · exact ⟨by simp [askW], fun e => absurd (str_inj e) (by decide), ans_append h0 (by omega) (start_app h0 h1)⟩
    · exact ⟨by simp [askW], fun e => absurd (str_inj e) (by decide), ans_tick (deskN n)⟩
    · exact ⟨by simp [askW], fun e => absurd (str_inj e) (by decide), ans_peers (deskT n)⟩)
  rw [hlen, ask_says h0 h1] at hr
  exact hr
end Go.Proofs.YtgbccpfehcjhbaaGreatDoor
