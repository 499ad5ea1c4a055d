/- The walk of headlaw.FifoSays: it returns true and changes nothing that was there. No conditions. -/
import Derived.Test.YtggpcceljipelaaFifo
import Derived.Test.YtggpcceljipelaaEqual
namespace Go.Proofs.Ytggpcceljipelaa
open Go Go.RowKit

set_option maxHeartbeats 1600000 in
theorem fifoSays_walk {w : World} {p : Option Addr} {n c : Nat} {xs : List (Int × Int × Int)} (h : S3 w p n c xs) (_ : ∀ j, j < n → (-9223372036854775808 ≤ t0 xs j ∧ t0 xs j ≤ 9223372036854775807) ∧ (-9223372036854775808 ≤ t1 xs j ∧ t1 xs j ≤ 9223372036854775807) ∧ (-9223372036854775808 ≤ t2 xs j ∧ t2 xs j ≤ 9223372036854775807))
    {t : Int} (_ : -9223372036854775808 ≤ t ∧ t ≤ 9223372036854775807) :
    Calls Try.prog 8 #[.slice p n c, .int .i64 t] w fun e w' => e = .returned (.bool true) ∧ Below w.heap.size w w' := by
  obtain ⟨er, he⟩ : ∃ er, packErr xs = er := ⟨_, rfl⟩
  have hm := h.2.1
  by_cases h0 : er = 0
  · subst h0
    obtain ⟨h60, hok⟩ := pack_ok he
    have hl := h.1
    rw [hl] at h60 hok
    have HL := Lib.hid hl; clear hl
    have HE := Lib.hid he; clear he
    go_enter Try.func8, Try.ntmps8
    go_wp2_with fail
    refine (fifo_Run h).mono ?_; rintro e w1 ⟨q, m, d, L, er, rfl, ho, hb1, her, hL⟩
    rw [HE.out] at her
    rw [if_pos HE.out, HL.out] at hL
    subst her hL
    have hm1 := ho.len
    rw [tab_length] at hm1
    subst hm1
    have h1 := h.below hb1
    go_wp2_with fail
    refine (fifo_Count h1 (t := t)).mono ?_; rintro e w2 ⟨rfl, hb2⟩
    rw [if_pos HE.out, HE.out]
    have h2 := h1.below hb2
    go_wp2_with fail
    refine (ref_Queue h2 HE.out).mono ?_; rintro e w3 ⟨rfl, hb3⟩
    have h3 := h2.below hb3
    go_wp2_with fail
    refine (ref_Served h3 h60 hok).mono ?_; rintro e w4 ⟨q4, m4, d4, rfl, ho4, hb4⟩
    have hm4 := ho4.len
    rw [tab_length] at hm4
    subst hm4
    have h4 := h3.below hb4
    have s1 := (((ho.si.below hb2).below hb3).below hb4)
    have s4 := ho4.si
    have hb14 := ((hb1.trans (hb2.mono hb1.size)))
    have hb24 := hb14.trans (hb3.mono hb14.size)
    have hbb := hb24.trans (hb4.mono hb24.size)
    clear ho ho4 hb1 hb2 hb3 hb4 hb14 hb24 h h1 h2 h3
    obtain ⟨iv, hiv⟩ : ∃ iv, inq xs t n = iv := ⟨_, rfl⟩
    rw [hiv]
    have HIV := Lib.hid hiv; clear hiv
    go_wp2
    go_loopw [11, 50] (fun v i wr => ∃ k : Nat, k ≤ n ∧ i = .int .i64 k ∧ v = .int .i64 (inq xs t k) ∧ Below w4.heap.size w4 wr) (fun _ i _ => n - (intOf i).toNat)
    case atStart => exact ⟨0, by omega, rfl, rfl, Below.refl _ _⟩
    case round =>
      obtain ⟨k, hk, rfl, rfl, hb⟩ := hrel
      have hsz := hb.size
      by_cases hkn : k < n
      · obtain ⟨b, off, rfl, hlt, hc⟩ := h4.cells (by omega)
        obtain ⟨g, goff, rfl, hgl, hgc⟩ := s4.cells (by omega)
        have hlr : b < wr.heap.size := by omega
        have c0 : wr.cell? ⟨b, off + k * 3, none⟩ = some (.int .i64 (t0 xs k)) := (bdeep hb hlt _).trans (hc k hkn).1
        have c1 : wr.cell? ⟨b, off + k * 3 + 1, none⟩ = some (.int .i64 (t1 xs k)) := (bdeep hb hlt _).trans (hc k hkn).2.1
        have c2 : wr.cell? ⟨b, off + k * 3 + 2, none⟩ = some (.int .i64 (t2 xs k)) := (bdeep hb hlt _).trans (hc k hkn).2.2
        have c4 : wr.cell? ⟨g, goff + k, none⟩ = some (.int .i64 (fin xs (k + 1))) := (bdeep hb hgl _).trans ((hgc k hkn).trans (by rw [gi_tab hkn]))
        have hgl2 : g < wr.heap.size := by omega
        have HST := Lib.hid (show inq xs t (k + 1) = inq xs t k + if t0 xs k ≤ t ∧ t < fin xs (k + 1) then 1 else 0 from rfl)
        have hib := inq_bd xs t k
        have ha := hb.alloc hsz (.cells #[.int .i64 (t0 xs k), .int .i64 (t1 xs k), .int .i64 (t2 xs k)] 64)
        generalize fin xs (k + 1) = fk at *
        generalize inq xs t k = ik at *
        clear hc hgc h4 s1 s4 hb hbb hok
        by_cases g1 : t0 xs k ≤ t
        · have g1' : decide (t0 xs k ≤ t) = true := by simp; omega
          by_cases g2 : t < fk
          · have g2' : decide (t < fk) = true := by simp; omega
            go_wp2
            go_roundw
            case rel => exact ⟨k + 1, by omega, by go_num, by rw [HST.out, if_pos ⟨g1, g2⟩], ha⟩
            case measure => simp [intOf]; omega
          · have g2' : decide (t < fk) = false := by simp; omega
            go_wp2
            go_roundw
            case rel => exact ⟨k + 1, by omega, by go_num, by rw [HST.out, if_neg (by omega)]; first | rfl | simp, ha⟩
            case measure => simp [intOf]; omega
        · have g1' : decide (t0 xs k ≤ t) = false := by simp; omega
          go_wp2
          go_roundw
          case rel => exact ⟨k + 1, by omega, by go_num, by rw [HST.out, if_neg (by omega)]; first | rfl | simp, ha⟩
          case measure => simp [intOf]; omega
      · obtain rfl : n = k := by omega
        rw [HIV.out]
        have hbw := hbb.trans (hb.mono hbb.size)
        go_wp2_with fail
        refine (slices_Equal (s1.below hb) (s4.below hb) (r := true) (by simp)).mono ?_; rintro e w6 ⟨rfl, hb6⟩
        have hb7 := hbw.trans (hb6.mono hbw.size)
        go_wp2
        go_ret
        exact ⟨rfl, hb7⟩
  · have hbf : (er == 0) = false := by simp [h0]
    have HE := Lib.hid he; clear he
    go_enter Try.func8, Try.ntmps8
    go_wp2_with fail
    refine (fifo_Run h).mono ?_; rintro e w1 ⟨q, m, d, L, er', rfl, ho, hb1, her, hL⟩
    rw [HE.out] at her
    rw [if_neg (by rw [HE.out]; exact h0)] at hL
    subst her hL
    obtain rfl : 0 = m := ho.len
    have h1 := h.below hb1
    clear ho
    go_wp2_with fail
    refine (fifo_Count h1 (t := t)).mono ?_; rintro e w2 ⟨rfl, hb2⟩
    rw [if_neg (by rw [HE.out]; exact h0), HE.out]
    have h2 := h1.below hb2
    go_wp2_with fail
    refine (ref_Queue h2 HE.out).mono ?_; rintro e w3 ⟨rfl, hb3⟩
    have hb14 := ((hb1.trans (hb2.mono hb1.size)))
    have hb24 := hb14.trans (hb3.mono hb14.size)
    go_wp2
    go_ret
    exact ⟨rfl, hb24⟩
end Go.Proofs.Ytggpcceljipelaa
