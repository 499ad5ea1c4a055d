/- The walk of headtop.TopWorld: it returns true and changes nothing that was there. No conditions. -/
import Derived.Test.YtgnegemiiahkaaaWorldMore
import Derived.Test.YtgnegemiiahkaaaTopWorldL
import Derived.Test.YtgnegemiiahkaaaTopWorldC
import Derived.Test.YtgnegemiiahkaaaTopWorldC2
import Derived.Test.YtgnegemiiahkaaaOpen2
import Derived.Test.YtgnegemiiahkaaaChainLaw
namespace Go.Proofs.Ytgnegemiiahkaaa
open Go Go.RowKit
set_option linter.unusedVariables false
set_option linter.unusedSimpArgs false

theorem new_good (n : Nat) : GoodL (tab n fun _ => (0, 0, true)) := by
  intro k hk
  rw [tab_length] at hk
  rw [ge_tab hk]
  exact ⟨Int.le_refl _, .inr ⟨rfl, rfl⟩, rfl, by omega⟩
theorem new_app (n : Nat) : appErr (tab n fun _ => ((0, 0, true) : Peer)) 5 = 0 := by
  unfold appErr
  rw [if_neg (by omega), if_neg]
  rintro ⟨k, hk, h⟩
  rw [tab_length] at hk
  unfold pl at h
  rw [ge_tab hk] at h
  simp at h

set_option maxRecDepth 100000 in
set_option maxHeartbeats 3200000 in
theorem topWorld_walk {w : World} {a b c : Int} {p : Option Addr} {m k : Nat} {F : Nat → Sl} (_ : -9223372036854775808 ≤ a ∧ a ≤ 9223372036854775807) (_ : -9223372036854775808 ≤ b ∧ b ≤ 9223372036854775807) (_ : -9223372036854775808 ≤ c ∧ c ≤ 9223372036854775807) (hLL : SLL w p m k F) :
    Calls Try.prog 9 #[.int .i64 a, .int .i64 b, .int .i64 c, .slice p m k] w fun e w' => e = .returned (.bool true) ∧ Below w.heap.size w w' := by
  have hm := hLL.cap
  go_enter Try.func9, Try.ntmps9
  go_wp2_with fail
  refine (keep_Within (m := 8) (by omega) rfl).mono ?_; rintro e w1 ⟨⟨r1, hr0, hr1, rfl⟩, rfl⟩
  obtain ⟨n, hn⟩ := Int.eq_ofNat_of_zero_le (show 0 ≤ 1 + r1 by omega)
  have hw1 : IntKind.i64.wrap (1 + r1) = (n : Int) := by rw [hn]; exact IntWalk.i64_in _ (by omega)
  have hN : 1 ≤ n ∧ n ≤ 8 := by omega
  have HN := Lib.hid hn
  clear hn hr0 hr1
  go_wp2_with fail
  refine (keep_Within (m := 60) (by omega) rfl).mono ?_; rintro e w1 ⟨⟨r2, hr0, hr1, rfl⟩, rfl⟩
  obtain ⟨R, hn⟩ := Int.eq_ofNat_of_zero_le (show 0 ≤ 1 + r2 by omega)
  have hw2 : IntKind.i64.wrap (1 + r2) = (R : Int) := by rw [hn]; exact IntWalk.i64_in _ (by omega)
  have hR : 1 ≤ R ∧ R ≤ 60 := by omega
  have HR := Lib.hid hn
  clear hn hr0 hr1
  go_wp2_with fail
  refine (keep_Within (m := 30) (by omega) rfl).mono ?_; rintro e w1 ⟨⟨r3, hr0, hr1, rfl⟩, rfl⟩
  obtain ⟨u, hn⟩ : ∃ u, 1 + r3 = u := ⟨_, rfl⟩
  have hw3 : IntKind.i64.wrap (1 + r3) = u := by rw [hn]; exact IntWalk.i64_in _ (by omega)
  have hU : 1 ≤ u ∧ u ≤ 30 := by omega
  have HU := Lib.hid hn
  clear hn hr0 hr1
  go_wp2_with fail
  refine (world_New hN.1 hN.2 (by omega) (by omega) (by omega) (by omega)).mono ?_; rintro e w1 ⟨g, hh, rfl, K1, b1⟩
  clear hw1 hw2 hw3 HN HR HU
  go_wp2_with fail
  refine (top_begun).mono ?_; rintro e w2 ⟨rfl, b2⟩
  have K2 := K1.below b2
  have B2 := b1.trans (b2.mono b1.size)
  clear K1 b1 b2
  have s2 := B2.size
  go_wp2_with fail
  refine (world_Append K2 hN.2 (new_good n) (by omega) s2 (new_app n) rfl).mono ?_; rintro e w3 ⟨rfl, K3, b3, _⟩
  have B3 := B2.trans b3
  have s3 : w.heap.size ≤ w3.heap.size := B3.size
  obtain ⟨M, hM⟩ : ∃ M, appL (tab n fun _ => ((0, 0, true) : Peer)) 5 = M := ⟨_, rfl⟩
  have HG := Lib.hid (appL_good (a := 5) (new_good n))
  rw [hM] at K3 HG
  clear hM K2 B2 b3 s2
  obtain ⟨q, hq⟩ : ∃ q, q = min m 40 := ⟨_, rfl⟩
  have HQ := Lib.hid hq
  clear hq
  go_wp2
  all_goals
    rename_i hcase
    go_loopw [59] (fun iv wr => ∃ (i : Nat) (L : List Peer) (t : Nat), i ≤ q ∧ iv = .int .i64 i ∧ WorldAt wr 110 w.heap.size g hh R u n L t ∧ Hid (GoodL L) ∧ t < n ∧ Below w.heap.size w wr ∧ w.heap.size ≤ wr.heap.size) (fun iv _ => q - (intOf iv).toNat)
    case atStart => exact ⟨0, M, 0, Nat.zero_le _, rfl, K3, HG, by omega, B3, s3⟩
    case round =>
      clear K3 HG B3 s3
      obtain ⟨i, L, t, hi, rfl, K, HG, ht, B4, s4⟩ := hrel
      by_cases hiq : i < q
      · have him : i < m := by have := HQ.out; omega
        have hi40 : i < 40 := by have := HQ.out; omega
        obtain ⟨lb, lo, hp, hlt, hc⟩ := (hLL.below B4).cells (by omega)
        have e0 := hc i him
        have hsi := (hLL.below B4).si i him
        have hbd := hLL.bd i him
        obtain ⟨⟨pa, la, ca, xs⟩, hF⟩ : ∃ f, F i = f := ⟨_, rfl⟩
        rw [hF] at e0 hsi hbd
        simp only at e0 hsi hbd
        have hla := hsi.2.1
        subst hp
        clear hc hF hlt
        by_cases h2 : la < 2
        · clear hsi hbd
          go_wp2
          go_roundw
          case rel => exact ⟨i + 1, L, t, by omega, by go_num, K, HG, ht, B4, s4⟩
          case measure => simp [intOf]; omega
        · obtain ⟨xb, xo, rfl, hxl, hxc⟩ := hsi.cells (by omega)
          have x0 : wr.cell? ⟨xb, xo, none⟩ = some (.int .i64 (gi xs 0)) := hxc 0 (by omega)
          have x1 := hxc 1 (by omega)
          have y0 := hbd 0 (by omega)
          have y1 := hbd 1 (by omega)
          clear hxc hsi hbd
          go_wp2_with fail
          refine (keep_Within (m := 3) (by omega) rfl).mono ?_; rintro e w1 ⟨⟨r, hr0, hr1, rfl⟩, rfl⟩
          rcases (show r = 0 ∨ r = 1 ∨ r = 2 by omega) with rfl | rfl | rfl
          · go_wp2_with fail
            refine (keep_Within (m := 100) (by omega) rfl).mono ?_; rintro e w1 ⟨⟨r, hr0, hr1, rfl⟩, rfl⟩
            go_wp2_with fail
            refine (world_Append K hN.2 HG.out (by omega) s4 rfl rfl).mono ?_; rintro e w5 ⟨rfl, K5, b5, _⟩
            have HG5 := Lib.hid (appL_good (a := r) HG.out)
            have B5 := B4.trans b5
            have s5 := B5.size
            clear K HG B4 s4 b5
            go_wp2
            go_roundw
            case rel => exact ⟨i + 1, _, t, by omega, by go_num, K5, HG5, ht, B5, s5⟩
            case measure => simp [intOf]; omega
          · go_wp2_with fail
            refine (world_Tick K hN ht HG.out (by omega) (by omega) s4).mono ?_; rintro e w5 ⟨rfl, K5, b5, _⟩
            have HG5 := Lib.hid (runW_good (u := u) (s := (L, t)) HG.out R)
            have ht5 : (runW u (L, t) R).2 < n := by
              have e1 := runW_turn (u := u) (s := (L, t)) (by show t < L.length; rw [K.own.len]; exact ht) R
              rwa [runW_len, show (L, t).1.length = n from K.own.len] at e1
            have B5 := B4.trans b5
            have s5 := B5.size
            clear K HG B4 s4 b5
            go_wp2
            go_roundw
            case rel => exact ⟨i + 1, _, _, by omega, by go_num, K5, HG5, ht5, B5, s5⟩
            case measure => simp [intOf]; omega
          · go_wp2_with fail
            refine (keep_Within (m := n) (by omega) rfl).mono ?_; rintro e w1 ⟨⟨r, hr0, hr1, rfl⟩, rfl⟩
            go_wp2_with fail
            refine (world_Crash K hN.2 rfl rfl).mono ?_; rintro e w5 ⟨rfl, K5, b5, _⟩
            have HG5 := Lib.hid (crL_good (i := r) HG.out)
            have B5 := B4.trans b5
            have s5 := B5.size
            clear K HG B4 s4 b5
            go_wp2
            go_roundw
            case rel => exact ⟨i + 1, _, t, by omega, by go_num, K5, HG5, ht, B5, s5⟩
            case measure => simp [intOf]; omega
      · have hiq2 : i = min m 40 := by have := HQ.out; omega
        obtain ⟨W5, hW5⟩ : ∃ x, x = wr := ⟨_, rfl⟩
        subst hW5
        clear hLL hi hiq
        have hgb := K.cells
        have hg0 : g < W5.heap.size := hgb.2.2.2.2.2.1
        have hh0 : hh < W5.heap.size := hgb.2.2.2.2.2.2.1
        clear hgb
        go_wp2_with (at_make; refine wpL_make_int Try.tyInts rfl rfl (B := W5.heap.size) (W0 := W5) n rfl rfl rfl rfl (Below.refl _ _) (by omega) (Nat.le_refl _) ?_; intro gN w6 hgN hown hbN hb0)
        have K6 := K.below hbN
        have s6 := hbN.size
        clear hb0 K
        go_wp2_with fail
        refine (world_Peers K6 hN.2).mono ?_; rintro e w7 ⟨pq, pd_, rfl, hP, b7⟩
        have K7 := K6.below b7
        have hown7 := hown.below b7
        have b17 := hbN.trans (b7.mono s6)
        have hcapP := (hP.sr encP_len).2.1
        have hgb := hown7.blk
        have hgn6 : gN < w6.heap.size := hown.blk.2
        clear K6 hown hbN
        go_wp2
        go_loopw [95] (fun iv wv => ∃ i : Nat, i ≤ n ∧ iv = .int .i64 i ∧ WorldAt wv 110 w.heap.size g hh R u n L t ∧ OwnI wv W5.heap.size (some ⟨gN, 0, none⟩) n n (tab n fun x => if x < i then nd L x else 0) ∧ OwnR 53 encP 3 wv w6.heap.size pq n pd_ L ∧ Below W5.heap.size W5 wv ∧ W5.heap.size ≤ wv.heap.size) (fun iv _ => n - (intOf iv).toNat)
        case atStart => exact ⟨0, Nat.zero_le _, rfl, K7, hown7.to (fun j _ => by rw [if_neg (by omega)]), hP, b17, b17.size⟩
        case round =>
          clear K7 hown7 hP b17 hgb b7
          obtain ⟨i, hi, rfl, K, hown, hP, hb, hsz⟩ := hrel
          have hgb := hown.blk
          by_cases hin : i < n
          · obtain ⟨pg, rfl⟩ := hP.addr (by omega)
            have e0 : wr.cell? ⟨pg, i * 3, none⟩ = some (.int .i64 (pl L i)) := hP.at encP_len hin (i := 0) (by omega)
            have e1 : wr.cell? ⟨pg, i * 3 + 1, none⟩ = some (.int .i64 (pp L i)) := hP.at encP_len hin (i := 1) (by omega)
            have e2 : wr.cell? ⟨pg, i * 3 + 2, none⟩ = some (.bool (pd L i)) := hP.at encP_len hin (i := 2) (by omega)
            have hpb := hP.blk
            obtain ⟨g1, g2, g3, g4⟩ := HG.out i (by rw [K.own.len]; exact hin)
            change 0 ≤ pp L i at g1
            change pp L i < pl L i ∨ (pl L i = 0 ∧ pp L i = 0) at g2
            change pl L i ≤ 1000000 at g4
            have g5 : 0 ≤ pl L i ∧ pp L i ≤ 1000000 := by omega
            clear g2 g3
            have hndd : nd L i = pl L i - pp L i := rfl
            have n0 := hown.at hin
            have f0 := hown.free i
            have oA := (hown.put i (pl L i - pp L i) (z' := fun x => if x < i + 1 then nd L x else 0) (fun j hj => by
              by_cases e : j = i
              · subst e; rw [if_pos rfl, if_pos (by omega)]; rfl
              · rw [if_neg e]; by_cases e2 : j < i
                · rw [if_pos e2, if_pos (by omega)]
                · rw [if_neg e2, if_neg (by omega)])).below ((Below.refl _ _).alloc (Nat.le_refl _) (.cells #[.int .i64 (pl L i), .int .i64 (pp L i), .bool (pd L i)] 53))
            have pA := (hP.apart (g' := gN) (j := i) (v := .int .i64 (pl L i - pp L i)) (fun g2 e => by simp only [Option.some.injEq, Addr.mk.injEq, and_true] at e; omega)).alloc (.cells #[.int .i64 (pl L i), .int .i64 (pp L i), .bool (pd L i)] 53)
            have bA := (hb.setCell (p := ⟨gN, i, none⟩) hgb.1 (.int .i64 (pl L i - pp L i))).alloc (by simp; exact hsz) (.cells #[.int .i64 (pl L i), .int .i64 (pp L i), .bool (pd L i)] 53)
            have KB := (K.only ((Only.refl wr gN gN).set (j := i) (v := .int .i64 (pl L i - pp L i)) (.inl rfl)) (by omega) (by omega) (by omega) (by omega)).below ((Below.refl _ _).alloc (Nat.le_refl _) (.cells #[.int .i64 (pl L i), .int .i64 (pp L i), .bool (pd L i)] 53))
            clear K hown hP hb hndd
            go_wp2
            go_roundw
            case rel => exact ⟨i + 1, by omega, by go_num, KB, oA, pA, bA, by simp; omega⟩
            case measure => simp [intOf]; omega
          · obtain rfl : n = i := by omega
            have hown8 := hown.to (z' := nd L) (fun j hj => by rw [if_pos hj])
            have hnd := fun k (hk : k < n) => good_nd HG.out (k := k) (by rw [K.own.len]; exact hk)
            have HS0 := Lib.hid (fun (i : Nat) (hi : i ≤ n) => sm_nonneg (f := nd L) (n := i) (fun k hk => (hnd k (by omega)).1))
            have HS1 := Lib.hid (fun (i : Nat) (hi : i ≤ n) => sm_le (f := nd L) (b := 1000000) (n := i) (fun k hk => (hnd k (by omega)).2.1))
            have HND := Lib.hid hnd
            clear hown hP hnd
            obtain ⟨W8, hW8⟩ : ∃ x, x = wr := ⟨_, rfl⟩
            subst hW8
            go_wp2
            go_loopw [16, 111] (fun sv iv wv => ∃ i : Nat, i ≤ n ∧ iv = .int .i64 i ∧ sv = .int .i64 (sm (nd L) i) ∧ wv = W8) (fun _ iv _ => n - (intOf iv).toNat)
            case atStart => exact ⟨0, Nat.zero_le _, rfl, rfl, rfl⟩
            case round =>
              obtain ⟨i, hi, rfl, rfl, rfl⟩ := hrel
              by_cases hin : i < n
              · have n0 := hown8.at hin
                rw [gi_tab hin] at n0
                have q0 := HS0.out i (by omega)
                have q1 := HS1.out i (by omega)
                have q2 := (HND.out i hin).1
                have q3 := (HND.out i hin).2.1
                have HN1 : Hid (sm (nd L) (i + 1) = sm (nd L) i + nd L i) := Lib.hid rfl
                generalize sm (nd L) i = si at *
                generalize nd L i = ni at *
                go_wp2
                go_roundw
                case rel => exact ⟨i + 1, by omega, by go_num, by rw [HN1.out], trivial⟩
                case measure => simp [intOf]; omega
              · obtain rfl : n = i := by omega
                have q0 := HS0.out n (Nat.le_refl _)
                have q1 := HS1.out n (Nat.le_refl _)
                have hl : (L, t).1.length = n := K.own.len
                have HAD := Lib.hid (fun (j : Nat) (hj : sm (nd L) n ≤ j) (i : Nat) (hi : i < n) => all_done (u := u) (s := (L, t)) HG.out (by rw [hl]; exact ht) (m := j) (by rw [hl]; exact hj) (i := i) (by rw [hl]; exact hi))
                have HEA := Lib.hid (fun (j i : Nat) (hi : i < n) (hd : pd (runW u (L, t) j).1 i = false) => by
                  have := each_soon (u := u) (s := (L, t)) HG.out (by rw [hl]; exact ht) (i := i) (by rw [hl]; exact hi) hd
                  rwa [hl] at this)
                have HGR := Lib.hid (fun j : Nat => runW_good (u := u) (s := (L, t)) HG.out j)
                have HTR := Lib.hid (fun j : Nat => show (runW u (L, t) j).2 < n by
                  have e1 := runW_turn (u := u) (s := (L, t)) (by rw [hl]; exact ht) j
                  rwa [runW_len, hl] at e1)
                have B8 := B4.trans (hb.mono s4)
                have s8 : W5.heap.size ≤ wr.heap.size := hsz
                clear hl hb hsz HS0 HS1 B4 s4
                generalize sm (nd L) n = S at *
                go_wp2
                go_loopw [19] (fun tv wv => ∃ T X : Nat, 1 ≤ T ∧ T ≤ X + 1 ∧ (X : Int) ≤ S + 60 ∧ tv = .int .i64 T ∧ Hid (X = (T - 1) * R) ∧ WorldAt wv 110 w.heap.size g hh R u n (runW u (L, t) X).1 (runW u (L, t) X).2 ∧ OwnI wv W5.heap.size (some ⟨gN, 0, none⟩) n n (tab n (nd L)) ∧ Below w.heap.size w wv ∧ w.heap.size ≤ wv.heap.size) (fun tv _ => S.toNat + 2 - (intOf tv).toNat)
                case atStart => exact ⟨1, 0, by omega, by omega, by omega, rfl, Lib.hid (by simp), K, hown8, B8, by have := B8.size; omega⟩
                case round =>
                  rename_i W9
                  clear K hown8 B8 s8
                  obtain ⟨T, X, hT1, hTX, hXS, rfl, HX, K, hown, hb, hsz⟩ := hrel
                  have hwX : IntKind.i64.wrap (((T : Int) - 1) * (R : Int)) = (X : Int) := by
                    have e : ((T : Int) - 1) * (R : Int) = (X : Int) := by
                      rw [HX.out, show (T : Int) - 1 = ((T - 1 : Nat) : Int) by omega]; simp
                    rw [e]; exact IntWalk.i64_in _ (by omega)
                  by_cases hlt : (X : Int) < S
                  · have hwY : IntKind.i64.wrap ((T : Int) * (R : Int)) = ((X + R : Nat) : Int) := by
                      have e : (T : Int) * (R : Int) = ((X + R : Nat) : Int) := by
                        obtain ⟨T', rfl⟩ : ∃ T', T = T' + 1 := ⟨T - 1, by omega⟩
                        rw [HX.out]
                        simp [Nat.add_mul, Int.add_mul]
                      rw [e]; exact IntWalk.i64_in _ (by omega)
                    have HY : Hid (X + R = (T + 1 - 1) * R) := Lib.hid (by
                      obtain ⟨T', rfl⟩ : ∃ T', T = T' + 1 := ⟨T - 1, by omega⟩
                      rw [HX.out]; simp [Nat.add_mul])
                    have HRA := Lib.hid (run_add (u := u) (s := (L, t)) X R)
                    have hGX := HGR.out X
                    have hTX := HTR.out X
                    have HEY := Lib.hid (HEA.out (X + R))
                    generalize runW u (L, t) X = sX at *
                    obtain ⟨M, tm⟩ := sX
                    have HGX := Lib.hid hGX
                    have hYS : (X + R : Nat) ≤ S + 60 := by omega
                    have hTY : T + 1 ≤ X + R + 1 := by omega
                    clear hGX HX
                    go_wp2_with fail
                    refine (world_Tick K hN hTX HGX.out (by omega) (by omega) hsz).mono ?_; rintro e wa ⟨rfl, Ka, ba, oa⟩
                    have hown2 := hown.only oa (by omega) (by omega)
                    have hb2 := hb.trans ba
                    have hsz2 := hb2.size
                    rw [HRA.out] at Ka
                    have HGY := Lib.hid (HGR.out (X + R))
                    have hTY2 := HTR.out (X + R)
                    clear K hown hb hsz ba oa HRA HGX hTX
                    generalize X + R = Y at *
                    obtain ⟨⟨M2, tm2⟩, hs2⟩ : ∃ s2, runW u (L, t) Y = s2 := ⟨_, rfl⟩
                    have HS2 := Lib.hid hs2
                    rw [hs2] at Ka HGY hTY2 HEY
                    clear hs2
                    go_wp2_with fail
                    refine (world_Peers Ka hN.2).mono ?_; rintro e wb ⟨pq2, pd2, rfl, hP, b2⟩
                    have Kb := Ka.below b2
                    have hownb := hown2.below b2
                    have hbb := hb2.trans (b2.mono hsz2)
                    have hszb := hbb.size
                    have hcapP := (hP.sr encP_len).2.1
                    clear Ka hown2 hb2 hsz2 b2
                    go_wp2
                    go_loopw [132] (fun iv wv => ∃ i : Nat, i ≤ n ∧ iv = .int .i64 i ∧ WorldAt wv 110 w.heap.size g hh R u n M2 tm2 ∧ OwnI wv W5.heap.size (some ⟨gN, 0, none⟩) n n (tab n (nd L)) ∧ OwnR 53 encP 3 wv wa.heap.size pq2 n pd2 M2 ∧ Below w.heap.size w wv ∧ w.heap.size ≤ wv.heap.size) (fun iv _ => n - (intOf iv).toNat)
                    case atStart => exact ⟨0, Nat.zero_le _, rfl, Kb, hownb, hP, hbb, hszb⟩
                    case round =>
                      clear Kb hownb hP hbb hszb
                      obtain ⟨i, hi, rfl, K, hown, hP, hb, hsz⟩ := hrel
                      by_cases hin : i < n
                      · obtain ⟨pg, rfl⟩ := hP.addr (by omega)
                        have e0 : wr.cell? ⟨pg, i * 3, none⟩ = some (.int .i64 (pl M2 i)) := hP.at encP_len hin (i := 0) (by omega)
                        have e1 : wr.cell? ⟨pg, i * 3 + 1, none⟩ = some (.int .i64 (pp M2 i)) := hP.at encP_len hin (i := 1) (by omega)
                        have e2 : wr.cell? ⟨pg, i * 3 + 2, none⟩ = some (.bool (pd M2 i)) := hP.at encP_len hin (i := 2) (by omega)
                        have n0 := hown.at hin
                        rw [gi_tab hin] at n0
                        have hnb := hown.blk.2
                        have nA := (bdeep ((Below.refl wr.heap.size wr).alloc (Nat.le_refl _) (.cells #[.int .i64 (pl M2 i), .int .i64 (pp M2 i), .bool (pd M2 i)] 53)) hnb i).trans n0
                        have KA := K.below ((Below.refl _ wr).alloc (Nat.le_refl _) (.cells #[.int .i64 (pl M2 i), .int .i64 (pp M2 i), .bool (pd M2 i)] 53))
                        have oA := hown.below ((Below.refl _ wr).alloc (Nat.le_refl _) (.cells #[.int .i64 (pl M2 i), .int .i64 (pp M2 i), .bool (pd M2 i)] 53))
                        have pA := hP.alloc (.cells #[.int .i64 (pl M2 i), .int .i64 (pp M2 i), .bool (pd M2 i)] 53)
                        have bA := hb.alloc hsz (.cells #[.int .i64 (pl M2 i), .int .i64 (pp M2 i), .bool (pd M2 i)] 53)
                        have q2 := (HND.out i hin).1
                        have q3 := (HND.out i hin).2.1
                        have HEI := Lib.hid (HEY.out i hin)
                        clear K hown hP hb hnb n0
                        generalize nd L i = ni at *
                        cases hpd : pd M2 i with
                        | true =>
                          rw [hpd] at e2 KA oA pA bA nA
                          clear HEI
                          go_wp2
                          go_roundw
                          case rel => exact ⟨i + 1, by omega, by go_num, KA, oA, pA, bA, by simp; omega⟩
                          case measure => simp [intOf]; omega
                        | false =>
                          have hlt2 := HEI.out hpd
                          rw [hpd] at e2 KA oA pA bA nA
                          have hz0 : (n : Int) * (ni + 1) ≤ 8 * 1000001 := Int.mul_le_mul (by omega) (by omega) (by omega) (by omega)
                          have hz1 : 0 ≤ (n : Int) * (ni + 1) := Int.mul_nonneg (by omega) (by omega)
                          obtain ⟨Z, hZ⟩ : ∃ Z, (n : Int) * (ni + 1) = Z := ⟨_, rfl⟩
                          have HZ := Lib.hid hZ
                          rw [hZ] at hz0 hz1 hlt2
                          clear hZ
                          have hwZ : IntKind.i64.wrap ((n : Int) * (ni + 1)) = Z := by rw [HZ.out]; exact IntWalk.i64_in _ (by omega)
                          clear HEI
                          go_wp2
                          go_roundw
                          case rel => exact ⟨i + 1, by omega, by go_num, KA, oA, pA, bA, by simp; omega⟩
                          case measure => simp [intOf]; omega
                      · obtain rfl : n = i := by omega
                        clear hP
                        go_wp2
                        go_roundw
                        case rel => exact ⟨T + 1, Y, by omega, by omega, hYS, by go_num, HY, by rw [HS2.out]; exact K, hown, hb, hsz⟩
                        case measure => simp [intOf]; omega
                  · have HAX := Lib.hid (HAD.out X (by omega))
                    clear hown
                    go_wp2_with fail
                    refine (world_Peers K hN.2).mono ?_; rintro e wa ⟨pq2, pd2, rfl, hP, b2⟩
                    have hba := hb.trans (b2.mono hsz)
                    go_wp2_with fail
                    refine (contains_Peer (hP.sr encP_len) HAX.out).mono ?_; rintro e wb ⟨rfl, b3⟩
                    have hbb := hba.trans (b3.mono hba.size)
                    go_wp2
                    go_ret
                    exact ⟨rfl, hbb⟩
end Go.Proofs.Ytgnegemiiahkaaa
