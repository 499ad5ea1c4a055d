/- The walk of headlaw.RanksRuns: it returns true and changes nothing that was there. No conditions. -/
import Derived.Test.YtgnegemiiahkaaaTaskSort
import Derived.Test.YtgnegemiiahkaaaRanked
import Derived.Test.YtgnegemiiahkaaaEqual
namespace Go.Proofs.Ytgnegemiiahkaaa
open Go Go.RowKit
set_option linter.unusedVariables false
set_option linter.unusedSimpArgs false

theorem ranks_Order_bad {w : World} {p : Option Addr} {n c : Nat} {xs : List (Int × Int × Int)} (h : S3 w p n c xs) {er : Int} (he : tasksErr xs = er) (h0 : er ≠ 0) :
    Calls Try.prog 32 #[.slice p n c] w fun e w' => e = .returned (.tuple #[.slice none 0 0, .int .i64 er]) ∧ Below w.heap.size w w' := by
  have hb : (er == 0) = false := by simp [h0]
  go_enter Try.func32, Try.ntmps32
  go_wp2_with fail
  refine (ranks_Check h he).mono ?_; rintro e w' ⟨rfl, b1⟩
  go_wp2
  go_ret2
  exact ⟨rfl, b1⟩
set_option maxHeartbeats 800000 in
theorem ranks_Order_ok {w : World} {p : Option Addr} {n c : Nat} {xs : List (Int × Int × Int)} (h : S3 w p n c xs) (he : tasksErr xs = 0) :
    Calls Try.prog 32 #[.slice p n c] w fun e w' => ∃ q d o, e = .returned (.tuple #[.slice q n d, .int .i64 0]) ∧ OrderE (t2 xs) o n ∧ S3 w' q n d (tab n fun k => elE xs o n k) ∧ Below w.heap.size w w' := by
  obtain ⟨h5, hok⟩ := tasks_ok he
  rw [h.1] at h5
  have HA : Hid (∀ j, j < n → 0 ≤ t2 xs j ∧ t2 xs j ≤ 60) := Lib.hid (fun j hj => by have := hok j (by rw [h.1]; exact hj); unfold okTask at this; omega)
  have HE := Lib.hid he
  clear hok he
  go_enter Try.func32, Try.ntmps32
  go_wp2_with fail
  refine (ranks_Check h HE.out).mono ?_; rintro e w1 ⟨rfl, b1⟩
  go_wp2_with fail
  refine (clone_Task (h.below b1) (by omega)).mono ?_; rintro e w2 ⟨q, d, rfl, ho, b2⟩
  have hs := b2.size
  have B2 := b1.trans (b2.mono b1.size)
  go_wp2_with fail
  refine (sort_anyT HA.out hs (by omega) ho).mono ?_; rintro e w3 ⟨rfl, o, hO, ho3, b3⟩
  have HO := Lib.hid hO
  have B3 := B2.trans (b3.mono b1.size)
  have HS := Lib.hid (ho3.sr enc3_len).s3
  clear hO ho3 ho b1 b2 b3 B2 h
  go_wp2
  go_ret2
  exact ⟨_, _, o, rfl, HO.out, HS.out, B3⟩

/-! the order, due by due -/
/-- so far: all tasks that are due before d, and of those due at d the first i -/
structure SoFar (D : Nat → Int) (n : Nat) (d i cnt : Nat) (e : Nat → Nat) : Prop where
  mem : ∀ k, k < cnt → e k < n ∧ (D (e k) < (d : Int) ∨ (D (e k) = (d : Int) ∧ e k < i))
  all : ∀ x, x < n → (D x < (d : Int) ∨ (D x = (d : Int) ∧ x < i)) → ∃ k, k < cnt ∧ e k = x
  up : ∀ a b, a < b → b < cnt → lexlt D (e a) (e b)
theorem SoFar.start {D : Nat → Int} {n : Nat} (h : ∀ x, x < n → 0 ≤ D x) : SoFar D n 0 0 0 (fun k => k) :=
  ⟨fun k hk => by omega, fun x hx hh => by have := h x hx; omega, fun a b _ hb => by omega⟩
theorem SoFar.next {D : Nat → Int} {n d cnt : Nat} {e : Nat → Nat} (h : SoFar D n d n cnt e) : SoFar D n (d + 1) 0 cnt e :=
  ⟨fun k hk => ⟨(h.mem k hk).1, .inl (by rcases (h.mem k hk).2 with h | h <;> omega)⟩, fun x hx hh => h.all x hx (by
    rcases hh with hh | hh
    · by_cases e1 : D x < (d : Int)
      · exact .inl e1
      · exact .inr ⟨by omega, hx⟩
    · omega), h.up⟩
theorem SoFar.skip {D : Nat → Int} {n d i cnt : Nat} {e : Nat → Nat} (h : SoFar D n d i cnt e) (hi : D i ≠ (d : Int)) : SoFar D n d (i + 1) cnt e :=
  ⟨fun k hk => ⟨(h.mem k hk).1, by rcases (h.mem k hk).2 with h | h; exact .inl h; exact .inr ⟨h.1, by omega⟩⟩, fun x hx hh => h.all x hx (by
    rcases hh with hh | hh
    · exact .inl hh
    · refine .inr ⟨hh.1, ?_⟩
      by_cases e1 : x = i
      · subst e1; exact absurd hh.1 hi
      · omega), h.up⟩
theorem SoFar.push {D : Nat → Int} {n d i cnt : Nat} {e : Nat → Nat} (h : SoFar D n d i cnt e) (hin : i < n) (hi : D i = (d : Int)) : SoFar D n d (i + 1) (cnt + 1) (fun k => if k < cnt then e k else i) := by
  refine ⟨fun k hk => ?_, fun x hx hh => ?_, fun a b hab hb => ?_⟩
  · by_cases e1 : k < cnt
    · simp only [if_pos e1]
      refine ⟨(h.mem k e1).1, ?_⟩
      rcases (h.mem k e1).2 with h | h
      · exact .inl h
      · exact .inr ⟨h.1, by omega⟩
    · simp only [if_neg e1]
      exact ⟨hin, .inr ⟨hi, by omega⟩⟩
  · by_cases e1 : x = i
    · exact ⟨cnt, by omega, by simp only [if_neg (Nat.lt_irrefl cnt)]; exact e1.symm⟩
    · obtain ⟨k, hk, he⟩ := h.all x hx (by
        rcases hh with hh | hh
        · exact .inl hh
        · exact .inr ⟨hh.1, by omega⟩)
      exact ⟨k, by omega, by simp only [if_pos hk]; exact he⟩
  · by_cases e2 : b < cnt
    · simp only [if_pos e2, if_pos (show a < cnt by omega)]
      exact h.up a b hab e2
    · simp only [if_neg e2, if_pos (show a < cnt by omega)]
      have := (h.mem a (by omega)).2
      unfold lexlt
      omega
/-- two lists in order of the same are one -/
theorem order_same {D : Nat → Int} {n cnt : Nat} {o e : Nat → Nat} (hO : OrderE D o n) (hm : ∀ k, k < cnt → e k < n) (ha : ∀ x, x < n → ∃ k, k < cnt ∧ e k = x) (hu : ∀ a b, a < b → b < cnt → lexlt D (e a) (e b)) : ∀ k, (k < cnt → k < n) ∧ (k < n → k < cnt ∧ e k = o k) := by
  intro k
  induction k using Nat.strongRecOn with
  | _ k ih =>
    have key : k < n → k < cnt ∧ e k = o k := by
      intro hk
      obtain ⟨l, hl, hle⟩ := ha (o k) (hO.lt k hk)
      have hkl : k ≤ l := by
        apply Nat.not_lt.1
        intro hlt
        have := ((ih l hlt).2 (by omega)).2
        rw [hle] at this
        have := hO.inj hk (by omega) this
        omega
      have hkc : k < cnt := by omega
      refine ⟨hkc, ?_⟩
      obtain ⟨r, hr, hre⟩ := hO.all (e k) (hm k hkc)
      have hkr : k ≤ r := by
        apply Nat.not_lt.1
        intro hlt
        have h1 := ((ih r hlt).2 hr).2
        have := hu r k hlt hkc
        rw [h1, hre] at this
        exact lexlt_irr this
      by_cases e1 : k = l
      · rw [e1] at hle ⊢; rw [hle]
      · have h1 := hu k l (by omega) hl
        rw [hle] at h1
        by_cases e2 : k = r
        · rw [← hre, e2]
        · have h2 := hO.mono r k (by omega) hr
          rw [hre] at h2
          exact absurd (lexlt_trans h1 h2) lexlt_irr
    refine ⟨fun hk => ?_, key⟩
    apply Classical.byContradiction
    intro hkn
    obtain ⟨r, hr, hre⟩ := hO.all (e k) (hm k hk)
    have h1 := ((ih r (by omega)).2 hr)
    have := hu r k (by omega) hk
    rw [h1.2, hre] at this
    exact lexlt_irr this
theorem order_done {D : Nat → Int} {n cnt : Nat} {o e : Nat → Nat} (hO : OrderE D o n) (hD : ∀ x, x < n → D x ≤ 60) (h : SoFar D n 61 0 cnt e) : cnt = n ∧ ∀ k, k < n → e k = o k := by
  have hs := order_same hO (fun k hk => (h.mem k hk).1) (fun x hx => h.all x hx (.inl (by have := hD x hx; omega))) h.up
  refine ⟨?_, fun k hk => ((hs k).2 hk).2⟩
  apply Nat.le_antisymm
  · apply Nat.not_lt.1
    intro hlt
    have := (hs n).1 hlt
    omega
  · apply Nat.not_lt.1
    intro hlt
    have := ((hs cnt).2 hlt).1
    omega

set_option maxHeartbeats 1600000 in
theorem ranksRuns_bad {w : World} {p : Option Addr} {n c : Nat} {xs : List (Int × Int × Int)} {hh : Int} (h : S3 w p n c xs) {er : Int} (he : tasksErr xs = er) (h0 : er ≠ 0) :
    Calls Try.prog 6 #[.slice p n c, .int .i64 hh] w fun e w' => e = .returned (.bool true) ∧ Below w.heap.size w w' := by
  have hz : (er == 0) = false := by simp [h0]
  have hm := h.2.1
  have HE := Lib.hid he; have H0 := Lib.hid h0
  clear he h0
  go_enter Try.func6, Try.ntmps6
  go_wp2_with fail
  refine (ranks_Order_bad h HE.out H0.out).mono ?_; rintro e w1 ⟨rfl, b1⟩
  have h1 := h.below b1
  go_wp2_with fail
  refine (ranks_Run_bad h1 HE.out H0.out).mono ?_; rintro e w2 ⟨rfl, b2⟩
  have h2 := h1.below b2
  have B2 := b1.trans (b2.mono b1.size)
  clear h h1 b1 b2
  go_wp2_with fail
  refine (ref_Tasks h2 HE.out).mono ?_; rintro e w3 ⟨rfl, b3⟩
  have B3 := B2.trans (b3.mono B2.size)
  go_wp2
  go_ret
  exact ⟨rfl, B3⟩
set_option maxRecDepth 100000 in
set_option maxHeartbeats 3200000 in
theorem ranksRuns_arg {w : World} {p : Option Addr} {n c : Nat} {xs : List (Int × Int × Int)} {hh : Int} (hl : hh < 0 ∨ 200 < hh) (h : S3 w p n c xs) (he : tasksErr xs = 0) :
    Calls Try.prog 6 #[.slice p n c, .int .i64 hh] w fun e w' => e = .returned (.bool true) ∧ Below w.heap.size w w' := by
  have hm := h.2.1
  obtain ⟨h5, hok⟩ := tasks_ok he
  rw [h.1] at h5
  have HE := Lib.hid he
  have HD : Hid (∀ x, x < n → 0 ≤ t2 xs x ∧ t2 xs x ≤ 60) := Lib.hid (fun j hj => by have := hok j (by rw [h.1]; exact hj); unfold okTask at this; omega)
  clear hok he
  go_enter Try.func6, Try.ntmps6
  go_wp2_with fail
  refine (ranks_Order_ok h HE.out).mono ?_; rintro e w1 ⟨q, d, o, rfl, hO, s1, b1⟩
  have HO := Lib.hid hO
  have h1 := h.below b1
  clear hO h
  go_wp2_with fail
  refine (ranks_Run_arg h1 HE.out hl).mono ?_; rintro e w2 ⟨rfl, b2⟩
  have h2 := h1.below b2
  have s2 := s1.below b2
  have B2 := b1.trans (b2.mono b1.size)
  clear h1 s1 b1 b2
  go_wp2_with fail
  refine (ref_Tasks h2 HE.out).mono ?_; rintro e w3 ⟨rfl, b3⟩
  have h3 := h2.below b3
  have s3 := s2.below b3
  have B3 := B2.trans (b3.mono B2.size)
  clear h2 s2 b3 B2
  go_wp2
  go_loopw [10, 47] (fun v dv wr => ∃ (due cnt : Nat) (q' : Option Addr) (d' : Nat) (e' : Nat → Nat), due ≤ 61 ∧ dv = .int .i64 due ∧ v = .slice q' cnt d' ∧ cnt ≤ due * 5 ∧ OwnR 66 enc3 3 wr w3.heap.size q' cnt d' (tab cnt fun k => elE xs e' n k) ∧ Hid (SoFar (t2 xs) n due 0 cnt e') ∧ Below w3.heap.size w3 wr) (fun _ dv _ => 61 - (intOf dv).toNat)
  case atStart => exact ⟨0, 0, none, 0, fun k => k, by omega, rfl, rfl, by omega, OwnR.nil _ _, Lib.hid (SoFar.start (fun x hx => (HD.out x hx).1)), Below.refl _ _⟩
  case round =>
    obtain ⟨due, cnt, q', d', e', hdue, rfl, rfl, hcnt, ho, HF, hb⟩ := hrel
    by_cases hd61 : due < 61
    · have hdd : decide ((due : Int) < 61) = true := by simp; omega
      go_wp2
      go_loopw [10, 52] (fun v iv wr => ∃ (i cnt : Nat) (q' : Option Addr) (d' : Nat) (e' : Nat → Nat), i ≤ n ∧ iv = .int .i64 i ∧ v = .slice q' cnt d' ∧ cnt ≤ due * 5 + i ∧ OwnR 66 enc3 3 wr w3.heap.size q' cnt d' (tab cnt fun k => elE xs e' n k) ∧ Hid (SoFar (t2 xs) n due i cnt e') ∧ Below w3.heap.size w3 wr) (fun _ iv _ => n - (intOf iv).toNat)
      case atStart => exact ⟨0, cnt, q', d', e', by omega, rfl, rfl, by omega, ho, HF, hb⟩
      case round =>
        clear ho HF hb hcnt
        obtain ⟨i, cnt, q', d', e', hi, rfl, rfl, hcnt, ho, HF, hb⟩ := hrel
        have hsz := hb.size
        by_cases hin : i < n
        · obtain ⟨b, off, hp, hlt, hc⟩ := h3.cells (by omega)
          subst hp
          have c0 : wr.cell? ⟨b, off + i * 3, none⟩ = some (.int .i64 (t0 xs i)) := (bdeep hb hlt _).trans (hc i hin).1
          have c1 : wr.cell? ⟨b, off + i * 3 + 1, none⟩ = some (.int .i64 (t1 xs i)) := (bdeep hb hlt _).trans (hc i hin).2.1
          have c2 : wr.cell? ⟨b, off + i * 3 + 2, none⟩ = some (.int .i64 (t2 xs i)) := (bdeep hb hlt _).trans (hc i hin).2.2
          have hbA := hb.alloc hsz (.cells #[.int .i64 (t0 xs i), .int .i64 (t1 xs i), .int .i64 (t2 xs i)] 66)
          have hoA := ho.alloc (.cells #[.int .i64 (t0 xs i), .int .i64 (t1 xs i), .int .i64 (t2 xs i)] 66)
          have hszA := hbA.size
          clear hc
          by_cases hdq : t2 xs i = (due : Int)
          · have hd : (t2 xs i == (due : Int)) = true := by simp [hdq]
            have HN := Lib.hid (HF.out.push hin hdq)
            have HDQ := Lib.hid hdq
            clear hdq
            go_wp2_with (at_builtin; refine wpL_push_R Try.tyTasks rfl (by omega) (by omega) enc3_len enc3_one rfl (B := w3.heap.size) (W0 := w3) rfl (t0 xs i, t1 xs i, t2 xs i) (by first | rfl | simp [Act.eval]) (by first | rfl | simp [Act.eval]) hoA hbA (by omega) hszA ?_; intro p8 c8 w8 ho8 hb8 hg8 hp8)
            have hoN : OwnR 66 enc3 3 w8 w3.heap.size p8 (cnt + 1) c8 (tab (cnt + 1) fun k => elE xs (fun k => if k < cnt then e' k else i) n k) := ho8.cast (by
              rw [tab_succ]
              congr 1
              · refine tab_congr fun k hk => ?_
                unfold elE
                simp only [if_pos hk]
              · unfold elE
                simp only [if_neg (Nat.lt_irrefl cnt)])
            go_roundw
            case rel => exact ⟨i + 1, cnt + 1, _, _, _, by omega, by go_num, rfl, by omega, hoN, HN, hb8⟩
            case measure => simp [intOf]; omega
          · have hd : (t2 xs i == (due : Int)) = false := by simp [hdq]
            have HN := Lib.hid (HF.out.skip hdq)
            clear hdq
            go_wp2
            go_roundw
            case rel => exact ⟨i + 1, cnt, _, _, _, by omega, by go_num, rfl, by omega, hoA, HN, hbA⟩
            case measure => simp [intOf]; omega
        · obtain rfl : n = i := by omega
          have HN := Lib.hid HF.out.next
          go_wp2
          go_roundw
          case rel => exact ⟨due + 1, cnt, _, _, _, by omega, by go_num, rfl, by omega, ho, HN, hb⟩
          case measure => simp [intOf]; omega
    · obtain rfl : due = 61 := by omega
      obtain ⟨hcn, heq⟩ := order_done HO.out (fun x hx => (HD.out x hx).2) HF.out
      subst hcn
      have s4 := s3.below hb
      have e4 := (ho.toT (z' := fun k => elE xs o cnt k) (fun k hk => by unfold elE; rw [heq k hk])).sr enc3_len
      have S4 := Lib.hid s4; have E4 := Lib.hid e4.s3
      have B4 := B3.trans (hb.mono B3.size)
      clear s3 s4 e4 ho hb heq
      go_wp2_with fail
      refine (equal_Task S4.out E4.out).mono ?_; rintro e w5 ⟨rfl, b5⟩
      have B5 := B4.trans (b5.mono B4.size)
      rcases (show hh < 0 ∨ (0 ≤ hh ∧ 200 < hh) by omega) with g1 | ⟨g1, g2⟩
      all_goals
        go_wp2
        go_ret
        exact ⟨rfl, B5⟩

set_option maxRecDepth 100000 in
set_option maxHeartbeats 3200000 in
theorem ranksRuns_in {w : World} {p : Option Addr} {n c : Nat} {xs : List (Int × Int × Int)} {m : Nat} (hl : m ≤ 200) (h : S3 w p n c xs) (he : tasksErr xs = 0) :
    Calls Try.prog 6 #[.slice p n c, .int .i64 m] w fun e w' => e = .returned (.bool true) ∧ Below w.heap.size w w' := by
  have hm := h.2.1
  obtain ⟨h5, hok⟩ := tasks_ok he
  rw [h.1] at h5
  have HE := Lib.hid he
  have HD : Hid (∀ x, x < n → 0 ≤ t2 xs x ∧ t2 xs x ≤ 60) := Lib.hid (fun j hj => by have := hok j (by rw [h.1]; exact hj); unfold okTask at this; omega)
  clear hok he
  go_enter Try.func6, Try.ntmps6
  go_wp2_with fail
  refine (ranks_Order_ok h HE.out).mono ?_; rintro e w1 ⟨q, d, o, rfl, hO, s1, b1⟩
  have HO := Lib.hid hO
  have h1 := h.below b1
  clear hO h
  go_wp2_with fail
  refine (ranks_Run_ok h1 HE.out hl).mono ?_; rintro e w2 ⟨qr, dr, rfl, sr, b2⟩
  have h2 := h1.below b2
  have s2 := s1.below b2
  have B2 := b1.trans (b2.mono b1.size)
  clear h1 s1 b1 b2
  go_wp2_with fail
  refine (ref_Tasks h2 HE.out).mono ?_; rintro e w3 ⟨rfl, b3⟩
  have h3 := h2.below b3
  have s3 := s2.below b3
  have sr3 := sr.below b3
  have B3 := B2.trans (b3.mono B2.size)
  clear h2 s2 b3 B2 sr
  go_wp2
  go_loopw [10, 47] (fun v dv wr => ∃ (due cnt : Nat) (q' : Option Addr) (d' : Nat) (e' : Nat → Nat), due ≤ 61 ∧ dv = .int .i64 due ∧ v = .slice q' cnt d' ∧ cnt ≤ due * 5 ∧ OwnR 66 enc3 3 wr w3.heap.size q' cnt d' (tab cnt fun k => elE xs e' n k) ∧ Hid (SoFar (t2 xs) n due 0 cnt e') ∧ Below w3.heap.size w3 wr) (fun _ dv _ => 61 - (intOf dv).toNat)
  case atStart => exact ⟨0, 0, none, 0, fun k => k, by omega, rfl, rfl, by omega, OwnR.nil _ _, Lib.hid (SoFar.start (fun x hx => (HD.out x hx).1)), Below.refl _ _⟩
  case round =>
    obtain ⟨due, cnt, q', d', e', hdue, rfl, rfl, hcnt, ho, HF, hb⟩ := hrel
    by_cases hd61 : due < 61
    · have hdd : decide ((due : Int) < 61) = true := by simp; omega
      go_wp2
      go_loopw [10, 52] (fun v iv wr => ∃ (i cnt : Nat) (q' : Option Addr) (d' : Nat) (e' : Nat → Nat), i ≤ n ∧ iv = .int .i64 i ∧ v = .slice q' cnt d' ∧ cnt ≤ due * 5 + i ∧ OwnR 66 enc3 3 wr w3.heap.size q' cnt d' (tab cnt fun k => elE xs e' n k) ∧ Hid (SoFar (t2 xs) n due i cnt e') ∧ Below w3.heap.size w3 wr) (fun _ iv _ => n - (intOf iv).toNat)
      case atStart => exact ⟨0, cnt, q', d', e', by omega, rfl, rfl, by omega, ho, HF, hb⟩
      case round =>
        clear ho HF hb hcnt
        obtain ⟨i, cnt, q', d', e', hi, rfl, rfl, hcnt, ho, HF, hb⟩ := hrel
        have hsz := hb.size
        by_cases hin : i < n
        · obtain ⟨b, off, hp, hlt, hc⟩ := h3.cells (by omega)
          subst hp
          have c0 : wr.cell? ⟨b, off + i * 3, none⟩ = some (.int .i64 (t0 xs i)) := (bdeep hb hlt _).trans (hc i hin).1
          have c1 : wr.cell? ⟨b, off + i * 3 + 1, none⟩ = some (.int .i64 (t1 xs i)) := (bdeep hb hlt _).trans (hc i hin).2.1
          have c2 : wr.cell? ⟨b, off + i * 3 + 2, none⟩ = some (.int .i64 (t2 xs i)) := (bdeep hb hlt _).trans (hc i hin).2.2
          have hbA := hb.alloc hsz (.cells #[.int .i64 (t0 xs i), .int .i64 (t1 xs i), .int .i64 (t2 xs i)] 66)
          have hoA := ho.alloc (.cells #[.int .i64 (t0 xs i), .int .i64 (t1 xs i), .int .i64 (t2 xs i)] 66)
          have hszA := hbA.size
          clear hc
          by_cases hdq : t2 xs i = (due : Int)
          · have hd : (t2 xs i == (due : Int)) = true := by simp [hdq]
            have HN := Lib.hid (HF.out.push hin hdq)
            have HDQ := Lib.hid hdq
            clear hdq
            go_wp2_with (at_builtin; refine wpL_push_R Try.tyTasks rfl (by omega) (by omega) enc3_len enc3_one rfl (B := w3.heap.size) (W0 := w3) rfl (t0 xs i, t1 xs i, t2 xs i) (by first | rfl | simp [Act.eval]) (by first | rfl | simp [Act.eval]) hoA hbA (by omega) hszA ?_; intro p8 c8 w8 ho8 hb8 hg8 hp8)
            have hoN : OwnR 66 enc3 3 w8 w3.heap.size p8 (cnt + 1) c8 (tab (cnt + 1) fun k => elE xs (fun k => if k < cnt then e' k else i) n k) := ho8.cast (by
              rw [tab_succ]
              congr 1
              · refine tab_congr fun k hk => ?_
                unfold elE
                simp only [if_pos hk]
              · unfold elE
                simp only [if_neg (Nat.lt_irrefl cnt)])
            go_roundw
            case rel => exact ⟨i + 1, cnt + 1, _, _, _, by omega, by go_num, rfl, by omega, hoN, HN, hb8⟩
            case measure => simp [intOf]; omega
          · have hd : (t2 xs i == (due : Int)) = false := by simp [hdq]
            have HN := Lib.hid (HF.out.skip hdq)
            clear hdq
            go_wp2
            go_roundw
            case rel => exact ⟨i + 1, cnt, _, _, _, by omega, by go_num, rfl, by omega, hoA, HN, hbA⟩
            case measure => simp [intOf]; omega
        · obtain rfl : n = i := by omega
          have HN := Lib.hid HF.out.next
          go_wp2
          go_roundw
          case rel => exact ⟨due + 1, cnt, _, _, _, by omega, by go_num, rfl, by omega, ho, HN, hb⟩
          case measure => simp [intOf]; omega
    · obtain rfl : due = 61 := by omega
      obtain ⟨hcn, heq⟩ := order_done HO.out (fun x hx => (HD.out x hx).2) HF.out
      subst hcn
      have s4 := s3.below hb
      have e4 := (ho.toT (z' := fun k => elE xs o cnt k) (fun k hk => by unfold elE; rw [heq k hk])).sr enc3_len
      have S4 := Lib.hid s4; have E4 := Lib.hid e4.s3
      have B4 := B3.trans (hb.mono B3.size)
      have sr4 := sr3.below hb
      have h4 := h3.below hb
      clear s3 s4 e4 ho hb heq
      go_wp2_with fail
      refine (equal_Task S4.out E4.out).mono ?_; rintro e w5 ⟨rfl, b5⟩
      have B5 := B4.trans (b5.mono B4.size)
      have sr5 := sr4.below b5
      go_wp2_with fail
      refine (ref_Ranked (h4.below b5) HE.out hl).mono ?_; rintro e w6 ⟨q6, d6, rfl, s6, b6⟩
      have B6 := B5.trans (b6.mono B5.size)
      go_wp2_with fail
      refine (slices_Equal (sr5.below b6) s6 (r := true) (by simp)).mono ?_; rintro e w7 ⟨rfl, b7⟩
      have B7 := B6.trans (b7.mono B6.size)
      go_wp2
      go_ret
      exact ⟨rfl, B7⟩

theorem ranksRuns_walk {w : World} {p : Option Addr} {n c : Nat} {xs : List (Int × Int × Int)} {hh : Int} (h : S3 w p n c xs) (_ : ∀ j, j < n → (-9223372036854775808 ≤ t0 xs j ∧ t0 xs j ≤ 9223372036854775807) ∧ (-9223372036854775808 ≤ t1 xs j ∧ t1 xs j ≤ 9223372036854775807) ∧ (-9223372036854775808 ≤ t2 xs j ∧ t2 xs j ≤ 9223372036854775807)) (_ : -9223372036854775808 ≤ hh ∧ hh ≤ 9223372036854775807) :
    Calls Try.prog 6 #[.slice p n c, .int .i64 hh] w fun e w' => e = .returned (.bool true) ∧ Below w.heap.size w w' := by
  by_cases h0 : tasksErr xs = 0
  · by_cases hl : hh < 0 ∨ 200 < hh
    · exact ranksRuns_arg hl h h0
    · obtain ⟨m, rfl⟩ := Int.eq_ofNat_of_zero_le (show 0 ≤ hh by omega)
      exact ranksRuns_in (by omega) h h0
  · exact ranksRuns_bad h rfl h0
end Go.Proofs.Ytgnegemiiahkaaa
