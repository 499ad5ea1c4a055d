/- The contract of fifo.Run (P34). No conditions beyond what each theorem says. -/
import Derived.Test.YtggpcceljipelaaPackets
import Derived.Test.YtggpcceljipelaaWindow
namespace Go.Proofs.Ytggpcceljipelaa
open Go Go.RowKit

/-- when the first k packets have been served -/
def fin (xs : List (Int × Int × Int)) : Nat → Int
  | 0 => 0
  | k + 1 => max (fin xs k) (t0 xs k) + t1 xs k
theorem pscan_ok {xs : List (Int × Int × Int)} : ∀ {l : Int}, pscan l xs = 0 → ∀ j, j < xs.length → okPkt (t0 xs j) (t1 xs j) (t2 xs j) := by
  induction xs with
  | nil => intro l _ j hj; simp at hj
  | cons x r ih =>
    obtain ⟨a, s, f⟩ := x
    intro l h j hj
    unfold pscan at h
    by_cases ho : okPkt a s f
    · rw [if_neg (by simpa using ho)] at h
      by_cases hl : a < l
      · rw [if_pos hl] at h; omega
      · rw [if_neg hl] at h
        cases j with
        | zero => simpa [t0, t1, t2] using ho
        | succ j => simpa [t0, t1, t2] using ih h j (by simpa using hj)
    · rw [if_pos ho] at h; omega
theorem pack_ok {xs : List (Int × Int × Int)} (h : packErr xs = 0) : xs.length ≤ 60 ∧ ∀ j, j < xs.length → okPkt (t0 xs j) (t1 xs j) (t2 xs j) := by
  unfold packErr at h
  by_cases hl : xs.length > 60
  · rw [if_pos hl] at h; omega
  · rw [if_neg hl] at h; exact ⟨by omega, pscan_ok h⟩
theorem fin_bd {xs : List (Int × Int × Int)} (h : ∀ j, j < xs.length → okPkt (t0 xs j) (t1 xs j) (t2 xs j)) : ∀ k, k ≤ xs.length → 0 ≤ fin xs k ∧ fin xs k ≤ 200 + 1000 * (k : Int)
  | 0, _ => by simp [fin]
  | k + 1, hk => by
    have a := fin_bd h k (by omega)
    obtain ⟨b1, b2, b3, b4, _⟩ := h k (by omega)
    simp only [fin]
    omega
def FifoOf (xs : List (Int × Int × Int)) (L : List Int) (er : Int) : Prop := er = packErr xs ∧ L = if packErr xs = 0 then tab xs.length fun k => fin xs (k + 1) else []

set_option maxHeartbeats 1600000 in
theorem fifo_Run {w : World} {p : Option Addr} {n c : Nat} {xs : List (Int × Int × Int)} (h : S3 w p n c xs) :
    Calls Try.prog 38 #[.slice p n c] w (RetL w (FifoOf xs)) := by
  have hm := h.2.1
  go_enter Try.func38, Try.ntmps38
  go_wp2_with fail
  by_cases he : packErr xs = 0
  · obtain ⟨h60, hok⟩ := pack_ok he
    have hl := h.1
    rw [hl] at h60
    have HF := Lib.hid (show FifoOf xs (tab n fun k => fin xs (k + 1)) 0 from ⟨he.symm, by rw [if_pos he, hl]⟩)
    refine (bucket_Packets h he).mono ?_; rintro e w1 ⟨rfl, hb1⟩
    have hs1 := hb1.size
    have HO : ∀ j, j < n → okPkt (t0 xs j) (t1 xs j) (t2 xs j) := by rw [← hl]; exact hok
    have HBD : ∀ k, k ≤ n → 0 ≤ fin xs k ∧ fin xs k ≤ 200 + 1000 * (k : Int) := by rw [← hl]; exact fin_bd hok
    clear he hok hl
    go_wp2
    go_loopw [5, 6, 16] (fun v f i wr => ∃ (k : Nat) (q : Option Addr) (d : Nat), k ≤ n ∧ i = .int .i64 k ∧ f = .int .i64 (fin xs k) ∧ v = .slice q k d ∧ OwnI wr w.heap.size q k d (tab k fun j => fin xs (j + 1)) ∧ Below w.heap.size w wr) (fun _ _ i _ => n - (intOf i).toNat)
    case atStart => exact ⟨0, _, _, by omega, rfl, rfl, rfl, OwnI.nil _ _, hb1⟩
    case round =>
      obtain ⟨k, q, d, hk, rfl, rfl, rfl, ho, hb⟩ := hrel
      have hsz := hb.size
      by_cases hkn : k < n
      · obtain ⟨b, off, rfl, hlt, hc⟩ := h.cells (by omega)
        have hlr : b < wr.heap.size := by omega
        have c0 : wr.cell? ⟨b, off + k * 3, none⟩ = some (.int .i64 (t0 xs k)) := (bdeep hb hlt _).trans (hc k hkn).1
        have c1 : wr.cell? ⟨b, off + k * 3 + 1, none⟩ = some (.int .i64 (t1 xs k)) := (bdeep hb hlt _).trans (hc k hkn).2.1
        have c2 : wr.cell? ⟨b, off + k * 3 + 2, none⟩ = some (.int .i64 (t2 xs k)) := (bdeep hb hlt _).trans (hc k hkn).2.2
        obtain ⟨o1, o2, o3, o4, o5, o6⟩ := HO k hkn
        obtain ⟨e1, e2⟩ := HBD k (by omega)
        have HST := Lib.hid (show fin xs (k + 1) = max (fin xs k) (t0 xs k) + t1 xs k from rfl)
        have ha := hb.alloc hsz (.cells #[.int .i64 (t0 xs k), .int .i64 (t1 xs k), .int .i64 (t2 xs k)] 64)
        have ho2 := ho.below (Below.refl _ _ |>.alloc (Nat.le_refl _) (.cells #[.int .i64 (t0 xs k), .int .i64 (t1 xs k), .int .i64 (t2 xs k)] 64))
        have hsa := ha.size
        clear hc h HO HBD ho
        generalize hfk : fin xs k = fk at *
        have HFK := Lib.hid hfk; clear hfk
        go_wp2_with (at_builtin; refine wpL_push_int Try.tyInts rfl rfl (B := w.heap.size) (W0 := w) (by first | rfl | simp [Act.eval]) (by first | rfl | simp [Act.eval]) ho2 ha (by omega) hsa ?_; intro p' c' w3 ho1 hb3 hg1 _)
        all_goals
          go_roundw
          case rel => exact ⟨k + 1, _, _, by omega, by go_num, (by first | rfl | (rw [HST.out, ← HFK.out]; congr 1; omega)), rfl, by rw [tab_succ, HST.out]; exact ho1.cast (by first | rfl | (congr 2; omega)), hb3⟩
          case measure => simp [intOf]; omega
      · obtain rfl : n = k := by omega
        go_wp2
        go_ret2
        exact ⟨_, _, _, _, _, rfl, ho, hb, HF.out⟩
  · obtain ⟨er, her⟩ : ∃ er, packErr xs = er := ⟨_, rfl⟩
    have HF := Lib.hid (show FifoOf xs [] er from ⟨her.symm, by rw [if_neg he]⟩)
    refine (bucket_Packets h her).mono ?_; rintro e w1 ⟨rfl, hb1⟩
    have hne : ¬ er = 0 := by rw [← her]; exact he
    clear he her h
    go_wp2
    go_ret2
    exact ⟨_, _, _, _, _, rfl, OwnI.nil _ _, hb1, HF.out⟩

/-- how many of the first k packets are in the system at t -/
def inq (xs : List (Int × Int × Int)) (t : Int) : Nat → Int
  | 0 => 0
  | k + 1 => inq xs t k + if t0 xs k ≤ t ∧ t < fin xs (k + 1) then 1 else 0
theorem inq_bd (xs : List (Int × Int × Int)) (t : Int) : ∀ k : Nat, 0 ≤ inq xs t k ∧ inq xs t k ≤ (k : Int)
  | 0 => by simp [inq]
  | k + 1 => by have a := inq_bd xs t k; simp only [inq]; split <;> omega

set_option maxHeartbeats 1600000 in
theorem fifo_Count {w : World} {p : Option Addr} {n c : Nat} {xs : List (Int × Int × Int)} (h : S3 w p n c xs) {t : Int} :
    Calls Try.prog 39 #[.slice p n c, .int .i64 t] w fun e w' => e = .returned (.tuple #[.int .i64 (if packErr xs = 0 then inq xs t n else 0), .int .i64 (packErr xs)]) ∧ Below w.heap.size w w' := by
  have hm := h.2.1
  go_enter Try.func39, Try.ntmps39
  go_wp2_with fail
  refine (fifo_Run h).mono ?_; rintro e w1 ⟨q, m, d, L, er, rfl, ho, hb1, her, hL⟩
  by_cases he : packErr xs = 0
  · obtain ⟨h60, hok⟩ := pack_ok he
    rw [he] at her
    rw [if_pos he] at hL
    subst her hL
    have hl := h.1
    have hlen := ho.len
    rw [tab_length, hl] at hlen
    rw [hl] at h60 ho
    subst hlen
    have HE := Lib.hid he; clear he
    clear hok hl
    have hs1 := hb1.size
    go_wp2
    go_loopw [8, 21] (fun v i wr => ∃ k : Nat, k ≤ n ∧ i = .int .i64 k ∧ v = .int .i64 (inq xs t k) ∧ Below w.heap.size w wr ∧ Below w1.heap.size w1 wr) (fun _ i _ => n - (intOf i).toNat)
    case atStart => exact ⟨0, by omega, rfl, rfl, hb1, Below.refl _ _⟩
    case round =>
      obtain ⟨k, hk, rfl, rfl, hb, hb2⟩ := hrel
      have hsz := hb.size
      have hsz2 := hb2.size
      by_cases hkn : k < n
      · obtain ⟨b, off, rfl, hlt, hc⟩ := h.cells (by omega)
        obtain ⟨g, rfl⟩ := ho.addr (by omega)
        have hlr : b < wr.heap.size := by omega
        have c0 : wr.cell? ⟨b, off + k * 3, none⟩ = some (.int .i64 (t0 xs k)) := (bdeep hb hlt _).trans (hc k hkn).1
        have c1 : wr.cell? ⟨b, off + k * 3 + 1, none⟩ = some (.int .i64 (t1 xs k)) := (bdeep hb hlt _).trans (hc k hkn).2.1
        have c2 : wr.cell? ⟨b, off + k * 3 + 2, none⟩ = some (.int .i64 (t2 xs k)) := (bdeep hb hlt _).trans (hc k hkn).2.2
        have c4 : wr.cell? ⟨g, k, none⟩ = some (.int .i64 (fin xs (k + 1))) := (bdeep hb2 ho.blk.2 _).trans ((ho.at (j := k) hkn).trans (by rw [gi_tab hkn]))
        have hgl : g < wr.heap.size := by have := ho.blk.2; omega
        have HST := Lib.hid (show inq xs t (k + 1) = inq xs t k + if t0 xs k ≤ t ∧ t < fin xs (k + 1) then 1 else 0 from rfl)
        have hib := inq_bd xs t k
        have ha := hb.alloc hsz (.cells #[.int .i64 (t0 xs k), .int .i64 (t1 xs k), .int .i64 (t2 xs k)] 64)
        have ha2 := hb2.alloc hsz2 (.cells #[.int .i64 (t0 xs k), .int .i64 (t1 xs k), .int .i64 (t2 xs k)] 64)
        generalize fin xs (k + 1) = fk at *
        generalize inq xs t k = ik at *
        clear hc h ho hb hb2
        by_cases g1 : t0 xs k ≤ t
        · have g1' : decide (t0 xs k ≤ t) = true := by simp; omega
          by_cases g2 : t < fk
          · have g2' : decide (t < fk) = true := by simp; omega
            go_wp2
            go_roundw
            case rel => exact ⟨k + 1, by omega, by go_num, by rw [HST.out, if_pos ⟨g1, g2⟩], ha, ha2⟩
            case measure => simp [intOf]; omega
          · have g2' : decide (t < fk) = false := by simp; omega
            go_wp2
            go_roundw
            case rel => exact ⟨k + 1, by omega, by go_num, by rw [HST.out, if_neg (by omega)]; first | rfl | simp, ha, ha2⟩
            case measure => simp [intOf]; omega
        · have g1' : decide (t0 xs k ≤ t) = false := by simp; omega
          go_wp2
          go_roundw
          case rel => exact ⟨k + 1, by omega, by go_num, by rw [HST.out, if_neg (by omega)]; first | rfl | simp, ha, ha2⟩
          case measure => simp [intOf]; omega
      · obtain rfl : n = k := by omega
        go_wp2
        go_ret2
        exact ⟨by first | rfl | simp [HE.out], hb⟩
  · have hne : ¬ er = 0 := by rw [her]; exact he
    have HE := Lib.hid he; clear he
    have HR := Lib.hid her; clear her
    clear hL
    go_wp2
    go_ret2
    exact ⟨by simp [HR.out], hb1⟩

/-- P34 backwards: the sizes of the last u packets up to i, and the latest of the starts -/
def sz (xs : List (Int × Int × Int)) (i : Nat) : Nat → Int
  | 0 => 0
  | u + 1 => sz xs i u + t1 xs (i - u)
def best (xs : List (Int × Int × Int)) (i : Nat) : Nat → Int
  | 0 => 0
  | u + 1 => max (best xs i u) (t0 xs (i - u) + sz xs i (u + 1))
theorem best_fin {xs : List (Int × Int × Int)} (h : ∀ j, j < xs.length → okPkt (t0 xs j) (t1 xs j) (t2 xs j)) {i : Nat} (hi : i < xs.length) :
    ∀ u, u ≤ i + 1 → fin xs (i + 1) = max (best xs i u) (fin xs (i + 1 - u) + sz xs i u)
  | 0, _ => by
    have := fin_bd h (i + 1) (by omega)
    simp only [best, sz, Nat.sub_zero]
    omega
  | u + 1, hu => by
    have a := best_fin h hi u (by omega)
    have e : i + 1 - u = (i - u) + 1 := by omega
    rw [e] at a
    rw [show i + 1 - (u + 1) = i - u by omega]
    simp only [fin] at a
    simp only [best, sz, fin]
    omega
theorem best_all {xs : List (Int × Int × Int)} (h : ∀ j, j < xs.length → okPkt (t0 xs j) (t1 xs j) (t2 xs j)) {i : Nat} (hi : i < xs.length) : best xs i (i + 1) = fin xs (i + 1) := by
  have a := best_fin h hi (i + 1) (by omega)
  obtain ⟨b1, _⟩ := h 0 (by omega)
  rw [Nat.sub_self] at a
  simp only [best, sz, Nat.sub_self] at a ⊢
  simp only [fin] at a ⊢
  omega

theorem sz_bd {xs : List (Int × Int × Int)} (h : ∀ j, j < xs.length → okPkt (t0 xs j) (t1 xs j) (t2 xs j)) {i : Nat} (hi : i < xs.length) : ∀ u, 0 ≤ sz xs i u ∧ sz xs i u ≤ 1000 * (u : Int)
  | 0 => by simp [sz]
  | u + 1 => by
    have a := sz_bd h hi u
    obtain ⟨_, _, b3, b4, _⟩ := h (i - u) (by omega)
    simp only [sz]
    omega
theorem best_bd {xs : List (Int × Int × Int)} (h : ∀ j, j < xs.length → okPkt (t0 xs j) (t1 xs j) (t2 xs j)) {i : Nat} (hi : i < xs.length) : ∀ u, 0 ≤ best xs i u ∧ best xs i u ≤ 200 + 1000 * (u : Int)
  | 0 => by simp [best]
  | u + 1 => by
    have a := best_bd h hi u
    have c := sz_bd h hi (u + 1)
    obtain ⟨b1, b2, _⟩ := h (i - u) (by omega)
    simp only [best]
    omega

set_option maxHeartbeats 1600000 in
theorem ref_Served {w : World} {p : Option Addr} {n c : Nat} {xs : List (Int × Int × Int)} (h : S3 w p n c xs) (h60 : n ≤ 60) (hok : ∀ j, j < n → okPkt (t0 xs j) (t1 xs j) (t2 xs j)) :
    Calls Try.prog 41 #[.slice p n c] w fun e w' => ∃ q m d, e = .returned (.slice q m d) ∧ OwnI w' w.heap.size q m d (tab n fun k => fin xs (k + 1)) ∧ Below w.heap.size w w' := by
  have hm := h.2.1
  have hl := h.1
  have hok' : ∀ j, j < xs.length → okPkt (t0 xs j) (t1 xs j) (t2 xs j) := by rw [hl]; exact hok
  have HL := Lib.hid hl; clear hl
  go_enter Try.func41, Try.ntmps41
  go_wp2
  go_loopw [3, 10] (fun v i wr => ∃ (k : Nat) (q : Option Addr) (d : Nat), k ≤ n ∧ i = .int .i64 k ∧ v = .slice q k d ∧ OwnI wr w.heap.size q k d (tab k fun j => fin xs (j + 1)) ∧ Below w.heap.size w wr) (fun _ i _ => n - (intOf i).toNat)
  case atStart => exact ⟨0, _, _, by omega, rfl, rfl, OwnI.nil _ _, Below.refl _ _⟩
  case round =>
    obtain ⟨k, q, d, hk, rfl, rfl, ho, hb⟩ := hrel
    have hsz := hb.size
    by_cases hkn : k < n
    · obtain ⟨b, off, rfl, hlt, hc⟩ := h.cells (by omega)
      go_wp2
      go_loopw [5, 6, 7] (fun s v j ws => ∃ u : Nat, u ≤ k + 1 ∧ j = .int .i64 ((k : Int) - u) ∧ s = .int .i64 (best xs k u) ∧ v = .int .i64 (sz xs k u) ∧ ws = wr) (fun _ _ j _ => (intOf j + 1).toNat)
      case atStart => exact ⟨0, by omega, by simp, rfl, rfl, rfl⟩
      case round =>
        obtain ⟨u, hu, rfl, rfl, rfl, rfl⟩ := hrel
        have s1 := sz_bd hok' (i := k) (by rw [HL.out]; exact hkn) u
        have s2 := best_bd hok' (i := k) (by rw [HL.out]; exact hkn) u
        by_cases huk : u ≤ k
        · have c0 : wr.cell? ⟨b, off + (k - u) * 3, none⟩ = some (.int .i64 (t0 xs (k - u))) := (bdeep hb hlt _).trans (hc (k - u) (by omega)).1
          have c1 : wr.cell? ⟨b, off + (k - u) * 3 + 1, none⟩ = some (.int .i64 (t1 xs (k - u))) := (bdeep hb hlt _).trans (hc (k - u) (by omega)).2.1
          obtain ⟨o1, o2, o3, o4, _⟩ := hok (k - u) (by omega)
          have HS := Lib.hid (show sz xs k (u + 1) = sz xs k u + t1 xs (k - u) from rfl)
          have HB := Lib.hid (show best xs k (u + 1) = max (best xs k u) (t0 xs (k - u) + sz xs k (u + 1)) from rfl)
          have q2 : (0 : Int) ≤ (k : Int) - u := by omega
          have q3 : ((k : Int) - (u : Int)).toNat = k - u := by omega
          have q4 : (k : Int) - (u : Int) < (n : Int) := by omega
          generalize sz xs k u = su at *
          generalize best xs k u = bu at *
          clear hc h ho hok hok'
          go_wp2
          all_goals
            go_roundw
            case rel => exact ⟨u + 1, by omega, by go_num, by rw [HB.out, HS.out]; exact congrArg _ (by omega), by rw [HS.out], (by trivial)⟩
            case measure => simp [intOf]; omega
        · obtain rfl : u = k + 1 := by omega
          have q2 : ¬ (0 : Int) ≤ (k : Int) - ((k + 1 : Nat) : Int) := by omega
          have hbest := best_all hok' (i := k) (by rw [HL.out]; exact hkn)
          have HBE := Lib.hid hbest; clear hbest
          generalize sz xs k (k + 1) = su at *
          generalize best xs k (k + 1) = bu at *
          clear hc h hok hok'
          go_wp2_with (at_builtin; refine wpL_push_int Try.tyInts rfl rfl (B := w.heap.size) (W0 := w) (by first | rfl | simp [Act.eval]) (by first | rfl | simp [Act.eval]) ho hb (by omega) hsz ?_; intro p' c' w3 ho1 hb3 hg1 _)
          go_roundw
          case rel => exact ⟨k + 1, _, _, by omega, by go_num, rfl, by rw [tab_succ, ← HBE.out]; exact ho1, hb3⟩
          case measure => simp [intOf]; omega
    · obtain rfl : n = k := by omega
      go_wp2
      go_ret
      exact ⟨_, _, _, rfl, ho, hb⟩
end Go.Proofs.Ytggpcceljipelaa
