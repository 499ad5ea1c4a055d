/- The plain law of P44: job by job in the order of their Dues, as time by time. No program is in sight. -/
import Derived.Test.YtgnegemiiahkaaaTasksLaw
namespace Go.Proofs.Ytgnegemiiahkaaa
open Go Go.RowKit

/-- x is ahead of y -/
def lexlt (D : Nat → Int) (x y : Nat) : Prop := D x < D y ∨ (D x = D y ∧ x < y)
theorem lexlt_trans {D : Nat → Int} {x y z : Nat} (h : lexlt D x y) (k : lexlt D y z) : lexlt D x z := by
  unfold lexlt at *; omega
theorem lexlt_irr {D : Nat → Int} {x : Nat} : ¬ lexlt D x x := by unfold lexlt; omega
/-- e lists 0 .. i-1 in order -/
structure OrderE (D : Nat → Int) (e : Nat → Nat) (i : Nat) : Prop where
  lt : ∀ k, k < i → e k < i
  all : ∀ x, x < i → ∃ k, k < i ∧ e k = x
  up : ∀ k, k + 1 < i → lexlt D (e k) (e (k + 1))
theorem OrderE.mono {D : Nat → Int} {e : Nat → Nat} {i : Nat} (h : OrderE D e i) : ∀ b a, a < b → b < i → lexlt D (e a) (e b)
  | 0, a, hab, _ => by omega
  | b + 1, a, hab, hb => by
    by_cases e1 : a = b
    · subst e1; exact h.up a hb
    · exact lexlt_trans (h.mono b a (by omega) (by omega)) (h.up b hb)
theorem OrderE.inj {D : Nat → Int} {e : Nat → Nat} {i a b : Nat} (h : OrderE D e i) (ha : a < i) (hb : b < i) (he : e a = e b) : a = b := by
  rcases Nat.lt_trichotomy a b with h1 | h1 | h1
  · have := h.mono b a h1 hb; rw [he] at this; exact absurd this lexlt_irr
  · exact h1
  · have := h.mono a b h1 ha; rw [he] at this; exact absurd this lexlt_irr
theorem OrderE.one (D : Nat → Int) (e : Nat → Nat) (h : e 0 = 0) : OrderE D e 1 :=
  ⟨fun k hk => by obtain rfl : k = 0 := by omega
                  omega, fun x hx => ⟨0, by omega, by omega⟩, fun k hk => by omega⟩
/-- i is put in at place j -/
def insE (e : Nat → Nat) (i j k : Nat) : Nat := if k < j then e k else if k = j then i else e (k - 1)
theorem OrderE.ins {D : Nat → Int} {e : Nat → Nat} {i j : Nat} (h : OrderE D e i) (hj : j ≤ i) (h1 : ∀ k, j ≤ k → k < i → D i < D (e k)) (h2 : j = 0 ∨ D (e (j - 1)) ≤ D i) : OrderE D (insE e i j) (i + 1) := by
  refine ⟨fun k hk => ?_, fun x hx => ?_, fun k hk => ?_⟩
  · unfold insE
    split
    · have := h.lt k (by omega); omega
    · split
      · omega
      · have := h.lt (k - 1) (by omega); omega
  · by_cases e1 : x = i
    · exact ⟨j, by omega, by unfold insE; rw [if_neg (by omega), if_pos rfl]; exact e1.symm⟩
    · obtain ⟨k, hk, he⟩ := h.all x (by omega)
      by_cases e2 : k < j
      · exact ⟨k, by omega, by unfold insE; rw [if_pos e2]; exact he⟩
      · exact ⟨k + 1, by omega, by unfold insE; rw [if_neg (by omega), if_neg (by omega)]; simpa using he⟩
  · unfold insE
    by_cases e1 : k + 1 < j
    · rw [if_pos (by omega), if_pos e1]; exact h.up k (by omega)
    · by_cases e2 : k + 1 = j
      · rw [if_pos (by omega), if_neg (by omega), if_pos e2]
        have h3 := h.lt k (by omega)
        rcases h2 with h2 | h2
        · omega
        · rw [show j - 1 = k by omega] at h2
          unfold lexlt; omega
      · by_cases e3 : k = j
        · rw [if_neg (by omega), if_pos e3, if_neg (by omega), if_neg (by omega)]
          rw [show k + 1 - 1 = j by omega]
          exact .inl (h1 j (Nat.le_refl _) (by omega))
        · rw [if_neg (by omega), if_neg e3, if_neg (by omega), if_neg (by omega)]
          have := h.up (k - 1) (by omega)
          rwa [show k - 1 + 1 = k + 1 - 1 by omega] at this

/-- x has a place before k -/
def RankB (e : Nat → Nat) (k x : Nat) : Prop := ∃ r, r < k ∧ e r = x
theorem rankB_succ {e : Nat → Nat} {k x : Nat} : RankB e (k + 1) x ↔ RankB e k x ∨ x = e k := by
  constructor
  · rintro ⟨r, h1, h2⟩
    by_cases h3 : r = k
    · subst h3; exact .inr h2.symm
    · exact .inl ⟨r, by omega, h2⟩
  · rintro (⟨r, h1, h2⟩ | h)
    · exact ⟨r, by omega, h2⟩
    · exact ⟨k, by omega, h.symm⟩
open Classical in
/-- the slots behind k ranks -/
noncomputable def wrk (A W D : Nat → Int) (n : Nat) (e : Nat → Nat) (k s : Nat) : Int := if 0 ≤ pk A W D n s ∧ RankB e k (pk A W D n s).toNat then pk A W D n s else -1
theorem wrk_other {A W D : Nat → Int} {n : Nat} {e : Nat → Nat} {k s : Nat} (h : pk A W D n s ≠ (e k : Int)) : wrk A W D n e (k + 1) s = wrk A W D n e k s := by
  unfold wrk
  by_cases h0 : 0 ≤ pk A W D n s
  · have : RankB e (k + 1) (pk A W D n s).toNat ↔ RankB e k (pk A W D n s).toNat := by
      rw [rankB_succ]
      constructor
      · rintro (h1 | h1)
        · exact h1
        · omega
      · exact .inl
    by_cases hr : RankB e k (pk A W D n s).toNat
    · rw [if_pos ⟨h0, this.2 hr⟩, if_pos ⟨h0, hr⟩]
    · rw [if_neg (fun h => hr (this.1 h.2)), if_neg (fun h => hr h.2)]
  · rw [if_neg (fun h => h0 h.1), if_neg (fun h => h0 h.1)]
theorem wrk_hit {A W D : Nat → Int} {n : Nat} {e : Nat → Nat} {k s : Nat} (h : pk A W D n s = (e k : Int)) : wrk A W D n e (k + 1) s = (e k : Int) := by
  unfold wrk
  rw [if_pos ⟨by omega, rankB_succ.2 (.inr (by rw [h]; simp))⟩, h]
theorem wrk_neg {A W D : Nat → Int} {n : Nat} {e : Nat → Nat} {k s : Nat} (hE : OrderE D e n) (hk : k < n) (hw : wrk A W D n e k s < 0) (hc : cand A (lf A W D n s) s (e k)) : pk A W D n s = (e k : Int) := by
  rcases pk_spec A W D n s with ⟨_, h2⟩ | ⟨x, hx, h1, _, h3⟩
  · exact absurd hc (h2 (e k) (hE.lt k hk))
  · by_cases hxe : x = e k
    · rw [h1, hxe]
    · exfalso
      obtain ⟨r, hr, he⟩ := hE.all x hx
      have hlex : lexlt D x (e k) := by
        rcases h3 (e k) (hE.lt k hk) hc with h | h
        · exact .inl h
        · exact .inr ⟨h.1, by omega⟩
      have hrk : r < k := by
        rcases Nat.lt_trichotomy r k with h | h | h
        · exact h
        · subst h; exact absurd he.symm hxe
        · have := hE.mono r k h hr
          rw [he] at this
          exact absurd (lexlt_trans hlex this) lexlt_irr
      unfold wrk at hw
      rw [if_pos ⟨by omega, r, hrk, by rw [h1]; simpa using he⟩, h1] at hw
      omega
theorem wrk_pos {A W D : Nat → Int} {n : Nat} {e : Nat → Nat} {k s : Nat} (hE : OrderE D e n) (hk : k < n) (hw : ¬ wrk A W D n e k s < 0) : pk A W D n s ≠ (e k : Int) := by
  intro h
  unfold wrk at hw
  split at hw
  · rename_i h1
    obtain ⟨_, r, hr, he⟩ := h1
    rw [h] at he
    have := hE.inj (show r < n by omega) hk (by simpa using he)
    omega
  · omega
theorem wrk_all {A W D : Nat → Int} {n : Nat} {e : Nat → Nat} {s : Nat} (hE : OrderE D e n) : wrk A W D n e n s = pk A W D n s := by
  unfold wrk
  rcases pk_spec A W D n s with ⟨h1, _⟩ | ⟨x, hx, h1, _⟩
  · rw [if_neg (by omega), h1]
  · rw [if_pos ⟨by omega, by
      obtain ⟨r, hr, he⟩ := hE.all x hx
      exact ⟨r, hr, by rw [h1]; simpa using he⟩⟩]
theorem wrk_zero {A W D : Nat → Int} {n : Nat} {e : Nat → Nat} {s : Nat} : wrk A W D n e 0 s = -1 := by
  unfold wrk
  rw [if_neg]
  rintro ⟨_, r, hr, _⟩
  omega
theorem wrk_bd {A W D : Nat → Int} {n : Nat} {e : Nat → Nat} {k s : Nat} : -1 ≤ wrk A W D n e k s ∧ wrk A W D n e k s < (n : Int) ∨ wrk A W D n e k s = -1 := by
  unfold wrk
  rcases pk_spec A W D n s with ⟨h1, _⟩ | ⟨x, hx, h1, _⟩ <;> split <;> omega
/-- before its time a job has had nothing -/
theorem early {A W D : Nat → Int} {n i : Nat} (hi : i < n) : ∀ t : Nat, (t : Int) ≤ A i → lf A W D n t i = W i ∧ dn A W D n t i = 0
  | 0, _ => ⟨rfl, rfl⟩
  | t + 1, h => by
    obtain ⟨h1, h2⟩ := early (A := A) (W := W) (D := D) hi t (by omega)
    have hp : pk A W D n t ≠ (i : Int) := by
      rcases pk_spec A W D n t with ⟨h3, _⟩ | ⟨x, hx, h3, h4, _⟩
      · omega
      · intro e
        obtain rfl : x = i := by omega
        have := h4.1
        omega
    rw [lf_succ, dn_succ, if_neg hp, if_neg (fun h => hp h.1)]
    exact ⟨h1, h2⟩
theorem early_pk {A W D : Nat → Int} {n i t : Nat} (h : (t : Int) < A i) : pk A W D n t ≠ (i : Int) := by
  rcases pk_spec A W D n t with ⟨h3, _⟩ | ⟨x, hx, h3, h4, _⟩
  · omega
  · intro e
    obtain rfl : x = i := by omega
    have := h4.1
    omega
theorem spent_pk {A W D : Nat → Int} {n i t s : Nat} (hi : i < n) (h : lf A W D n t i = 0) (hs : t ≤ s) : pk A W D n s ≠ (i : Int) := by
  have h1 := (dn_stays hi h (s - t)).1
  rw [show t + (s - t) = s by omega] at h1
  rcases pk_spec A W D n s with ⟨h3, _⟩ | ⟨x, hx, h3, h4, _⟩
  · omega
  · intro e
    obtain rfl : x = i := by omega
    have := h4.2
    omega
/-- the slots, while rank k is at time t -/
noncomputable def wmid (A W D : Nat → Int) (n : Nat) (e : Nat → Nat) (k t s : Nat) : Int := if s < t then wrk A W D n e (k + 1) s else wrk A W D n e k s
open Classical in
/-- what is done, behind k ranks -/
noncomputable def dnk (A W D : Nat → Int) (n : Nat) (e : Nat → Nat) (k x : Nat) : Int := if RankB e k x then dn A W D n 200 x else 0
noncomputable def dmid (A W D : Nat → Int) (n : Nat) (e : Nat → Nat) (k t x : Nat) : Int := if x = e k then dn A W D n t x else dnk A W D n e k x
theorem dnk_zero {A W D : Nat → Int} {n : Nat} {e : Nat → Nat} {x : Nat} : dnk A W D n e 0 x = 0 := by
  unfold dnk
  rw [if_neg]
  rintro ⟨r, hr, _⟩
  omega
theorem dnk_all {A W D : Nat → Int} {n : Nat} {e : Nat → Nat} {x : Nat} (hE : OrderE D e n) (hx : x < n) : dnk A W D n e n x = dn A W D n 200 x := by
  unfold dnk
  rw [if_pos (show RankB e n x from hE.all x hx)]
theorem mid_start {A W D : Nat → Int} {n : Nat} {e : Nat → Nat} {k t : Nat} (hE : OrderE D e n) (hk : k < n) (ht : A (e k) = (t : Int)) : (∀ s, wrk A W D n e k s = wmid A W D n e k t s) ∧ ∀ x, dnk A W D n e k x = dmid A W D n e k t x := by
  refine ⟨fun s => ?_, fun x => ?_⟩
  · unfold wmid
    split
    · exact (wrk_other (early_pk (by omega))).symm
    · rfl
  · unfold dmid
    split
    · rename_i h
      subst h
      rw [(early (W := W) (D := D) (hE.lt k hk) t (by omega)).2]
      unfold dnk
      rw [if_neg]
      rintro ⟨r, hr, he⟩
      have := hE.inj (show r < n by omega) hk he
      omega
    · rfl
theorem mid_end {A W D : Nat → Int} {n : Nat} {e : Nat → Nat} {k t : Nat} (hE : OrderE D e n) (hk : k < n) (ht : t ≤ 200) (h : 200 ≤ t ∨ lf A W D n t (e k) = 0) : (∀ s, s < 200 → wmid A W D n e k t s = wrk A W D n e (k + 1) s) ∧ ∀ x, dmid A W D n e k t x = dnk A W D n e (k + 1) x := by
  refine ⟨fun s hs => ?_, fun x => ?_⟩
  · unfold wmid
    split
    · rfl
    · rcases h with h | h
      · omega
      · exact (wrk_other (spent_pk (hE.lt k hk) h (by omega))).symm
  · unfold dmid dnk
    by_cases hx : x = e k
    · subst hx
      rw [if_pos rfl, if_pos (rankB_succ.2 (.inr rfl))]
      rcases h with h | h
      · rw [show t = 200 by omega]
      · have := (dn_stays (hE.lt k hk) h (200 - t)).2
        rw [show t + (200 - t) = 200 by omega] at this
        exact this.symm
    · rw [if_neg hx]
      have : RankB e (k + 1) x ↔ RankB e k x := by rw [rankB_succ]; constructor; (rintro (h1 | h1); exact h1; exact absurd h1 hx); exact .inl
      by_cases hr : RankB e k x
      · rw [if_pos hr, if_pos (this.2 hr)]
      · rw [if_neg hr, if_neg (fun h => hr (this.1 h))]
theorem bz_spec (A W D : Nat → Int) (n : Nat) : ∀ t, (bz A W D n t = 0 ∨ 0 ≤ pk A W D n (bz A W D n t - 1)) ∧ ∀ s, bz A W D n t ≤ s → s < t → pk A W D n s < 0
  | 0 => ⟨.inl rfl, fun s _ hs => by omega⟩
  | t + 1 => by
    obtain ⟨h1, h2⟩ := bz_spec A W D n t
    simp only [bz]
    by_cases h : pk A W D n t < 0
    · rw [if_pos h]
      refine ⟨h1, fun s hs1 hs2 => ?_⟩
      by_cases e : s = t
      · subst e; exact h
      · exact h2 s hs1 (by omega)
    · rw [if_neg h]
      exact ⟨.inr (by simpa using h), fun s hs1 hs2 => by omega⟩
theorem bz_is {A W D : Nat → Int} {n t m : Nat} (hm : m ≤ t) (h1 : m = 0 ∨ ¬ pk A W D n (m - 1) < 0) (h2 : ∀ s, m ≤ s → s < t → pk A W D n s < 0) : bz A W D n t = m := by
  obtain ⟨h3, h4⟩ := bz_spec A W D n t
  have h5 := bz_le A W D n t
  rcases Nat.lt_trichotomy (bz A W D n t) m with h | h | h
  · exfalso
    rcases h1 with h1 | h1
    · omega
    · exact h1 (h4 (m - 1) (by omega) (by omega))
  · exact h
  · exfalso
    rcases h3 with h3 | h3
    · omega
    · have := h2 (bz A W D n t - 1) (by omega) (by omega)
      omega
end Go.Proofs.Ytgnegemiiahkaaa
