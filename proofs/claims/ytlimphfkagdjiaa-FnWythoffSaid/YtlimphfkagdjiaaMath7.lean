/-
  PLAIN MATHEMATICS: what FnWythoff asks of pairs, of zeros in front of sparse digits, and of the word of 60 letters. No program in sight.
-/
import Derived.Test.YtlimphfkagdjiaaMath6
import Derived.Test.YtlimphfkagdjiaaF9
namespace Go.Proofs.Ytlimphfkagdjiaa
open Go.RowKit

def gQ (m k : Int) : Int := m * m - m * k - k * k
theorem gQ_up {m M k : Int} (hk : 0 ≤ k) (h : k ≤ m) (hM : m ≤ M) : gQ m k ≤ gQ M k := by
  obtain ⟨d, rfl⟩ : ∃ d, M = m + d := ⟨M - m, by omega⟩
  have e : gQ (m + d) k = gQ m k + d * (m + m + d - k) := by unfold gQ; grind
  have : 0 ≤ d * (m + m + d - k) := Int.mul_nonneg (by omega) (by omega)
  omega
theorem gQ_unique {m M k : Int} (hk : 0 ≤ k) (h1 : k ≤ m) (h2 : k ≤ M) (a : gQ m k ≤ 0) (b : 0 < gQ (m + 1) k) (c : gQ M k ≤ 0) (d : 0 < gQ (M + 1) k) : m = M := by
  rcases Int.lt_trichotomy m M with h | h | h
  · have := gQ_up hk (by omega) (show m + 1 ≤ M by omega); omega
  · exact h
  · have := gQ_up hk (by omega) (show M + 1 ≤ m by omega); omega
theorem shift_gQ {n : Int} (h0 : 0 ≤ n) (h1 : n ≤ 1000000) : n ≤ shiftR n ∧ gQ (shiftR n + 1) (n + 1) ≤ 0 ∧ 0 < gQ (shiftR n + 1 + 1) (n + 1) := by
  obtain ⟨a, b, c⟩ := shift_golden h0 h1
  refine ⟨a, b, ?_⟩
  rw [show shiftR n + 1 + 1 = shiftR n + 2 by omega]
  exact c
theorem gQ_low {m k : Int} (hk : 1 ≤ k) (h : gQ m k ≤ 0) : m < 2 * k := by
  rcases Int.lt_or_le m (2 * k) with h2 | h2
  · exact h2
  · exfalso
    have e : gQ m k = (m - 2 * k) * (m + k) + k * k := by unfold gQ; grind
    have t1 : 0 ≤ (m - 2 * k) * (m + k) := Int.mul_nonneg (by omega) (by omega)
    have t2 : 1 * 1 ≤ k * k := Int.mul_le_mul hk hk (by omega) (by omega)
    omega
/-- The second of a pair is the shifted first. -/
theorem shift_pair {n : Int} (h0 : 0 ≤ n) (h1 : n ≤ 300000) : shiftR (shiftR n + 1) = shiftR n + 1 + (n + 1) := by
  obtain ⟨a, b, c⟩ := shift_gQ h0 (by omega)
  have hb := gQ_low (by omega) b
  obtain ⟨s, hs⟩ : ∃ s, shiftR n = s := ⟨_, rfl⟩
  rw [hs] at a b c hb ⊢
  obtain ⟨a2, b2, c2⟩ := shift_gQ (n := s + 1) (by omega) (by omega)
  have hu := gQ_unique (m := shiftR (s + 1) + 1) (M := s + 1 + (n + 1) + 1) (k := s + 1 + 1) (by omega) (by omega) (by omega) b2 c2 ?_ ?_
  · omega
  · have e : gQ (s + 1 + (n + 1) + 1) (s + 1 + 1) = - gQ (s + 1 + 1) (n + 1) := by unfold gQ; grind
    omega
  · have e : gQ (s + 1 + (n + 1) + 1 + 1) (s + 1 + 1) = - gQ (s + 1) (n + 1) - (2 * (s + 1) + 1 - (n + 1)) + (s + 1 + 1) + 2 * (n + 1) + 1 := by unfold gQ; grind
    omega
theorem shift_up {n : Int} (h0 : 0 ≤ n) (h1 : n ≤ 300000) : shiftR n + 1 ≤ shiftR (n + 1) := by
  obtain ⟨a, b, c⟩ := shift_gQ h0 (by omega)
  obtain ⟨a2, b2, c2⟩ := shift_gQ (n := n + 1) (by omega) (by omega)
  have hb := gQ_low (by omega) b
  rcases Int.lt_or_le (shiftR (n + 1)) (shiftR n + 1) with h | h
  · exfalso
    have h2 := gQ_up (k := n + 1 + 1) (by omega) (show n + 1 + 1 ≤ shiftR (n + 1) + 1 + 1 by omega) (show shiftR (n + 1) + 1 + 1 ≤ shiftR n + 1 + 1 by omega)
    have e : gQ (shiftR n + 1 + 1) (n + 1 + 1) = gQ (shiftR n + 1) (n + 1) + ((shiftR n + 1) - 3 * (n + 1) - 1) := by unfold gQ; grind
    omega
  · exact h

/-- Zeros in front. -/
def zs : List Int → Nat
  | [] => 0
  | x :: xs => if x = 0 then zs xs + 1 else 0
theorem zs_zero (xs : List Int) : zs (0 :: xs) = zs xs + 1 := by simp [zs]
/-- One more, for digits that begin with 0. -/
def incr : List Int → List Int
  | [] => [1]
  | [_] => [1]
  | x :: y :: xs => if y = 1 then 0 :: 0 :: incr xs else 1 :: y :: xs
theorem incr_facts : ∀ (f : Nat) (T : List Int), T.length ≤ f → Sp T → (T = [] ∨ T.head? = some 0) → endB T = true → (T = [] ∨ 2 ≤ T.length) →
    Sp (incr T) ∧ (∀ k, sf (incr T) k = sf T k + (fibN k : Nat)) ∧ zs (incr T) % 2 = 0 ∧ endB (incr T) = true ∧ incr T ≠ [] ∧ (incr T).length ≤ T.length + 1 := by
  intro f
  induction f with
  | zero =>
    intro T hl hS hh he hn
    have : T = [] := List.length_eq_zero_iff.1 (by omega)
    subst this
    refine ⟨⟨.inr rfl, fun _ => by simp [incr], trivial⟩, fun k => by simp [incr, sf], by simp [incr, zs], by simp [incr, endB], by simp [incr], by simp [incr]⟩
  | succ f ih =>
    intro T hl hS hh he hn
    match T, hn with
    | [], _ => exact ⟨⟨.inr rfl, fun _ => by simp, trivial⟩, fun k => by simp [incr, sf], by simp [incr, zs], by simp [incr, endB], by simp [incr], by simp [incr]⟩
    | [x], hn => rcases hn with h | h
                 · cases h
                 · simp at h
    | x :: y :: xs, _ =>
      have hx : x = 0 := by
        rcases hh with h | h
        · cases h
        · simpa using h
      subst hx
      by_cases hy : y = 1
      · subst hy
        have hS2 := hS.2.2
        have hxs : xs = [] ∨ xs.head? = some 0 := by
          cases xs with
          | nil => exact .inl rfl
          | cons z zs' =>
            right
            have h1 := hS2.2.1 rfl
            have h2 := hS2.2.2.1
            rcases h2 with rfl | rfl
            · rfl
            · simp at h1
        have he2 : endB xs = true ∧ (xs = [] ∨ 2 ≤ xs.length) := by
          cases xs with
          | nil => exact ⟨rfl, .inl rfl⟩
          | cons z zs' =>
            unfold endB at he ⊢
            rw [List.getLast?_cons_cons, List.getLast?_cons_cons] at he
            refine ⟨he, .inr ?_⟩
            cases zs' with
            | nil =>
              rcases hxs with h | h
              · cases h
              · have : z = 0 := by simpa using h
                subst this
                simp at he
            | cons _ _ => simp
        obtain ⟨i1, i2, i3, i4, i5, i6⟩ := ih xs (by simp at hl; omega) hS2.2.2 hxs he2.1 he2.2
        have e : incr (0 :: 1 :: xs) = 0 :: 0 :: incr xs := by simp [incr]
        rw [e]
        refine ⟨⟨.inl rfl, fun h => by simp at h, .inl rfl, fun h => by simp at h, i1⟩, fun k => ?_, ?_, ?_, by simp, by simp; omega⟩
        · simp only [sf]
          rw [i2]
          have := fibN_add k
          rw [show k + 1 + 1 = k + 2 by omega]
          omega
        · rw [zs_zero, zs_zero]; omega
        · cases h : incr xs with
          | nil => exact absurd h i5
          | cons a b => rw [h] at i4; unfold endB at i4 ⊢; rw [List.getLast?_cons_cons, List.getLast?_cons_cons]; exact i4
      · have hy0 : y = 0 := by
          have := hS.2.2.1
          omega
        subst hy0
        have e : incr (0 :: 0 :: xs) = 1 :: 0 :: xs := by simp [incr]
        rw [e]
        refine ⟨⟨.inr rfl, fun _ => by simp, hS.2.2⟩, fun k => by simp only [sf]; omega, by simp [zs], ?_, by simp, by simp⟩
        unfold endB at he ⊢
        rw [List.getLast?_cons_cons] at he ⊢
        exact he
/-- The first of a pair has an even number of zeros in front. -/
theorem first_even {n : Int} (h0 : 0 ≤ n) (h1 : n ≤ 300000) : zs (spR (shiftR n + 1)) % 2 = 0 ∧ spR (shiftR n + 1) ≠ [] := by
  have hb := shiftR_bound h0 (by omega)
  have hd := shift_digits h0 (by omega)
  have hv := spR_value (n := shiftR n) (by omega) (by omega)
  obtain ⟨T, hT⟩ : ∃ T, spR (shiftR n) = T := ⟨_, rfl⟩
  have hS : Sp T := by rw [← hT]; exact spR_sparse
  have hE : endB T = true := by rw [← hT]; exact (fibOk_parts (sp_ok _)).2.1
  have h56 : T.length ≤ 56 := by
    have e56 := fibN_56
    have h3 := sp_form (n := shiftR n) (k := 56) (by omega) (by omega) (by omega) (by omega)
    rw [← hT, h3]
    have := trimL_le (dg usedS 56 (shiftR n))
    rw [dg_len] at this
    exact this
  rw [hT] at hv hd
  have hh : (T = [] ∨ T.head? = some 0) ∧ (T = [] ∨ 2 ≤ T.length) := by
    by_cases hz : spR n = []
    · rw [if_pos hz] at hd; exact ⟨.inl hd, .inl hd⟩
    · rw [if_neg hz] at hd
      refine ⟨.inr (by rw [hd]; rfl), .inr ?_⟩
      rw [hd]
      have := List.length_pos_iff.2 hz
      simp; omega
  obtain ⟨i1, i2, i3, i4, i5, i6⟩ := incr_facts T.length T (Nat.le_refl _) hS hh.1 hE hh.2
  have ev : sf (incr T) 0 = shiftR n + 1 := by rw [i2, hv, fibN_zero]; omega
  have := sp_unique (xs := incr T) (fibOk_of (by omega) i4 i1.bits) (by omega) i1 (by rw [ev]; omega)
  rw [ev] at this
  rw [← this]
  exact ⟨i3, i5⟩
theorem second_odd {n : Int} (h0 : 0 ≤ n) (h1 : n ≤ 300000) (h2 : shiftR n ≤ 900000) : zs (spR (shiftR n + 1 + (n + 1))) % 2 = 1 := by
  obtain ⟨a, b⟩ := first_even h0 h1
  have hb := shiftR_bound h0 (by omega)
  rw [← shift_pair h0 h1, shift_digits (by omega) (by omega), if_neg b, zs_zero]
  omega
/-- What the law says of two pairs. -/
theorem wy_law {k : Int} (h0 : 1 ≤ k) (h1 : k ≤ 1000) :
    ∃ a c : Int, wyA k = a ∧ wyB k = a + k ∧ wyA (k + 1) = c ∧ wyB (k + 1) = c + (k + 1) ∧ 1 ≤ a ∧ a < c ∧ c ≤ 4000000 ∧ shiftR a = a + k ∧ shiftR (k - 1) + 1 = a ∧ zs (spR a) % 2 = 0 ∧ zs (spR (a + k)) % 2 = 1 := by
  have b1 := shiftR_bound (n := k - 1) (by omega) (by omega)
  have b2 := shiftR_bound (n := k) (by omega) (by omega)
  have u := shift_up (n := k - 1) (by omega) (by omega)
  have p := shift_pair (n := k - 1) (by omega) (by omega)
  have f := first_even (n := k - 1) (by omega) (by omega)
  obtain ⟨q1, q2, q3⟩ := shift_gQ (n := k - 1) (by omega) (by omega)
  have hq := gQ_low (by omega) q2
  have s := second_odd (n := k - 1) (by omega) (by omega) (by omega)
  rw [show k - 1 + 1 = k by omega] at u p s
  refine ⟨shiftR (k - 1) + 1, shiftR k + 1, wyA_of (inB_of ⟨h0, by omega⟩), wyB_of (inB_of ⟨h0, by omega⟩), ?_, ?_, by omega, by omega, by omega, p, rfl, f.1, s⟩
  · rw [wyA_of (inB_of ⟨by omega, by omega⟩), show k + 1 - 1 = k by omega]
  · rw [wyB_of (inB_of ⟨by omega, by omega⟩), show k + 1 - 1 = k by omega]
/-- The word with every letter replaced. -/
def expL : List UInt8 → List UInt8
  | [] => []
  | c :: cs => if c = 97 then 97 :: 98 :: expL cs else 97 :: expL cs
theorem expL_append (a b : List UInt8) : expL (a ++ b) = expL a ++ expL b := by
  induction a with
  | nil => rfl
  | cons c cs ih =>
    simp only [List.cons_append, expL]
    split <;> simp [ih]
theorem word_5 : wordL 5 = [97, 98, 97, 97, 98] := by decide +kernel
theorem word_fix : (expL (wordL 60)).take 60 = wordL 60 := by decide +kernel
theorem word_len : (expL (wordL 37)).length = 60 ∧ (expL (wordL 36)).length = 58 := by decide +kernel
end Go.Proofs.Ytlimphfkagdjiaa
