/-
  PLAIN MATHEMATICS: how many sets of the first places count a number; greedy digits have the top that they should. No program in sight.
-/
import Derived.Test.YtlimphfkagdjiaaMath2
namespace Go.Proofs.Ytlimphfkagdjiaa

/-- The number of sets of the first places that count n together. -/
def cf : Nat → Int → Int
  | 0, n => if n = 0 then 1 else 0
  | p + 1, n => if n = 0 then 1 else if n < 0 ∨ (fibN (p + 2) : Int) - 2 < n then 0 else cf p n + cf p (n - (fibN p : Nat))
theorem cf_bound (p : Nat) : ∀ n, 0 ≤ cf p n ∧ cf p n ≤ 2 ^ p := by
  induction p with
  | zero => intro n; simp only [cf]; split <;> simp
  | succ p ih =>
    intro n
    have h2 : (1 : Int) ≤ 2 ^ p := by
      have : 1 ≤ 2 ^ p := Nat.one_le_two_pow
      have e : ((2 ^ p : Nat) : Int) = (2 : Int) ^ p := by simp
      omega
    have e : (2 : Int) ^ (p + 1) = 2 ^ p + 2 ^ p := by rw [Int.pow_succ]; omega
    simp only [cf]
    rw [e]
    split
    · omega
    · split
      · omega
      · have a := ih n
        have b := ih (n - (fibN p : Nat))
        omega
theorem cf_zero (p : Nat) : cf p 0 = 1 := by cases p <;> simp [cf]
theorem cf_neg {p : Nat} {n : Int} (h : n < 0) : cf p n = 0 := by
  cases p with
  | zero => simp only [cf]; rw [if_neg (by omega)]
  | succ p => simp only [cf]; rw [if_neg (by omega), if_pos (Or.inl h)]
/-- Places that are too great don't matter. -/
theorem cf_high {k : Nat} {n : Int} (h : n < (fibN k : Int)) : ∀ {m : Nat}, k ≤ m → cf m n = cf k n := by
  intro m hm
  induction m with
  | zero => have : k = 0 := by omega
            subst this; rfl
  | succ m ih =>
    by_cases e : k = m + 1
    · subst e; rfl
    · have hk : k ≤ m := by omega
      rw [← ih hk]
      by_cases h0 : n = 0
      · subst h0; rw [cf_zero, cf_zero]
      · by_cases hn : n < 0
        · rw [cf_neg hn, cf_neg hn]
        · have h1 := fibN_mono hk
          have h2 := fibN_lt m
          have h3 := fibN_lt (m + 1)
          have h4 := fibN_add m
          have h5 := (fibN_pos m).2
          simp only [cf]
          rw [if_neg h0, if_neg (by omega), cf_neg (show n - (fibN m : Nat) < 0 by omega)]
          omega

/-- Some place is too great. -/
theorem exists_place {n : Int} {m : Nat} (h0 : 0 ≤ n) (h : n < (fibN m : Int)) : ∃ k, k ≤ m ∧ n < (fibN k : Int) ∧ (k = 0 ∨ ∃ j, k = j + 1 ∧ (fibN j : Int) ≤ n) := by
  induction m with
  | zero => exact ⟨0, Nat.le_refl _, h, Or.inl rfl⟩
  | succ m ih =>
    by_cases hm : n < (fibN m : Int)
    · obtain ⟨k, hk, h1, h2⟩ := ih hm
      exact ⟨k, by omega, h1, h2⟩
    · exact ⟨m + 1, Nat.le_refl _, h, Or.inr ⟨m, rfl, by omega⟩⟩
theorem trimK_full {xs : List Int} {x : Int} (h : xs[xs.length - 1]? = some x) (hx : x ≠ 0) : trimK xs xs.length = xs.length := by
  have hl := (List.getElem?_eq_some_iff.1 h).1
  obtain ⟨q, hq⟩ : ∃ q, xs.length = q + 1 := ⟨xs.length - 1, by omega⟩
  rw [hq] at h ⊢
  exact trimK_stop h hx
theorem trimL_full {xs : List Int} {x : Int} (h : xs[xs.length - 1]? = some x) (hx : x ≠ 0) : trimL xs = xs := by
  rw [trimL_eq, trimK_full h hx, List.take_length]
theorem dg_top_one {used : Nat → Int → Bool} {j : Nat} {n : Int} (h : used j n = true) : trimL (dg used (j + 1) n) = dg used (j + 1) n := by
  refine trimL_full (x := 1) ?_ (by omega)
  rw [dg_len, dg_use h, List.getElem?_append_right (by rw [dg_len]; omega), dg_len]
  simp
/-- The length of the greedy digits is the first place that is too great. -/
theorem sparse_length {n : Int} {m : Nat} (h0 : 0 ≤ n) (h : n < (fibN m : Int)) : n < (fibN (trimL (dg usedS m n)).length : Int) ∧ (trimL (dg usedS m n)).length ≤ m := by
  obtain ⟨k, hk, h1, h2⟩ := exists_place h0 h
  have e : trimL (dg usedS m n) = trimL (dg usedS k n) := trimL_dg_high hk fun j hj => by
    have := fibN_mono hj
    unfold usedS
    apply decide_eq_false
    omega
  rw [e]
  rcases h2 with rfl | ⟨j, rfl, hj⟩
  · have : dg usedS 0 n = [] := dg_zero _ _
    rw [this]
    have e2 : trimL [] = [] := by rw [trimL_eq]; rfl
    rw [e2]
    exact ⟨h1, by simp⟩
  · rw [dg_top_one (by simpa [usedS] using hj), dg_len]
    exact ⟨h1, hk⟩
end Go.Proofs.Ytlimphfkagdjiaa
