/-
  PLAIN MATHEMATICS: digits without zeros at the end; digits that are chosen going down. No program in sight.
-/
import Derived.Test.YtlimphfkagdjiaaMath1
namespace Go.Proofs.Ytlimphfkagdjiaa

/-- How many of the first k numbers are left when zeros at the end are dropped. -/
def trimK (xs : List Int) : Nat → Nat
  | 0 => 0
  | k + 1 => if xs[k]? = some 0 then trimK xs k else k + 1
def trimL (xs : List Int) : List Int := xs.take (trimK xs xs.length)
theorem trimL_eq (xs : List Int) : trimL xs = xs.take (trimK xs xs.length) := rfl
theorem trimK_le (xs : List Int) (k : Nat) : trimK xs k ≤ k := by
  induction k with
  | zero => exact Nat.le_refl _
  | succ k ih => simp only [trimK]; split <;> omega
theorem trimL_length (xs : List Int) : (trimL xs).length = trimK xs xs.length := by
  unfold trimL
  rw [List.length_take]
  have := trimK_le xs xs.length
  omega
theorem trimL_le (xs : List Int) : (trimL xs).length ≤ xs.length := by rw [trimL_length]; exact trimK_le _ _
theorem trimK_zero {xs : List Int} {k : Nat} (h : xs[k]? = some 0) : trimK xs (k + 1) = trimK xs k := by simp [trimK, h]
theorem trimK_stop {xs : List Int} {k : Nat} {x : Int} (h : xs[k]? = some x) (hx : x ≠ 0) : trimK xs (k + 1) = k + 1 := by simp [trimK, h, hx]
theorem trimK_append (xs ys : List Int) (k : Nat) (h : k ≤ xs.length) : trimK (xs ++ ys) k = trimK xs k := by
  induction k with
  | zero => rfl
  | succ k ih =>
    simp only [trimK]
    rw [ih (by omega), List.getElem?_append_left (by omega)]
theorem trimL_snoc_zero (xs : List Int) : trimL (xs ++ [0]) = trimL xs := by
  unfold trimL
  have e : (xs ++ [0]).length = xs.length + 1 := by simp
  rw [e, trimK_zero (by simp), trimK_append _ _ _ (Nat.le_refl _), List.take_append_of_le_length (trimK_le _ _)]
theorem trimL_zeros (xs : List Int) (n : Nat) : trimL (xs ++ List.replicate n 0) = trimL xs := by
  induction n with
  | zero => simp
  | succ n ih => rw [List.replicate_succ', ← List.append_assoc, trimL_snoc_zero, ih]
theorem trimL_mem {xs : List Int} {x : Int} (h : x ∈ trimL xs) : x ∈ xs := List.mem_of_mem_take h
theorem trimL_nil : trimL [] = [] := rfl

/-- Going down from place k - 1, a place is used if 'used' says so of what is left. -/
def dg (used : Nat → Int → Bool) : Nat → Int → List Int
  | 0, _ => []
  | k + 1, n => dg used k (if used k n then n - (fibN k : Nat) else n) ++ [if used k n then 1 else 0]
theorem dg_zero (used : Nat → Int → Bool) (n : Int) : dg used 0 n = [] := rfl
theorem dg_len (used : Nat → Int → Bool) (k : Nat) : ∀ n, (dg used k n).length = k := by
  induction k with
  | zero => intro n; rfl
  | succ k ih => intro n; simp [dg, ih]
theorem dg_mem (used : Nat → Int → Bool) (k : Nat) : ∀ n, ∀ x ∈ dg used k n, (0 : Int) ≤ x ∧ x ≤ 1 := by
  induction k with
  | zero => intro n x hx; simp [dg] at hx
  | succ k ih =>
    intro n x hx
    simp only [dg, List.mem_append, List.mem_singleton] at hx
    rcases hx with hx | hx
    · exact ih _ x hx
    · subst hx; split <;> omega
def usedS (k : Nat) (n : Int) : Bool := decide ((fibN k : Int) ≤ n)
def usedD (k : Nat) (n : Int) : Bool := decide ((fibN (k + 1) : Int) - 2 < n)
/-- What is left never falls below 0. -/
def Down (used : Nat → Int → Bool) : Prop := ∀ k n, used k n = true → (fibN k : Int) ≤ n
theorem downS : Down usedS := fun k n h => by simpa [usedS] using h
theorem downD : Down usedD := fun k n h => by
  have h1 : (fibN (k + 1) : Int) - 2 < n := by simpa [usedD] using h
  have := fibN_lt k
  omega
theorem dg_top {used : Nat → Int → Bool} {k : Nat} {n : Int} (h : used k n = false) : dg used (k + 1) n = dg used k n ++ [0] := by simp [dg, h]
theorem dg_use {used : Nat → Int → Bool} {k : Nat} {n : Int} (h : used k n = true) : dg used (k + 1) n = dg used k (n - (fibN k : Nat)) ++ [1] := by simp [dg, h]
/-- Places that are too great stay unused. -/
theorem dg_high {used : Nat → Int → Bool} {k m : Nat} {n : Int} (hm : k ≤ m) (h : ∀ j, k ≤ j → used j n = false) : dg used m n = dg used k n ++ List.replicate (m - k) 0 := by
  induction m with
  | zero => have : k = 0 := by omega
            subst this; simp
  | succ m ih =>
    by_cases e : k = m + 1
    · subst e; simp
    · rw [dg_top (h m (by omega)), ih (by omega), List.append_assoc, show m + 1 - k = (m - k) + 1 by omega, List.replicate_succ']
theorem trimL_dg_high {used : Nat → Int → Bool} {k m : Nat} {n : Int} (hm : k ≤ m) (h : ∀ j, k ≤ j → used j n = false) : trimL (dg used m n) = trimL (dg used k n) := by
  rw [dg_high hm h, trimL_zeros]
attribute [irreducible] dg trimL
end Go.Proofs.Ytlimphfkagdjiaa
