/-
  PLAIN MATHEMATICS: Fibonacci places. No program in sight.
-/
namespace Go.Proofs.Ytlimphfkagdjiaa

def fibI : Nat → Nat → Nat → Nat
  | 0, a, _ => a
  | n + 1, a, b => fibI n b (a + b)
/-- The value of a Fibonacci place: 1, 2, 3, 5, .. -/
def fibN (n : Nat) : Nat := fibI n 1 2
theorem fibI_add (n : Nat) : ∀ a b, fibI (n + 2) a b = fibI n a b + fibI (n + 1) a b := by
  induction n with
  | zero => intro a b; rfl
  | succ n ih => intro a b; exact ih b (a + b)
theorem fibN_zero : fibN 0 = 1 := rfl
theorem fibN_one : fibN 1 = 2 := rfl
theorem fibN_add (n : Nat) : fibN (n + 2) = fibN n + fibN (n + 1) := fibI_add n 1 2
theorem fibN_pos (n : Nat) : 1 ≤ fibN n ∧ 1 ≤ fibN (n + 1) := by
  induction n with
  | zero => exact ⟨by decide, by decide⟩
  | succ n ih => exact ⟨ih.2, by rw [fibN_add]; omega⟩
theorem fibN_lt (n : Nat) : fibN n < fibN (n + 1) := by
  cases n with
  | zero => decide
  | succ n => rw [fibN_add]; have := (fibN_pos n).1; omega
theorem fibN_mono {m n : Nat} (h : m ≤ n) : fibN m ≤ fibN n := by
  induction n with
  | zero => have : m = 0 := by omega
            subst this; exact Nat.le_refl _
  | succ n ih =>
    by_cases e : m = n + 1
    · subst e; exact Nat.le_refl _
    · exact Nat.le_trans (ih (by omega)) (Nat.le_of_lt (fibN_lt n))
theorem fibN_smono {m n : Nat} (h : m < n) : fibN m < fibN n := Nat.lt_of_lt_of_le (fibN_lt m) (fibN_mono h)
theorem fibN_60 : fibN 60 = 4052739537881 := by decide +kernel
theorem fibN_58 : fibN 58 = 1548008755920 := by decide +kernel
theorem fibN_57 : fibN 57 = 956722026041 := by decide +kernel
theorem fibN_56 : fibN 56 = 591286729879 := by decide +kernel
theorem fibN_le {n : Nat} (h : n ≤ 60) : fibN n ≤ 4052739537881 := by rw [← fibN_60]; exact fibN_mono h
end Go.Proofs.Ytlimphfkagdjiaa
