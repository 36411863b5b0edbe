/-
  PLAIN MATHEMATICS: a number shifted by one Fibonacci place is the number times the golden ratio, rounded. No program in sight.
-/
import Derived.Test.YtlimphfkagdjiaaF5
import Derived.Test.YtlimphfkagdjiaaMath3
namespace Go.Proofs.Ytlimphfkagdjiaa

/-- The value of digits from place k on. -/
def sf : List Int → Nat → Int
  | [], _ => 0
  | x :: xs, k => x * (fibN k : Nat) + sf xs (k + 1)
theorem sf_add (xs : List Int) : ∀ k, sf xs (k + 2) = sf xs k + sf xs (k + 1) := by
  induction xs with
  | nil => intro k; rfl
  | cons x xs ih =>
    intro k
    simp only [sf]
    rw [ih (k + 1), fibN_add k]
    have : x * ((fibN k + fibN (k + 1) : Nat) : Int) = x * (fibN k : Nat) + x * (fibN (k + 1) : Nat) := by rw [← Int.mul_add]; congr 1
    omega
theorem sf_snoc (xs : List Int) (x : Int) : ∀ k, sf (xs ++ [x]) k = sf xs k + x * (fibN (k + xs.length) : Nat) := by
  induction xs with
  | nil => intro k; simp [sf]
  | cons y ys ih =>
    intro k
    simp only [List.cons_append, sf, List.length_cons]
    rw [ih (k + 1), show k + (ys.length + 1) = k + 1 + ys.length by omega]
    omega
theorem fvUp_sf (xs : List Int) : ∀ k, k ≤ xs.length → fvUp xs k = sf (xs.take k) 0 := by
  intro k
  induction k with
  | zero => intro _; simp [sf, fvUp]
  | succ k ih =>
    intro hk
    have hx : xs[k]? = some xs[k] := List.getElem?_eq_getElem (by omega)
    rw [fv_succ hx, ih (by omega), List.take_add_one, hx]
    simp only [Option.toList_some]
    rw [sf_snoc, List.length_take, Nat.min_eq_left (by omega), Nat.zero_add]
theorem fibSum_sf (xs : List Int) : fibSum xs = sf xs 0 := by
  have := fvUp_sf xs xs.length (Nat.le_refl _)
  rw [List.take_length] at this
  exact this
theorem sf_zero_cons (xs : List Int) (k : Nat) : sf (0 :: xs) k = sf xs (k + 1) := by simp [sf]

/-- Digits 0 and 1, and no two ones beside each other. -/
def Sp : List Int → Prop
  | [] => True
  | x :: xs => (x = 0 ∨ x = 1) ∧ (x = 1 → xs.head? ≠ some 1) ∧ Sp xs
theorem sf_nonneg {xs : List Int} (h : Sp xs) : ∀ k, 0 ≤ sf xs k := by
  induction xs with
  | nil => intro k; exact Int.le_refl _
  | cons x xs ih =>
    intro k
    have := ih h.2.2 (k + 1)
    simp only [sf]
    rcases h.1 with rfl | rfl <;> omega
theorem sf_mono {xs : List Int} (h : Sp xs) : ∀ k, sf xs k ≤ sf xs (k + 1) := by
  induction xs with
  | nil => intro k; exact Int.le_refl _
  | cons x xs ih =>
    intro k
    have := ih h.2.2 (k + 1)
    have := fibN_lt k
    simp only [sf]
    rcases h.1 with rfl | rfl <;> omega
theorem Sp.snoc {xs : List Int} {b : Int} (h : Sp xs) (hb : b = 0 ∨ b = 1) (hl : b = 1 → xs.getLast? ≠ some 1) : Sp (xs ++ [b]) := by
  induction xs with
  | nil => exact ⟨hb, fun _ => by simp, trivial⟩
  | cons x xs ih =>
    refine ⟨h.1, fun hx => ?_, ih h.2.2 fun hb1 => ?_⟩
    · cases xs with
      | nil =>
        intro e
        have e2 : b = 1 := by simpa using e
        exact hl e2 (by simp [hx])
      | cons y ys => simpa using h.2.1 hx
    · intro e
      apply hl hb1
      cases xs with
      | nil => simp at e
      | cons y ys => rw [List.getLast?_cons_cons]; exact e
theorem Sp.take {xs : List Int} (h : Sp xs) : ∀ k, Sp (xs.take k) := by
  induction xs with
  | nil => intro k; simp [Sp]
  | cons x xs ih =>
    intro k
    cases k with
    | zero => simp [Sp]
    | succ k =>
      refine ⟨h.1, fun hx e => h.2.1 hx ?_, ih h.2.2 k⟩
      cases xs with
      | nil => simp at e
      | cons y ys =>
        cases k with
        | zero => simp at e
        | succ k => simpa using e
theorem dgS_last {k : Nat} {n : Int} (h : usedS k n = false) : (dg usedS (k + 1) n).getLast? ≠ some 1 := by
  rw [dg_top h]
  simp
theorem dgS_sparse : ∀ (k : Nat) (n : Int), n < (fibN k : Int) → Sp (dg usedS k n) := by
  intro k
  induction k with
  | zero => intro n _; rw [dg_zero]; trivial
  | succ k ih =>
    intro n hn
    rcases Bool.eq_false_or_eq_true (usedS k n) with h | h
    · rw [dg_use h]
      have hk : (fibN k : Int) ≤ n := by simpa [usedS] using h
      have hlt : n - (fibN k : Nat) < (fibN k : Int) := by
        cases k with
        | zero => have e1 := fibN_zero; have e2 := fibN_one; simp at hn hk ⊢; omega
        | succ j => have e := fibN_add j; have := (fibN_pos j).1; have := fibN_lt j; rw [show j + 1 + 1 = j + 2 by omega] at hn; omega
      refine (ih _ hlt).snoc (Or.inr rfl) fun _ => ?_
      cases k with
      | zero => rw [dg_zero]; simp
      | succ j =>
        apply dgS_last
        have e := fibN_add j
        rw [show j + 1 + 1 = j + 2 by omega] at hn
        unfold usedS
        apply decide_eq_false
        omega
    · rw [dg_top h]
      have hk : ¬ (fibN k : Int) ≤ n := by simpa [usedS] using h
      exact (ih n (by omega)).snoc (Or.inl rfl) fun h0 => by omega
/-- What the digits are worth. -/
theorem dgS_value : ∀ (k : Nat) (n : Int), 0 ≤ n → n < (fibN k : Int) → sf (dg usedS k n) 0 = n := by
  intro k
  induction k with
  | zero => intro n h0 hn; rw [dg_zero]; have e := fibN_zero; simp [sf]; omega
  | succ k ih =>
    intro n h0 hn
    rcases Bool.eq_false_or_eq_true (usedS k n) with h | h
    · rw [dg_use h, sf_snoc, dg_len, Nat.zero_add]
      have hk : (fibN k : Int) ≤ n := by simpa [usedS] using h
      have hlt : n - (fibN k : Nat) < (fibN k : Int) := by
        cases k with
        | zero => have e1 := fibN_zero; have e2 := fibN_one; simp at hn hk ⊢; omega
        | succ j => have e := fibN_add j; have := (fibN_pos j).1; have := fibN_lt j; rw [show j + 1 + 1 = j + 2 by omega] at hn; omega
      rw [ih _ (by omega) hlt]
      omega
    · rw [dg_top h, sf_snoc, ih n h0 (by have : ¬ (fibN k : Int) ≤ n := by simpa [usedS] using h
                                         omega)]
      omega
theorem sf_zeros (n k : Nat) : sf (List.replicate n 0) k = 0 := by
  induction n generalizing k with
  | zero => rfl
  | succ n ih => rw [List.replicate_succ]; simp only [sf]; rw [ih]; omega
theorem sf_append_zero (xs : List Int) (k : Nat) : sf (xs ++ [0]) k = sf xs k := by rw [sf_snoc]; omega
theorem sf_take_trim (xs : List Int) : ∀ j, j ≤ xs.length → ∀ k, sf (xs.take (trimK xs j)) k = sf (xs.take j) k := by
  intro j
  induction j with
  | zero => intro _ k; rfl
  | succ j ih =>
    intro hj k
    by_cases h : xs[j]? = some 0
    · rw [trimK_zero h, ih (by omega), List.take_add_one, h, Option.toList_some, sf_append_zero]
    · have : trimK xs (j + 1) = j + 1 := by simp [trimK, h]
      rw [this]
theorem sf_trim (xs : List Int) (k : Nat) : sf (trimL xs) k = sf xs k := by
  rw [trimL_eq, sf_take_trim xs _ (Nat.le_refl _), List.take_length]
theorem Sp.trim {xs : List Int} (h : Sp xs) : Sp (trimL xs) := by rw [trimL_eq]; exact h.take _
theorem spR_sparse {n : Int} : Sp (spR n) := by
  unfold spR
  split
  · rename_i h
    have hb := inB_true h
    exact (dgS_sparse 57 n (by rw [fibN_57]; omega)).trim
  · trivial
theorem spR_value {n : Int} (h0 : 0 ≤ n) (h1 : n ≤ 500000000000) : sf (spR n) 0 = n := by
  rw [spR_of (inB_of ⟨h0, h1⟩), sf_trim]
  exact dgS_value 57 n h0 (by rw [fibN_57]; omega)
theorem shiftR_sf {n : Int} (h : inB n 0 100000000 = true) : shiftR n = sf (spR n) 1 := by
  rw [shiftR_of h, fibSum_sf, sf_zero_cons]

/-- How far the shifted number is from the golden multiple, times a great Fibonacci number. -/
def gD (xs : List Int) (n : Nat) : Int := sf xs 1 * (fibN n : Nat) - sf xs 0 * (fibN (n + 1) : Nat)
theorem gD_cons (x : Int) (xs : List Int) (n : Nat) : gD (x :: xs) (n + 2) = x * (fibN n : Nat) - gD xs (n + 1) := by
  unfold gD
  simp only [sf]
  rw [sf_add xs 0, fibN_add (n + 1), fibN_add n, fibN_zero, fibN_one]
  simp only [Int.natCast_add]
  generalize ((fibN n : Nat) : Int) = a
  generalize ((fibN (n + 1) : Nat) : Int) = b
  generalize sf xs 0 = p
  generalize sf xs (0 + 1) = q
  grind
theorem gD_bound : ∀ (xs : List Int) (n : Nat), xs.length ≤ n → Sp xs → -(fibN (n + 2) : Int) < gD xs (n + 4) ∧ gD xs (n + 4) < (fibN (n + 3) : Int) ∧ (xs.head? ≠ some 1 → gD xs (n + 4) < (fibN (n + 1) : Int))
  | [], n, _, _ => by
    have p1 := (fibN_pos (n + 1)).1
    have p2 := (fibN_pos (n + 2)).1
    have p3 := (fibN_pos (n + 3)).1
    have e : gD [] (n + 4) = 0 := by simp [gD, sf]
    rw [e]
    refine ⟨by omega, by omega, fun _ => by omega⟩
  | x :: xs, n + 1, hl, hS => by
    have ih := gD_bound xs n (by simpa using hl) hS.2.2
    have e1 := fibN_add (n + 2)
    have e2 := fibN_add (n + 1)
    simp only [Nat.add_assoc, Nat.reduceAdd] at e1 e2
    have e := gD_cons x xs (n + 3)
    rw [show n + 1 + 4 = n + 3 + 2 by omega, e, show n + 1 + 2 = n + 3 by omega, show n + 1 + 3 = n + 4 by omega, show n + 1 + 1 = n + 2 by omega, show n + 3 + 1 = n + 4 by omega]
    rcases hS.1 with rfl | rfl
    · refine ⟨by omega, ?_, fun _ => by omega⟩
      omega
    · have h1 := ih.2.2 (hS.2.1 rfl)
      refine ⟨by omega, by omega, fun h => by simp at h⟩
  | _ :: _, 0, hl, _ => by simp at hl
theorem golden62 : ((fibN 63 : Nat) : Int) * (fibN 63 : Nat) - (fibN 62 : Nat) * (fibN 63 : Nat) - (fibN 62 : Nat) * (fibN 62 : Nat) = 1 := by decide +kernel
/-- Two neighbors of the golden multiple. -/
theorem golden_round {s n : Int} (h1 : (s + 1) * (fibN 62 : Nat) < (n + 1) * (fibN 63 : Nat)) (h2 : (n + 1) * (fibN 63 : Nat) < (s + 2) * (fibN 62 : Nat)) (hn : 0 ≤ n) (hn2 : n ≤ 1000000) (hs : n ≤ s) :
    (s + 1) * (s + 1) - (s + 1) * (n + 1) - (n + 1) * (n + 1) ≤ 0 ∧ 0 < (s + 2) * (s + 2) - (s + 2) * (n + 1) - (n + 1) * (n + 1) := by
  have g := golden62
  have hA : 4052739537881 ≤ fibN 62 := by rw [← fibN_60]; exact fibN_mono (by omega)
  have hAB := fibN_lt 62
  obtain ⟨A, eA⟩ : ∃ A : Int, ((fibN 62 : Nat) : Int) = A := ⟨_, rfl⟩
  obtain ⟨B, eB⟩ : ∃ B : Int, ((fibN 63 : Nat) : Int) = B := ⟨_, rfl⟩
  rw [eA] at h1 h2 g
  rw [eB] at h1 h2 g
  have a1 : 4052739537881 ≤ A := by rw [← eA]; exact Int.ofNat_le.2 hA
  have a2 : A < B := by rw [← eA, ← eB]; exact Int.ofNat_lt.2 hAB
  clear hA hAB eA eB
  obtain ⟨k, ek⟩ : ∃ k, n + 1 = k := ⟨_, rfl⟩
  obtain ⟨m, em⟩ : ∃ m, s + 1 = m := ⟨_, rfl⟩
  have em2 : s + 2 = m + 1 := by omega
  rw [em2, ek] at h2 ⊢
  rw [em, ek] at h1
  rw [em]
  constructor
  · -- A² Q(m) ≤ k² < A²
    have t1 : 0 ≤ (k * B - m * A) * (k * B + m * A - k * A) := by
      apply Int.mul_nonneg (by omega)
      have u1 : k * A ≤ k * B := Int.mul_le_mul_of_nonneg_left (by omega) (by omega)
      have u2 : 0 ≤ m * A := Int.mul_nonneg (by omega) (by omega)
      omega
    have t2 : A * A * (m * m - m * k - k * k) = k * k * (B * B - A * B - A * A) - (k * B - m * A) * (k * B + m * A - k * A) := by grind
    rw [g, Int.mul_one] at t2
    have t3 : k * k ≤ 1000001 * 1000001 := Int.mul_le_mul (by omega) (by omega) (by omega) (by omega)
    rcases Int.lt_or_le 0 (m * m - m * k - k * k) with h | h
    · exfalso
      have t4 : A * A * 1 ≤ A * A * (m * m - m * k - k * k) := Int.mul_le_mul_of_nonneg_left (by omega) (Int.mul_nonneg (by omega) (by omega))
      have t5 : 4052739537881 * 4052739537881 ≤ A * A := Int.mul_le_mul a1 a1 (by omega) (by omega)
      omega
    · exact h
  · have t1 : 0 ≤ ((m + 1) * A - k * B) * ((m + 1) * A + k * B - k * A) := by
      apply Int.mul_nonneg (by omega)
      have u1 : k * A ≤ k * B := Int.mul_le_mul_of_nonneg_left (by omega) (by omega)
      have u2 : 0 ≤ (m + 1) * A := Int.mul_nonneg (by omega) (by omega)
      omega
    have t2 : A * A * ((m + 1) * (m + 1) - (m + 1) * k - k * k) = k * k * (B * B - A * B - A * A) + ((m + 1) * A - k * B) * ((m + 1) * A + k * B - k * A) := by grind
    rw [g, Int.mul_one] at t2
    have t3 : 1 * 1 ≤ k * k := Int.mul_le_mul (by omega) (by omega) (by omega) (by omega)
    rcases Int.lt_or_le 0 ((m + 1) * (m + 1) - (m + 1) * k - k * k) with h | h
    · exact h
    · exfalso
      have t4 : A * A * ((m + 1) * (m + 1) - (m + 1) * k - k * k) ≤ A * A * 0 := Int.mul_le_mul_of_nonneg_left h (Int.mul_nonneg (by omega) (by omega))
      omega
theorem shift_golden {n : Int} (h0 : 0 ≤ n) (h1 : n ≤ 1000000) :
    n ≤ shiftR n ∧ (shiftR n + 1) * (shiftR n + 1) - (shiftR n + 1) * (n + 1) - (n + 1) * (n + 1) ≤ 0 ∧ 0 < (shiftR n + 2) * (shiftR n + 2) - (shiftR n + 2) * (n + 1) - (n + 1) * (n + 1) := by
  rw [shiftR_sf (inB_of ⟨h0, by omega⟩)]
  have hS := spR_sparse (n := n)
  have hv := spR_value h0 (by omega)
  have hb := gD_bound (spR n) 58 (by
    have := spR_len57 n
    omega) hS
  have e0 : gD (spR n) 62 = sf (spR n) 1 * (fibN 62 : Nat) - n * (fibN 63 : Nat) := by unfold gD; rw [hv]
  simp only [Nat.reduceAdd] at hb
  rw [e0] at hb
  have e1 := fibN_add 61
  have e2 := fibN_add 60
  simp only [Nat.reduceAdd] at e1 e2 hb
  have hle : n ≤ sf (spR n) 1 := by
    have := sf_mono hS 0
    rw [hv] at this
    exact this
  obtain ⟨s, hs⟩ : ∃ s, sf (spR n) 1 = s := ⟨_, rfl⟩
  rw [hs] at hb hle ⊢
  refine ⟨hle, golden_round ?_ ?_ h0 h1 hle⟩
  · rw [Int.add_mul, Int.add_mul]; omega
  · rw [Int.add_mul, Int.add_mul]; omega
/-- The first number of a pair, by the square root. -/
theorem wythoff {k t : Int} (h0 : 1 ≤ k) (h1 : k ≤ 1000000) (ht : 0 ≤ t) (t1 : t * t ≤ 5 * k * k) (t2 : 5 * k * k < (t + 1) * (t + 1)) : (k + t) / 2 = shiftR (k - 1) + 1 := by
  obtain ⟨g0, g1, g2⟩ := shift_golden (n := k - 1) (by omega) (by omega)
  obtain ⟨s, hs⟩ : ∃ s, shiftR (k - 1) = s := ⟨_, rfl⟩
  rw [hs] at g0 g1 g2 ⊢
  rw [show k - 1 + 1 = k by omega] at g1 g2
  obtain ⟨m, em⟩ : ∃ m, s + 1 = m := ⟨_, rfl⟩
  rw [show s + 2 = m + 1 by omega] at g2
  rw [em] at g1 ⊢
  have e1 : (2 * m - k) * (2 * m - k) = 4 * (m * m - m * k - k * k) + 5 * k * k := by grind
  have e2 : (2 * m + 2 - k) * (2 * m + 2 - k) = 4 * ((m + 1) * (m + 1) - (m + 1) * k - k * k) + 5 * k * k := by grind
  have l1 : 2 * m - k ≤ t := by
    rcases Int.lt_or_le t (2 * m - k) with h | h
    · exfalso
      have : (t + 1) * (t + 1) ≤ (2 * m - k) * (2 * m - k) := Int.mul_le_mul (by omega) (by omega) (by omega) (by omega)
      omega
    · exact h
  have l2 : t < 2 * m + 2 - k := by
    rcases Int.lt_or_le t (2 * m + 2 - k) with h | h
    · exact h
    · exfalso
      have : (2 * m + 2 - k) * (2 * m + 2 - k) ≤ t * t := Int.mul_le_mul h h (by omega) ht
      omega
  omega
end Go.Proofs.Ytlimphfkagdjiaa
