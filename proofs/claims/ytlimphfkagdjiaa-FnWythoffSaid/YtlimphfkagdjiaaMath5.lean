/-
  PLAIN MATHEMATICS: sparse and dense digits: there is one list of each kind; least and greatest sums of digits; how many lists count a number. No program in sight.
-/
import Derived.Test.YtlimphfkagdjiaaMath4
namespace Go.Proofs.Ytlimphfkagdjiaa

theorem fibN_two (n : Nat) : fibN (n + 1 + 1) = fibN n + fibN (n + 1) ∧ fibN (n + 2) = fibN n + fibN (n + 1) ∧ fibN (0 + 1) = 2 ∧ fibN 0 = 1 ∧ fibN 1 = 2 ∧ fibN (0 + 1 + 1) = 3 ∧ fibN (1 + 1) = 3 := ⟨fibN_add n, fibN_add n, by decide, by decide, by decide, by decide, by decide⟩
theorem snoc_cases {xs : List Int} {k : Nat} (h : xs.length = k + 1) : ∃ ys b, xs = ys ++ [b] ∧ ys.length = k := by
  have hne : xs ≠ [] := by intro e; rw [e] at h; simp at h
  exact ⟨xs.dropLast, xs.getLast hne, (List.dropLast_concat_getLast hne).symm, by simp [h]⟩
def Bits (xs : List Int) : Prop := ∀ x ∈ xs, x = 0 ∨ x = 1
theorem Bits.front {ys : List Int} {b : Int} (h : Bits (ys ++ [b])) : Bits ys ∧ (b = 0 ∨ b = 1) := ⟨fun x hx => h x (by simp [hx]), h b (by simp)⟩
theorem Bits.snoc {ys : List Int} {b : Int} (h : Bits ys) (hb : b = 0 ∨ b = 1) : Bits (ys ++ [b]) := fun x hx => by
  rcases List.mem_append.1 hx with hx | hx
  · exact h x hx
  · rw [List.mem_singleton.1 hx]; exact hb
theorem Sp.front {ys : List Int} {b : Int} (h : Sp (ys ++ [b])) : Sp ys ∧ (b = 0 ∨ b = 1) ∧ (b = 1 → ys.getLast? ≠ some 1) := by
  induction ys with
  | nil => exact ⟨trivial, h.1, fun _ => by simp⟩
  | cons x xs ih =>
    have i := ih h.2.2
    refine ⟨⟨h.1, fun hx e => h.2.1 hx ?_, i.1⟩, i.2.1, fun hb e => ?_⟩
    · cases xs with
      | nil => simp at e
      | cons y ys => simpa using e
    · cases xs with
      | nil =>
        have e1 : x = 1 := by simpa using e
        exact h.2.1 e1 (by simp [hb])
      | cons y ys => rw [List.getLast?_cons_cons] at e; exact i.2.2 hb e
theorem Sp.bits {xs : List Int} (h : Sp xs) : Bits xs := by
  induction xs with
  | nil => intro x hx; cases hx
  | cons y ys ih =>
    intro x hx
    rcases List.mem_cons.1 hx with rfl | hx
    · exact h.1
    · exact ih h.2.2 x hx
theorem Sp.lt : ∀ (k : Nat) (xs : List Int), xs.length = k → Sp xs → sf xs 0 < (fibN k : Int) ∧ (xs.getLast? ≠ some 1 → ∀ j, k = j + 1 → sf xs 0 < (fibN j : Int)) := by
  intro k
  induction k with
  | zero =>
    intro xs hl _
    have : xs = [] := List.length_eq_zero_iff.1 hl
    subst this
    have := fibN_zero
    exact ⟨by simp [sf]; omega, fun _ j hj => by omega⟩
  | succ k ih =>
    intro xs hl hS
    obtain ⟨ys, b, rfl, hy⟩ := snoc_cases hl
    obtain ⟨s1, s2, s3⟩ := hS.front
    have i := ih ys hy s1
    have m := fibN_lt k
    rw [sf_snoc, hy, Nat.zero_add]
    rcases s2 with rfl | rfl
    · refine ⟨by omega, fun _ j hj => ?_⟩
      obtain rfl : j = k := by omega
      omega
    · refine ⟨?_, fun h => absurd (by simp) h⟩
      cases k with
      | zero =>
        have : ys = [] := List.length_eq_zero_iff.1 hy
        subst this
        have := fibN_zero
        have := fibN_two 0
        simp [sf]; omega
      | succ j =>
        have := i.2 (s3 rfl) j rfl
        have := fibN_two j
        omega
/-- A sparse list is the greedy one. -/
theorem Sp.eq : ∀ (k : Nat) (xs : List Int), xs.length = k → Sp xs → xs = dg usedS k (sf xs 0) := by
  intro k
  induction k with
  | zero =>
    intro xs hl _
    have : xs = [] := List.length_eq_zero_iff.1 hl
    subst this
    rw [dg_zero]
  | succ k ih =>
    intro xs hl hS
    obtain ⟨ys, b, rfl, hy⟩ := snoc_cases hl
    obtain ⟨s1, s2, s3⟩ := hS.front
    have i := ih ys hy s1
    have h0 := sf_nonneg s1 0
    have h1 := (Sp.lt k ys hy s1).1
    rw [sf_snoc, hy, Nat.zero_add]
    rcases s2 with rfl | rfl
    · rw [dg_top (by unfold usedS; apply decide_eq_false; omega), show sf ys 0 + 0 * ((fibN k : Nat) : Int) = sf ys 0 by omega, ← i]
    · rw [dg_use (by unfold usedS; apply decide_eq_true; omega), show sf ys 0 + 1 * ((fibN k : Nat) : Int) - ((fibN k : Nat) : Int) = sf ys 0 by omega, ← i]

theorem sf_ones (n : Nat) : sf (List.replicate n 1) 0 = (fibN (n + 1) : Int) - 2 := by
  induction n with
  | zero => have := fibN_two 0; simp [sf]; omega
  | succ n ih =>
    rw [List.replicate_succ', sf_snoc, ih, List.length_replicate, Nat.zero_add]
    have := fibN_two n
    omega
theorem sf_le {xs : List Int} (h : Bits xs) : ∀ k, 0 ≤ sf xs k ∧ sf xs k ≤ sf (List.replicate xs.length 1) k := by
  induction xs with
  | nil => intro k; simp [sf]
  | cons x xs ih =>
    intro k
    have i := ih (fun y hy => h y (by simp [hy])) (k + 1)
    have hx := h x (by simp)
    simp only [List.length_cons, List.replicate_succ, sf]
    rcases hx with rfl | rfl <;> omega
theorem sf_le' {xs : List Int} (h : Bits xs) : 0 ≤ sf xs 0 ∧ sf xs 0 ≤ (fibN (xs.length + 1) : Int) - 2 := by
  have := sf_le h 0
  rw [sf_ones] at this
  exact this
theorem dg_bits (used : Nat → Int → Bool) (k : Nat) (n : Int) : Bits (dg used k n) := fun x hx => by
  have := dg_mem used k n x hx
  omega
/-- The greedy digits are right as far as all places together go. -/
theorem dgS_val : ∀ (k : Nat) (n : Int), 0 ≤ n → n ≤ (fibN (k + 1) : Int) - 2 → sf (dg usedS k n) 0 = n := by
  intro k
  induction k with
  | zero => intro n h0 hn; rw [dg_zero]; have e := fibN_two 0; simp [sf]; omega
  | succ k ih =>
    intro n h0 hn
    have a := fibN_two k
    have b := fibN_lt k
    rcases Bool.eq_false_or_eq_true (usedS k n) with h | h
    · have hk : (fibN k : Int) ≤ n := by simpa [usedS] using h
      rw [dg_use h, sf_snoc, dg_len, Nat.zero_add, ih _ (by omega) (by omega)]
      omega
    · have hk : ¬ (fibN k : Int) ≤ n := by simpa [usedS] using h
      rw [dg_top h, sf_snoc, ih n h0 (by omega)]
      omega
/-- Zeros for ones, ones for zeros. -/
def cmpl (xs : List Int) : List Int := xs.map fun x => 1 - x
theorem cmpl_length (xs : List Int) : (cmpl xs).length = xs.length := by simp [cmpl]
theorem cmpl_snoc (xs : List Int) (b : Int) : cmpl (xs ++ [b]) = cmpl xs ++ [1 - b] := by simp [cmpl]
theorem cmpl_cmpl (xs : List Int) : cmpl (cmpl xs) = xs := by
  unfold cmpl
  rw [List.map_map]
  have : ((fun x : Int => 1 - x) ∘ fun x => 1 - x) = id := by funext x; simp; omega
  rw [this, List.map_id]
theorem cmpl_bits {xs : List Int} (h : Bits xs) : Bits (cmpl xs) := fun x hx => by
  obtain ⟨y, hy, rfl⟩ := List.mem_map.1 hx
  rcases h y hy with rfl | rfl <;> simp
theorem sf_cmpl (xs : List Int) : ∀ k, sf (cmpl xs) k + sf xs k = sf (List.replicate xs.length 1) k := by
  induction xs with
  | nil => intro k; simp [sf, cmpl]
  | cons x xs ih =>
    intro k
    have i := ih (k + 1)
    unfold cmpl at i ⊢
    simp only [List.map_cons, List.length_cons, List.replicate_succ, sf, Int.sub_mul]
    omega
theorem sf_cmpl0 (xs : List Int) : sf (cmpl xs) 0 = (fibN (xs.length + 1) : Int) - 2 - sf xs 0 := by
  have := sf_cmpl xs 0
  rw [sf_ones] at this
  omega
theorem dgD_cmpl : ∀ (k : Nat) (n : Int), dg usedD k n = cmpl (dg usedS k ((fibN (k + 1) : Int) - 2 - n)) := by
  intro k
  induction k with
  | zero => intro n; rw [dg_zero, dg_zero]; rfl
  | succ k ih =>
    intro n
    have a := fibN_two k
    by_cases h : (fibN (k + 1) : Int) - 2 < n
    · rw [dg_use (by unfold usedD; exact decide_eq_true h), dg_top (by unfold usedS; apply decide_eq_false; omega), cmpl_snoc, ih]
      congr 3
      omega
    · rw [dg_top (by unfold usedD; exact decide_eq_false h), dg_use (by unfold usedS; apply decide_eq_true; omega), cmpl_snoc, ih]
      congr 3
      omega
theorem dgD_val (k : Nat) (n : Int) (h0 : 0 ≤ n) (h1 : n ≤ (fibN (k + 1) : Int) - 2) : sf (dg usedD k n) 0 = n := by
  rw [dgD_cmpl, sf_cmpl0, dg_len, dgS_val _ _ (by omega) (by omega)]
  omega
/-- A list without two zeros beside each other is the dense one. -/
theorem dense_eq {xs : List Int} (h : Sp (cmpl xs)) : xs = dg usedD xs.length (sf xs 0) := by
  have e := Sp.eq _ _ (cmpl_length xs) h
  rw [dgD_cmpl, ← sf_cmpl0, ← e, cmpl_cmpl]

/-- The sum of a list. -/
def lsm : List Int → Int
  | [] => 0
  | x :: xs => x + lsm xs
theorem lsm_append (xs ys : List Int) : lsm (xs ++ ys) = lsm xs + lsm ys := by
  induction xs with
  | nil => simp [lsm]
  | cons x xs ih => simp only [List.cons_append, lsm, ih]; omega
theorem lsm_snoc (xs : List Int) (b : Int) : lsm (xs ++ [b]) = lsm xs + b := by rw [lsm_append]; simp [lsm]
theorem lsm_zeros (n : Nat) : lsm (List.replicate n 0) = 0 := by
  induction n with
  | zero => rfl
  | succ n ih => rw [List.replicate_succ]; simp only [lsm, ih]; rfl
theorem lsm_cmpl (xs : List Int) : lsm (cmpl xs) = xs.length - lsm xs := by
  induction xs with
  | nil => rfl
  | cons x xs ih => unfold cmpl at ih ⊢; simp only [List.map_cons, lsm, List.length_cons, ih]; omega
theorem reduce : ∀ (k : Nat), (∀ ys : List Int, ys.length = k → Bits ys → (fibN k : Int) ≤ sf ys 0 → ∃ zs : List Int, zs.length = k ∧ Bits zs ∧ sf zs 0 = sf ys 0 - (fibN k : Nat) ∧ lsm zs + 1 ≤ lsm ys) ∧
    (∀ ys : List Int, ys.length = k + 1 → Bits ys → (fibN (k + 1) : Int) ≤ sf ys 0 → ∃ zs : List Int, zs.length = k + 1 ∧ Bits zs ∧ sf zs 0 = sf ys 0 - (fibN (k + 1) : Nat) ∧ lsm zs + 1 ≤ lsm ys) := by
  intro k
  induction k with
  | zero =>
    constructor
    · intro ys hl hb h
      have := (sf_le' hb).2
      rw [hl] at this
      have e0 := fibN_zero
      have e1 := fibN_two 0
      simp only [Nat.zero_add] at this
      omega
    · intro ys hl hb h
      have := (sf_le' hb).2
      rw [hl] at this
      have e0 := fibN_two 0
      have e1 := fibN_two 0
      have e2 := fibN_zero
      simp only [Nat.zero_add] at this e0 h
      omega
  | succ k ih =>
    refine ⟨ih.2, fun ys hl hb h => ?_⟩
    obtain ⟨vs, b, rfl, hv⟩ := snoc_cases hl
    obtain ⟨us, c, rfl, hu⟩ := snoc_cases hv
    obtain ⟨b1, b2⟩ := hb.front
    obtain ⟨b3, b4⟩ := b1.front
    have hle := (sf_le' b3).2
    have a := fibN_two k
    rw [hu] at hle
    rw [sf_snoc, sf_snoc, hv, hu, Nat.zero_add, Nat.zero_add] at h ⊢
    rw [lsm_snoc, lsm_snoc]
    rcases b2 with rfl | rfl
    · rcases b4 with rfl | rfl <;> omega
    · rcases b4 with rfl | rfl
      · obtain ⟨zs, z1, z2, z3, z4⟩ := ih.1 us hu b3 (by omega)
        refine ⟨zs ++ [0] ++ [0], by simp [z1], (z2.snoc (Or.inl rfl)).snoc (Or.inl rfl), ?_, ?_⟩
        · rw [sf_append_zero, sf_append_zero, z3]; omega
        · rw [lsm_snoc, lsm_snoc]; omega
      · refine ⟨us ++ [0] ++ [0], by simp [hu], (b3.snoc (Or.inl rfl)).snoc (Or.inl rfl), ?_, ?_⟩
        · rw [sf_append_zero, sf_append_zero]; omega
        · rw [lsm_snoc, lsm_snoc]; omega
/-- The greedy digits have the least sum. -/
theorem dgS_least : ∀ (k : Nat) (ys : List Int), ys.length = k → Bits ys → lsm (dg usedS k (sf ys 0)) ≤ lsm ys := by
  intro k
  induction k with
  | zero =>
    intro ys hl _
    have : ys = [] := List.length_eq_zero_iff.1 hl
    subst this
    rw [dg_zero]
    exact Int.le_refl _
  | succ k ih =>
    intro ys hl hb
    obtain ⟨us, b, rfl, hu⟩ := snoc_cases hl
    obtain ⟨b1, b2⟩ := hb.front
    have h0 := (sf_le' b1).1
    rw [sf_snoc, hu, Nat.zero_add, lsm_snoc]
    rcases b2 with rfl | rfl
    · rw [show sf us 0 + 0 * ((fibN k : Nat) : Int) = sf us 0 by omega]
      by_cases h : (fibN k : Int) ≤ sf us 0
      · obtain ⟨zs, z1, z2, z3, z4⟩ := (reduce k).1 us hu b1 h
        have := ih zs z1 z2
        rw [z3] at this
        rw [dg_use (by unfold usedS; exact decide_eq_true h), lsm_snoc]
        omega
      · have := ih us hu b1
        rw [dg_top (by unfold usedS; exact decide_eq_false h), lsm_snoc]
        omega
    · have := ih us hu b1
      rw [dg_use (by unfold usedS; apply decide_eq_true; omega), lsm_snoc, show sf us 0 + 1 * ((fibN k : Nat) : Int) - ((fibN k : Nat) : Int) = sf us 0 by omega]
      omega
/-- The dense digits have the greatest sum. -/
theorem dgD_most (k : Nat) (ys : List Int) (hl : ys.length = k) (hb : Bits ys) : lsm ys ≤ lsm (dg usedD k (sf ys 0)) := by
  have h := dgS_least k (cmpl ys) (by rw [cmpl_length, hl]) (cmpl_bits hb)
  rw [dgD_cmpl, lsm_cmpl, dg_len]
  rw [sf_cmpl0, lsm_cmpl, hl] at h
  omega

theorem cf_over {p : Nat} {n : Int} (h : (fibN (p + 1) : Int) - 2 < n) (hz : n ≠ 0) : cf p n = 0 := by
  cases p with
  | zero => simp only [cf]; rw [if_neg hz]
  | succ p => simp only [cf]; rw [if_neg hz, if_pos (Or.inr h)]
/-- How many lists there are. -/
theorem cf_lists : ∀ (p : Nat) (n : Int), 0 ≤ n → n ≤ (fibN (p + 1) : Int) - 2 → 1 ≤ cf p n ∧ (cf p n = 1 ↔ dg usedS p n = dg usedD p n) := by
  intro p
  induction p with
  | zero =>
    intro n h0 h1
    have e := fibN_two 0
    have : n = 0 := by simp only [Nat.zero_add] at h1; omega
    subst this
    rw [cf_zero, dg_zero, dg_zero]
    simp
  | succ p ih =>
    intro n h0 h1
    have a := fibN_two p
    have b := fibN_lt p
    have pp := (fibN_pos p).1
    have hcf : n ≠ 0 → cf (p + 1) n = cf p n + cf p (n - (fibN p : Nat)) := fun hn => by
      simp only [cf]
      rw [if_neg hn, if_neg (by omega)]
    by_cases hn : n < (fibN p : Int)
    · have i := ih n h0 (by omega)
      have e : cf (p + 1) n = cf p n := by
        by_cases hz : n = 0
        · subst hz; rw [cf_zero, cf_zero]
        · rw [hcf hz, cf_neg (n := n - (fibN p : Nat)) (by omega)]; omega
      rw [e, dg_top (by unfold usedS; apply decide_eq_false; omega), dg_top (by unfold usedD; apply decide_eq_false; omega)]
      refine ⟨i.1, i.2.trans ⟨fun h => by rw [h], fun h => (List.append_inj' h rfl).1⟩⟩
    · have hz : n ≠ 0 := by omega
      by_cases hs : (fibN (p + 1) : Int) - 2 < n
      · have i := ih (n - (fibN p : Nat)) (by omega) (by omega)
        have e : cf p n = 0 := cf_over hs hz
        rw [hcf hz, e, dg_use (by unfold usedS; apply decide_eq_true; omega), dg_use (by unfold usedD; exact decide_eq_true hs), Int.zero_add]
        refine ⟨i.1, i.2.trans ⟨fun h => by rw [h], fun h => (List.append_inj' h rfl).1⟩⟩
      · have i1 := ih n h0 (by omega)
        have i2 := ih (n - (fibN p : Nat)) (by omega) (by omega)
        rw [hcf hz, dg_use (by unfold usedS; apply decide_eq_true; omega), dg_top (by unfold usedD; exact decide_eq_false hs)]
        refine ⟨by omega, fun h => by omega, fun h => ?_⟩
        have := (List.append_inj' h rfl).2
        simp at this
end Go.Proofs.Ytlimphfkagdjiaa
