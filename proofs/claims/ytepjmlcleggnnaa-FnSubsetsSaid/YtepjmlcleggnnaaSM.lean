/-
  PLAIN LAWS on subsets: a subset as the numbers that a test keeps; its mask; ranks in the order of masks. No program in sight.
-/
import Derived.Test.YtepjmlcleggnnaaS5
namespace Go.Proofs.Ytepjmlcleggnnaa
open Go.RowKit

/-- The numbers below n that p keeps. -/
def lp (p : Nat → Bool) (n : Nat) : List Int := ((List.range n).filter p).map fun x : Nat => (x : Int)
theorem lp_zero (p : Nat → Bool) : lp p 0 = [] := rfl
theorem lp_succ (p : Nat → Bool) (n : Nat) : lp p (n + 1) = lp p n ++ if p n then [(n : Int)] else [] := by
  unfold lp
  rw [List.range_succ, List.filter_append, List.map_append]
  by_cases h : p n = true <;> simp [h]
theorem lp_yes {p : Nat → Bool} {n : Nat} (h : p n = true) : lp p (n + 1) = lp p n ++ [(n : Int)] := by rw [lp_succ, h]; rfl
theorem lp_no {p : Nat → Bool} {n : Nat} (h : p n = false) : lp p (n + 1) = lp p n := by rw [lp_succ, h]; simp
theorem lp_congr {p q : Nat → Bool} : ∀ {n : Nat}, (∀ x, x < n → p x = q x) → lp p n = lp q n := by
  intro n
  induction n with
  | zero => intro _; rfl
  | succ n ih => intro h; rw [lp_succ, lp_succ, ih (fun x hx => h x (by omega)), h n (by omega)]
theorem lp_len (p : Nat → Bool) : ∀ n, (lp p n).length ≤ n := by
  intro n
  induction n with
  | zero => exact Nat.le_refl _
  | succ n ih => rw [lp_succ]; split <;> simp <;> omega
theorem lp_lens (p : Nat → Bool) : ∀ n, (lp p n).length + (lp (fun x => !p x) n).length = n := by
  intro n
  induction n with
  | zero => rfl
  | succ n ih =>
    rw [lp_succ, lp_succ, List.length_append, List.length_append]
    cases h : p n <;> simp <;> omega
theorem lp_mem {p : Nat → Bool} {x : Int} : ∀ {n : Nat}, x ∈ lp p n → ∃ y : Nat, x = y ∧ y < n ∧ p y = true := by
  intro n hx
  unfold lp at hx
  obtain ⟨y, hy, rfl⟩ := List.mem_map.1 hx
  rw [List.mem_filter, List.mem_range] at hy
  exact ⟨y, rfl, hy.1, hy.2⟩
theorem lp_has {p : Nat → Bool} {x n : Nat} (h : x < n) : (lp p n).contains (x : Int) = p x := by
  rw [Bool.eq_iff_iff, List.contains_iff_mem]
  constructor
  · intro hm
    obtain ⟨y, e, _, hy⟩ := lp_mem hm
    have : x = y := by omega
    rw [this]; exact hy
  · intro hp
    unfold lp
    exact List.mem_map.2 ⟨x, List.mem_filter.2 ⟨List.mem_range.2 h, hp⟩, rfl⟩
/-- Beyond m nothing is kept. -/
theorem lp_more {p q : Nat → Bool} {m : Nat} (h : ∀ x, x < m → p x = q x) (h0 : ∀ x, m ≤ x → p x = false) : ∀ n, m ≤ n → lp p n = lp q m := by
  intro n
  induction n with
  | zero => intro hn; obtain rfl : m = 0 := by omega
            rfl
  | succ n ih =>
    intro hn
    by_cases e : m = n + 1
    · subst e; exact lp_congr h
    · rw [lp_no (h0 n (by omega)), ih (by omega)]

/-- i of the numbers lie below x. -/
structure Ptr (xs : List Int) (x i : Nat) : Prop where
  le : i ≤ xs.length
  lo : ∀ (j : Nat) (v : Int), j < i → xs[j]? = some v → v < x
  hi : ∀ (j : Nat) (v : Int), i ≤ j → xs[j]? = some v → (x : Int) ≤ v
theorem sub_inc {xs : List Int} {m : Int} (h : subSoFar xs m xs.length) : ∀ (d j : Nat) (v u : Int), xs[j]? = some v → xs[j + d + 1]? = some u → v < u := by
  intro d
  induction d with
  | zero =>
    intro j v u hv hu
    have hk := (List.getElem?_eq_some_iff.1 hu).1
    have h0 := h (j + 0 + 1) hk
    rw [subAt_pos (by omega) hu (y := v) (by simpa using hv), Bool.and_eq_true] at h0
    exact of_decide_eq_true h0.2
  | succ d ih =>
    intro j v u hv hu
    have hk := (List.getElem?_eq_some_iff.1 hu).1
    have hy : xs[j + d + 1]? = some (xs[j + d + 1]'(by omega)) := List.getElem?_eq_getElem (by omega)
    have h1 := ih j v _ hv hy
    have h0 := h (j + (d + 1) + 1) hk
    rw [subAt_pos (by omega) hu (y := xs[j + d + 1]'(by omega)) (by rw [show j + (d + 1) + 1 - 1 = j + d + 1 by omega]; exact hy), Bool.and_eq_true] at h0
    have := of_decide_eq_true h0.2
    omega
theorem Ptr.start {xs : List Int} {m : Int} (h : subSoFar xs m xs.length) : Ptr xs 0 0 := ⟨Nat.zero_le _, fun j v hj => by omega, fun j v _ hv => by have := sub_at h j v hv; omega⟩
theorem Ptr.yes {xs : List Int} {m : Int} {x i : Nat} (h : subSoFar xs m xs.length) (p : Ptr xs x i) (hx : xs[i]? = some (x : Int)) : Ptr xs (x + 1) (i + 1) ∧ xs.contains (x : Int) = true := by
  have hi := (List.getElem?_eq_some_iff.1 hx).1
  refine ⟨⟨hi, fun j v hj hv => ?_, fun j v hj hv => ?_⟩, List.contains_iff_mem.2 (List.mem_of_getElem? hx)⟩
  · by_cases e : j = i
    · subst e; rw [hx] at hv; have := Option.some.inj hv; omega
    · have := p.lo j v (by omega) hv; omega
  · have := sub_inc h (j - i - 1) i x v hx (by rw [show i + (j - i - 1) + 1 = j by omega]; exact hv)
    omega
theorem Ptr.no {xs : List Int} {m : Int} {x i : Nat} (h : subSoFar xs m xs.length) (p : Ptr xs x i) (hx : xs[i]? ≠ some (x : Int)) : Ptr xs (x + 1) i ∧ xs.contains (x : Int) = false := by
  have key : ∀ (j : Nat) (v : Int), i ≤ j → xs[j]? = some v → (x : Int) < v := fun j v hj hv => by
    have h1 := p.hi j v hj hv
    rcases Int.lt_or_eq_of_le h1 with h2 | h2
    · exact h2
    · exfalso
      by_cases e : j = i
      · subst e; rw [← h2] at hv; exact hx hv
      · have hk := (List.getElem?_eq_some_iff.1 hv).1
        have hy : xs[i]? = some (xs[i]'(by omega)) := List.getElem?_eq_getElem (by omega)
        have h3 := p.hi i _ (Nat.le_refl _) hy
        have := sub_inc h (j - i - 1) i _ v hy (by rw [show i + (j - i - 1) + 1 = j by omega]; exact hv)
        omega
  refine ⟨⟨p.le, fun j v hj hv => by have := p.lo j v hj hv; omega, fun j v hj hv => by have := key j v hj hv; omega⟩, ?_⟩
  rw [Bool.eq_false_iff]
  intro hc
  obtain ⟨j, hj⟩ := List.mem_iff_getElem?.1 (List.contains_iff_mem.1 hc)
  rcases Nat.lt_or_ge j i with h1 | h1
  · have := p.lo j _ h1 hj; omega
  · have := key j _ h1 hj; omega
/-- The mask of the kept numbers, from the first place on. -/
def mskL (p : Nat → Bool) : Nat → Nat
  | 0 => 0
  | n + 1 => (if p 0 then 1 else 0) + 2 * mskL (fun x => p (x + 1)) n
theorem mskL_top : ∀ (n : Nat) (p : Nat → Bool), mskL p (n + 1) = mskL p n + if p n then 2 ^ n else 0 := by
  intro n
  induction n with
  | zero => intro p; simp [mskL]
  | succ n ih =>
    intro p
    rw [mskL, ih, show mskL p (n + 1) = (if p 0 then 1 else 0) + 2 * mskL (fun x => p (x + 1)) n from rfl, Nat.pow_succ]
    by_cases h : p (n + 1) = true <;> simp [h] <;> omega
theorem mskL_lt : ∀ (n : Nat) (p : Nat → Bool), mskL p n < 2 ^ n := by
  intro n
  induction n with
  | zero => intro p; simp [mskL]
  | succ n ih =>
    intro p
    have := ih fun x => p (x + 1)
    rw [mskL, Nat.pow_succ]
    split <;> omega
theorem mskL_bit : ∀ (n : Nat) (p : Nat → Bool) (x : Nat), (mskL p n).testBit x = (decide (x < n) && p x) := by
  intro n
  induction n with
  | zero => intro p x; simp [mskL]
  | succ n ih =>
    intro p x
    rw [mskL]
    cases x with
    | zero =>
      rw [Nat.testBit_zero]
      by_cases h : p 0 = true
      · simp [h]
      · simp [h]
    | succ x =>
      rw [Nat.testBit_succ]
      have : ((if p 0 = true then 1 else 0) + 2 * mskL (fun x => p (x + 1)) n) / 2 = mskL (fun x => p (x + 1)) n := by split <;> omega
      rw [this, ih]
      simp
theorem mskL_not : ∀ (n : Nat) (p : Nat → Bool), mskL p n + mskL (fun x => !p x) n + 1 = 2 ^ n := by
  intro n
  induction n with
  | zero => intro p; rfl
  | succ n ih =>
    intro p
    have := ih fun x => p (x + 1)
    rw [mskL, mskL, Nat.pow_succ]
    cases h : p 0 <;> simp <;> omega
/-- The sum of binary digits. -/
def ones : Nat → Nat → Nat
  | 0, _ => 0
  | f + 1, n => n % 2 + ones f (n / 2)
theorem ones_msk : ∀ (n : Nat) (p : Nat → Bool), ones n (mskL p n) = (lp p n).length := by
  have key : ∀ (n : Nat) (p : Nat → Bool), (lp p (n + 1)).length = (if p 0 then 1 else 0) + (lp (fun x => p (x + 1)) n).length := by
    intro n
    induction n with
    | zero => intro p; rw [lp_succ, lp_zero, lp_zero]; cases p 0 <;> simp
    | succ n ih =>
      intro p
      rw [lp_succ, List.length_append, ih p, lp_succ (fun x => p (x + 1)), List.length_append]
      cases p (n + 1) <;> simp <;> omega
  intro n
  induction n with
  | zero => intro p; rfl
  | succ n ih =>
    intro p
    rw [key, ← ih, ones, mskL]
    have e1 : ((if p 0 = true then 1 else 0) + 2 * mskL (fun x => p (x + 1)) n) / 2 = mskL (fun x => p (x + 1)) n := by split <;> omega
    have e2 : ((if p 0 = true then 1 else 0) + 2 * mskL (fun x => p (x + 1)) n) % 2 = if p 0 = true then 1 else 0 := by split <;> omega
    rw [e1, e2]
/-- Numbers, mask and test tell the same. -/
theorem ptr_all {xs : List Int} {m : Int} (h : subSoFar xs m xs.length) : ∀ x : Nat, ∃ i, Ptr xs x i ∧ lp (fun y => xs.contains (y : Int)) x = xs.take i ∧ maskUp xs i = mskL (fun y => xs.contains (y : Int)) x := by
  intro x
  induction x with
  | zero => exact ⟨0, Ptr.start h, rfl, maskUp_zero _⟩
  | succ x ih =>
    obtain ⟨i, p, e1, e2⟩ := ih
    by_cases hx : xs[i]? = some (x : Int)
    · obtain ⟨p', hc⟩ := p.yes h hx
      refine ⟨i + 1, p', ?_, ?_⟩
      · rw [lp_yes hc, e1, List.take_add_one, hx]; rfl
      · rw [maskUp_succ hx, mskL_top, e2, hc]; rfl
    · obtain ⟨p', hc⟩ := p.no h hx
      refine ⟨i, p', ?_, ?_⟩
      · rw [lp_no hc, e1]
      · rw [mskL_top, e2, hc]; rfl
theorem sub_same {xs : List Int} {m : Nat} (h : subSoFar xs m xs.length) : lp (fun y => xs.contains (y : Int)) m = xs ∧ maskUp xs xs.length = mskL (fun y => xs.contains (y : Int)) m := by
  obtain ⟨i, p, e1, e2⟩ := ptr_all h m
  have hi : i = xs.length := by
    rcases Nat.lt_or_ge i xs.length with hlt | hge
    · exfalso
      have hv : xs[i]? = some xs[i] := List.getElem?_eq_getElem hlt
      have := p.hi i _ (Nat.le_refl _) hv
      have := sub_at h i _ hv
      omega
    · have := p.le; omega
  subst hi
  rw [List.take_length] at e1
  exact ⟨e1, e2⟩
/-- Kept numbers are a subset. -/
theorem lp_inc (p : Nat → Bool) : ∀ n : Nat, subSoFar (lp p n) n (lp p n).length := by
  intro n
  induction n with
  | zero => intro i hi; simp [lp_zero] at hi
  | succ n ih =>
    intro i hi
    have hx : (lp p (n + 1))[i]? = some (lp p (n + 1))[i] := List.getElem?_eq_getElem hi
    obtain ⟨y, e, hy, _⟩ := lp_mem (List.mem_of_getElem? hx)
    rw [e] at hx
    cases i with
    | zero => rw [subAt_zero hx]; exact inB_of ⟨by omega, by omega⟩
    | succ i =>
      have hz : (lp p (n + 1))[i]? = some ((lp p (n + 1))[i]'(by omega)) := List.getElem?_eq_getElem (by omega)
      obtain ⟨z, e2, hz2, _⟩ := lp_mem (List.mem_of_getElem? hz)
      rw [e2] at hz
      rw [subAt_pos (by omega) hx (y := (z : Int)) (by simpa using hz), inB_of ⟨by omega, by omega⟩, Bool.true_and]
      apply decide_eq_true
      rw [lp_succ] at hx hz hi
      by_cases h1 : i + 1 < (lp p n).length
      · rw [List.getElem?_append_left h1] at hx
        rw [List.getElem?_append_left (by omega)] at hz
        have := ih (i + 1) h1
        rw [subAt_pos (by omega) hx (y := (z : Int)) (by simpa using hz), Bool.and_eq_true] at this
        exact of_decide_eq_true this.2
      · have hpn : p n = true := by
          cases hp : p n
          · rw [hp] at hi; simp at hi; omega
          · rfl
        rw [hpn] at hx hz hi
        simp at hi
        have hl : i + 1 = (lp p n).length := by omega
        rw [List.getElem?_append_right (by omega), hl, Nat.sub_self] at hx
        rw [List.getElem?_append_left (by omega)] at hz
        obtain ⟨z', e3, hz3, _⟩ := lp_mem (List.mem_of_getElem? hz)
        simp at hx
        omega
theorem lp_sub (p : Nat → Bool) {n : Nat} (hn : n ≤ 20) : subB (lp p n) n = true := by
  rw [subB_end (lp_inc p n)]
  exact inB_of ⟨by omega, by omega⟩
/-- The numbers below m that are not in the list. -/
def otherB (xs : List Int) (m : Int) : Bool := subB xs m
def otherL (xs : List Int) (m : Int) : List Int := if subB xs m then lp (fun y => !xs.contains (y : Int)) m.toNat else []
theorem otherL_of {xs : List Int} {m : Nat} (h : subB xs m = true) : otherL xs m = lp (fun y => !xs.contains (y : Int)) m := by simp [otherL, h]
theorem otherL_no {xs : List Int} {m : Int} (h : subB xs m = false) : otherL xs m = [] := by simp [otherL, h]
theorem otherL_len (xs : List Int) (m : Int) : (otherL xs m).length ≤ 1099511627776 := by
  unfold otherL
  split
  · rename_i h
    have := subB_parts h
    have := lp_len (fun y => !xs.contains (y : Int)) m.toNat
    omega
  · simp
/-- What the program's mask of the others is. -/
theorem other_mask {xs : List Int} {m : Nat} (h : subB xs m = true) : ((2 : Int) ^ m - 1 - (maskUp xs xs.length : Nat)) = (mskL (fun y => !xs.contains (y : Int)) m : Nat) ∧ (mskL (fun y => !xs.contains (y : Int)) m : Nat) < 2 ^ 20 ∧
    lp (fun x => (mskL (fun y => !xs.contains (y : Int)) m).testBit x) 20 = otherL xs m := by
  obtain ⟨h0, h1, hS⟩ := subB_parts h
  have h2 := (sub_same hS).2
  have h3 := mskL_not m fun y => xs.contains (y : Int)
  have e : (2 : Int) ^ m = ((2 ^ m : Nat) : Int) := by simp
  have h4 : 2 ^ m ≤ 2 ^ 20 := Nat.pow_le_pow_right (by omega) (by omega)
  refine ⟨by rw [e, h2]; omega, by have := mskL_lt m fun y => !xs.contains (y : Int); omega, ?_⟩
  rw [otherL_of h]
  refine lp_more (m := m) (fun x hx => ?_) (fun x hx => ?_) 20 (by omega)
  · rw [mskL_bit]; simp [hx]
  · rw [mskL_bit]; simp; omega
attribute [irreducible] lp mskL ones
end Go.Proofs.Ytepjmlcleggnnaa
