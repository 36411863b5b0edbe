/-
  PLAIN LAWS on the table of fewest coins. No program in sight.
-/
import Derived.Test.YtlhabcpoemcpjaaC5
namespace Go.Proofs.Ytlhabcpoemcpjaa
open Go.RowKit

/-- The fewest coins for x out of the first j coins, the table T being that of the smaller numbers. -/
def bestTo (T cs : List Int) (x : Nat) : Nat → Int
  | 0 => x
  | j + 1 => if cs.getD j 1 ≤ x then min (bestTo T cs x j) (T.getD (x - (cs.getD j 1).toNat) 0 + 1) else bestTo T cs x j
theorem bestTo_zero (T cs : List Int) (x : Nat) : bestTo T cs x 0 = x := rfl
theorem bestTo_yes {T cs : List Int} {x j c : Nat} {a : Int} (hc : cs[j]? = some (c : Int)) (h : c ≤ x) (ha : T[x - c]? = some a) : bestTo T cs x (j + 1) = min (bestTo T cs x j) (a + 1) := by
  have e : cs.getD j 1 = c := by simp [List.getD, hc]
  show (if cs.getD j 1 ≤ x then min (bestTo T cs x j) (T.getD (x - (cs.getD j 1).toNat) 0 + 1) else bestTo T cs x j) = _
  rw [e, if_pos (by omega), Int.toNat_natCast, getD_of ha]
theorem bestTo_no {T cs : List Int} {x j c : Nat} (hc : cs[j]? = some (c : Int)) (h : ¬ c ≤ x) : bestTo T cs x (j + 1) = bestTo T cs x j := by
  have e : cs.getD j 1 = c := by simp [List.getD, hc]
  show (if cs.getD j 1 ≤ x then min (bestTo T cs x j) (T.getD (x - (cs.getD j 1).toNat) 0 + 1) else bestTo T cs x j) = _
  rw [e, if_neg (by omega)]
theorem bestTo_bounds {T cs : List Int} {x : Nat} (hT : ∀ v ∈ T, (0 : Int) ≤ v) (j : Nat) : 0 ≤ bestTo T cs x j ∧ bestTo T cs x j ≤ x := by
  induction j with
  | zero => rw [bestTo_zero]; omega
  | succ j ih =>
    have hg : ∀ i, 0 ≤ T.getD i 0 := fun i => by
      rcases Nat.lt_or_ge i T.length with h | h
      · rw [getD_of (List.getElem?_eq_getElem h)]
        exact hT _ (List.getElem_mem h)
      · unfold List.getD
        rw [List.getElem?_eq_none h]
        exact Int.le_refl _
    have hg := hg (x - (cs.getD j 1).toNat)
    show 0 ≤ (if cs.getD j 1 ≤ x then min (bestTo T cs x j) (T.getD (x - (cs.getD j 1).toNat) 0 + 1) else bestTo T cs x j) ∧ (if cs.getD j 1 ≤ x then min (bestTo T cs x j) (T.getD (x - (cs.getD j 1).toNat) 0 + 1) else bestTo T cs x j) ≤ x
    split <;> omega
attribute [irreducible] bestTo
/-- The table of fewest coins, 0 to k. -/
def fewT (cs : List Int) : Nat → List Int
  | 0 => [0]
  | k + 1 => fewT cs k ++ [bestTo (fewT cs k) cs (k + 1) cs.length]
theorem fewT_zero (cs : List Int) : fewT cs 0 = [0] := rfl
theorem fewT_succ (cs : List Int) (k : Nat) : fewT cs (k + 1) = fewT cs k ++ [bestTo (fewT cs k) cs (k + 1) cs.length] := rfl
theorem fewT_len (cs : List Int) (k : Nat) : (fewT cs k).length = k + 1 := by
  induction k with
  | zero => rfl
  | succ k ih => rw [fewT_succ, List.length_append, ih]; rfl
theorem fewT_bounds (cs : List Int) (k : Nat) : ∀ v ∈ fewT cs k, (0 : Int) ≤ v ∧ v ≤ k := by
  induction k with
  | zero => intro v hv; rw [fewT_zero] at hv; simp at hv; omega
  | succ k ih =>
    intro v hv
    rw [fewT_succ, List.mem_append] at hv
    rcases hv with hv | hv
    · have := ih v hv; omega
    · simp at hv
      have := bestTo_bounds (cs := cs) (x := k + 1) (fun v hv => (ih v hv).1) cs.length
      omega
attribute [irreducible] fewT
/-- The table of impl at the number x behind its first j coins. -/
def tabI (cs : List Int) (n : Nat) : Nat → Nat → List Int
  | 0, _ => [0] ++ List.replicate n (-1)
  | x + 1, 0 => fewT cs x ++ List.replicate (n - x) (-1)
  | x + 1, j + 1 => fewT cs x ++ (bestTo (fewT cs x) cs (x + 1) (j + 1) :: List.replicate (n - (x + 1)) (-1))
theorem tabI_len (cs : List Int) {n x : Nat} (j : Nat) (hx : x ≤ n) : (tabI cs n x j).length = n + 1 := by
  cases x with
  | zero => simp [tabI]
  | succ x => cases j <;> simp [tabI, fewT_len] <;> omega
theorem tabI_start (cs : List Int) (n : Nat) : tabI cs n 0 0 = 0 :: List.replicate n (-1) := rfl
/-- What lies at x - c, c a coin. -/
theorem tabI_low {cs : List Int} {n x j c : Nat} {a : Int} (_hx : x ≤ n) (h1 : 1 ≤ c) (hc : c ≤ x) (ha : (tabI cs n x j)[x - c]? = some a) : (fewT cs (x - 1))[x - c]? = some a ∧ 0 ≤ a ∧ a ≤ x := by
  cases x with
  | zero => omega
  | succ x =>
    have e : (fewT cs x)[x + 1 - c]? = some a := by
      cases j with
      | zero => rw [tabI, List.getElem?_append_left (by rw [fewT_len]; omega)] at ha; exact ha
      | succ j => rw [tabI, List.getElem?_append_left (by rw [fewT_len]; omega)] at ha; exact ha
    have := fewT_bounds cs x a (List.mem_of_getElem? e)
    exact ⟨e, this.1, by omega⟩
theorem tabI_first {cs : List Int} {n x : Nat} {b : Int} (hx : x + 1 ≤ n) (hb : (tabI cs n (x + 1) 0)[x + 1]? = some b) : b = -1 := by
  rw [tabI, List.getElem?_append_right (by rw [fewT_len]; exact Nat.le_refl _), fewT_len, List.getElem?_replicate] at hb
  split at hb
  · exact (Option.some.inj hb).symm
  · cases hb
theorem tabI_cur {cs : List Int} {n x j : Nat} {b : Int} (hb : (tabI cs n (x + 1) (j + 1))[x + 1]? = some b) : b = bestTo (fewT cs x) cs (x + 1) (j + 1) := by
  rw [tabI, List.getElem?_append_right (by rw [fewT_len]; exact Nat.le_refl _), fewT_len, Nat.sub_self] at hb
  exact (Option.some.inj hb).symm
/-- A coin that is greater than x: nothing turns. -/
theorem tabI_skip {cs : List Int} {n x j c : Nat} (h0 : cs[0]? = some 1) (hc : cs[j]? = some (c : Int)) (h : ¬ c ≤ x) : tabI cs n x (j + 1) = tabI cs n x j := by
  cases x with
  | zero => rfl
  | succ x =>
    cases j with
    | zero => rw [h0] at hc; have := Option.some.inj hc; omega
    | succ j => show _ ++ (_ :: _) = _ ++ (_ :: _); rw [bestTo_no hc h]
/-- A coin that fits, and is taken up. -/
theorem tabI_set {cs : List Int} {n x j c : Nat} {a b : Int} (hx : x ≤ n) (h0 : cs[0]? = some 1) (hc : cs[j]? = some (c : Int)) (h1 : 1 ≤ c) (h : c ≤ x)
    (ha : (tabI cs n x j)[x - c]? = some a) (hb : (tabI cs n x j)[x]? = some b) (hab : b < 0 ∨ a + 1 < b) : tabI cs n x (j + 1) = (tabI cs n x j).set x (a + 1) := by
  obtain ⟨ea, a0, a1⟩ := tabI_low hx h1 h ha
  cases x with
  | zero => omega
  | succ x =>
    rw [Nat.add_sub_cancel] at ea
    have hbt := bestTo_yes hc h ea
    cases j with
    | zero =>
      rw [h0] at hc
      have := Option.some.inj hc
      obtain rfl : c = 1 := by omega
      have hv := fewT_bounds cs x a (List.mem_of_getElem? ea)
      rw [bestTo_zero] at hbt
      rw [tabI, tabI, List.set_append_right _ _ (by rw [fewT_len]; exact Nat.le_refl _), fewT_len, Nat.sub_self, hbt]
      rw [show n - x = (n - (x + 1)) + 1 by omega, List.replicate_succ, List.set_cons_zero]
      congr 2
      omega
    | succ j =>
      have eb := tabI_cur hb
      have hp := bestTo_bounds (cs := cs) (x := x + 1) (fun v hv => (fewT_bounds cs x v hv).1) (j + 1)
      rw [tabI, tabI, List.set_append_right _ _ (by rw [fewT_len]; exact Nat.le_refl _), fewT_len, Nat.sub_self, List.set_cons_zero, hbt]
      congr 2
      omega
/-- A coin that fits, and is not better. -/
theorem tabI_keep {cs : List Int} {n x j c : Nat} {a b : Int} (hx : x ≤ n) (hc : cs[j]? = some (c : Int)) (h1 : 1 ≤ c) (h : c ≤ x)
    (ha : (tabI cs n x j)[x - c]? = some a) (hb : (tabI cs n x j)[x]? = some b) (hab : ¬ b < 0) (hab2 : ¬ a + 1 < b) : tabI cs n x (j + 1) = tabI cs n x j := by
  obtain ⟨ea, a0, a1⟩ := tabI_low hx h1 h ha
  cases x with
  | zero => omega
  | succ x =>
    rw [Nat.add_sub_cancel] at ea
    have hbt := bestTo_yes hc h ea
    cases j with
    | zero => have := tabI_first hx hb; omega
    | succ j =>
      have eb := tabI_cur hb
      rw [tabI, tabI, hbt]
      congr 2
      omega
/-- On to the next number. -/
theorem tabI_next {cs : List Int} {n x : Nat} (hx : x < n) (hne : 0 < cs.length) : tabI cs n x cs.length = tabI cs n (x + 1) 0 := by
  cases x with
  | zero => rw [tabI, tabI, fewT_zero, Nat.sub_zero]
  | succ x =>
    obtain ⟨j, hj⟩ : ∃ j, cs.length = j + 1 := ⟨cs.length - 1, by omega⟩
    rw [hj, tabI, tabI, fewT_succ, hj, List.append_assoc]
    rfl
theorem tabI_end {cs : List Int} {n : Nat} (hne : 0 < cs.length) : tabI cs n n cs.length = fewT cs n := by
  cases n with
  | zero => rw [tabI, fewT_zero]; rfl
  | succ n =>
    obtain ⟨j, hj⟩ : ∃ j, cs.length = j + 1 := ⟨cs.length - 1, by omega⟩
    rw [hj, tabI, fewT_succ, hj, Nat.sub_self]
    rfl
end Go.Proofs.Ytlhabcpoemcpjaa
