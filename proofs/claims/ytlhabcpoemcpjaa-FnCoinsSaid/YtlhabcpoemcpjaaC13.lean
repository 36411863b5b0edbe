/-
  PLAIN LAWS on coins: least digits; the fewest coins of a number are the fewest. No program in sight.
-/
import Derived.Test.YtlhabcpoemcpjaaC12
namespace Go.Proofs.Ytlhabcpoemcpjaa
open Go.RowKit

/-- The first number from d on, k tries. -/
def srch {α : Type} (f : Nat → Option α) : Nat → Nat → Option α
  | 0, _ => none
  | k + 1, d => match f d with
    | some b => some b
    | none => srch f k (d + 1)
theorem srch_zero {α : Type} (f : Nat → Option α) (d : Nat) : srch f 0 d = none := rfl
theorem srch_some {α : Type} {f : Nat → Option α} {k d : Nat} {b : α} (h : f d = some b) : srch f (k + 1) d = some b := by simp [srch, h]
theorem srch_none {α : Type} {f : Nat → Option α} {k d : Nat} (h : f d = none) : srch f (k + 1) d = srch f k (d + 1) := by simp [srch, h]
theorem srch_out {α : Type} {f : Nat → Option α} : ∀ (k d : Nat), (∀ j, d ≤ j → f j = none) → srch f k d = none := by
  intro k
  induction k with
  | zero => intro d _; rfl
  | succ k ih => intro d h; rw [srch_none (h d (Nat.le_refl _))]; exact ih _ fun j hj => h j (by omega)
theorem srch_isSome {α : Type} {f : Nat → Option α} : ∀ (k d : Nat), (srch f k d).isSome = true ↔ ∃ j, d ≤ j ∧ j < d + k ∧ (f j).isSome = true := by
  intro k
  induction k with
  | zero => intro d; simp [srch]; intro j h1 h2; omega
  | succ k ih =>
    intro d
    cases h : f d with
    | some b => rw [srch_some h]; simp; exact ⟨d, Nat.le_refl _, by omega, by simp [h]⟩
    | none =>
      rw [srch_none h, ih]
      constructor
      · rintro ⟨j, h1, h2, h3⟩; exact ⟨j, by omega, by omega, h3⟩
      · rintro ⟨j, h1, h2, h3⟩
        refine ⟨j, ?_, by omega, h3⟩
        rcases Nat.lt_or_ge d j with h4 | h4
        · omega
        · obtain rfl : j = d := by omega
          rw [h] at h3; cases h3
theorem srch_at {α : Type} {f : Nat → Option α} {b : α} : ∀ (k d : Nat), srch f k d = some b → ∃ j, d ≤ j ∧ j < d + k ∧ f j = some b ∧ ∀ i, d ≤ i → i < j → f i = none := by
  intro k
  induction k with
  | zero => intro d h; cases h
  | succ k ih =>
    intro d h
    cases hf : f d with
    | some c =>
      rw [srch_some hf] at h
      obtain rfl := Option.some.inj h
      exact ⟨d, Nat.le_refl _, by omega, hf, fun i h1 h2 => by omega⟩
    | none =>
      rw [srch_none hf] at h
      obtain ⟨j, h1, h2, h3, h4⟩ := ih _ h
      refine ⟨j, by omega, by omega, h3, fun i h5 h6 => ?_⟩
      by_cases e : i = d
      · rw [e]; exact hf
      · exact h4 i (by omega) h6
/-- The least digits of n with s coins in all. -/
def lst : List Int → Int → Nat → Option (List Int)
  | [], n, s => if n = 0 ∧ s = 0 then some [] else none
  | c :: cs, n, s => srch (fun d => (lst cs (n - d * c) (s - d)).map fun l => (d : Int) :: l) (s + 1) 0
def Rep (cs : List Int) (n : Int) (s : Nat) : Prop := (lst cs n s).isSome = true
theorem Rep.nil_iff {n : Int} {s : Nat} : Rep [] n s ↔ n = 0 ∧ s = 0 := by unfold Rep lst; split <;> simp_all
theorem Rep.cons_iff {c : Int} {cs : List Int} {n : Int} {s : Nat} : Rep (c :: cs) n s ↔ ∃ d : Nat, d ≤ s ∧ Rep cs (n - d * c) (s - d) := by
  unfold Rep
  rw [lst, srch_isSome]
  constructor
  · rintro ⟨j, _, h2, h3⟩; exact ⟨j, by omega, by simpa using h3⟩
  · rintro ⟨j, h2, h3⟩; exact ⟨j, by omega, by omega, by simpa using h3⟩
theorem Rep.bounds {lo hi : Int} : ∀ (cs : List Int), (∀ c ∈ cs, lo ≤ c ∧ c ≤ hi) → ∀ (n : Int) (s : Nat), Rep cs n s → s * lo ≤ n ∧ n ≤ s * hi := by
  intro cs
  induction cs with
  | nil => intro _ n s h; obtain ⟨rfl, rfl⟩ := Rep.nil_iff.1 h; simp
  | cons c cs ih =>
    intro hc n s h
    obtain ⟨d, hd, h2⟩ := Rep.cons_iff.1 h
    have i := ih (fun x hx => hc x (by simp [hx])) _ _ h2
    have b := hc c (by simp)
    obtain ⟨t, rfl⟩ : ∃ t, s = d + t := ⟨s - d, by omega⟩
    rw [Nat.add_sub_cancel_left] at i
    have m1 : (d : Int) * lo ≤ d * c := Int.mul_le_mul_of_nonneg_left b.1 (by omega)
    have m2 : (d : Int) * c ≤ d * hi := Int.mul_le_mul_of_nonneg_left b.2 (by omega)
    have e1 : ((d + t : Nat) : Int) * lo = d * lo + t * lo := by rw [Int.natCast_add, Int.add_mul]
    have e2 : ((d + t : Nat) : Int) * hi = d * hi + t * hi := by rw [Int.natCast_add, Int.add_mul]
    omega
theorem Rep.add {cs : List Int} {c : Int} (hc : c ∈ cs) : ∀ {n : Int} {s : Nat}, Rep cs n s → Rep cs (n + c) (s + 1) := by
  induction cs with
  | nil => cases hc
  | cons x cs ih =>
    intro n s h
    obtain ⟨d, hd, h2⟩ := Rep.cons_iff.1 h
    rcases List.mem_cons.1 hc with rfl | hc
    · refine Rep.cons_iff.2 ⟨d + 1, by omega, ?_⟩
      rw [show s + 1 - (d + 1) = s - d by omega]
      have : n + c - ((d + 1 : Nat) : Int) * c = n - d * c := by rw [Int.natCast_add, Int.add_mul]; omega
      rw [this]; exact h2
    · have := ih hc h2
      refine Rep.cons_iff.2 ⟨d, by omega, ?_⟩
      rw [show s + 1 - d = s - d + 1 by omega, show n + c - (d : Int) * x = n - d * x + c by omega]
      exact this
theorem Rep.pred : ∀ {cs : List Int} {n : Int} {s : Nat}, Rep cs n (s + 1) → ∃ c ∈ cs, Rep cs (n - c) s := by
  intro cs
  induction cs with
  | nil => intro n s h; have := (Rep.nil_iff.1 h).2; omega
  | cons x cs ih =>
    intro n s h
    obtain ⟨d, hd, h2⟩ := Rep.cons_iff.1 h
    cases d with
    | zero =>
      obtain ⟨c, hc, h3⟩ := ih (n := n - (0 : Nat) * x) (s := s) h2
      refine ⟨c, by simp [hc], Rep.cons_iff.2 ⟨0, by omega, ?_⟩⟩
      have : n - c - ((0 : Nat) : Int) * x = n - ((0 : Nat) : Int) * x - c := by omega
      rw [this, Nat.sub_zero]; exact h3
    | succ d =>
      refine ⟨x, by simp, Rep.cons_iff.2 ⟨d, by omega, ?_⟩⟩
      have : n - x - (d : Int) * x = n - ((d + 1 : Nat) : Int) * x := by rw [Int.natCast_add, Int.add_mul]; omega
      rw [this, show s - d = s + 1 - (d + 1) by omega]; exact h2
theorem Rep.zero_iff {cs : List Int} {n : Int} (h : ∀ c ∈ cs, (1 : Int) ≤ c) : Rep cs n 0 ↔ n = 0 := by
  constructor
  · intro hr
    induction cs with
    | nil => exact (Rep.nil_iff.1 hr).1
    | cons c cs ih =>
      obtain ⟨d, hd, h2⟩ := Rep.cons_iff.1 hr
      obtain rfl : d = 0 := by omega
      have := ih (fun x hx => h x (by simp [hx])) (by simpa using h2)
      exact this
  · rintro rfl
    induction cs with
    | nil => exact Rep.nil_iff.2 ⟨rfl, rfl⟩
    | cons c cs ih => exact Rep.cons_iff.2 ⟨0, Nat.le_refl _, by simpa using ih fun x hx => h x (by simp [hx])⟩
theorem Rep.pos {cs : List Int} {n : Int} {s : Nat} (h : ∀ c ∈ cs, (1 : Int) ≤ c) (hr : Rep cs n s) : (s : Int) ≤ n := by
  have : ∀ (cs : List Int) (n : Int) (s : Nat), (∀ c ∈ cs, (1 : Int) ≤ c) → Rep cs n s → (s : Int) ≤ n := by
    intro cs
    induction cs with
    | nil => intro n s _ h; obtain ⟨rfl, rfl⟩ := Rep.nil_iff.1 h; simp
    | cons c cs ih =>
      intro n s hc h
      obtain ⟨d, hd, h2⟩ := Rep.cons_iff.1 h
      have i := ih _ _ (fun x hx => hc x (by simp [hx])) h2
      have b := hc c (by simp)
      have m1 : (d : Int) * 1 ≤ d * c := Int.mul_le_mul_of_nonneg_left b (by omega)
      omega
  exact this cs n s h hr

/-- The sum of products. -/
def dotL : List Int → List Int → Int
  | d :: ds, c :: cs => d * c + dotL ds cs
  | _, _ => 0
def sumP : List Int → Int
  | [] => 0
  | x :: xs => x + sumP xs
theorem lst_facts : ∀ (cs : List Int) (n : Int) (s : Nat) (l : List Int), lst cs n s = some l → l.length = cs.length ∧ dotL l cs = n ∧ sumP l = s ∧ ∀ x ∈ l, (0 : Int) ≤ x ∧ x ≤ s := by
  intro cs
  induction cs with
  | nil =>
    intro n s l h
    unfold lst at h
    split at h
    · rename_i hz
      obtain rfl := Option.some.inj h
      simp [dotL, sumP, hz.1, hz.2]
    · cases h
  | cons c cs ih =>
    intro n s l h
    unfold lst at h
    obtain ⟨d, _, hd, h2, _⟩ := srch_at _ _ h
    rcases h3 : lst cs (n - d * c) (s - d) with _ | l'
    · rw [h3] at h2; cases h2
    · rw [h3] at h2
      obtain rfl := Option.some.inj h2
      obtain ⟨i1, i2, i3, i4⟩ := ih _ _ _ h3
      refine ⟨by simp [i1], by simp only [dotL, i2]; omega, by simp only [sumP, i3]; omega, fun x hx => ?_⟩
      rcases List.mem_cons.1 hx with rfl | hx
      · omega
      · have := i4 x hx; omega
theorem Rep.of_list : ∀ (cs ds : List Int), ds.length = cs.length → (∀ x ∈ ds, (0 : Int) ≤ x) → Rep cs (dotL ds cs) (sumP ds).toNat ∧ 0 ≤ sumP ds := by
  intro cs
  induction cs with
  | nil =>
    intro ds hl _
    have : ds = [] := List.length_eq_zero_iff.1 (by simpa using hl)
    subst this
    exact ⟨Rep.nil_iff.2 ⟨rfl, rfl⟩, Int.le_refl _⟩
  | cons c cs ih =>
    intro ds hl h0
    cases ds with
    | nil => simp at hl
    | cons d ds =>
      have i := ih ds (by simpa using hl) fun x hx => h0 x (by simp [hx])
      have hd := h0 d (by simp)
      refine ⟨Rep.cons_iff.2 ⟨d.toNat, by simp only [sumP]; omega, ?_⟩, by simp only [sumP]; omega⟩
      have e1 : dotL (d :: ds) (c :: cs) - (d.toNat : Int) * c = dotL ds cs := by simp only [dotL]; rw [Int.toNat_of_nonneg hd]; omega
      have e2 : (sumP (d :: ds)).toNat - d.toNat = (sumP ds).toNat := by simp only [sumP]; omega
      rw [e1, e2]; exact i.1

/-- The fewest coins for x out of the first j coins, -1 if there are none; the table T is that of the smaller numbers. -/
def bestG (T cs : List Int) (x : Nat) : Nat → Int
  | 0 => if x = 0 then 0 else -1
  | j + 1 => if cs.getD j 1 ≤ x ∧ 0 ≤ T.getD (x - (cs.getD j 1).toNat) (-1) ∧ (bestG T cs x j < 0 ∨ T.getD (x - (cs.getD j 1).toNat) (-1) + 1 < bestG T cs x j) then T.getD (x - (cs.getD j 1).toNat) (-1) + 1 else bestG T cs x j
def genT (cs : List Int) : Nat → List Int
  | 0 => []
  | x + 1 => genT cs x ++ [bestG (genT cs x) cs x cs.length]
theorem genT_len (cs : List Int) (x : Nat) : (genT cs x).length = x := by
  induction x with
  | zero => rfl
  | succ x ih => simp [genT, ih]
theorem genT_succ (cs : List Int) (x : Nat) : genT cs (x + 1) = genT cs x ++ [bestG (genT cs x) cs x cs.length] := rfl
theorem genT_at (cs : List Int) {x : Nat} : ∀ n, x < n → (genT cs n)[x]? = some (bestG (genT cs x) cs x cs.length) := by
  intro n
  induction n with
  | zero => intro h; omega
  | succ n ih =>
    intro h
    rw [genT_succ]
    by_cases e : x = n
    · subst e
      rw [List.getElem?_append_right (by rw [genT_len]; exact Nat.le_refl _), genT_len, Nat.sub_self]
      rfl
    · rw [List.getElem?_append_left (by rw [genT_len]; omega)]
      exact ih (by omega)
/-- What an entry says: there are coins, and not fewer. -/
structure Fewest (cs : List Int) (n : Nat) (v : Int) : Prop where
  low : -1 ≤ v
  has : 0 ≤ v → Rep cs n v.toNat
  least : ∀ s : Nat, Rep cs n s → 0 ≤ v ∧ v ≤ s
theorem bestG_law {cs : List Int} (hcs : ∀ c ∈ cs, (1 : Int) ≤ c) {T : List Int} {x : Nat} (hT : ∀ y, y < x → ∃ v, T[y]? = some v ∧ Fewest cs y v) : ∀ j, j ≤ cs.length →
    -1 ≤ bestG T cs x j ∧ (0 ≤ bestG T cs x j → Rep cs x (bestG T cs x j).toNat) ∧ (x = 0 → bestG T cs x j = 0) ∧ (∀ i, i < j → ∀ c : Int, cs[i]? = some c → c ≤ x → ∀ s : Nat, Rep cs ((x : Int) - c) s → 0 ≤ bestG T cs x j ∧ bestG T cs x j ≤ s + 1) := by
  intro j
  induction j with
  | zero =>
    intro _
    by_cases h : x = 0
    · subst h
      simp only [bestG, if_true]
      exact ⟨by omega, fun _ => (Rep.zero_iff hcs).2 rfl, fun _ => trivial, fun i hi => by omega⟩
    · simp only [bestG, if_neg h]
      exact ⟨by omega, fun h => by omega, fun h2 => absurd h2 h, fun i hi => by omega⟩
  | succ j ih =>
    intro hj
    obtain ⟨i1, i2, i3, i4⟩ := ih (by omega)
    have hc : cs[j]? = some cs[j] := List.getElem?_eq_getElem (by omega)
    have hc1 := hcs _ (List.mem_of_getElem? hc)
    have eg : cs.getD j 1 = cs[j] := by simp [List.getD, hc]
    obtain ⟨c, ec⟩ : ∃ c : Nat, cs[j] = (c : Int) := ⟨cs[j].toNat, by omega⟩
    rw [ec] at hc hc1 eg
    have hbest : bestG T cs x (j + 1) = if (c : Int) ≤ x ∧ 0 ≤ T.getD (x - c) (-1) ∧ (bestG T cs x j < 0 ∨ T.getD (x - c) (-1) + 1 < bestG T cs x j) then T.getD (x - c) (-1) + 1 else bestG T cs x j := by
      simp only [bestG, eg, Int.toNat_natCast]
    rw [hbest]
    by_cases hle : c ≤ x
    · obtain ⟨v, hv, hF⟩ := hT (x - c) (by omega)
      have ev : T.getD (x - c) (-1) = v := by simp [List.getD, hv]
      rw [ev]
      have ex : ((x - c : Nat) : Int) = (x : Int) - c := by omega
      by_cases hu : (c : Int) ≤ x ∧ 0 ≤ v ∧ (bestG T cs x j < 0 ∨ v + 1 < bestG T cs x j)
      · rw [if_pos hu]
        refine ⟨by omega, fun _ => ?_, fun h => by omega, fun i hi c' hc' hle' s hs => ?_⟩
        · have := (hF.has hu.2.1).add (List.mem_of_getElem? hc)
          rw [ex, show (x : Int) - c + c = x by omega] at this
          rw [show (v + 1).toNat = v.toNat + 1 by omega]; exact this
        · by_cases e : i = j
          · subst e
            rw [hc] at hc'
            have := Option.some.inj hc'
            subst this
            have := hF.least s (by rw [ex]; exact hs)
            omega
          · have := i4 i (by omega) c' hc' hle' s hs
            omega
      · rw [if_neg hu]
        refine ⟨i1, i2, i3, fun i hi c' hc' hle' s hs => ?_⟩
        by_cases e : i = j
        · subst e
          rw [hc] at hc'
          have := Option.some.inj hc'
          subst this
          have := hF.least s (by rw [ex]; exact hs)
          omega
        · exact i4 i (by omega) c' hc' hle' s hs
    · rw [if_neg (by omega)]
      refine ⟨i1, i2, i3, fun i hi c' hc' hle' s hs => ?_⟩
      by_cases e : i = j
      · subst e
        rw [hc] at hc'
        have := Option.some.inj hc'
        omega
      · exact i4 i (by omega) c' hc' hle' s hs
theorem genT_law {cs : List Int} (hcs : ∀ c ∈ cs, (1 : Int) ≤ c) (n : Nat) : ∀ x, x < n → ∃ v, (genT cs n)[x]? = some v ∧ Fewest cs x v := by
  induction n with
  | zero => intro x h; omega
  | succ n ih =>
    intro x hx
    by_cases e : x = n
    · subst e
      refine ⟨_, genT_at cs _ (by omega), ?_⟩
      obtain ⟨i1, i2, i3, i4⟩ := bestG_law hcs ih cs.length (Nat.le_refl _)
      refine ⟨i1, i2, fun s hs => ?_⟩
      cases s with
      | zero => have := (Rep.zero_iff hcs).1 hs; have := i3 (by omega); omega
      | succ s =>
        obtain ⟨c, hc, h2⟩ := hs.pred
        obtain ⟨i, hi⟩ := List.mem_iff_getElem?.1 hc
        have h3 := h2.pos hcs
        have := i4 i (List.getElem?_eq_some_iff.1 hi).1 c hi (by omega) s h2
        omega
    · obtain ⟨v, hv, hF⟩ := ih x (by omega)
      exact ⟨v, by rw [genT_succ, List.getElem?_append_left (by rw [genT_len]; omega)]; exact hv, hF⟩

/-- The table of the program is right. -/
theorem bestTo_law {cs : List Int} (hcs : ∀ c ∈ cs, (1 : Int) ≤ c) (h1 : Rep cs 1 1) {T : List Int} {x : Nat} (hx : Rep cs x x) (hT : ∀ y, y < x → ∃ v, T[y]? = some v ∧ Fewest cs y v ∧ 0 ≤ v) : ∀ j, j ≤ cs.length →
    0 ≤ bestTo T cs x j ∧ Rep cs x (bestTo T cs x j).toNat ∧ (∀ i, i < j → ∀ c : Int, cs[i]? = some c → c ≤ x → ∀ s : Nat, Rep cs ((x : Int) - c) s → bestTo T cs x j ≤ s + 1) := by
  intro j
  induction j with
  | zero =>
    intro _
    rw [bestTo_zero]
    exact ⟨by omega, by simpa using hx, fun i hi => by omega⟩
  | succ j ih =>
    intro hj
    obtain ⟨i1, i2, i4⟩ := ih (by omega)
    have hc : cs[j]? = some cs[j] := List.getElem?_eq_getElem (by omega)
    have hc1 := hcs _ (List.mem_of_getElem? hc)
    obtain ⟨c, ec⟩ : ∃ c : Nat, cs[j] = (c : Int) := ⟨cs[j].toNat, by omega⟩
    rw [ec] at hc hc1
    by_cases hle : c ≤ x
    · obtain ⟨v, hv, hF, v0⟩ := hT (x - c) (by omega)
      have ex : ((x - c : Nat) : Int) = (x : Int) - c := by omega
      rw [bestTo_yes hc hle hv]
      refine ⟨by omega, ?_, fun i hi c' hc' hle' s hs => ?_⟩
      · by_cases hm : bestTo T cs x j ≤ v + 1
        · rw [show min (bestTo T cs x j) (v + 1) = bestTo T cs x j by omega]; exact i2
        · rw [show min (bestTo T cs x j) (v + 1) = v + 1 by omega]
          have := (hF.has v0).add (List.mem_of_getElem? hc)
          rw [ex, show (x : Int) - c + c = x by omega] at this
          rw [show (v + 1).toNat = v.toNat + 1 by omega]; exact this
      · by_cases e : i = j
        · subst e
          rw [hc] at hc'
          have := Option.some.inj hc'
          subst this
          have := hF.least s (by rw [ex]; exact hs)
          omega
        · have := i4 i (by omega) c' hc' hle' s hs
          omega
    · rw [bestTo_no hc hle]
      refine ⟨i1, i2, fun i hi c' hc' hle' s hs => ?_⟩
      by_cases e : i = j
      · subst e
        rw [hc] at hc'
        have := Option.some.inj hc'
        omega
      · exact i4 i (by omega) c' hc' hle' s hs
theorem rep_ones {cs : List Int} (h : (1 : Int) ∈ cs) (hcs : ∀ c ∈ cs, (1 : Int) ≤ c) (x : Nat) : Rep cs x x := by
  induction x with
  | zero => exact (Rep.zero_iff hcs).2 rfl
  | succ x ih => have := ih.add h; rwa [show (x : Int) + 1 = ((x + 1 : Nat) : Int) by omega] at this
theorem fewT_law {cs : List Int} (h : (1 : Int) ∈ cs) (hcs : ∀ c ∈ cs, (1 : Int) ≤ c) (n : Nat) : ∀ x, x ≤ n → ∃ v, (fewT cs n)[x]? = some v ∧ Fewest cs x v ∧ 0 ≤ v := by
  induction n with
  | zero =>
    intro x hx
    obtain rfl : x = 0 := by omega
    rw [fewT_zero]
    refine ⟨0, rfl, ⟨by omega, fun _ => (Rep.zero_iff hcs).2 rfl, fun s hs => by omega⟩, by omega⟩
  | succ n ih =>
    intro x hx
    by_cases e : x = n + 1
    · subst e
      obtain ⟨i1, i2, i4⟩ := bestTo_law hcs (by simpa using rep_ones h hcs 1) (T := fewT cs n) (rep_ones h hcs (n + 1)) (fun y hy => ih y (by omega)) cs.length (Nat.le_refl _)
      refine ⟨_, by rw [fewT_succ, List.getElem?_append_right (by rw [fewT_len]; exact Nat.le_refl _), fewT_len, Nat.sub_self]; rfl, ⟨by omega, fun _ => i2, fun s hs => ⟨i1, ?_⟩⟩, i1⟩
      cases s with
      | zero => have := (Rep.zero_iff hcs).1 hs; omega
      | succ s =>
        obtain ⟨c, hc, h2⟩ := hs.pred
        obtain ⟨i, hi⟩ := List.mem_iff_getElem?.1 hc
        have h3 := h2.pos hcs
        have := i4 i (List.getElem?_eq_some_iff.1 hi).1 c hi (by omega) s h2
        omega
    · obtain ⟨v, hv, hF⟩ := ih x (by omega)
      exact ⟨v, by rw [fewT_succ, List.getElem?_append_left (by rw [fewT_len]; omega)]; exact hv, hF⟩
theorem fewest_law {cs : List Int} (h1 : coinsB cs = true) {n : Nat} (h2 : inB (n : Int) 0 400 = true) : ∃ v : Nat, fewestR n cs = v ∧ Rep cs n v ∧ (∀ s : Nat, Rep cs n s → v ≤ s) ∧ v ≤ n := by
  obtain ⟨p1, p2, p3, p4, _⟩ := coinsB_parts h1
  obtain ⟨v, hv, hF, v0⟩ := fewT_law (List.mem_of_getElem? p4) (fun c hc => (p3 c hc).1) n n (Nat.le_refl _)
  have hb := fewT_bounds cs n v (List.mem_of_getElem? hv)
  refine ⟨v.toNat, by rw [fewestR_of h1 h2 hv]; omega, hF.has v0, fun s hs => ?_, by omega⟩
  have := (hF.least s hs).2
  omega
/-- The digits that the program finds, one after another. -/
theorem least_step {c : Int} {cs : List Int} {n : Int} {s : Nat} {l : List Int} (hc : 1 ≤ c) (hcs : ∀ x ∈ cs, (1 : Int) ≤ x) (h : lst (c :: cs) n s = some l) (hm : ∀ t, Rep (c :: cs) n t → s ≤ t) :
    ∃ (d : Nat) (l' : List Int), l = (d : Int) :: l' ∧ d ≤ s ∧ lst cs (n - d * c) (s - d) = some l' ∧ (∀ t, Rep cs (n - d * c) t → s - d ≤ t) ∧ (d : Int) * c ≤ n ∧
      ∀ j : Nat, j ≤ d → ∀ v : Int, Fewest cs (n - j * c).toNat v → (v = ((s - j : Nat) : Int) ↔ j = d) := by
  unfold lst at h
  obtain ⟨d, _, hd, h2, h3⟩ := srch_at _ _ h
  rcases h4 : lst cs (n - d * c) (s - d) with _ | l'
  · rw [h4] at h2; cases h2
  · rw [h4] at h2
    have hl := Option.some.inj h2
    have hR : Rep cs (n - d * c) (s - d) := by unfold Rep; rw [h4]; rfl
    have hpos := hR.pos hcs
    have hmin : ∀ t, Rep cs (n - d * c) t → s - d ≤ t := fun t ht => by
      have := hm (d + t) (Rep.cons_iff.2 ⟨d, by omega, by rw [Nat.add_sub_cancel_left]; exact ht⟩)
      omega
    refine ⟨d, l', hl.symm, by omega, h4, hmin, by omega, fun j hj v hF => ?_⟩
    have hjc : (j : Int) * c ≤ d * c := Int.mul_le_mul_of_nonneg_right (by omega) (by omega)
    have en : ((n - j * c).toNat : Int) = n - j * c := Int.toNat_of_nonneg (by omega)
    constructor
    · intro hv
      rcases Nat.lt_or_ge j d with hlt | hge
      · exfalso
        have h5 := h3 j (by omega) hlt
        have h6 := hF.has (by omega)
        rw [en, hv, Int.toNat_natCast] at h6
        unfold Rep at h6
        rcases h7 : lst cs (n - j * c) (s - j) with _ | l2
        · rw [h7] at h6; cases h6
        · rw [h7] at h5; cases h5
      · omega
    · intro e
      subst e
      have h5 := hF.least (s - j) (by rw [en]; exact hR)
      have h6 := hF.has h5.1
      rw [en] at h6
      have := hmin _ h6
      omega
def leastL (N : Int) (cs : List Int) : List Int := if coinsB cs && inB N 0 400 then (lst cs N (fewestR N cs).toNat).getD [] else []
theorem leastL_no1 {N : Int} {cs : List Int} (h : coinsB cs = false) : leastL N cs = [] := by simp [leastL, h]
theorem leastL_no2 {N : Int} {cs : List Int} (h : inB N 0 400 = false) : leastL N cs = [] := by simp [leastL, h]
theorem leastL_of {n : Nat} {cs : List Int} (h1 : coinsB cs = true) (h2 : inB (n : Int) 0 400 = true) : ∃ s : Nat, fewestR n cs = s ∧ s ≤ 400 ∧ lst cs n s = some (leastL n cs) ∧ (∀ t : Nat, Rep cs n t → s ≤ t) := by
  obtain ⟨v, e1, hR, hm, hv⟩ := fewest_law h1 h2
  have hb := inB_true h2
  refine ⟨v, e1, by omega, ?_, hm⟩
  unfold leastL
  rw [h1, h2, e1]
  simp only [Bool.and_self, if_true, Int.toNat_natCast]
  unfold Rep at hR
  rcases h : lst cs n v with _ | l
  · rw [h] at hR; cases hR
  · rfl
theorem leastL_len (N : Int) (cs : List Int) : (leastL N cs).length ≤ 1099511627776 := by
  unfold leastL
  split
  · rename_i h
    rw [Bool.and_eq_true] at h
    obtain ⟨p1, p2, _⟩ := coinsB_parts h.1
    rcases h2 : lst cs N (fewestR N cs).toNat with _ | l
    · simp
    · have := (lst_facts _ _ _ _ h2).1
      simp only [Option.getD_some]; omega
  · simp
theorem lst_nil (n : Int) (s : Nat) : lst [] n s = if n = 0 ∧ s = 0 then some [] else none := rfl
theorem lst_cons (c : Int) (cs : List Int) (n : Int) (s : Nat) : lst (c :: cs) n s = srch (fun d => (lst cs (n - d * c) (s - d)).map fun l => (d : Int) :: l) (s + 1) 0 := rfl
theorem bestG_zero (T cs : List Int) (x : Nat) : bestG T cs x 0 = if x = 0 then 0 else -1 := rfl
theorem bestG_step {T cs : List Int} {x j c : Nat} (hc : cs[j]? = some (c : Int)) : bestG T cs x (j + 1) = if (c : Int) ≤ x ∧ 0 ≤ T.getD (x - c) (-1) ∧ (bestG T cs x j < 0 ∨ T.getD (x - c) (-1) + 1 < bestG T cs x j) then T.getD (x - c) (-1) + 1 else bestG T cs x j := by
  have eg : cs.getD j 1 = c := by simp [List.getD, hc]
  simp only [bestG, eg, Int.toNat_natCast]
theorem bestG_set {T cs : List Int} {x j c : Nat} {a : Int} (hc : cs[j]? = some (c : Int)) (h : c ≤ x) (ha : T[x - c]? = some a) (a0 : 0 ≤ a) (hb : bestG T cs x j < 0 ∨ a + 1 < bestG T cs x j) : bestG T cs x (j + 1) = a + 1 := by
  have ea : T.getD (x - c) (-1) = a := by simp [List.getD, ha]
  rw [bestG_step hc, ea, if_pos ⟨by omega, a0, hb⟩]
theorem bestG_keep {T cs : List Int} {x j c : Nat} {a : Int} (hc : cs[j]? = some (c : Int)) (ha : T[x - c]? = some a) (h : ¬ (0 ≤ a ∧ (bestG T cs x j < 0 ∨ a + 1 < bestG T cs x j))) : bestG T cs x (j + 1) = bestG T cs x j := by
  have ea : T.getD (x - c) (-1) = a := by simp [List.getD, ha]
  rw [bestG_step hc, ea, if_neg (fun hh => h hh.2)]
theorem bestG_skip {T cs : List Int} {x j c : Nat} (hc : cs[j]? = some (c : Int)) (h : ¬ c ≤ x) : bestG T cs x (j + 1) = bestG T cs x j := by
  rw [bestG_step hc, if_neg (fun hh => h (by omega))]
theorem genT_zero (cs : List Int) : genT cs 0 = [] := rfl
attribute [irreducible] lst srch bestG genT
/-- The table of the program at the number x behind its first j coins. -/
def tabG (cs : List Int) (n x j : Nat) : List Int := genT cs x ++ (bestG (genT cs x) cs x j :: List.replicate (n - x) (-1))
theorem tabG_len (cs : List Int) {n x : Nat} (j : Nat) (hx : x ≤ n) : (tabG cs n x j).length = n + 1 := by simp [tabG, genT_len]; omega
theorem tabG_start (cs : List Int) (n : Nat) : tabG cs n 0 0 = 0 :: List.replicate n (-1) := by simp [tabG, genT_zero, bestG_zero]
theorem tabG_low {cs : List Int} {n x j c : Nat} {a : Int} (h1 : 1 ≤ c) (hc : c ≤ x) (ha : (tabG cs n x j)[x - c]? = some a) : (genT cs x)[x - c]? = some a := by
  unfold tabG at ha
  rw [List.getElem?_append_left (by rw [genT_len]; omega)] at ha
  exact ha
theorem tabG_cur {cs : List Int} {n x j : Nat} {b : Int} (hb : (tabG cs n x j)[x]? = some b) : b = bestG (genT cs x) cs x j := by
  unfold tabG at hb
  rw [List.getElem?_append_right (by rw [genT_len]; exact Nat.le_refl _), genT_len, Nat.sub_self] at hb
  exact (Option.some.inj hb).symm
theorem tabG_same {cs : List Int} {n x j : Nat} (h : bestG (genT cs x) cs x (j + 1) = bestG (genT cs x) cs x j) : tabG cs n x (j + 1) = tabG cs n x j := by
  unfold tabG; rw [h]
theorem tabG_set {cs : List Int} {n x j : Nat} {v : Int} (h : bestG (genT cs x) cs x (j + 1) = v) : tabG cs n x (j + 1) = (tabG cs n x j).set x v := by
  unfold tabG
  rw [List.set_append_right _ _ (by rw [genT_len]; exact Nat.le_refl _), genT_len, Nat.sub_self, List.set_cons_zero, h]
theorem tabG_next {cs : List Int} {n x : Nat} (hx : x < n) : tabG cs n x cs.length = tabG cs n (x + 1) 0 := by
  unfold tabG
  rw [genT_succ, bestG_zero, if_neg (by omega), List.append_assoc, show n - x = (n - (x + 1)) + 1 by omega, List.replicate_succ]
  rfl
theorem tabG_end (cs : List Int) (n : Nat) : tabG cs n n cs.length = genT cs (n + 1) := by
  unfold tabG
  rw [genT_succ, Nat.sub_self]
  rfl
theorem genT_bound {cs : List Int} (hcs : ∀ c ∈ cs, (1 : Int) ≤ c) {x y : Nat} {a : Int} (h : (genT cs x)[y]? = some a) : -1 ≤ a ∧ a ≤ y := by
  have hy := (List.getElem?_eq_some_iff.1 h).1
  rw [genT_len] at hy
  obtain ⟨v, hv, hF⟩ := genT_law hcs x y hy
  rw [hv] at h
  obtain rfl := Option.some.inj h
  refine ⟨hF.low, ?_⟩
  by_cases h0 : 0 ≤ v
  · have := (hF.has h0).pos hcs
    omega
  · omega
end Go.Proofs.Ytlhabcpoemcpjaa
