/-
  PLAIN LAWS and WALKS toward FnResidues: the residues of a number, their sums and products, the drawn moduli.
-/
import Derived.Test.YtfdighaginmabaaR8
import Derived.Test.YtfdighaginmabaaCur
namespace Go.Proofs.Ytfdighaginmabaa
open Go.RowKit

theorem resUp_at {x : Int} {ms : List Int} {i : Nat} {d : Int} (hd : (resUp x ms ms.length)[i]? = some d) : ∃ m, ms[i]? = some m ∧ d = x % m := by
  unfold resUp at hd
  rw [List.take_length, List.getElem?_map] at hd
  rcases hm : ms[i]? with _ | m
  · rw [hm] at hd; cases hd
  · rw [hm] at hd
    exact ⟨m, rfl, by simpa using hd.symm⟩
theorem isMixB_of {xs ms : List Int} (hl : xs.length = ms.length) (h : ∀ (i : Nat) (d m : Int), xs[i]? = some d → ms[i]? = some m → 0 ≤ d ∧ d ≤ m - 1) : isMixB xs ms = true := by
  apply isMixB_true hl
  intro i hi
  have hx : xs[i]? = some xs[i] := List.getElem?_eq_getElem hi
  have hm : ms[i]? = some (ms[i]'(by omega)) := List.getElem?_eq_getElem (by omega)
  rw [inR_eq hx hm]
  exact inB_of (h i _ _ hx hm)
theorem res_ok {ms : List Int} (h : moduliB ms = true) (x : Int) : residuesB (resUp x ms ms.length) ms = true := by
  rw [residuesB_of h]
  refine isMixB_of (resUp_len (Nat.le_refl _)) fun i d m hd hm => ?_
  obtain ⟨m', hm', rfl⟩ := resUp_at hd
  rw [hm] at hm'
  obtain rfl := Option.some.inj hm'
  have hb := (moduliB_parts h).2.2.1 m (List.mem_of_getElem? hm)
  have := Int.emod_nonneg x (show m ≠ 0 by omega)
  have := Int.emod_lt_of_pos x (show 0 < m by omega)
  omega
/-- The number with residues is the only one below the product. -/
theorem from_eq {xs ms : List Int} (h : residuesB xs ms = true) {v : Int} (v0 : 0 ≤ v) (v1 : v < prodI ms) (hv : ∀ (i : Nat) (d m : Int), xs[i]? = some d → ms[i]? = some m → v % m = d) : fromR xs ms = v := by
  obtain ⟨q1, q2, q3⟩ := residuesB_parts h
  rw [fromR_of h]
  have hb := garUp_value (xs := xs) q1 ms.length (Nat.le_refl _)
  rw [prodUp_all] at hb
  refine crt_unique q1 hb.1 hb.2 v0 v1 fun m hm => ?_
  obtain ⟨i, hi⟩ := List.mem_iff_getElem?.1 hm
  have hil := (List.getElem?_eq_some_iff.1 hi).1
  have hx : xs[i]? = some (xs[i]'(by omega)) := List.getElem?_eq_getElem (by omega)
  rw [hv i _ m hx hi]
  exact garUp_residues q1 q2 q3 ms.length (Nat.le_refl _) i _ m hil hx hi
theorem from_res {ms : List Int} (h : moduliB ms = true) {x : Int} (x0 : 0 ≤ x) (x1 : x < prodI ms) : fromR (resUp x ms ms.length) ms = x :=
  from_eq (res_ok h x) x0 x1 fun i d m hd hm => by
    obtain ⟨m', hm', rfl⟩ := resUp_at hd
    rw [hm] at hm'
    obtain rfl := Option.some.inj hm'
    rfl
theorem twoUp_at {f : Int → Int → Int} {xs ys ms : List Int} {i : Nat} {d x y m : Int} (hd : (twoUp f xs ys ms ms.length)[i]? = some d) (hx : xs[i]? = some x) (hy : ys[i]? = some y) (hm : ms[i]? = some m) : d = f x y % m := by
  have hi := (List.getElem?_eq_some_iff.1 hm).1
  unfold twoUp at hd
  rw [List.getElem?_map, List.getElem?_range hi] at hd
  simp [List.getD, hx, hy, hm] at hd
  exact hd.symm
theorem two_ok {f : Int → Int → Int} {xs ys ms : List Int} (h : moduliB ms = true) (hx : xs.length = ms.length) (hy : ys.length = ms.length) : residuesB (twoUp f xs ys ms ms.length) ms = true := by
  rw [residuesB_of h]
  refine isMixB_of (twoUp_len _ _ _ _ _) fun i d m hd hm => ?_
  have hi := (List.getElem?_eq_some_iff.1 hm).1
  have := twoUp_at hd (List.getElem?_eq_getElem (by omega)) (List.getElem?_eq_getElem (by omega)) hm
  subst this
  have hb := (moduliB_parts h).2.2.1 m (List.mem_of_getElem? hm)
  obtain ⟨z, hz⟩ : ∃ z, f (xs[i]'(by omega)) (ys[i]'(by omega)) = z := ⟨_, rfl⟩
  rw [hz]
  have := Int.emod_nonneg z (show m ≠ 0 by omega)
  have := Int.emod_lt_of_pos z (show 0 < m by omega)
  omega
theorem res_at {x : Int} {ms : List Int} {i : Nat} {m : Int} (hm : ms[i]? = some m) : (resUp x ms ms.length)[i]? = some (x % m) := by
  unfold resUp
  rw [List.take_length, List.getElem?_map, hm]
  rfl
/-- What FnResidues asks of the residues of two numbers. -/
theorem residues_law {ms : List Int} (h : moduliB ms = true) {x y : Int} (x0 : 0 ≤ x) (x1 : x < prodI ms) (y0 : 0 ≤ y) (y1 : y < prodI ms) :
    let a := resUp x ms ms.length
    let b := resUp y ms ms.length
    resOfR x ms = a ∧ resOfR y ms = b ∧ residuesB a ms = true ∧ residuesB b ms = true ∧ fromR a ms = x ∧ fromR b ms = y ∧ addR a b ms = twoUp (fun x y => x + y) a b ms ms.length ∧ residuesB (addR a b ms) ms = true ∧ fromR (addR a b ms) ms = (x + y) % prodI ms ∧
    timesR a b ms = twoUp (fun x y => x * y) a b ms ms.length ∧ residuesB (timesR a b ms) ms = true ∧ garR a ms = garL a ms ∧ mvL (garL a ms) ms = x ∧ compareR a b ms = cmpI x y ∧
    (∀ (i : Nat) (t m : Int), (timesR a b ms)[i]? = some t → ms[i]? = some m → t = x % m * (y % m) % m) := by
  have hp := prod_dec h
  have ra := res_ok h x
  have rb := res_ok h y
  have la := resUp_len (N := x) (ms := ms) (Nat.le_refl _)
  have lb := resUp_len (N := y) (ms := ms) (Nat.le_refl _)
  have fa := from_res h x0 x1
  have fb := from_res h y0 y1
  have ea : addR (resUp x ms ms.length) (resUp y ms ms.length) ms = twoUp (fun x y => x + y) (resUp x ms ms.length) (resUp y ms ms.length) ms ms.length := twoR_of ra rb
  have et : timesR (resUp x ms ms.length) (resUp y ms ms.length) ms = twoUp (fun x y => x * y) (resUp x ms ms.length) (resUp y ms ms.length) ms ms.length := twoR_of ra rb
  have oa := two_ok (f := fun x y => x + y) h la lb
  have ot := two_ok (f := fun x y => x * y) h la lb
  refine ⟨resOfR_of h (inB_of ⟨x0, by omega⟩), resOfR_of h (inB_of ⟨y0, by omega⟩), ra, rb, fa, fb, ea, by rw [ea]; exact oa, ?_, et, by rw [et]; exact ot, garR_of ra, ?_, ?_, ?_⟩
  · rw [ea]
    refine from_eq oa (Int.emod_nonneg _ (by omega)) (Int.emod_lt_of_pos _ (by omega)) fun i d m hd hm => ?_
    rw [twoUp_at hd (res_at hm) (res_at hm) hm]
    have hdv : m ∣ prodI ms := by
      have := dvd_prodUp hm ms.length (List.getElem?_eq_some_iff.1 hm).1
      rwa [prodUp_all] at this
    rw [Int.emod_emod_of_dvd _ hdv, ← Int.add_emod]
  · rw [← fromR_of ra]; exact fa
  · rw [compareR_of ra rb, fa, fb]
  · intro i t m ht hm
    rw [et] at ht
    exact twoUp_at ht (res_at hm) (res_at hm) hm
/-- What FnResidues asks of inverses and divisors. -/
theorem inverse_law {z q : Int} (q0 : 2 ≤ q) (q1 : q ≤ 901) (z0 : 0 ≤ z) (z1 : z < q) :
    ∃ (i : Int) (d : Nat), inverseOfR z q = i ∧ gcdR z q = d ∧ 1 ≤ d ∧ (d : Int) ≤ q ∧ -1 ≤ i ∧ i < q ∧ (0 ≤ i ↔ d = 1) ∧ (0 ≤ i → i * z % q = 1) ∧ q % d = 0 ∧ z % d = 0 := by
  have e1 : inverseOfR z q = invR z q := inverseOfR_of (inB_of ⟨q0, by omega⟩) (inB_of ⟨z0, by omega⟩)
  have e2 : gcdR z q = (Int.gcd z q : Nat) := gcdR_of (inB_of ⟨by omega, by omega⟩) (inB_of ⟨by omega, by omega⟩)
  have g1 : 1 ≤ Int.gcd z q := Int.gcd_pos_of_ne_zero_right _ (by omega)
  have g2 : (Int.gcd z q : Int) ≤ q := Int.le_of_dvd (by omega) (Int.gcd_dvd_right ..)
  refine ⟨_, _, e1, e2, g1, g2, ?_, ?_, ?_, ?_, Int.emod_eq_zero_of_dvd (Int.gcd_dvd_right ..), Int.emod_eq_zero_of_dvd (Int.gcd_dvd_left ..)⟩
  · by_cases h : Int.gcd z q = 1
    · have := invR_in z0 h q0; omega
    · rw [invR_no h]; omega
  · by_cases h : Int.gcd z q = 1
    · have := invR_in z0 h q0; omega
    · rw [invR_no h]; omega
  · constructor
    · intro h
      by_cases h2 : Int.gcd z q = 1
      · exact h2
      · rw [invR_no h2] at h; omega
    · intro h; exact (invR_in z0 h q0).1
  · intro h
    rw [Int.mul_comm]
    exact invR_mul h

theorem gar_get (xs ms : List Int) {k : Nat} : ∀ K, k < K → (garUp xs ms K)[k]? = (garUp xs ms (k + 1))[k]? := by
  intro K
  induction K with
  | zero => intro h; omega
  | succ K ih =>
    intro h
    by_cases e : k = K
    · subst e; rfl
    · rw [show garUp xs ms (K + 1) = garUp xs ms K ++ [garDig (xs.getD K 0) (ms.getD K 1) (mvL (garUp xs ms K) ms) (prodUp ms K)] from rfl, List.getElem?_append_left (by rw [garUp_length]; omega)]
      exact ih (by omega)
theorem gar_step {xs ms : List Int} (h : moduliB ms = true) {k : Nat} {g m : Int} (hg : (garL xs ms)[k]? = some g) (hm : ms[k]? = some m) :
    mvL (garUp xs ms (k + 1)) ms = mvL (garUp xs ms k) ms + g * prodUp ms k ∧ 0 ≤ g ∧ g < m ∧ 0 ≤ mvL (garUp xs ms k) ms ∧ mvL (garUp xs ms k) ms ≤ 1000000000000 ∧ 0 ≤ g * prodUp ms k ∧ g * prodUp ms k ≤ 1000000000000 ∧ 1 ≤ prodUp ms k ∧ prodUp ms k ≤ 1000000000000 ∧ prodUp ms (k + 1) = prodUp ms k * m ∧ 0 ≤ prodUp ms k * m ∧ prodUp ms k * m ≤ 1000000000000 := by
  have hk := (List.getElem?_eq_some_iff.1 hm).1
  obtain ⟨m', hm', d0, d1⟩ := garUp_digit' h (Nat.le_refl _) hg
  rw [hm] at hm'
  obtain rfl := Option.some.inj hm'
  have e : (garUp xs ms (k + 1))[k]? = some g := by rw [← gar_get xs ms ms.length hk]; exact hg
  have e2 : garUp xs ms (k + 1) = garUp xs ms k ++ [g] := by
    have e3 : garUp xs ms (k + 1) = garUp xs ms k ++ [garDig (xs.getD k 0) (ms.getD k 1) (mvL (garUp xs ms k) ms) (prodUp ms k)] := rfl
    rw [e3] at e ⊢
    rw [List.getElem?_append_right (by rw [garUp_length]; exact Nat.le_refl _), garUp_length, Nat.sub_self] at e
    simp only [List.getElem?_cons_zero, Option.some.injEq] at e
    rw [e]
  have e4 : mvL (garUp xs ms (k + 1)) ms = mvL (garUp xs ms k) ms + g * prodUp ms k := by rw [e2, mvL_snoc _ _ _ (by rw [garUp_length]; omega), garUp_length]
  have v1 := garUp_value (xs := xs) h k (by omega)
  have v2 := garUp_value (xs := xs) h (k + 1) (by omega)
  have p1 := prodUp_in h k
  have p2 := prodUp_in h (k + 1)
  have e5 := prodUp_succ hm
  have t0 : 0 ≤ g * prodUp ms k := Int.mul_nonneg d0 (by omega)
  rw [e4] at v2
  rw [e5] at p2
  exact ⟨e4, d0, d1, v1.1, by omega, t0, by omega, p1.1, p1.2, e5, by omega, by omega⟩
/-- The six moduli that are drawn from. -/
def base6 : List Int := [7, 9, 10, 11, 13, 17]
def subs6 : Nat → List (List Int)
  | 0 => [[]]
  | k + 1 => subs6 k ++ (subs6 k).map (fun l => l ++ [base6.getD k 0])
theorem subs6_ok : (subs6 6).all (fun l => l == [] || moduliB l) = true := by decide +kernel
theorem one_ok : (List.range 30).all (fun i => moduliB [2 + (i : Int)]) = true := by decide +kernel
theorem subs6_len : ∀ k, ∀ l ∈ subs6 k, l.length ≤ k := by
  intro k
  induction k with
  | zero => intro l hl; simp [subs6] at hl; simp [hl]
  | succ k ih =>
    intro l hl
    simp only [subs6, List.mem_append, List.mem_map] at hl
    rcases hl with hl | ⟨l', hl', rfl⟩
    · have := ih l hl; omega
    · have := ih l' hl'; simp; omega
theorem subs6_keep {k : Nat} {l : List Int} (h : l ∈ subs6 k) : l ∈ subs6 (k + 1) := by simp only [subs6, List.mem_append]; exact .inl h
theorem subs6_more {k : Nat} {l : List Int} {x : Int} (h : l ∈ subs6 k) (hx : base6[k]? = some x) : l ++ [x] ∈ subs6 (k + 1) := by
  simp only [subs6, List.mem_append, List.mem_map]
  exact .inr ⟨l, h, by simp [List.getD, hx]⟩
theorem subs6_zero : ([] : List Int) ∈ subs6 0 := by simp [subs6]
attribute [irreducible] subs6
theorem drawn_ok {l : List Int} (h : l ∈ subs6 6) (hne : l ≠ []) : moduliB l = true := by
  have := List.all_eq_true.1 subs6_ok l h
  simpa [hne] using this
theorem drawn_one {x : Int} (h0 : 0 ≤ x) (h1 : x ≤ 29) : moduliB [2 + x] = true := by
  have := List.all_eq_true.1 one_ok x.toNat (List.mem_range.2 (by omega))
  rwa [Int.toNat_of_nonneg h0] at this
end Go.Proofs.Ytfdighaginmabaa
