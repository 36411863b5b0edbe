/-
  PLAIN LAWS of moduli without common divisors, of the digits of Garner and of the number with given residues. No program here; no statement of the seat is proved here.
-/
import Derived.Test.YtfdighaginmabaaR2
import Derived.Test.YtfdighaginmabaaMixA
namespace Go.Proofs.Ytfdighaginmabaa
open Go.RowKit

/-- The i-th modulus has no common divisor with those before it. -/
def coprB (ms : List Int) (i : Nat) : Bool := (ms.take i).all fun x => decide (Int.gcd (ms.getD i 0) x = 1)
def moduliB (ms : List Int) : Bool := inB ms.length 1 6 && allB ms 2 1000 && inB (prodI ms) 0 1000000000000 && (List.range ms.length).all (coprB ms)
theorem moduliB_of {ms : List Int} (h1 : inB ms.length 1 6 = true) (h2 : allB ms 2 1000 = true) (h3 : inB (prodI ms) 0 1000000000000 = true) (h4 : ∀ i, i < ms.length → coprB ms i = true) : moduliB ms = true := by
  unfold moduliB
  rw [h1, h2, h3]
  simp only [Bool.true_and, List.all_eq_true, List.mem_range]
  exact h4
theorem moduliB_no1 {ms : List Int} (h : inB ms.length 1 6 = false) : moduliB ms = false := by simp [moduliB, h]
theorem moduliB_no2 {ms : List Int} (h : allB ms 2 1000 = false) : moduliB ms = false := by simp [moduliB, h]
theorem moduliB_no3 {ms : List Int} (h : inB (prodI ms) 0 1000000000000 = false) : moduliB ms = false := by simp [moduliB, h]
theorem moduliB_no4 {ms : List Int} {i : Nat} (hi : i < ms.length) (h : coprB ms i = false) : moduliB ms = false := by
  unfold moduliB
  have : (List.range ms.length).all (coprB ms) = false := by
    rw [List.all_eq_false]
    exact ⟨i, List.mem_range.2 hi, by rw [h]; simp⟩
  rw [this]
  simp
theorem moduliB_parts {ms : List Int} (h : moduliB ms = true) : 1 ≤ ms.length ∧ ms.length ≤ 6 ∧ (∀ x ∈ ms, 2 ≤ x ∧ x ≤ 1000) ∧ prodI ms ≤ 1000000000000 ∧
    ∀ (i j : Nat) (x y : Int), ms[i]? = some x → ms[j]? = some y → j < i → Int.gcd x y = 1 := by
  simp only [moduliB, Bool.and_eq_true, List.all_eq_true, List.mem_range] at h
  obtain ⟨⟨⟨h1, h2⟩, h3⟩, h4⟩ := h
  have a1 := inB_true h1
  have a3 := inB_true h3
  refine ⟨by omega, by omega, allB_true h2, a3.2, fun i j x y hx hy hj => ?_⟩
  have hi := (List.getElem?_eq_some_iff.1 hx).1
  have h5 := h4 i hi
  simp only [coprB, List.all_eq_true, decide_eq_true_eq] at h5
  have hm : y ∈ ms.take i := by
    apply List.mem_of_getElem? (i := j)
    rw [List.getElem?_take, if_pos hj]
    exact hy
  have := h5 y hm
  simpa [List.getD, hx] using this
theorem moduliB_prodIn {ms : List Int} (h1 : (ms.length : Int) ≤ 6) (h2 : allB ms 2 1000 = true) : ProdIn ms := fun k => by
  have := prodUp_bound (xs := ms) (M := 1000) (n := 6) (fun x hx => by have := allB_true h2 x hx; omega) (by omega) (by omega) k
  have e : (1000 : Int) ^ 6 = 1000000000000000000 := by decide
  rw [e] at this
  omega
theorem moduliB_in {ms : List Int} (h : moduliB ms = true) : ProdIn ms := fun k => by
  obtain ⟨a, b, c, d, e⟩ := moduliB_parts h
  have h1 : 1 ≤ prodUp ms k := prodI_pos fun x hx => by have := c x (List.mem_of_mem_take hx); omega
  have h2 := prodUp_le_all (xs := ms) (fun x hx => by have := c x hx; omega) k
  omega
theorem prodUp_in {ms : List Int} (h : moduliB ms = true) (k : Nat) : 1 ≤ prodUp ms k ∧ prodUp ms k ≤ 1000000000000 := by
  obtain ⟨a, b, c, d, e⟩ := moduliB_parts h
  have h1 : 1 ≤ prodUp ms k := prodI_pos fun x hx => by have := c x (List.mem_of_mem_take hx); omega
  have h2 := prodUp_le_all (xs := ms) (fun x hx => by have := c x hx; omega) k
  omega

theorem gcd_prod {m : Int} : ∀ l : List Int, (∀ x ∈ l, Int.gcd m x = 1) → Int.gcd (prodI l) m = 1
  | [], _ => by simp [prodI]
  | x :: l, h => by
    have h1 := h x (by simp)
    have h2 := gcd_prod l fun y hy => h y (by simp [hy])
    show Nat.gcd (prodI (x :: l)).natAbs m.natAbs = 1
    simp only [prodI, Int.natAbs_mul]
    exact Nat.Coprime.mul_left (Nat.Coprime.symm h1) h2
theorem gcd_prodUp {ms : List Int} (h : moduliB ms = true) {k : Nat} {m : Int} (hm : ms[k]? = some m) : Int.gcd (prodUp ms k) m = 1 := by
  obtain ⟨a, b, c, d, e⟩ := moduliB_parts h
  apply gcd_prod
  intro x hx
  obtain ⟨j, hj⟩ := List.mem_iff_getElem?.1 hx
  rw [List.getElem?_take] at hj
  by_cases hjk : j < k
  · rw [if_pos hjk] at hj
    exact e k j m x hm hj hjk
  · rw [if_neg hjk] at hj; cases hj

theorem Eg.reach {a m : Int} (hg : Int.gcd a m = 1) (hm : 2 ≤ m) : ∀ (n : Nat) (r s x y : Int), s.toNat ≤ n → Eg a m r s x y → 0 ≤ invR a m ∧ invR a m < m := by
  intro n
  induction n with
  | zero =>
    intro r s x y hs hE
    have b := hE.bounds
    have hs0 : s = 0 := by omega
    subst hs0
    by_cases hr : r = 1
    · subst hr
      rw [hE.done hm]
      exact ⟨Int.emod_nonneg _ (by omega), Int.emod_lt_of_pos _ (by omega)⟩
    · obtain ⟨X, Y, x0, y0, x1, y1, hxy, hm', s0, sr, rm, d1, d2, hg'⟩ := hE
      rw [hg, Int.gcd_zero_right] at hg'
      omega
  | succ n ih =>
    intro r s x y hs hE
    have b := hE.bounds
    by_cases hs0 : s = 0
    · subst hs0
      exact ih r 0 x y (by omega) hE
    · have hE2 := (hE.step (by omega)).1
      have b2 := hE2.bounds
      exact ih _ _ _ _ (by omega) hE2
theorem invR_in {a m : Int} (ha : 0 ≤ a) (hg : Int.gcd a m = 1) (hm : 2 ≤ m) : 0 ≤ invR a m ∧ invR a m < m := Eg.reach hg hm _ _ _ _ _ (Nat.le_refl _) (Eg.start ha hm)
theorem invR_mul {a m : Int} (h : 0 ≤ invR a m) : a * invR a m % m = 1 := by
  have h' : 0 ≤ (match (List.range m.toNat).find? (fun (u : Nat) => a * (u : Int) % m == 1) with | some u => (u : Int) | none => -1) := by
    have := h; unfold invR at this; exact this
  unfold invR
  split at h'
  · rename_i v hv
    rw [hv]
    simpa using List.find?_some hv
  · omega

/-- One digit of Garner. -/
def garDig (x m n p : Int) : Int := (x - n % m + m) % m * invR (p % m) m % m
/-- The first k digits. -/
def garUp (xs ms : List Int) : Nat → List Int
  | 0 => []
  | k + 1 => garUp xs ms k ++ [garDig (xs.getD k 0) (ms.getD k 1) (mvL (garUp xs ms k) ms) (prodUp ms k)]
def garL (xs ms : List Int) : List Int := garUp xs ms ms.length
theorem garUp_length (xs ms : List Int) (k : Nat) : (garUp xs ms k).length = k := by
  induction k with
  | zero => rfl
  | succ k ih => simp [garUp, ih]
theorem garUp_succ {xs ms : List Int} {k : Nat} {x m : Int} (hx : xs[k]? = some x) (hm : ms[k]? = some m) : garUp xs ms (k + 1) = garUp xs ms k ++ [garDig x m (mvL (garUp xs ms k) ms) (prodUp ms k)] := by
  simp [garUp, List.getD, hx, hm]
theorem garUp_zero (xs ms : List Int) : garUp xs ms 0 = [] := rfl
theorem mvL_nil (ms : List Int) : mvL [] ms = 0 := by cases ms <;> rfl
theorem mvL_snoc : ∀ (ds ms : List Int) (d : Int), ds.length < ms.length → mvL (ds ++ [d]) ms = mvL ds ms + d * prodUp ms ds.length
  | [], m :: ms, d, _ => by simp [mvL, prodUp, prodI, mvL_nil]
  | e :: ds, m :: ms, d, h => by
    have ih := mvL_snoc ds ms d (by simpa using h)
    simp only [prodUp] at ih
    simp only [List.cons_append, mvL, prodUp, List.length_cons, List.take_succ_cons, prodI, ih]
    grind
  | _, [], _, h => by simp at h
theorem garDig_in {x m n p : Int} (hm : 2 ≤ m) : 0 ≤ garDig x m n p ∧ garDig x m n p < m :=
  ⟨Int.emod_nonneg _ (by omega), Int.emod_lt_of_pos _ (by omega)⟩
theorem prodUp_le {ms : List Int} (h : ∀ x ∈ ms, 1 ≤ x) (k : Nat) : prodUp ms k ≤ prodUp ms (k + 1) := by
  by_cases hk : k < ms.length
  · have hx : ms[k]? = some ms[k] := List.getElem?_eq_getElem hk
    rw [prodUp_succ hx]
    have h1 : 1 ≤ prodUp ms k := prodI_pos fun x hx => h x (List.mem_of_mem_take hx)
    have h2 := h ms[k] (List.getElem_mem hk)
    have := Int.mul_le_mul_of_nonneg_left h2 (show 0 ≤ prodUp ms k by omega)
    omega
  · unfold prodUp
    rw [List.take_of_length_le (by omega), List.take_of_length_le (by omega)]
    exact Int.le_refl _
theorem garUp_value {xs ms : List Int} (h : moduliB ms = true) : ∀ k, k ≤ ms.length → 0 ≤ mvL (garUp xs ms k) ms ∧ mvL (garUp xs ms k) ms < prodUp ms k := by
  obtain ⟨a, b, c, d, e⟩ := moduliB_parts h
  intro k
  induction k with
  | zero => intro _; simp [garUp, mvL_nil, prodUp, prodI]
  | succ k ih =>
    intro hk
    have ih := ih (by omega)
    have hm : ms[k]? = some ms[k] := List.getElem?_eq_getElem (by omega)
    have hmm := c ms[k] (List.getElem_mem _)
    simp only [garUp]
    rw [mvL_snoc _ _ _ (by rw [garUp_length]; omega), garUp_length, prodUp_succ hm]
    have hd := garDig_in (x := xs.getD k 0) (m := ms.getD k 1) (n := mvL (garUp xs ms k) ms) (p := prodUp ms k) (by simp [List.getD, hm]; omega)
    obtain ⟨g, hg⟩ : ∃ g, garDig (xs.getD k 0) (ms.getD k 1) (mvL (garUp xs ms k) ms) (prodUp ms k) = g := ⟨_, rfl⟩
    rw [hg] at hd ⊢
    have e1 : ms.getD k 1 = ms[k] := by simp [List.getD, hm]
    rw [e1] at hd
    have hp := prodUp_in h k
    have t1 : 0 ≤ g * prodUp ms k := Int.mul_nonneg hd.1 (by omega)
    have t2 : g * prodUp ms k ≤ (ms[k] - 1) * prodUp ms k := Int.mul_le_mul_of_nonneg_right (by omega) (by omega)
    have t3 : (ms[k] - 1) * prodUp ms k = prodUp ms k * ms[k] - prodUp ms k := by rw [Int.sub_mul, Int.mul_comm]; omega
    omega
theorem garUp_digit' {xs ms : List Int} (h : moduliB ms = true) : ∀ {k : Nat}, k ≤ ms.length → ∀ {q : Nat} {d : Int}, (garUp xs ms k)[q]? = some d → ∃ m, ms[q]? = some m ∧ 0 ≤ d ∧ d < m := by
  obtain ⟨a, b, c, d, e⟩ := moduliB_parts h
  intro k
  induction k with
  | zero => intro _ q d hd; simp [garUp] at hd
  | succ k ih =>
    intro hk q d hd
    have hm : ms[k]? = some ms[k] := List.getElem?_eq_getElem (by omega)
    have hmm := c ms[k] (List.getElem_mem _)
    simp only [garUp] at hd
    by_cases hq : q < k
    · rw [List.getElem?_append_left (by rw [garUp_length]; exact hq)] at hd
      exact ih (by omega) hd
    · have hq2 : q = k := by
        have := (List.getElem?_eq_some_iff.1 hd).1
        simp [garUp_length] at this
        omega
      subst hq2
      rw [List.getElem?_append_right (by rw [garUp_length]; exact Nat.le_refl _), garUp_length, Nat.sub_self] at hd
      simp only [List.getElem?_cons_zero, Option.some.injEq] at hd
      have hd2 := garDig_in (x := xs.getD q 0) (m := ms.getD q 1) (n := mvL (garUp xs ms q) ms) (p := prodUp ms q) (by simp [List.getD, hm]; omega)
      have e1 : ms.getD q 1 = ms[q] := by simp [List.getD, hm]
      rw [hd, e1] at hd2
      exact ⟨_, hm, hd2⟩
theorem garUp_digit {xs ms : List Int} (h : moduliB ms = true) {k : Nat} (hk : k ≤ ms.length) {q : Nat} {d : Int} (hd : (garUp xs ms k)[q]? = some d) : 0 ≤ d ∧ d < 1000 := by
  obtain ⟨m, hm, h0, h1⟩ := garUp_digit' h hk hd
  have := (moduliB_parts h).2.2.1 m (List.mem_of_getElem? hm)
  omega
/-- What the walk of garner needs of one round. -/
theorem gar_round {xs ms : List Int} (h : moduliB ms = true) {k : Nat} {x m : Int} (hx : xs[k]? = some x) (hm : ms[k]? = some m) (hx0 : 0 ≤ x) (hx1 : x ≤ m - 1) :
    ∃ n p g v : Int, mvL (garUp xs ms k) ms = n ∧ prodUp ms k = p ∧ invR (p % m) m = v ∧ garDig x m n p = g ∧ 0 ≤ n ∧ n ≤ 1000000000000 ∧ 1 ≤ p ∧ p ≤ 1000000000000 ∧ 2 ≤ m ∧ m ≤ 1000 ∧ 0 ≤ v ∧ v < m ∧ 0 ≤ g ∧ g < m ∧
      0 ≤ g * p ∧ g * p ≤ 1000000000000 ∧ n + g * p ≤ 1000000000000 ∧ p * m ≤ 1000000000000 ∧ 1 ≤ p * m ∧ mvL (garUp xs ms (k + 1)) ms = n + g * p ∧ prodUp ms (k + 1) = p * m ∧ garUp xs ms (k + 1) = garUp xs ms k ++ [g] ∧
      0 ≤ (x - n) % m * v ∧ (x - n) % m * v ≤ 1000000 ∧ 0 ≤ n % m ∧ n % m < m ∧ 0 ≤ p % m ∧ p % m < m ∧ 0 ≤ (x - n) % m ∧ (x - n) % m < m ∧ g = (x - n) % m * v % m ∧ g * v % m = g * v % m := by
  obtain ⟨a, b, c, d, e⟩ := moduliB_parts h
  have hk := (List.getElem?_eq_some_iff.1 hm).1
  have hmm := c m (List.mem_of_getElem? hm)
  have hp := prodUp_in h k
  have hp2 := prodUp_in h (k + 1)
  have hv := garUp_value (xs := xs) h k (by omega)
  have hv2 := garUp_value (xs := xs) h (k + 1) (by omega)
  have hi := invR_in (a := prodUp ms k % m) (m := m) (Int.emod_nonneg _ (by omega)) (by
    have g := gcd_emod (prodUp ms k) m (by omega)
    rw [gcd_prodUp h hm] at g
    rw [Int.gcd_comm]
    exact g) hmm.1
  have hs := garUp_succ hx hm
  have hd := garDig_in (x := x) (m := m) (n := mvL (garUp xs ms k) ms) (p := prodUp ms k) hmm.1
  have hps := prodUp_succ hm
  have hval : mvL (garUp xs ms (k + 1)) ms = mvL (garUp xs ms k) ms + garDig x m (mvL (garUp xs ms k) ms) (prodUp ms k) * prodUp ms k := by
    rw [hs, mvL_snoc _ _ _ (by rw [garUp_length]; omega), garUp_length]
  have eA : (x - mvL (garUp xs ms k) ms % m + m) % m = (x - mvL (garUp xs ms k) ms) % m := by rw [Int.add_emod_right, Int.sub_emod, Int.emod_emod, ← Int.sub_emod]
  have r0 := Int.emod_nonneg (x - mvL (garUp xs ms k) ms) (show m ≠ 0 by omega)
  have r1 := Int.emod_lt_of_pos (x - mvL (garUp xs ms k) ms) (show 0 < m by omega)
  have eG : garDig x m (mvL (garUp xs ms k) ms) (prodUp ms k) = (x - mvL (garUp xs ms k) ms) % m * invR (prodUp ms k % m) m % m := by unfold garDig; rw [eA]
  have q0 := Int.emod_nonneg (mvL (garUp xs ms k) ms) (show m ≠ 0 by omega)
  have q1 := Int.emod_lt_of_pos (mvL (garUp xs ms k) ms) (show 0 < m by omega)
  have p0 := Int.emod_nonneg (prodUp ms k) (show m ≠ 0 by omega)
  have p1 := Int.emod_lt_of_pos (prodUp ms k) (show 0 < m by omega)
  have t0 : 0 ≤ garDig x m (mvL (garUp xs ms k) ms) (prodUp ms k) * prodUp ms k := Int.mul_nonneg hd.1 (by omega)
  have u0 : 0 ≤ (x - mvL (garUp xs ms k) ms) % m * invR (prodUp ms k % m) m := Int.mul_nonneg r0 hi.1
  have u1 : (x - mvL (garUp xs ms k) ms) % m * invR (prodUp ms k % m) m ≤ 1000 * 1000 := Int.mul_le_mul (by omega) (by omega) hi.1 (by omega)
  rw [hps] at hp2 hv2
  rw [hval] at hv2
  exact ⟨_, _, _, _, rfl, rfl, rfl, rfl, hv.1, by omega, hp.1, hp.2, hmm.1, hmm.2, hi.1, hi.2, hd.1, hd.2, t0, by omega, by omega, by omega, by omega, hval, hps, hs, u0, by omega, q0, q1, p0, p1, r0, r1, eG, rfl⟩
theorem garDig_first {x m : Int} (hm : 2 ≤ m) (h0 : 0 ≤ x) (h1 : x ≤ m - 1) : garDig x m 0 1 = x := by
  unfold garDig
  have e1 : (1 : Int) % m = 1 := Int.emod_eq_of_lt (by omega) (by omega)
  have e2 : invR 1 m = 1 := invR_of (by omega) (by omega) (by rw [Int.one_mul]; exact e1)
  rw [e1, e2, Int.mul_one, Int.zero_emod, Int.sub_zero, Int.add_emod_right, Int.emod_emod]
  exact Int.emod_eq_of_lt h0 (by omega)

/-- The residues of the number with Garner's digits are the given ones. -/
theorem garDig_residue {x m n p : Int} (hm : 2 ≤ m) (hp : 0 ≤ p) (hg : Int.gcd p m = 1) (h0 : 0 ≤ x) (h1 : x ≤ m - 1) : (n + garDig x m n p * p) % m = x := by
  have hg2 : Int.gcd (p % m) m = 1 := by
    have := gcd_emod p m hp
    rw [hg, Int.gcd_comm] at this
    exact this
  have hi := invR_in (Int.emod_nonneg p (show m ≠ 0 by omega)) hg2 hm
  have hu := invR_mul hi.1
  unfold garDig
  obtain ⟨u, hu'⟩ : ∃ u, invR (p % m) m = u := ⟨_, rfl⟩
  rw [hu'] at hu ⊢
  have e1 := Int.emod_add_mul_ediv ((x - n % m + m) % m * u) m
  have e2 := Int.emod_add_mul_ediv (x - n % m + m) m
  have e3 := Int.emod_add_mul_ediv p m
  have e4 := Int.emod_add_mul_ediv (p % m * u) m
  have e5 := Int.emod_add_mul_ediv n m
  rw [hu] at e4
  obtain ⟨d, hd⟩ : ∃ d, (x - n % m + m) % m * u % m = d := ⟨_, rfl⟩
  rw [hd] at e1 ⊢
  obtain ⟨k1, hk1⟩ : ∃ k, (x - n % m + m) % m * u / m = k := ⟨_, rfl⟩
  rw [hk1] at e1
  obtain ⟨A, hA⟩ : ∃ d, (x - n % m + m) % m = d := ⟨_, rfl⟩
  rw [hA] at e1 e2
  obtain ⟨k2, hk2⟩ : ∃ k, (x - n % m + m) / m = k := ⟨_, rfl⟩
  rw [hk2] at e2
  obtain ⟨k4, hk4⟩ : ∃ k, p % m * u / m = k := ⟨_, rfl⟩
  rw [hk4] at e4
  obtain ⟨P, hP⟩ : ∃ k, p % m = k := ⟨_, rfl⟩
  rw [hP] at e3 e4
  obtain ⟨k3, hk3⟩ : ∃ k, p / m = k := ⟨_, rfl⟩
  rw [hk3] at e3
  obtain ⟨N, hN⟩ : ∃ k, n % m = k := ⟨_, rfl⟩
  rw [hN] at e2 e5
  obtain ⟨k5, hk5⟩ : ∃ k, n / m = k := ⟨_, rfl⟩
  rw [hk5] at e5
  have key : n + d * p = x + m * (1 + k5 - k2 - k1 * p + A * (k4 + k3 * u)) := by
    have d1 : d = A * u - m * k1 := by omega
    have d2 : A = x - N + m - m * k2 := by omega
    have d3 : p = P + m * k3 := by omega
    have d4 : P * u = 1 + m * k4 := by omega
    have d5 : n = N + m * k5 := by omega
    have f1 : A * u * p = A + m * (A * (k4 + k3 * u)) := by
      rw [d3]
      have : A * u * (P + m * k3) = A * (P * u) + m * (A * (k3 * u)) := by grind
      rw [this, d4]
      grind
    have f2 : d * p = A * u * p - m * (k1 * p) := by rw [d1]; grind
    rw [f2, f1]
    have f3 : m * (1 + k5 - k2 - k1 * p + A * (k4 + k3 * u)) = m + m * k5 - m * k2 - m * (k1 * p) + m * (A * (k4 + k3 * u)) := by grind
    rw [f3]
    omega
  rw [key, Int.add_mul_emod_self_left]
  exact Int.emod_eq_of_lt h0 (by omega)
theorem dvd_prodUp {ms : List Int} {i : Nat} {m : Int} (hm : ms[i]? = some m) : ∀ k, i < k → m ∣ prodUp ms k := by
  intro k
  induction k with
  | zero => intro h; omega
  | succ k ih =>
    intro h
    by_cases e : i = k
    · subst e
      rw [prodUp_succ hm]
      exact Int.dvd_mul_left ..
    · by_cases hk : k < ms.length
      · rw [prodUp_succ (List.getElem?_eq_getElem hk)]
        exact Int.dvd_mul_of_dvd_left (ih (by omega))
      · have : prodUp ms (k + 1) = prodUp ms k := by
          unfold prodUp
          rw [List.take_of_length_le (by omega), List.take_of_length_le (by omega)]
        rw [this]
        exact ih (by omega)
theorem garUp_residues {xs ms : List Int} (h : moduliB ms = true) (hl : xs.length = ms.length) (hin : ∀ (i : Nat) (d r : Int), xs[i]? = some d → ms[i]? = some r → 0 ≤ d ∧ d ≤ r - 1) :
    ∀ k, k ≤ ms.length → ∀ (i : Nat) (x m : Int), i < k → xs[i]? = some x → ms[i]? = some m → mvL (garUp xs ms k) ms % m = x := by
  obtain ⟨a, b, c, d, e⟩ := moduliB_parts h
  intro k
  induction k with
  | zero => intro _ i x m hi; omega
  | succ k ih =>
    intro hk i x m hi hx hm
    have hmk : ms[k]? = some ms[k] := List.getElem?_eq_getElem (by omega)
    have hxk : xs[k]? = some (xs[k]'(by omega)) := List.getElem?_eq_getElem (by omega)
    rw [garUp_succ hxk hmk, mvL_snoc _ _ _ (by rw [garUp_length]; omega), garUp_length]
    by_cases hik : i = k
    · subst hik
      obtain rfl : ms[i] = m := by rw [hmk] at hm; exact Option.some.inj hm
      obtain rfl : xs[i]'(by omega) = x := by rw [hxk] at hx; exact Option.some.inj hx
      have hb := hin i _ _ hxk hmk
      exact garDig_residue (c _ (List.getElem_mem _)).1 (by have := prodUp_in h i; omega) (gcd_prodUp h hmk) hb.1 hb.2
    · have := ih (by omega) i x m (by omega) hx hm
      obtain ⟨q, hq⟩ := dvd_prodUp hm k (by omega)
      rw [hq, Int.mul_left_comm, Int.add_mul_emod_self_left]
      exact this
theorem prod_dvd {ms : List Int} (h : moduliB ms = true) {z : Int} (hz : ∀ m ∈ ms, m ∣ z) : ∀ k, k ≤ ms.length → prodUp ms k ∣ z := by
  intro k
  induction k with
  | zero => intro _; simp [prodUp, prodI]
  | succ k ih =>
    intro hk
    have hmk : ms[k]? = some ms[k] := List.getElem?_eq_getElem (by omega)
    have h1 := ih (by omega)
    have h2 := hz ms[k] (List.getElem_mem _)
    have hg := gcd_prodUp h hmk
    rw [prodUp_succ hmk]
    rw [← Int.natAbs_dvd_natAbs] at h1 h2 ⊢
    rw [Int.natAbs_mul]
    exact Nat.Coprime.mul_dvd_of_dvd_of_dvd hg h1 h2
/-- Two numbers below the product with the same residues are the same. -/
theorem crt_unique {ms : List Int} (h : moduliB ms = true) {u v : Int} (hu0 : 0 ≤ u) (hu1 : u < prodI ms) (hv0 : 0 ≤ v) (hv1 : v < prodI ms) (he : ∀ m ∈ ms, u % m = v % m) : u = v := by
  have h1 : prodI ms ∣ u - v := by
    rw [← prodUp_all]
    exact prod_dvd h (fun m hm => Int.dvd_of_emod_eq_zero (by rw [Int.sub_emod, he m hm, Int.sub_self, Int.zero_emod])) _ (Nat.le_refl _)
  obtain ⟨q, hq⟩ := h1
  have hp : 0 < prodI ms := by omega
  rcases Int.lt_trichotomy q 0 with h2 | h2 | h2
  · have : prodI ms * q ≤ prodI ms * (-1) := Int.mul_le_mul_of_nonneg_left (by omega) (by omega)
    omega
  · subst h2; omega
  · have : prodI ms * 1 ≤ prodI ms * q := Int.mul_le_mul_of_nonneg_left (by omega) (by omega)
    omega
end Go.Proofs.Ytfdighaginmabaa
