/-
  PLAIN MATHEMATICS: what FnFibonacci asks of sparse and dense digits. No program in sight.
-/
import Derived.Test.YtlimphfkagdjiaaMath5
import Derived.Test.YtlimphfkagdjiaaF7
import Derived.Test.YtlimphfkagdjiaaF8
namespace Go.Proofs.Ytlimphfkagdjiaa
open Go.RowKit

theorem trimK_last (xs : List Int) : ∀ k, k ≤ xs.length → trimK xs k = 0 ∨ ∃ j x, trimK xs k = j + 1 ∧ xs[j]? = some x ∧ x ≠ 0 := by
  intro k
  induction k with
  | zero => intro _; exact .inl rfl
  | succ k ih =>
    intro hk
    by_cases h : xs[k]? = some 0
    · rw [trimK_zero h]; exact ih (by omega)
    · right
      have hx : xs[k]? = some xs[k] := List.getElem?_eq_getElem (by omega)
      refine ⟨k, xs[k], by simp [trimK, h], hx, fun e => h (by rw [hx, e])⟩
theorem trimL_end (xs : List Int) : endB (trimL xs) = true := by
  rcases trimK_last xs xs.length (Nat.le_refl _) with h | ⟨j, x, h, hx, hne⟩
  · rw [trimL_eq, h]; rfl
  · have hj := (List.getElem?_eq_some_iff.1 hx).1
    have h2 : (trimL xs)[(trimL xs).length - 1]? = some x := by
      rw [trimL_length, h, trimL_eq, h, Nat.add_sub_cancel, List.getElem?_take_of_lt (by omega)]
      exact hx
    rw [endB_last h2]
    simpa using hne
theorem trimL_of_end {xs : List Int} (h : endB xs = true) : trimL xs = xs := by
  rcases Nat.eq_zero_or_pos xs.length with h0 | h0
  · have : xs = [] := List.length_eq_zero_iff.1 h0
    rw [this, trimL_eq]; rfl
  · have hx : xs[xs.length - 1]? = some xs[xs.length - 1] := List.getElem?_eq_getElem (by omega)
    rw [endB_last hx] at h
    exact trimL_full hx (by simpa using h)
/-- What is cut off are zeros. -/
theorem trim_pad (xs : List Int) : xs = trimL xs ++ List.replicate (xs.length - (trimL xs).length) 0 := by
  have key : ∀ k, k ≤ xs.length → xs.take k = xs.take (trimK xs k) ++ List.replicate (k - trimK xs k) 0 := by
    intro k
    induction k with
    | zero => intro _; simp [trimK]
    | succ k ih =>
      intro hk
      have hle := trimK_le xs k
      by_cases h : xs[k]? = some 0
      · rw [trimK_zero h, List.take_add_one, h, ih (by omega), show k + 1 - trimK xs k = (k - trimK xs k) + 1 by omega, List.replicate_succ', List.append_assoc]
        rfl
      · have : trimK xs (k + 1) = k + 1 := by simp [trimK, h]
        rw [this]; simp
  have := key xs.length (Nat.le_refl _)
  rw [List.take_length] at this
  rw [trimL_length, trimL_eq]
  exact this
theorem trim_inj {xs ys : List Int} (hl : xs.length = ys.length) (h : trimL xs = trimL ys) : xs = ys := by
  rw [trim_pad xs, trim_pad ys, h, hl]
theorem lsm_trim (xs : List Int) : lsm (trimL xs) = lsm xs := by
  have h := congrArg lsm (trim_pad xs)
  rw [lsm_append, lsm_zeros] at h
  omega
theorem Bits.trim {xs : List Int} (h : Bits xs) : Bits (trimL xs) := fun x hx => h x (trimL_mem hx)
theorem bits_all {xs : List Int} (h : Bits xs) : allB xs 0 1 = true := by
  unfold allB
  rw [List.all_eq_true]
  intro x hx
  rcases h x hx with rfl | rfl <;> decide
theorem bits_of {xs : List Int} (h : fibOkB xs = true) : Bits xs := fun x hx => by
  have := (fibOk_parts h).2.2 x hx
  omega
theorem fibOk_of {xs : List Int} (h1 : xs.length ≤ 58) (h2 : endB xs = true) (h3 : Bits xs) : fibOkB xs = true := by
  simp [fibOkB, h1, h2, bits_all h3]
theorem Sp.no_two {xs : List Int} (h : Sp xs) : twB xs 1 = false := by
  rw [Bool.eq_false_iff]
  intro hc
  unfold twB twUp at hc
  rw [List.any_eq_true] at hc
  obtain ⟨i, _, hi⟩ := hc
  simp only [Bool.and_eq_true, decide_eq_true_eq, beq_iff_eq] at hi
  have key : ∀ (xs : List Int) (j : Nat), Sp xs → xs[j]? = some 1 → xs[j + 1]? = some 1 → False := by
    intro xs
    induction xs with
    | nil => intro j _ h1; simp at h1
    | cons x xs ih =>
      intro j hS h1 h2
      cases j with
      | zero =>
        have e : x = 1 := by simpa using h1
        apply hS.2.1 e
        rw [List.head?_eq_getElem?]
        simpa using h2
      | succ j => exact ih j hS.2.2 (by simpa using h1) (by simpa using h2)
  refine key xs (i - 1) h hi.2 ?_
  rw [show i - 1 + 1 = i by omega]
  exact hi.1.2
theorem sp_of {xs : List Int} (hb : Bits xs) (h : ∀ j : Nat, xs[j]? = some 1 → xs[j + 1]? ≠ some 1) : Sp xs := by
  induction xs with
  | nil => trivial
  | cons x xs ih =>
    refine ⟨hb x (by simp), fun hx e => ?_, ih (fun y hy => hb y (by simp [hy])) fun j h1 => ?_⟩
    · refine h 0 (by rw [hx]; rfl) ?_
      rw [List.head?_eq_getElem?] at e
      simpa using e
    · have := h (j + 1) (by simpa using h1)
      simpa using this
theorem tw_parts {xs : List Int} {d : Int} (h : twB xs d = false) : ∀ j : Nat, xs[j]? = some d → xs[j + 1]? ≠ some d := fun j h1 h2 => by
  have := twB_true (k := j + 1) (by omega) h2 (by simpa using h1) rfl rfl
  rw [this] at h
  cases h
theorem sparse_iff {xs : List Int} (h : fibOkB xs = true) : isSparseFibB xs = true ↔ Sp xs := by
  constructor
  · intro hs
    unfold isSparseFibB at hs
    rw [h, Bool.true_and, Bool.not_eq_true'] at hs
    exact sp_of (bits_of h) (tw_parts hs)
  · intro hs
    unfold isSparseFibB
    rw [h, hs.no_two]
    rfl
theorem cmpl_at (xs : List Int) (j : Nat) : (cmpl xs)[j]? = xs[j]?.map fun x => 1 - x := by simp [cmpl]
theorem cmpl_one {xs : List Int} {j : Nat} : (cmpl xs)[j]? = some 1 ↔ xs[j]? = some 0 := by
  rw [cmpl_at]
  rcases h : xs[j]? with _ | x
  · simp
  · simp; omega
theorem dense_iff {xs : List Int} (h : fibOkB xs = true) : isDenseFibB xs = true ↔ Sp (cmpl xs) := by
  constructor
  · intro hs
    unfold isDenseFibB at hs
    rw [h, Bool.true_and, Bool.not_eq_true'] at hs
    refine sp_of (cmpl_bits (bits_of h)) fun j h1 h2 => ?_
    exact tw_parts hs j (cmpl_one.1 h1) (cmpl_one.1 h2)
  · intro hs
    unfold isDenseFibB
    rw [h, Bool.true_and, Bool.not_eq_true', Bool.eq_false_iff]
    intro hc
    unfold twB twUp at hc
    rw [List.any_eq_true] at hc
    obtain ⟨i, _, hi⟩ := hc
    simp only [Bool.and_eq_true, decide_eq_true_eq, beq_iff_eq] at hi
    have h2 := tw_parts hs.no_two (i - 1) (cmpl_one.2 hi.2)
    rw [show i - 1 + 1 = i by omega] at h2
    exact h2 (cmpl_one.2 hi.1.2)
/-- The sparse digits as the greedy digits of the places that are needed. -/
theorem sp_form {n : Int} {k : Nat} (h0 : 0 ≤ n) (h1 : n ≤ 500000000000) (hk : k ≤ 57) (hn : n < (fibN k : Int)) : spR n = trimL (dg usedS k n) := by
  rw [spR_of (inB_of ⟨h0, h1⟩)]
  exact trimL_dg_high hk fun j hj => by
    have := fibN_mono hj
    unfold usedS
    apply decide_eq_false
    omega
theorem dn_form {n : Int} {k : Nat} (h0 : 0 ≤ n) (h1 : n ≤ 500000000000) (hk : k ≤ 57) (hn : n ≤ (fibN (k + 1) : Int) - 2) : dnR n = trimL (dg usedD k n) := by
  rw [dnR_of (inB_of ⟨h0, h1⟩)]
  exact trimL_dg_high hk fun j hj => by
    have := fibN_mono (show k + 1 ≤ j + 1 by omega)
    unfold usedD
    apply decide_eq_false
    omega
theorem exists_place' {n : Int} {m : Nat} (h0 : 0 ≤ n) (h : n ≤ (fibN (m + 1) : Int) - 2) : ∃ k, k ≤ m ∧ n ≤ (fibN (k + 1) : Int) - 2 ∧ (k = 0 ∨ ∃ j, k = j + 1 ∧ (fibN (j + 1) : Int) - 2 < n) := by
  induction m with
  | zero => exact ⟨0, Nat.le_refl _, h, Or.inl rfl⟩
  | succ m ih =>
    by_cases hm : n ≤ (fibN (m + 1) : Int) - 2
    · obtain ⟨k, hk, h1, h2⟩ := ih hm
      exact ⟨k, by omega, h1, h2⟩
    · exact ⟨m + 1, Nat.le_refl _, h, Or.inr ⟨m, rfl, by omega⟩⟩
theorem dn_dense {n : Int} (h0 : 0 ≤ n) (h1 : n ≤ 500000000000) : Sp (cmpl (dnR n)) := by
  have e57 := fibN_57
  have e58 := fibN_58
  obtain ⟨k, hk, hn, hc⟩ := exists_place' (m := 57) h0 (by simp only [Nat.reduceAdd]; omega)
  rw [dn_form h0 h1 hk hn]
  rcases hc with rfl | ⟨j, rfl, hj⟩
  · have : trimL (dg usedD 0 n) = [] := by rw [dg_zero, trimL_eq]; rfl
    rw [this]; trivial
  · rw [dg_top_one (by unfold usedD; exact decide_eq_true hj), dgD_cmpl, cmpl_cmpl]
    refine dgS_sparse _ _ ?_
    have a := fibN_two j
    have b := fibN_lt j
    omega
theorem dn_value {n : Int} (h0 : 0 ≤ n) (h1 : n ≤ 500000000000) : sf (dnR n) 0 = n := by
  have e58 := fibN_58
  rw [dnR_of (inB_of ⟨h0, h1⟩), sf_trim]
  exact dgD_val 57 n h0 (by simp only [Nat.reduceAdd]; omega)
theorem sp_ok (n : Int) : fibOkB (spR n) = true := by
  refine fibOk_of (by have := spR_len57 n; omega) ?_ (spR_sparse.bits)
  unfold spR
  split
  · exact trimL_end _
  · rfl
theorem dn_ok (n : Int) : fibOkB (dnR n) = true := by
  refine fibOk_of (by have := dnR_len57 n; omega) ?_ fun x hx => by have := dnR_mem n x hx; omega
  unfold dnR
  split
  · exact trimL_end _
  · rfl
theorem sp_value {n : Int} (h0 : 0 ≤ n) (h1 : n ≤ 500000000000) : fibValB (spR n) = true ∧ fibValR (spR n) = n := by
  have e : fibSum (spR n) = n := by rw [fibSum_sf, spR_value h0 h1]
  have : fibValB (spR n) = true := by unfold fibValB; rw [sp_ok, e]; simp; omega
  exact ⟨this, by unfold fibValR; rw [this, if_pos rfl, e]⟩
theorem dn_val {n : Int} (h0 : 0 ≤ n) (h1 : n ≤ 500000000000) : fibValB (dnR n) = true ∧ fibValR (dnR n) = n := by
  have e : fibSum (dnR n) = n := by rw [fibSum_sf, dn_value h0 h1]
  have : fibValB (dnR n) = true := by unfold fibValB; rw [dn_ok, e]; simp; omega
  exact ⟨this, by unfold fibValR; rw [this, if_pos rfl, e]⟩
/-- Sparse digits are those of the program. -/
theorem sp_unique {xs : List Int} (h : fibOkB xs = true) (hl : xs.length ≤ 57) (hS : Sp xs) (hv : sf xs 0 ≤ 500000000000) : xs = spR (sf xs 0) := by
  have h2 := (Sp.lt _ xs rfl hS).1
  rw [sp_form (sf_nonneg hS 0) hv hl h2, ← Sp.eq _ xs rfl hS]
  exact (trimL_of_end (fibOk_parts h).2.1).symm
theorem dn_unique {xs : List Int} (h : fibOkB xs = true) (hl : xs.length ≤ 57) (hS : Sp (cmpl xs)) (hv : sf xs 0 ≤ 500000000000) : xs = dnR (sf xs 0) := by
  have h2 := sf_le' (bits_of h)
  rw [dn_form h2.1 hv hl h2.2, ← dense_eq hS]
  exact (trimL_of_end (fibOk_parts h).2.1).symm
theorem beq_iff {xs ys : List Int} {b : Bool} (h : b = true ↔ xs = ys) : b = (xs == ys) := by
  rw [Bool.eq_iff_iff, h]
  simp
/-- What the law says of a number. -/
theorem fib_number {n : Int} (h0 : 0 ≤ n) (h1 : n ≤ 100000) :
    1 ≤ countR n ∧ (decide (countR n = 1) = (spR n == dnR n)) ∧ (dnR n).length ≤ (spR n).length ∧ isSparseFibB (spR n) = true ∧ isDenseFibB (dnR n) = true := by
  have e25 := fibN_25
  have e30 : fibN 30 ≥ fibN 25 := fibN_mono (by omega)
  have e31 : fibN 31 ≥ fibN 30 := fibN_mono (by omega)
  have h2 : n < (fibN 30 : Int) := by omega
  have h3 : n ≤ (fibN (30 + 1) : Int) - 2 := by simp only [Nat.reduceAdd]; omega
  obtain ⟨c1, c2⟩ := cf_lists 30 n h0 h3
  have ec : countR n = cf 30 n := by unfold countR; rw [if_pos (inB_of ⟨h0, h1⟩)]
  have es := sp_form h0 (by omega) (by omega) h2
  have ed := dn_form h0 (by omega) (by omega) h3
  refine ⟨by rw [ec]; exact c1, ?_, ?_, (sparse_iff (sp_ok n)).2 spR_sparse, (dense_iff (dn_ok n)).2 (dn_dense h0 (by omega))⟩
  · rw [ec]
    refine beq_iff ?_
    rw [decide_eq_true_eq, c2, es, ed]
    constructor
    · intro h; rw [h]
    · intro h; exact trim_inj (by rw [dg_len, dg_len]) h
  · obtain ⟨k, hk, g1, g2⟩ := exists_place (m := 57) h0 (by rw [fibN_57]; omega)
    have hd := dn_form (k := k) h0 (by omega) hk (by
      have := fibN_lt k
      cases k with
      | zero => have a := fibN_two 0; simp at g1 ⊢; omega
      | succ j => have a := fibN_two j; have := (fibN_pos j).1; omega)
    have hs := sp_form (k := k) h0 (by omega) hk g1
    rw [hd, hs]
    rcases g2 with rfl | ⟨j, rfl, hj⟩
    · have := trimL_le (dg usedD 0 n); rw [dg_len] at this; omega
    · have := trimL_le (dg usedD (j + 1) n)
      rw [dg_len] at this
      have e2 : (trimL (dg usedS (j + 1) n)).length = j + 1 := by rw [dg_top_one (used := usedS) (by simpa [usedS] using hj), dg_len]
      omega
/-- What the law says of a list of digits. -/
theorem fib_list {xs : List Int} (h : fibOkB xs = true) (hl : xs.length ≤ 13) :
    0 ≤ sf xs 0 ∧ sf xs 0 ≤ 100000 ∧ fibValB xs = true ∧ fibValR xs = sf xs 0 ∧ isSparseFibB xs = (xs == spR (sf xs 0)) ∧ isDenseFibB xs = (xs == dnR (sf xs 0)) ∧ 1 ≤ countR (sf xs 0) ∧ lsm (spR (sf xs 0)) ≤ lsm xs ∧ lsm xs ≤ lsm (dnR (sf xs 0)) := by
  have hb := bits_of h
  obtain ⟨v0, v1⟩ := sf_le' hb
  have hm := fibN_mono (show xs.length + 1 ≤ 14 by omega)
  have e14 : fibN 14 = 987 := by decide +kernel
  have v2 : sf xs 0 ≤ 100000 := by omega
  have ev : fibSum xs = sf xs 0 := fibSum_sf xs
  have hv : fibValB xs = true := by unfold fibValB; rw [h, ev]; simp; omega
  obtain ⟨f1, _, _, f4, f5⟩ := fib_number v0 v2
  refine ⟨v0, v2, hv, by unfold fibValR; rw [hv, if_pos rfl, ev], beq_iff ?_, beq_iff ?_, f1, ?_, ?_⟩
  · rw [sparse_iff h]
    constructor
    · intro hS; exact sp_unique h (by omega) hS (by omega)
    · intro e; rw [e]; exact spR_sparse
  · rw [dense_iff h]
    constructor
    · intro hS; exact dn_unique h (by omega) hS (by omega)
    · intro e; rw [e]; exact dn_dense v0 (by omega)
  · have hp := fibN_mono (show 14 ≤ 57 by omega)
    rw [sp_form (k := 57) v0 (by omega) (by omega) (by omega), lsm_trim]
    have hq := dgS_least 57 (xs ++ List.replicate (57 - xs.length) 0) (by simp; omega) (fun x hx => by
      rcases List.mem_append.1 hx with hx | hx
      · exact hb x hx
      · exact .inl (List.eq_of_mem_replicate hx))
    have e1 : sf (xs ++ List.replicate (57 - xs.length) 0) 0 = sf xs 0 := by
      generalize 57 - xs.length = q
      induction q with
      | zero => simp
      | succ q ih => rw [List.replicate_succ', ← List.append_assoc, sf_append_zero, ih]
    rw [e1, lsm_append, lsm_zeros] at hq
    omega
  · rw [dn_form (k := xs.length) v0 (by omega) (by omega) v1, lsm_trim]
    exact dgD_most xs.length xs rfl hb
theorem sf_zeros_one (j : Nat) : ∀ k, sf (List.replicate j 0 ++ [1]) k = (fibN (k + j) : Int) := by
  induction j with
  | zero => intro k; simp [sf]
  | succ j ih =>
    intro k
    rw [List.replicate_succ, List.cons_append]
    simp only [sf]
    rw [ih, show k + 1 + j = k + (j + 1) by omega]
    omega
theorem sp_zeros_one (j : Nat) : Sp (List.replicate j 0 ++ [1]) := by
  induction j with
  | zero => exact ⟨.inr rfl, fun _ => by simp, trivial⟩
  | succ j ih => exact ⟨.inl rfl, fun h => by simp at h, ih⟩
theorem shift_place {j : Nat} (hj : j ≤ 30) : shiftR (fibN j : Nat) = (fibN (j + 1) : Int) := by
  have h1 := fibN_mono hj
  have e30 : fibN 30 = 2178309 := by decide +kernel
  have hx : spR (fibN j : Nat) = List.replicate j 0 ++ [1] := by
    have h2 := sp_unique (xs := List.replicate j 0 ++ [1]) (fibOk_of (by simp; omega) (by simp [endB]) (sp_zeros_one j).bits) (by simp; omega) (sp_zeros_one j) (by rw [sf_zeros_one, Nat.zero_add]; omega)
    rw [sf_zeros_one, Nat.zero_add] at h2
    exact h2.symm
  rw [shiftR_sf (inB_of ⟨by omega, by omega⟩), hx, sf_zeros_one, Nat.add_comm]
theorem shift_digits {n : Int} (h0 : 0 ≤ n) (h1 : n ≤ 1000000) : spR (shiftR n) = if spR n = [] then [] else 0 :: spR n := by
  have hb := shiftR_bound h0 h1
  have e := shiftR_sf (n := n) (inB_of ⟨h0, by omega⟩)
  by_cases hz : spR n = []
  · rw [if_pos hz]
    rw [hz] at e
    have e2 : shiftR n = 0 := by rw [e]; rfl
    rw [e2]
    have hl := spR_value (n := 0) (by omega) (by omega)
    have h3 := sp_form (n := 0) (k := 0) (by omega) (by omega) (by omega) (by rw [fibN_zero]; omega)
    rw [h3, dg_zero, trimL_eq]; rfl
  · rw [if_neg hz]
    have hS : Sp (0 :: spR n) := ⟨.inl rfl, fun h => by simp at h, spR_sparse⟩
    have h57 := spR_len57 n
    have h56 : (spR n).length ≤ 56 := by
      have e56 := fibN_56
      have h3 := sp_form (n := n) (k := 56) h0 (by omega) (by omega) (by omega)
      rw [h3]
      have := trimL_le (dg usedS 56 n)
      rw [dg_len] at this
      exact this
    have ev : sf (0 :: spR n) 0 = shiftR n := by rw [sf_zero_cons, ← e]
    have hend : endB (0 :: spR n) = true := by
      have h3 := (fibOk_parts (sp_ok n)).2.1
      unfold endB at h3 ⊢
      cases hs : spR n with
      | nil => exact absurd hs hz
      | cons x xs => rw [hs] at h3; rw [List.getLast?_cons_cons]; exact h3
    have h2 := sp_unique (xs := 0 :: spR n) (fibOk_of (by simp; omega) hend hS.bits) (by simp; omega) hS (by rw [ev]; omega)
    rw [ev] at h2
    exact h2.symm
theorem shift_twice {n : Int} (h0 : 0 ≤ n) (h1 : n ≤ 1000000) : shiftR (shiftR n) = shiftR n + n := by
  have hb := shiftR_bound h0 h1
  have hd := shift_digits h0 h1
  have e := shiftR_sf (n := n) (inB_of ⟨h0, by omega⟩)
  have ev := spR_value (n := n) h0 (by omega)
  rw [shiftR_sf (n := shiftR n) (inB_of ⟨by omega, by omega⟩), hd]
  by_cases hz : spR n = []
  · rw [if_pos hz]
    rw [hz] at e ev
    simp only [sf] at e ev ⊢
    omega
  · rw [if_neg hz, sf_zero_cons, show 1 + 1 = 0 + 2 by rfl, sf_add, Nat.zero_add, ev, ← e]
    omega
end Go.Proofs.Ytlimphfkagdjiaa
