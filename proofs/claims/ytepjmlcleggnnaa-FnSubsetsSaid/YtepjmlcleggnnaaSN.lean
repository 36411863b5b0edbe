/-
  PLAIN LAWS on ranks of subsets: every subset has its own number, and numbers go up with masks. No program in sight.
-/
import Derived.Test.YtepjmlcleggnnaaSM
namespace Go.Proofs.Ytepjmlcleggnnaa
open Go.RowKit

/-- The rank of the first numbers lies between two coefficients of the last of them. -/
theorem rank_fit {xs : List Int} (h : subSoFar xs 20 xs.length) : ∀ (j n : Nat), xs[j]? = some (n : Int) → (bN n (j + 1) : Int) ≤ rankUp xs (j + 1) ∧ rankUp xs (j + 1) < (bN (n + 1) (j + 1) : Int) := by
  intro j
  induction j with
  | zero =>
    intro n hx
    have hb := sub_at h 0 _ hx
    rw [rankUp_succ hx, rankUp_zero]
    have e := bN_diff n (by omega) 0 (by omega)
    rw [bN_zero] at e
    simp only [Nat.zero_add] at e ⊢
    omega
  | succ j ih =>
    intro n hx
    have hk := (List.getElem?_eq_some_iff.1 hx).1
    have hb := sub_at h _ _ hx
    have hy : xs[j]? = some xs[j] := List.getElem?_eq_getElem (by omega)
    have hby := sub_at h _ _ hy
    obtain ⟨m, hm⟩ : ∃ m : Nat, xs[j] = m := ⟨xs[j].toNat, by omega⟩
    rw [hm] at hy hby
    have hlt := sub_inc h 0 j _ _ hy hx
    have i := ih m hy
    rw [rankUp_succ hx]
    have e := bN_diff n (by omega) (j + 1) (by omega)
    have hmono := bN_mono' (i := j + 1) (by omega) (show m + 1 ≤ n by omega) (by omega)
    omega
theorem rank_range {xs : List Int} (h : subB xs 20 = true) : 0 ≤ rankR xs ∧ rankR xs < (bN 20 xs.length : Int) := by
  obtain ⟨_, _, hS⟩ := subB_parts h
  rw [rankR_of h]
  rcases Nat.eq_zero_or_pos xs.length with h0 | h0
  · rw [h0, rankUp_zero, bN_20_zero]; omega
  · obtain ⟨j, hj⟩ : ∃ j, xs.length = j + 1 := ⟨xs.length - 1, by omega⟩
    have hx : xs[j]? = some (xs[j]'(by omega)) := List.getElem?_eq_getElem (by omega)
    have hb := sub_at hS _ _ hx
    obtain ⟨n, hn⟩ : ∃ n : Nat, xs[j]'(by omega) = n := ⟨(xs[j]'(by omega)).toNat, by omega⟩
    rw [hn] at hx hb
    have f := rank_fit hS j n hx
    rw [hj]
    have hm := bN_mono' (i := j + 1) (by omega) (show n + 1 ≤ 20 by omega) (by omega)
    omega
/-- The numbers of a subset are found again. -/
theorem at_rank {xs : List Int} (h : subB xs 20 = true) (h8 : xs.length ≤ 8) : subsetAtB (rankR xs) xs.length = true ∧ subsetAtL (rankR xs) xs.length = xs := by
  obtain ⟨_, _, hS⟩ := subB_parts h
  obtain ⟨r0, r1⟩ := rank_range h
  have er := rankR_of h
  obtain ⟨n, hn⟩ : ∃ n : Nat, rankR xs = n := ⟨(rankR xs).toNat, by omega⟩
  rw [hn] at r0 r1 er ⊢
  have i1 : inB (xs.length : Int) 0 8 = true := inB_of ⟨by omega, by omega⟩
  have i2 : inB (n : Int) 0 ((bN 20 xs.length : Nat) - 1) = true := inB_of ⟨by omega, by omega⟩
  refine ⟨subsetAtB_of i1 i2, ?_⟩
  rw [subsetAtL_of i1 i2]
  have key : ∀ t, t ≤ xs.length → (stN n xs.length t : Int) = rankUp xs (xs.length - t) := by
    intro t
    induction t with
    | zero => intro _; rw [stN_zero, Nat.sub_zero]; exact er
    | succ t ih =>
      intro ht
      have i := ih (by omega)
      obtain ⟨j, hj⟩ : ∃ j, xs.length - t = j + 1 := ⟨xs.length - t - 1, by omega⟩
      have hx : xs[j]? = some (xs[j]'(by omega)) := List.getElem?_eq_getElem (by omega)
      have hb := sub_at hS _ _ hx
      obtain ⟨m, hm⟩ : ∃ m : Nat, xs[j]'(by omega) = m := ⟨(xs[j]'(by omega)).toNat, by omega⟩
      rw [hm] at hx hb
      have f := rank_fit hS j m hx
      rw [hj] at i
      have hd : dnX (stN n xs.length t) (j + 1) 19 = m := dnX_from_below (by omega) (by omega) (by omega) 19 (by omega) (by omega)
      rw [stN_succ, hj, hd, show xs.length - (t + 1) = j by omega]
      have e2 := rankUp_succ hx
      omega
  refine List.ext_getElem? fun i => ?_
  rcases Nat.lt_or_ge i xs.length with hi | hi
  · rw [List.getElem?_reverse (by rw [saUp_len]; exact hi), saUp_len]
    obtain ⟨t, ht⟩ : ∃ t, xs.length - 1 - i = t := ⟨_, rfl⟩
    rw [ht]
    have hx : xs[i]? = some (xs[i]'(by omega)) := List.getElem?_eq_getElem (by omega)
    have hb := sub_at hS _ _ hx
    obtain ⟨m, hm⟩ : ∃ m : Nat, xs[i]'(by omega) = m := ⟨(xs[i]'(by omega)).toNat, by omega⟩
    rw [hm] at hx hb
    have f := rank_fit hS i m hx
    have k := key t (by omega)
    rw [show xs.length - t = i + 1 by omega] at k
    have hd : dnX (stN n xs.length t) (i + 1) 19 = m := dnX_from_below (by omega) (by omega) (by omega) 19 (by omega) (by omega)
    rw [hx]
    unfold saUp
    rw [List.getElem?_map, List.getElem?_range (by omega)]
    simp only [Option.map_some]
    rw [show xs.length - t = i + 1 by omega, hd]
  · rw [List.getElem?_eq_none (by rw [List.length_reverse, saUp_len]; exact hi), List.getElem?_eq_none hi]
/-- A number has a subset with that rank. -/
theorem rank_at {n k : Nat} (hk : k ≤ 8) (hn : n < bN 20 k) : subB (saUp n k k).reverse 20 = true ∧ rankR (saUp n k k).reverse = n := by
  have hlen : (saUp n k k).reverse.length = k := by rw [List.length_reverse, saUp_len]
  have hat : ∀ j, j < k → (saUp n k k).reverse[j]? = some ((dnX (stN n k (k - 1 - j)) (j + 1) 19 : Nat) : Int) := by
    intro j hj
    rw [List.getElem?_reverse (by rw [saUp_len]; exact hj), saUp_len]
    unfold saUp
    rw [List.getElem?_map, List.getElem?_range (by omega)]
    simp only [Option.map_some]
    rw [show k - (k - 1 - j) = j + 1 by omega]
  have hfit : ∀ j, j < k → bN (dnX (stN n k (k - 1 - j)) (j + 1) 19) (j + 1) ≤ stN n k (k - 1 - j) ∧ stN n k (k - 1 - j) < bN (dnX (stN n k (k - 1 - j)) (j + 1) 19 + 1) (j + 1) ∧ dnX (stN n k (k - 1 - j)) (j + 1) 19 ≤ 19 := by
    intro j hj
    have := stN_fit hk hn (k - 1 - j) (by omega)
    rw [show k - (k - 1 - j) = j + 1 by omega] at this
    exact dnX_fit (by omega) (by omega) this
  have hstep : ∀ j, j < k → stN n k (k - j) = stN n k (k - 1 - j) - bN (dnX (stN n k (k - 1 - j)) (j + 1) 19) (j + 1) := by
    intro j hj
    rw [show k - j = k - 1 - j + 1 by omega, stN_succ, show k - (k - 1 - j) = j + 1 by omega]
  have hdesc : ∀ j, j + 1 < k → dnX (stN n k (k - 1 - j)) (j + 1) 19 < dnX (stN n k (k - 1 - (j + 1))) (j + 1 + 1) 19 := by
    intro j hj
    obtain ⟨a1, a2, a3⟩ := hfit j (by omega)
    obtain ⟨b1, b2, b3⟩ := hfit (j + 1) hj
    have s := hstep (j + 1) hj
    rw [show k - (j + 1) = k - 1 - j by omega] at s
    have e := bN_diff (dnX (stN n k (k - 1 - (j + 1))) (j + 1 + 1) 19) (by omega) (j + 1) (by omega)
    rcases Nat.lt_or_ge (dnX (stN n k (k - 1 - j)) (j + 1) 19) (dnX (stN n k (k - 1 - (j + 1))) (j + 1 + 1) 19) with h | h
    · exact h
    · exfalso
      have := bN_mono' (i := j + 1) (by omega) h (by omega)
      omega
  have hS : subSoFar (saUp n k k).reverse 20 (saUp n k k).reverse.length := by
    intro i hi
    rw [hlen] at hi
    obtain ⟨a1, a2, a3⟩ := hfit i hi
    cases i with
    | zero => rw [subAt_zero (hat 0 hi)]; exact inB_of ⟨by omega, by omega⟩
    | succ i =>
      rw [subAt_pos (by omega) (hat (i + 1) hi) (y := ((dnX (stN n k (k - 1 - i)) (i + 1) 19 : Nat) : Int)) (by simpa using hat i (by omega)), inB_of ⟨by omega, by omega⟩, Bool.true_and]
      apply decide_eq_true
      have := hdesc i hi
      omega
  have hB : subB (saUp n k k).reverse 20 = true := by rw [subB_end hS]; exact inB_of ⟨by omega, by omega⟩
  refine ⟨hB, ?_⟩
  rw [rankR_of hB, hlen]
  have key : ∀ j, j ≤ k → rankUp (saUp n k k).reverse j = (stN n k (k - j) : Int) - (stN n k k : Int) := by
    intro j
    induction j with
    | zero => intro _; rw [rankUp_zero, Nat.sub_zero]; omega
    | succ j ih =>
      intro hj
      rw [rankUp_succ (hat j (by omega)), ih (by omega), hstep j (by omega)]
      obtain ⟨a1, a2, a3⟩ := hfit j (by omega)
      rw [show k - (j + 1) = k - 1 - j by omega]
      omega
  rw [key k (Nat.le_refl _), Nat.sub_self, stN_zero]
  have hz : stN n k k = 0 := by
    rcases Nat.eq_zero_or_pos k with h0 | h0
    · subst h0; rw [stN_zero]; rw [bN_20_zero] at hn; omega
    · have s := hstep 0 h0
      rw [Nat.sub_zero] at s
      obtain ⟨a1, a2, a3⟩ := hfit 0 h0
      have e := bN_diff (dnX (stN n k (k - 1 - 0)) (0 + 1) 19) (by omega) 0 (by omega)
      rw [bN_zero] at e
      omega
  omega
/-- Ranks go up with masks. -/
theorem rank_mask {xs ys : List Int} (h : subSoFar xs 20 xs.length) (k : subSoFar ys 20 ys.length) : ∀ j, j ≤ xs.length → j ≤ ys.length → rankUp xs j < rankUp ys j → maskUp xs j < maskUp ys j := by
  intro j
  induction j with
  | zero => intro _ _ hr; rw [rankUp_zero, rankUp_zero] at hr; omega
  | succ j ih =>
    intro hx hy hr
    have ex : xs[j]? = some (xs[j]'(by omega)) := List.getElem?_eq_getElem (by omega)
    have ey : ys[j]? = some (ys[j]'(by omega)) := List.getElem?_eq_getElem (by omega)
    have bx := sub_at h _ _ ex
    have by_ := sub_at k _ _ ey
    obtain ⟨x, hxe⟩ : ∃ n : Nat, xs[j]'(by omega) = n := ⟨(xs[j]'(by omega)).toNat, by omega⟩
    obtain ⟨y, hye⟩ : ∃ n : Nat, ys[j]'(by omega) = n := ⟨(ys[j]'(by omega)).toNat, by omega⟩
    rw [hxe] at ex bx
    rw [hye] at ey by_
    have fx := rank_fit h j x ex
    have fy := rank_fit k j y ey
    rw [maskUp_succ ex, maskUp_succ ey]
    rcases Nat.lt_trichotomy x y with hlt | heq | hgt
    · have m := mask_lt h j x ex
      have e1 : 2 ^ (x + 1) ≤ 2 ^ y := Nat.pow_le_pow_right (by omega) (by omega)
      rw [Nat.pow_succ] at e1
      omega
    · subst heq
      rw [rankUp_succ ex, rankUp_succ ey] at hr
      have := ih (by omega) (by omega) (by omega)
      omega
    · exfalso
      have := bN_mono' (i := j + 1) (by omega) (show y + 1 ≤ x by omega) (by omega)
      omega
/-- What the law says of the next subset. -/
theorem next_law {xs : List Int} (h : subB xs 20 = true) (h8 : xs.length ≤ 8) :
    nextB xs = decide (rankR xs + 1 < (bN 20 xs.length : Int)) ∧ (nextB xs = true → subB (nextL xs) 20 = true ∧ rankR (nextL xs) = rankR xs + 1 ∧ maskR xs < maskR (nextL xs) ∧ (nextL xs).length = xs.length) := by
  obtain ⟨r0, r1⟩ := rank_range h
  have i1 : inB (xs.length : Int) 0 8 = true := inB_of ⟨by omega, by omega⟩
  obtain ⟨n, hn⟩ : ∃ n : Nat, rankR xs + 1 = n := ⟨(rankR xs + 1).toNat, by omega⟩
  rw [nextB_of h, nextL_of h, hn]
  by_cases hlt : n < bN 20 xs.length
  · have i2 : inB (n : Int) 0 ((bN 20 xs.length : Nat) - 1) = true := inB_of ⟨by omega, by omega⟩
    refine ⟨by rw [subsetAtB_of i1 i2, decide_eq_true (by omega)], fun _ => ?_⟩
    rw [subsetAtL_of i1 i2]
    obtain ⟨a, b⟩ := rank_at h8 hlt
    have hlen : (saUp n xs.length xs.length).reverse.length = xs.length := by rw [List.length_reverse, saUp_len]
    refine ⟨a, b, ?_, hlen⟩
    rw [maskR_of h, maskR_of a]
    rw [rankR_of a, hlen] at b
    rw [rankR_of h] at hn
    have := rank_mask (subB_parts h).2.2 (subB_parts a).2.2 xs.length (Nat.le_refl _) (by omega) (by omega)
    rw [hlen]
    omega
  · have i2 : inB (n : Int) 0 ((bN 20 xs.length : Nat) - 1) = false := by
      rw [Bool.eq_false_iff]; intro hc; have := inB_true hc; omega
    refine ⟨by rw [subsetAtB_no2 i2, decide_eq_false (by omega)], fun hc => ?_⟩
    rw [subsetAtB_no2 i2] at hc
    cases hc
/-- What the law says of the others, and of the mask. -/
theorem other_law {xs : List Int} (h : subB xs 20 = true) :
    subB (otherL xs 20) 20 = true ∧ otherL (otherL xs 20) 20 = xs ∧ (otherL xs 20).length + xs.length = 20 ∧ maskR xs + maskR (otherL xs 20) = 1048575 ∧ 0 ≤ maskR xs ∧ maskR xs < 1048576 ∧
      lp (fun x => (maskUp xs xs.length).testBit x) 20 = xs ∧ ones 20 (maskUp xs xs.length) = xs.length ∧ 0 ≤ maskR (otherL xs 20) := by
  obtain ⟨_, _, hS⟩ := subB_parts h
  obtain ⟨s1, s2⟩ := sub_same (m := 20) hS
  have eo : otherL xs 20 = lp (fun y => !xs.contains (y : Int)) 20 := otherL_of (m := 20) h
  have ho : subB (otherL xs 20) 20 = true := by rw [eo]; exact lp_sub _ (Nat.le_refl _)
  obtain ⟨_, _, hSo⟩ := subB_parts ho
  obtain ⟨t1, t2⟩ := sub_same (m := 20) hSo
  have hc : ∀ y : Nat, y < 20 → (otherL xs 20).contains (y : Int) = !xs.contains (y : Int) := fun y hy => by rw [eo]; exact lp_has hy
  have hmk : mskL (fun y => (otherL xs 20).contains (y : Int)) 20 = mskL (fun y => !xs.contains (y : Int)) 20 := by
    have key : ∀ n, n ≤ 20 → mskL (fun y => (otherL xs 20).contains (y : Int)) n = mskL (fun y => !xs.contains (y : Int)) n := by
      intro n
      induction n with
      | zero => intro _; unfold mskL; rfl
      | succ n ih => intro hn; rw [mskL_top, mskL_top, ih (by omega), hc n (by omega)]
    exact key 20 (Nat.le_refl _)
  have hnot := mskL_not 20 fun y => xs.contains (y : Int)
  have hlens := lp_lens (fun y => xs.contains (y : Int)) 20
  have hlt := mskL_lt 20 fun y => xs.contains (y : Int)
  refine ⟨ho, ?_, ?_, ?_, ?_, ?_, ?_, ?_, ?_⟩
  · rw [show otherL (otherL xs 20) 20 = lp (fun y => !(otherL xs 20).contains (y : Int)) 20 from otherL_of (m := 20) ho]
    rw [lp_congr (q := fun y => xs.contains (y : Int)) fun x hx => by rw [hc x hx, Bool.not_not]]
    exact s1
  · rw [s1] at hlens
    rw [eo]
    omega
  · rw [maskR_of h, maskR_of ho, s2, t2, hmk]
    have : (2 : Nat) ^ 20 = 1048576 := by decide
    omega
  · rw [maskR_of h]; omega
  · rw [maskR_of h, s2]; have : (2 : Nat) ^ 20 = 1048576 := by decide
    omega
  · rw [s2, lp_congr (q := fun y => xs.contains (y : Int)) fun x hx => by rw [mskL_bit]; simp [hx]]
    exact s1
  · rw [s2, ones_msk, s1]
  · rw [maskR_of ho]; omega
end Go.Proofs.Ytepjmlcleggnnaa
