/-
  WALKS: SubsetOk, Binomial and SubsetRank (both packages) and the law over the last.
-/
import Derived.Test.YtepjmlcleggnnaaS2
namespace Go.Proofs.Ytepjmlcleggnnaa
open Go.RowKit

/-- The i-th number lies below m and above the one before it. -/
def subAt (xs : List Int) (m : Int) (i : Nat) : Bool := inB (xs.getD i 0) 0 (m - 1) && (decide (i = 0) || decide (xs.getD (i - 1) 0 < xs.getD i 0))
def subB (xs : List Int) (m : Int) : Bool := inB m 0 20 && (List.range xs.length).all (subAt xs m)
def subSoFar (xs : List Int) (m : Int) (k : Nat) : Prop := ∀ i, i < k → subAt xs m i = true
theorem subSoFar.step {xs : List Int} {m : Int} {k : Nat} (h : subSoFar xs m k) (hk : subAt xs m k = true) : subSoFar xs m (k + 1) := fun j hj => by
  by_cases e : j = k
  · rw [e]; exact hk
  · exact h j (by omega)
theorem subB_false {xs : List Int} {m : Int} {k : Nat} (hk : k < xs.length) (h : subAt xs m k = false) : subB xs m = false := by
  unfold subB
  have : (List.range xs.length).all (subAt xs m) = false := by
    rw [List.all_eq_false]
    exact ⟨k, List.mem_range.2 hk, by rw [h]; simp⟩
  rw [this]
  simp
theorem subB_no {xs : List Int} {m : Int} (h : inB m 0 20 = false) : subB xs m = false := by simp [subB, h]
theorem subB_end {xs : List Int} {m : Int} (h : subSoFar xs m xs.length) : subB xs m = inB m 0 20 := by
  unfold subB
  have : (List.range xs.length).all (subAt xs m) = true := by
    rw [List.all_eq_true]
    exact fun i hi => h i (List.mem_range.1 hi)
  rw [this, Bool.and_true]
theorem subAt_zero {xs : List Int} {m x : Int} (hx : xs[0]? = some x) : subAt xs m 0 = inB x 0 (m - 1) := by simp [subAt, List.getD, hx]
theorem subAt_pos {xs : List Int} {m x y : Int} {k : Nat} (hk : 0 < k) (hx : xs[k]? = some x) (hy : xs[k - 1]? = some y) : subAt xs m k = (inB x 0 (m - 1) && decide (y < x)) := by
  have : ¬ k = 0 := by omega
  simp [subAt, List.getD, hx, hy, this]
theorem subAt_out {xs : List Int} {m x : Int} {k : Nat} (hx : xs[k]? = some x) (h : inB x 0 (m - 1) = false) : subAt xs m k = false := by simp [subAt, List.getD, hx, h]
theorem subB_parts {xs : List Int} {m : Int} (h : subB xs m = true) : 0 ≤ m ∧ m ≤ 20 ∧ subSoFar xs m xs.length := by
  unfold subB at h
  rw [Bool.and_eq_true, List.all_eq_true] at h
  have := inB_true h.1
  exact ⟨this.1, this.2, fun i hi => h.2 i (List.mem_range.2 hi)⟩
theorem sub_at {xs : List Int} {m : Int} (h : subSoFar xs m xs.length) : ∀ (k : Nat) (x : Int), xs[k]? = some x → (k : Int) ≤ x ∧ x ≤ m - 1 := by
  intro k
  induction k with
  | zero =>
    intro x hx
    have h0 := h 0 (List.getElem?_eq_some_iff.1 hx).1
    rw [subAt_zero hx] at h0
    exact inB_true h0
  | succ k ih =>
    intro x hx
    have hk := (List.getElem?_eq_some_iff.1 hx).1
    have hy : xs[k]? = some xs[k] := List.getElem?_eq_getElem (by omega)
    have h0 := h (k + 1) hk
    rw [subAt_pos (by omega) hx (y := xs[k]) hy, Bool.and_eq_true] at h0
    have h1 := inB_true h0.1
    have h2 := of_decide_eq_true h0.2
    have h3 := ih _ hy
    omega
theorem sub_len {xs : List Int} {m : Int} (hm : 0 ≤ m) (h : subSoFar xs m xs.length) : (xs.length : Int) ≤ m := by
  rcases Nat.eq_zero_or_pos xs.length with h0 | h0
  · omega
  · have := sub_at h (xs.length - 1) _ (List.getElem?_eq_getElem (by omega))
    omega

set_option maxHeartbeats 1600000 in
theorem iSubsetOk_any (A : Option Addr) (c : Nat) (xs : List Int) (m : Int) (w : World) (hr : Rd w A xs) (hl : xs.length ≤ 1099511627776) (_hm : I64 m) :
    Calls Try.prog 36 #[.slice A xs.length c, .int .i64 m] w fun e w' => e = .returned (.bool (subB xs m)) ∧ w = w' := by
  have HR := Lib.hid hr
  clear hr
  go_enter Try.func36, Try.ntmps36
  go_wp2
  go_loop [9] (fun i => ∃ k : Nat, k ≤ xs.length ∧ i = .int .i64 k ∧ subSoFar xs m k) (fun i => xs.length - (intOf i).toNat)
  case atStart => exact ⟨0, Nat.zero_le _, rfl, fun j hj => absurd hj (by omega)⟩
  case round =>
    obtain ⟨k, hk, rfl, hS⟩ := hrel
    by_cases hlt : k < xs.length
    · obtain ⟨ad, x, rfl, hx, hc⟩ := HR.out.at_ hlt
      have c0 : (0 : Int) ≤ k := by omega
      have c1 : (k : Int) < xs.length := by omega
      rcases Bool.eq_false_or_eq_true (inB x 0 (m - 1)) with h | h
      · obtain ⟨x0, x1⟩ := inB_true h
        by_cases hk0 : k = 0
        · subst hk0
          have HK : Hid (subAt xs m 0 = true) := by unfold Hid; rw [subAt_zero hx.out]; exact h
          rw [Addr.add_zero'] at hc
          clear h
          go_wp2
          go_round
          case rel => exact ⟨1, by omega, by go_num, hS.step HK.out⟩
          case measure => simp [intOf]; omega
        · have t2 : (0 : Int) < k := by omega
          obtain ⟨ad', y, e, hy, hd⟩ := HR.out.at_ (k := k - 1) (by omega)
          obtain rfl := Option.some.inj e
          have b1 : (1 : Int) ≤ k := by omega
          have HC := Lib.hid (subAt_pos (m := m) (by omega) hx.out hy.out)
          rw [h] at HC
          clear hk0 e h
          by_cases h1 : y < x
          · have HK : Hid (subAt xs m k = true) := by unfold Hid; rw [HC.out]; simp [h1]
            go_wp2
            go_round
            case rel => exact ⟨k + 1, by omega, by go_num, hS.step HK.out⟩
            case measure => simp [intOf]; omega
          · have HF := Lib.hid (subB_false hlt (by rw [HC.out]; simp [h1]))
            go_wp2
            go_ret
            exact ⟨ret_bool HF.out.symm, rfl⟩
      · have HF := Lib.hid (subB_false hlt (subAt_out hx.out h))
        have hb := inB_false h
        by_cases h1 : x < 0
        · clear h
          go_wp2
          go_ret
          exact ⟨ret_bool HF.out.symm, rfl⟩
        · have h2 : m ≤ x := by omega
          clear h
          go_wp2
          go_ret
          exact ⟨ret_bool HF.out.symm, rfl⟩
    · have hkl : k = xs.length := by omega
      subst hkl
      have HE := Lib.hid (subB_end hS)
      go_wp2_with fail
      refine (within_any _ _ _ _).mono ?_
      rintro e w' ⟨rfl, rfl⟩
      go_wp2
      go_ret
      exact ⟨ret_bool HE.out.symm, rfl⟩

set_option maxHeartbeats 1600000 in
theorem sSubsetOk_any (A : Option Addr) (c : Nat) (xs : List Int) (m : Int) (w : World) (hr : Rd w A xs) (hl : xs.length ≤ 1099511627776) (_hm : I64 m) :
    Calls Try.prog 48 #[.slice A xs.length c, .int .i64 m] w fun e w' => e = .returned (.bool (subB xs m)) ∧ w = w' := by
  have HR := Lib.hid hr
  clear hr
  rcases Bool.eq_false_or_eq_true (inB m 0 20) with hm | hm
  · obtain ⟨m0, m1⟩ := inB_true hm
    have HM := Lib.hid hm
    clear hm
    go_enter Try.func48, Try.ntmps48
    go_wp2_with fail
    refine (l01In_any _ _ _ _).mono ?_
    rintro e w' ⟨rfl, rfl⟩
    rw [HM.out]
    go_wp2
    go_loop [12] (fun i => ∃ k : Nat, k ≤ xs.length ∧ i = .int .i64 k ∧ subSoFar xs m k) (fun i => xs.length - (intOf i).toNat)
    case atStart => exact ⟨0, Nat.zero_le _, rfl, fun j hj => absurd hj (by omega)⟩
    case round =>
      obtain ⟨k, hk, rfl, hS⟩ := hrel
      by_cases hlt : k < xs.length
      · obtain ⟨ad, x, rfl, hx, hc⟩ := HR.out.at_ hlt
        have c0 : (0 : Int) ≤ k := by omega
        have c1 : (k : Int) < xs.length := by omega
        rcases Bool.eq_false_or_eq_true (inB x 0 (m - 1)) with h | h
        · by_cases hk0 : k = 0
          · subst hk0
            have HK : Hid (subAt xs m 0 = true) := by unfold Hid; rw [subAt_zero hx.out]; exact h
            rw [Addr.add_zero'] at hc
            go_wp2_with fail
            refine (l01In_any _ _ _ _).mono ?_
            rintro e w' ⟨rfl, rfl⟩
            rw [h]
            clear h
            go_wp2
            go_round
            case rel => exact ⟨1, by omega, by go_num, hS.step HK.out⟩
            case measure => simp [intOf]; omega
          · have t2 : (0 : Int) < k := by omega
            obtain ⟨ad', y, e, hy, hd⟩ := HR.out.at_ (k := k - 1) (by omega)
            obtain rfl := Option.some.inj e
            have b1 : (1 : Int) ≤ k := by omega
            have HC := Lib.hid (subAt_pos (m := m) (by omega) hx.out hy.out)
            rw [h] at HC
            clear hk0 e
            by_cases h1 : y < x
            · have HK : Hid (subAt xs m k = true) := by unfold Hid; rw [HC.out]; simp [h1]
              go_wp2_with fail
              refine (l01In_any _ _ _ _).mono ?_
              rintro e w' ⟨rfl, rfl⟩
              rw [h]
              clear h
              go_wp2
              go_round
              case rel => exact ⟨k + 1, by omega, by go_num, hS.step HK.out⟩
              case measure => simp [intOf]; omega
            · have HF := Lib.hid (subB_false hlt (by rw [HC.out]; simp [h1]))
              go_wp2_with fail
              refine (l01In_any _ _ _ _).mono ?_
              rintro e w' ⟨rfl, rfl⟩
              rw [h]
              clear h
              go_wp2
              go_ret
              exact ⟨ret_bool HF.out.symm, rfl⟩
        · have HF := Lib.hid (subB_false hlt (subAt_out hx.out h))
          go_wp2_with fail
          refine (l01In_any _ _ _ _).mono ?_
          rintro e w' ⟨rfl, rfl⟩
          rw [h]
          clear h
          go_wp2
          go_ret
          exact ⟨ret_bool HF.out.symm, rfl⟩
      · have hkl : k = xs.length := by omega
        subst hkl
        have HE := Lib.hid (subB_end hS)
        rw [HM.out] at HE
        go_wp2
        go_ret
        exact ⟨ret_bool HE.out.symm, rfl⟩
  · have HF := Lib.hid (subB_no (xs := xs) hm)
    go_enter Try.func48, Try.ntmps48
    go_wp2_with fail
    refine (l01In_any _ _ _ _).mono ?_
    rintro e w' ⟨rfl, rfl⟩
    rw [hm]
    clear hm
    go_wp2
    go_ret
    exact ⟨ret_bool HF.out.symm, rfl⟩

/-- The binomial coefficient, multiplied up. -/
def bN (n : Nat) : Nat → Nat
  | 0 => 1
  | k + 1 => bN n k * (n - k) / (k + 1)
theorem bN_table : ∀ n, n < 32 → ∀ k, k < 32 → bN n k ≤ 300540195 := by decide +kernel
theorem bN_over : ∀ n, n < 32 → ∀ k, k < 32 → n < k → bN n k = 0 := by decide +kernel
theorem bN_other : ∀ m, m < 31 → ∀ i, i < 31 → m + i < 31 → bN (m + i + 1) (i + 1) = bN (m + i) i * (m + i + 1) / (i + 1) := by decide +kernel
theorem bN_mono : ∀ x, x < 31 → ∀ i, i < 32 → bN x i ≤ bN (x + 1) i := by decide +kernel
theorem bN_diff : ∀ x, x < 30 → ∀ i, i < 30 → bN (x + 1) (i + 1) = bN x (i + 1) + bN x i := by decide +kernel
theorem bN_strict : ∀ x, x < 20 → ∀ i, i < 21 → 0 < i → bN x i < bN 20 i := by decide +kernel
theorem bN_none : ∀ i, i < 20 → 0 < i → bN (i - 1) i = 0 := by decide +kernel
theorem bN_sym : ∀ x, x < 31 → ∀ i, i ≤ x → bN x i = bN x (x - i) := by decide +kernel
theorem bN_20_zero : bN 20 0 = 1 := by decide +kernel
theorem bN_succ (n k : Nat) : bN n (k + 1) = bN n k * (n - k) / (k + 1) := rfl
theorem bN_zero (n : Nat) : bN n 0 = 1 := rfl
attribute [irreducible] bN
def binR (n k : Int) : Int := if inB n 0 30 && inB k 0 30 then (bN n.toNat k.toNat : Nat) else -1
theorem binR_of {n k : Nat} (h1 : n ≤ 30) (h2 : k ≤ 30) : binR n k = (bN n k : Nat) := by
  have a : inB (n : Int) 0 30 = true := inB_of ⟨by omega, by omega⟩
  have b : inB (k : Int) 0 30 = true := inB_of ⟨by omega, by omega⟩
  simp [binR, a, b]

set_option maxHeartbeats 1600000 in
theorem iBinomial_in (n k : Nat) (w : World) (hn : n ≤ 30) (hk : k ≤ 30) :
    Calls Try.prog 37 #[.int .i64 (n : Int), .int .i64 (k : Int)] w fun e w' => e = .returned (.int .i64 (bN n k : Nat)) ∧ w = w' := by
  have i1 : inB (n : Int) 0 30 = true := inB_of ⟨by omega, by omega⟩
  have i2 : inB (k : Int) 0 30 = true := inB_of ⟨by omega, by omega⟩
  by_cases hgt : n < k
  · have HZ := Lib.hid (bN_over n (by omega) k (by omega) hgt)
    go_enter Try.func37, Try.ntmps37
    go_wp2_with fail
    refine (within_any _ _ _ _).mono ?_
    rintro e w' ⟨rfl, rfl⟩
    rw [i1]
    go_wp2_with fail
    refine (within_any _ _ _ _).mono ?_
    rintro e w' ⟨rfl, rfl⟩
    rw [i2]
    go_wp2
    go_ret
    exact ⟨ret_int (by rw [HZ.out]; rfl), rfl⟩
  · go_enter Try.func37, Try.ntmps37
    go_wp2_with fail
    refine (within_any _ _ _ _).mono ?_
    rintro e w' ⟨rfl, rfl⟩
    rw [i1]
    go_wp2_with fail
    refine (within_any _ _ _ _).mono ?_
    rintro e w' ⟨rfl, rfl⟩
    rw [i2]
    clear i1 i2
    go_wp2
    go_loop [5, 19] (fun v i => ∃ j : Nat, j ≤ k ∧ v = .int .i64 (bN n j : Nat) ∧ i = .int .i64 j) (fun _ i => k - (intOf i).toNat)
    case atStart => exact ⟨0, Nat.zero_le _, by rw [bN_zero]; rfl, rfl⟩
    case round =>
      obtain ⟨j, hj, rfl, rfl⟩ := hrel
      by_cases hlt : j < k
      · have b1 := bN_table n (by omega) j (by omega)
        have HS : Hid (((bN n (j + 1) : Nat) : Int) = (bN n j : Nat) * ((n : Int) - j) / ((j : Int) + 1)) := by
          unfold Hid
          rw [bN_succ, Int.natCast_ediv, Int.natCast_mul, Int.natCast_sub (by omega)]
          rfl
        obtain ⟨v, hv⟩ : ∃ v, bN n j = v := ⟨_, rfl⟩
        rw [hv] at b1 HS
        rw [hv]
        have p0 : 0 ≤ (v : Int) * ((n : Int) - j) := Int.mul_nonneg (by omega) (by omega)
        have p1 : (v : Int) * ((n : Int) - j) ≤ 300540195 * 30 := Int.mul_le_mul (by omega) (by omega) (by omega) (by omega)
        have d0 : 0 ≤ (v : Int) * ((n : Int) - j) / ((j : Int) + 1) := Int.ediv_nonneg p0 (by omega)
        have d1 : (v : Int) * ((n : Int) - j) / ((j : Int) + 1) ≤ (v : Int) * ((n : Int) - j) := Int.ediv_le_self _ p0
        have c1 : (j : Int) < k := by omega
        clear hv
        go_wp2
        go_round
        case rel => exact ⟨j + 1, by omega, by rw [HS.out], by go_num⟩
        case measure => simp [intOf]; omega
      · have hjk : j = k := by omega
        subst hjk
        go_wp2
        go_ret
        exact ⟨rfl, rfl⟩

set_option maxHeartbeats 1600000 in
theorem l09Binomial_in (n k : Nat) (w : World) (hn : n ≤ 30) (hk : k ≤ 30) :
    Calls Try.prog 53 #[.int .i64 (n : Int), .int .i64 (k : Int)] w fun e w' => e = .returned (.int .i64 (bN n k : Nat)) ∧ w = w' := by
  by_cases hgt : n < k
  · have HZ := Lib.hid (bN_over n (by omega) k (by omega) hgt)
    go_enter Try.func53, Try.ntmps53
    go_wp2
    go_ret
    exact ⟨ret_int (by rw [HZ.out]; rfl), rfl⟩
  · obtain ⟨m, rfl⟩ : ∃ m, n = m + k := ⟨n - k, by omega⟩
    go_enter Try.func53, Try.ntmps53
    go_wp2
    go_loop [5, 6] (fun v i => ∃ j : Nat, j ≤ k ∧ v = .int .i64 (bN (m + j) j : Nat) ∧ i = .int .i64 ((j : Int) + 1)) (fun _ i => k + 1 - (intOf i).toNat)
    case atStart => exact ⟨0, Nat.zero_le _, by rw [bN_zero]; rfl, rfl⟩
    case round =>
      obtain ⟨j, hj, rfl, rfl⟩ := hrel
      by_cases hlt : j < k
      · have b1 := bN_table (m + j) (by omega) j (by omega)
        have HS : Hid (((bN (m + (j + 1)) (j + 1) : Nat) : Int) = (bN (m + j) j : Nat) * ((m : Int) + (j + 1)) / ((j : Int) + 1)) := by
          unfold Hid
          rw [show m + (j + 1) = m + j + 1 by omega, bN_other m (by omega) j (by omega) (by omega), Int.natCast_ediv, Int.natCast_mul]
          congr 2
        obtain ⟨v, hv⟩ : ∃ v, bN (m + j) j = v := ⟨_, rfl⟩
        rw [hv] at b1 HS
        rw [hv]
        have e1 : (m : Int) + k - k + ((j : Int) + 1) = (m : Int) + (j + 1) := by omega
        have p0 : 0 ≤ (v : Int) * ((m : Int) + (j + 1)) := Int.mul_nonneg (by omega) (by omega)
        have p1 : (v : Int) * ((m : Int) + (j + 1)) ≤ 300540195 * 31 := Int.mul_le_mul (by omega) (by omega) (by omega) (by omega)
        have d0 : 0 ≤ (v : Int) * ((m : Int) + (j + 1)) / ((j : Int) + 1) := Int.ediv_nonneg p0 (by omega)
        have d1 : (v : Int) * ((m : Int) + (j + 1)) / ((j : Int) + 1) ≤ (v : Int) * ((m : Int) + (j + 1)) := Int.ediv_le_self _ p0
        have c1 : (j : Int) < k := by omega
        clear hv
        go_wp2
        go_round
        case rel => exact ⟨j + 1, by omega, by rw [HS.out], by go_num⟩
        case measure => simp [intOf]; omega
      · have hjk : j = k := by omega
        subst hjk
        go_wp2
        go_ret
        exact ⟨rfl, rfl⟩

/-- The rank of the first k numbers. -/
def rankUp (xs : List Int) : Nat → Int
  | 0 => 0
  | k + 1 => rankUp xs k + (bN (xs.getD k 0).toNat (k + 1) : Nat)
theorem rankUp_succ {xs : List Int} {k n : Nat} (hx : xs[k]? = some (n : Int)) : rankUp xs (k + 1) = rankUp xs k + (bN n (k + 1) : Nat) := by simp [rankUp, List.getD, hx]
theorem rankUp_zero (xs : List Int) : rankUp xs 0 = 0 := rfl
theorem rankUp_bound {xs : List Int} {m : Int} (h : subSoFar xs m xs.length) (hm : m ≤ 20) : ∀ k, k ≤ xs.length → 0 ≤ rankUp xs k ∧ rankUp xs k ≤ k * 300540195 := by
  intro k
  induction k with
  | zero => intro _; simp [rankUp]
  | succ k ih =>
    intro hk
    have hx : xs[k]? = some xs[k] := List.getElem?_eq_getElem (by omega)
    have hb := sub_at h k _ hx
    have i := ih (by omega)
    obtain ⟨n, hn⟩ : ∃ n : Nat, xs[k] = n := ⟨xs[k].toNat, by omega⟩
    rw [hn] at hx hb
    rw [rankUp_succ hx]
    have := bN_table n (by omega) (k + 1) (by omega)
    omega
attribute [irreducible] rankUp
def rankR (xs : List Int) : Int := if subB xs 20 then rankUp xs xs.length else -1
theorem rankR_of {xs : List Int} (h : subB xs 20 = true) : rankR xs = rankUp xs xs.length := by simp [rankR, h]
theorem rankR_no {xs : List Int} (h : subB xs 20 = false) : rankR xs = -1 := by simp [rankR, h]


set_option maxHeartbeats 1600000 in
theorem iSubsetRank_any (A : Option Addr) (c : Nat) (xs : List Int) (w : World) (hr : Rd w A xs) (hl : xs.length ≤ 1099511627776) :
    Calls Try.prog 28 #[.slice A xs.length c] w fun e w' => e = .returned (.int .i64 (rankR xs)) ∧ w = w' := by
  have W1 := Lib.hid (iSubsetOk_any A c xs 20 w hr hl ⟨by omega, by omega⟩)
  rcases Bool.eq_false_or_eq_true (subB xs 20) with h | h
  · rw [h] at W1
    obtain ⟨_, _, hS⟩ := subB_parts h
    have HSA := Lib.hid (sub_at hS)
    have HB := Lib.hid (rankUp_bound hS (by omega))
    have hlen := sub_len (by omega) hS
    have HR := Lib.hid (rankR_of h)
    have HRd := Lib.hid hr
    clear h hS hr
    go_enter Try.func28, Try.ntmps28
    go_wp2_with fail
    refine (W1.out).mono ?_
    rintro e w' ⟨rfl, rfl⟩
    go_wp2
    go_loop [3, 11] (fun v i => ∃ k : Nat, k ≤ xs.length ∧ v = .int .i64 (rankUp xs k) ∧ i = .int .i64 k) (fun _ i => xs.length - (intOf i).toNat)
    case atStart => exact ⟨0, Nat.zero_le _, by rw [rankUp_zero], rfl⟩
    case round =>
      obtain ⟨k, hk, rfl, rfl⟩ := hrel
      by_cases hlt : k < xs.length
      · obtain ⟨ad, x, rfl, hx, hc⟩ := HRd.out.at_ hlt
        have bx := HSA.out k x hx.out
        obtain ⟨n, rfl⟩ : ∃ n : Nat, x = n := ⟨x.toNat, by omega⟩
        have HS := Lib.hid (rankUp_succ hx.out)
        have b1 := HB.out k (by omega)
        have b2 := bN_table n (by omega) (k + 1) (by omega)
        have CB := Lib.hid (iBinomial_in n (k + 1) w (by omega) (by omega))
        have ek : ((k + 1 : Nat) : Int) = (k : Int) + 1 := by omega
        rw [ek] at CB
        have c0 : (0 : Int) ≤ k := by omega
        have c1 : (k : Int) < xs.length := by omega
        obtain ⟨r, hr⟩ : ∃ r, rankUp xs k = r := ⟨_, rfl⟩
        obtain ⟨q, hq⟩ : ∃ q, bN n (k + 1) = q := ⟨_, rfl⟩
        rw [hr, hq] at HS
        rw [hr] at b1
        rw [hq] at b2 CB
        rw [hr]
        clear hr hq hx ek
        go_wp2_with fail
        refine (CB.out).mono ?_
        rintro e w' ⟨rfl, rfl⟩
        go_wp2
        go_round
        case rel => exact ⟨k + 1, by omega, by rw [HS.out], by go_num⟩
        case measure => simp [intOf]; omega
      · have hkl : k = xs.length := by omega
        subst hkl
        go_wp2
        go_ret
        exact ⟨ret_int HR.out.symm, rfl⟩
  · rw [h] at W1
    have HR := Lib.hid (rankR_no h)
    clear h
    go_enter Try.func28, Try.ntmps28
    go_wp2_with fail
    refine (W1.out).mono ?_
    rintro e w' ⟨rfl, rfl⟩
    go_wp2
    go_ret
    exact ⟨ret_int HR.out.symm, rfl⟩
theorem iSubsetRank_c (w : World) (A : Option Addr) (c : Nat) (xs : List Int) (hr : Rd w A xs) (hl : xs.length ≤ 1048576) (_hb : AllI64 xs) :
    Calls Try.prog 28 #[.slice A xs.length c] w fun e w' => e = .returned (.int .i64 (rankR xs)) ∧ Below w.heap.size w w' :=
  (iSubsetRank_any A c xs w hr (by omega)).mono fun e w' ⟨h, k⟩ => ⟨h, by subst k; exact Below.refl _ _⟩


set_option maxHeartbeats 1600000 in
theorem sSubsetRank_any (A : Option Addr) (c : Nat) (xs : List Int) (w : World) (hr : Rd w A xs) (hl : xs.length ≤ 1099511627776) :
    Calls Try.prog 27 #[.slice A xs.length c] w fun e w' => e = .returned (.int .i64 (rankR xs)) ∧ w = w' := by
  have W1 := Lib.hid (sSubsetOk_any A c xs 20 w hr hl ⟨by omega, by omega⟩)
  rcases Bool.eq_false_or_eq_true (subB xs 20) with h | h
  · rw [h] at W1
    obtain ⟨_, _, hS⟩ := subB_parts h
    have HSA := Lib.hid (sub_at hS)
    have HB := Lib.hid (rankUp_bound hS (by omega))
    have hlen := sub_len (by omega) hS
    have HR := Lib.hid (rankR_of h)
    have HRd := Lib.hid hr
    clear h hS hr
    go_enter Try.func27, Try.ntmps27
    go_wp2_with fail
    refine (W1.out).mono ?_
    rintro e w' ⟨rfl, rfl⟩
    go_wp2
    go_loop [3, 11] (fun v i => ∃ k : Nat, k ≤ xs.length ∧ v = .int .i64 (rankUp xs k) ∧ i = .int .i64 k) (fun _ i => xs.length - (intOf i).toNat)
    case atStart => exact ⟨0, Nat.zero_le _, by rw [rankUp_zero], rfl⟩
    case round =>
      obtain ⟨k, hk, rfl, rfl⟩ := hrel
      by_cases hlt : k < xs.length
      · obtain ⟨ad, x, rfl, hx, hc⟩ := HRd.out.at_ hlt
        have bx := HSA.out k x hx.out
        obtain ⟨n, rfl⟩ : ∃ n : Nat, x = n := ⟨x.toNat, by omega⟩
        have HS := Lib.hid (rankUp_succ hx.out)
        have b1 := HB.out k (by omega)
        have b2 := bN_table n (by omega) (k + 1) (by omega)
        have CB := Lib.hid (l09Binomial_in n (k + 1) w (by omega) (by omega))
        have ek : ((k + 1 : Nat) : Int) = (k : Int) + 1 := by omega
        rw [ek] at CB
        have c0 : (0 : Int) ≤ k := by omega
        have c1 : (k : Int) < xs.length := by omega
        obtain ⟨r, hr⟩ : ∃ r, rankUp xs k = r := ⟨_, rfl⟩
        obtain ⟨q, hq⟩ : ∃ q, bN n (k + 1) = q := ⟨_, rfl⟩
        rw [hr, hq] at HS
        rw [hr] at b1
        rw [hq] at b2 CB
        rw [hr]
        clear hr hq hx ek
        go_wp2_with fail
        refine (CB.out).mono ?_
        rintro e w' ⟨rfl, rfl⟩
        go_wp2
        go_round
        case rel => exact ⟨k + 1, by omega, by rw [HS.out], by go_num⟩
        case measure => simp [intOf]; omega
      · have hkl : k = xs.length := by omega
        subst hkl
        go_wp2
        go_ret
        exact ⟨ret_int HR.out.symm, rfl⟩
  · rw [h] at W1
    have HR := Lib.hid (rankR_no h)
    clear h
    go_enter Try.func27, Try.ntmps27
    go_wp2_with fail
    refine (W1.out).mono ?_
    rintro e w' ⟨rfl, rfl⟩
    go_wp2
    go_ret
    exact ⟨ret_int HR.out.symm, rfl⟩
theorem sSubsetRank_c (w : World) (A : Option Addr) (c : Nat) (xs : List Int) (hr : Rd w A xs) (hl : xs.length ≤ 1048576) (_hb : AllI64 xs) :
    Calls Try.prog 27 #[.slice A xs.length c] w fun e w' => e = .returned (.int .i64 (rankR xs)) ∧ Below w.heap.size w w' :=
  (sSubsetRank_any A c xs w hr (by omega)).mono fun e w' ⟨h, k⟩ => ⟨h, by subst k; exact Below.refl _ _⟩

set_option maxRecDepth 100000 in
set_option maxHeartbeats 1600000 in
theorem lSubsetRank_law (w : World) (A0 : Option Addr) (c0 : Nat) (xs0 : List Int) (r0 : Rd w A0 xs0) (_m0 : xs0.length ≤ maxLen) (b0 : ∀ x ∈ xs0, -9223372036854775808 ≤ x ∧ x ≤ 9223372036854775807) :
    Calls Try.prog 7 #[.slice A0 xs0.length c0] w fun e w' => e = .returned (.bool true) ∧ Below w.heap.size w w' := by
  have RA0 := Lib.hid r0
  have BA0 : AllI64 xs0 := b0
  clear r0 b0
  by_cases h0 : xs0.length ≤ 1048576
  · skip
    go_enter Try.func7, Try.ntmps7
    go_wp2_with fail
    refine (toIntS_any _ _ _ _ (RA0.out.below (Below.refl w.heap.size w)) h0).mono ?_
    rintro e w1 ⟨A_S0, c_S0, rfl, S0_0, B1⟩
    have L_S0 := fun k hk => (S0_0.lt k hk).1
    have C2 := (Below.refl w.heap.size w).trans (B1.mono (Below.refl w.heap.size w).size)
    go_wp2_with fail
    refine (sSubsetRank_c _ _ _ _ S0_0.rd h0 BA0).mono ?_
    rintro e w3 ⟨rfl, B3⟩
    have C4 := C2.trans (B3.mono C2.size)
    have S0_4 := S0_0.below' B3
    go_wp2_with fail
    refine (toIntS_any _ _ _ _ (RA0.out.below C4) h0).mono ?_
    rintro e w5 ⟨A_X0, c_X0, rfl, X0_0, B5⟩
    have L_X0 := fun k hk => (X0_0.lt k hk).1
    have C6 := C4.trans (B5.mono C4.size)
    go_wp2_with fail
    refine (iSubsetRank_c _ _ _ _ X0_0.rd h0 BA0).mono ?_
    rintro e w7 ⟨rfl, B7⟩
    have C8 := C6.trans (B7.mono C6.size)
    have X0_8 := X0_0.below' B7
    go_wp2_with fail
    refine (toIntS_any _ _ _ _ (RA0.out.below C8) h0).mono ?_
    rintro e w9 ⟨A_T0, c_T0, rfl, T0_0, B9⟩
    have U_X0_T0 := fun k hk => (X0_8.lt k hk).2
    have L_T0 := fun k hk => (T0_0.lt k hk).1
    have C10 := C8.trans (B9.mono C8.size)
    have X0_10 := X0_8.below' B9
    go_wp2_with fail
    refine (eqIntS_same _ _ _ _ _ _ X0_10.rd T0_0.rd (by omega)).mono ?_
    rintro e w11 ⟨rfl, n11_, rfl⟩
    have C12 := below_drewN C10 n11_
    have X0_12 := X0_10.drewN n11_
    have T0_12 := T0_0.drewN n11_
    go_wp2
    go_ret
    exact ⟨rfl, C12⟩
  · unfold maxLen at _m0
    go_enter Try.func7, Try.ntmps7
    go_wp2
    go_ret
    exact ⟨rfl, Below.refl _ _⟩

end Go.Proofs.Ytepjmlcleggnnaa
