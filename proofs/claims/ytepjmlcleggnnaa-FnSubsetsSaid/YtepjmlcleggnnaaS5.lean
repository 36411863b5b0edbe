/-
  WALKS: SubsetAt and NextSubset (both packages) and the laws over them.
-/
import Derived.Test.YtepjmlcleggnnaaS4
import Derived.Test.YtepjmlcleggnnaaRev
import Derived.Test.YtepjmlcleggnnaaTurn
namespace Go.Proofs.Ytepjmlcleggnnaa
open Go.RowKit

/-- The greatest place up to x whose coefficient is at most n. -/
def dnX (n i : Nat) : Nat → Nat
  | 0 => 0
  | x + 1 => if bN (x + 1) i ≤ n then x + 1 else dnX n i x
theorem dnX_stop {n i x : Nat} (h : bN x i ≤ n) : dnX n i x = x := by
  cases x with
  | zero => rfl
  | succ x => simp [dnX, h]
theorem dnX_step {n i x : Nat} (h : ¬ bN (x + 1) i ≤ n) : dnX n i (x + 1) = dnX n i x := by simp [dnX, h]
theorem dnX_le (n i : Nat) : ∀ x, dnX n i x ≤ x := by
  intro x
  induction x with
  | zero => exact Nat.le_refl _
  | succ x ih => simp only [dnX]; split <;> omega
theorem bN_mono' {i : Nat} (hi : i < 32) : ∀ {a b : Nat}, a ≤ b → b ≤ 31 → bN a i ≤ bN b i := by
  intro a b hab
  induction b with
  | zero => intro _; have : a = 0 := by omega
            subst this; exact Nat.le_refl _
  | succ b ih =>
    intro hb
    by_cases e : a = b + 1
    · subst e; exact Nat.le_refl _
    · exact Nat.le_trans (ih (by omega) (by omega)) (bN_mono b (by omega) i hi)
/-- Coming from below one stops at the same place. -/
theorem dnX_from_below {n i x : Nat} (hi : i < 32) (h1 : bN x i ≤ n) (h2 : ¬ bN (x + 1) i ≤ n) : ∀ y, x ≤ y → y ≤ 30 → dnX n i y = x := by
  intro y
  induction y with
  | zero => intro hx _; have : x = 0 := by omega
            subst this; rfl
  | succ y ih =>
    intro hx hy
    by_cases e : x = y + 1
    · subst e; exact dnX_stop h1
    · rw [dnX_step (fun h => h2 (Nat.le_trans (bN_mono' hi (by omega) (by omega)) h))]
      exact ih (by omega) (by omega)
theorem dnX_fit {n i : Nat} (hi : 0 < i) (hi2 : i < 9) (h : n < bN 20 i) : bN (dnX n i 19) i ≤ n ∧ n < bN (dnX n i 19 + 1) i ∧ dnX n i 19 ≤ 19 := by
  have key : ∀ y, y ≤ 19 → n < bN (y + 1) i → bN (dnX n i y) i ≤ n ∧ n < bN (dnX n i y + 1) i := by
    intro y
    induction y with
    | zero =>
      intro _ hy
      refine ⟨?_, hy⟩
      show bN 0 i ≤ n
      rw [bN_over 0 (by omega) i (by omega) (by omega)]
      omega
    | succ y ih =>
      intro hy hn
      by_cases e : bN (y + 1) i ≤ n
      · rw [dnX_stop e]; exact ⟨e, hn⟩
      · rw [dnX_step e]
        exact ih (by omega) (by omega)
  have := key 19 (by omega) h
  exact ⟨this.1, this.2, dnX_le n i 19⟩
/-- What is left of n behind j numbers of k. -/
def stN (n k : Nat) : Nat → Nat
  | 0 => n
  | j + 1 => stN n k j - bN (dnX (stN n k j) (k - j) 19) (k - j)
def saUp (n k j : Nat) : List Int := (List.range j).map fun t => ((dnX (stN n k t) (k - t) 19 : Nat) : Int)
theorem saUp_len (n k j : Nat) : (saUp n k j).length = j := by simp [saUp]
theorem saUp_succ (n k j : Nat) : saUp n k (j + 1) = saUp n k j ++ [((dnX (stN n k j) (k - j) 19 : Nat) : Int)] := by simp [saUp, List.range_succ]
theorem stN_zero (n k : Nat) : stN n k 0 = n := rfl
theorem stN_succ (n k j : Nat) : stN n k (j + 1) = stN n k j - bN (dnX (stN n k j) (k - j) 19) (k - j) := rfl
theorem stN_fit {n k : Nat} (hk : k ≤ 8) (h : n < bN 20 k) : ∀ j, j < k → stN n k j < bN 20 (k - j) := by
  intro j
  induction j with
  | zero => intro _; exact h
  | succ j ih =>
    intro hj
    have i := ih (by omega)
    obtain ⟨f1, f2, f3⟩ := dnX_fit (n := stN n k j) (i := k - j) (by omega) (by omega) i
    rw [stN_succ]
    obtain ⟨x, hx⟩ : ∃ x, dnX (stN n k j) (k - j) 19 = x := ⟨_, rfl⟩
    rw [hx] at f1 f2 f3 ⊢
    obtain ⟨q, hq⟩ : ∃ q, k - j = q + 1 := ⟨k - j - 1, by omega⟩
    have hq2 : k - (j + 1) = q := by omega
    rw [hq] at f1 f2 ⊢
    rw [hq2]
    rw [bN_diff x (by omega) q (by omega)] at f2
    have := bN_strict x (by omega) q (by omega) (by omega)
    omega
attribute [irreducible] dnX stN
def subsetAtB (n k : Int) : Bool := inB k 0 8 && inB n 0 ((bN 20 k.toNat : Nat) - 1)
def subsetAtL (n k : Int) : List Int := if subsetAtB n k then (saUp n.toNat k.toNat k.toNat).reverse else []
theorem subsetAtB_of {n k : Nat} (h1 : inB (k : Int) 0 8 = true) (h2 : inB (n : Int) 0 ((bN 20 k : Nat) - 1) = true) : subsetAtB n k = true := by simp [subsetAtB, h1, h2]
theorem subsetAtL_of {n k : Nat} (h1 : inB (k : Int) 0 8 = true) (h2 : inB (n : Int) 0 ((bN 20 k : Nat) - 1) = true) : subsetAtL n k = (saUp n k k).reverse := by simp [subsetAtL, subsetAtB, h1, h2]
theorem subsetAtB_no1 {n k : Int} (h1 : inB k 0 8 = false) : subsetAtB n k = false := by simp [subsetAtB, h1]
theorem subsetAtB_no2 {n : Int} {k : Nat} (h2 : inB n 0 ((bN 20 k : Nat) - 1) = false) : subsetAtB n k = false := by simp [subsetAtB, h2]
theorem subsetAtL_no {n k : Int} (h : subsetAtB n k = false) : subsetAtL n k = [] := by simp [subsetAtL, h]
theorem subsetAtL_len (n k : Int) : (subsetAtL n k).length ≤ 1099511627776 := by
  unfold subsetAtL
  split
  · rename_i h
    unfold subsetAtB at h
    rw [Bool.and_eq_true] at h
    have := inB_true h.1
    rw [List.length_reverse, saUp_len]
    omega
  · simp
theorem ret_tuple_slice {A : Option Addr} {n m c : Nat} {b d : Bool} (h : n = m) (k : b = d) : Ending.returned (.tuple #[.slice A n c, .bool b]) = .returned (.tuple #[.slice A m c, .bool d]) := by rw [h, k]


set_option maxHeartbeats 3200000 in
theorem iSubsetAt_any (N K : Int) (w : World) (_hN : I64 N) (_hK : I64 K) :
    Calls Try.prog 30 #[.int .i64 N, .int .i64 K] w fun e w' => ∃ A c, e = .returned (.tuple #[.slice A (subsetAtL N K).length c, .bool (subsetAtB N K)]) ∧ Ow w' w.heap.size (.slice A (subsetAtL N K).length c) (subsetAtL N K) ∧ Below w.heap.size w w' := by
  rcases Bool.eq_false_or_eq_true (inB K 0 8) with h1 | h1
  · obtain ⟨k0, k1⟩ := inB_true h1
    obtain ⟨k, rfl⟩ : ∃ k : Nat, K = k := ⟨K.toNat, by omega⟩
    have CB := Lib.hid (iBinomial_in 20 k w (by omega) (by omega))
    have e20 : ((20 : Nat) : Int) = 20 := rfl
    rw [e20] at CB
    have bB := bN_table 20 (by omega) k (by omega)
    rcases Bool.eq_false_or_eq_true (inB N 0 ((bN 20 k : Nat) - 1)) with h2 | h2
    · obtain ⟨n0, n1⟩ := inB_true h2
      obtain ⟨n, rfl⟩ : ∃ n : Nat, N = n := ⟨N.toNat, by omega⟩
      have HL := Lib.hid (subsetAtL_of h1 h2)
      have HBo := Lib.hid (subsetAtB_of h1 h2)
      have HFIT := Lib.hid (stN_fit (n := n) (k := k) (by omega) (by omega))
      have H2 := Lib.hid h2
      obtain ⟨B20, hB20⟩ : ∃ b, bN 20 k = b := ⟨_, rfl⟩
      rw [hB20] at CB H2 bB n1
      clear h2 e20 hB20
      go_enter Try.func30, Try.ntmps30
      go_wp2_with fail
      refine (within_any _ _ _ _).mono ?_
      rintro e w' ⟨rfl, rfl⟩
      go_wp2_with fail
      refine (CB.out).mono ?_
      rintro e w' ⟨rfl, rfl⟩
      go_wp2_with fail
      refine (within_any _ _ _ _).mono ?_
      rintro e w' ⟨rfl, rfl⟩
      rw [H2.out]
      go_wp2
      go_loopw [0, 6, 7] (fun m v i wr => ∃ j : Nat, j ≤ k ∧ i = .int .i64 ((k : Int) - j) ∧ m = .int .i64 (stN n k j : Nat) ∧ Ap wr w.heap.size v (saUp n k j) ∧ Below w.heap.size w wr) (fun _ _ i _ => (intOf i).toNat)
      case atStart => exact ⟨0, Nat.zero_le _, by simp, by rw [stN_zero], Ap.nil_ _ _, Below.refl _ _⟩
      case round =>
        obtain ⟨j, hj, rfl, rfl, hO, hB⟩ := hrel
        have hs := hB.size
        by_cases hlt : j < k
        · obtain ⟨i, hi⟩ : ∃ i : Nat, i = k - j := ⟨_, rfl⟩
          have ei : (k : Int) - j = (i : Int) := by omega
          have hL : (saUp n k j).length < 1099511627776 := by rw [saUp_len]; omega
          have HS := Lib.hid (saUp_succ n k j)
          have HT := Lib.hid (stN_succ n k j)
          have hf := HFIT.out j hlt
          rw [← hi] at HS HT hf
          rw [ei]
          obtain ⟨z, hz⟩ : ∃ z, stN n k j = z := ⟨_, rfl⟩
          rw [hz] at HS HT hf
          rw [hz]
          have bz := bN_table 20 (by omega) i (by omega)
          obtain ⟨F1, F2, F3⟩ := dnX_fit (n := z) (i := i) (by omega) (by omega) hf
          have G1 := Lib.hid F1
          have G2 := Lib.hid F2
          have ib0 : 0 < i := by omega
          have ib1 : i ≤ 8 := by omega
          have ib2 : (1 : Int) ≤ i := by omega
          have ib3 : decide ((1 : Int) ≤ (i : Int)) = true := decide_eq_true ib2
          have HI := Lib.hid hi
          clear hz ei hi F1 F2
          go_wp2
          go_loop [8] (fun xx => ∃ y : Nat, y ≤ 19 ∧ xx = .int .i64 y ∧ Hid (dnX z i 19 = dnX z i y)) (fun xx => (intOf xx).toNat)
          case atStart => exact ⟨19, Nat.le_refl _, rfl, (rfl : dnX z i 19 = dnX z i 19)⟩
          case round =>
            obtain ⟨y, hy, rfl, hD⟩ := hrel
            have CI := Lib.hid (iBinomial_in y i wr (by omega) (by omega))
            have by_ := bN_table y (by omega) i (by omega)
            by_cases hgt : bN y i ≤ z
            · have HX : Hid (dnX z i 19 = y) := by unfold Hid; rw [hD.out, dnX_stop hgt]
              rw [HX.out] at HS HT
              obtain ⟨bv, hbv⟩ : ∃ b, bN y i = b := ⟨_, rfl⟩
              rw [hbv] at CI by_ hgt HT
              have hbvv := Lib.hid hbv
              clear hbv
              go_wp2_with fail
              refine (CI.out).mono ?_
              rintro e w' ⟨rfl, rfl⟩
              go_wp2_with (at_builtin; refine wpList_app1 hO hL hs rfl _ _ 24 rfl rfl rfl rfl ?_; intro v' w' O' B')
              have CJ := Lib.hid (iBinomial_in y i w' (by omega) (by omega))
              rw [hbvv.out] at CJ
              go_wp2_with fail
              refine (CJ.out).mono ?_
              rintro e w2 ⟨rfl, rfl⟩
              go_wp2
              go_roundw
              case rel =>
                have e := HI.out
                exact ⟨j + 1, by omega, by go_num, by rw [HT.out, Int.natCast_sub hgt], by rw [HS.out]; exact O', hB.trans B'⟩
              case measure => have e := HI.out; simp [intOf]; omega
            · obtain ⟨q, rfl⟩ : ∃ q, y = q + 1 := by
                rcases Nat.eq_zero_or_pos y with h | h
                · exfalso
                  subst h
                  rw [bN_over 0 (by omega) i (by omega) (by omega)] at hgt
                  omega
                · exact ⟨y - 1, by omega⟩
              have HD2 : Hid (dnX z i 19 = dnX z i q) := by unfold Hid; rw [hD.out, dnX_step hgt]
              obtain ⟨bv, hbv⟩ : ∃ b, bN (q + 1) i = b := ⟨_, rfl⟩
              rw [hbv] at CI by_ hgt
              clear hbv
              go_wp2_with fail
              refine (CI.out).mono ?_
              rintro e w' ⟨rfl, rfl⟩
              go_wp2
              go_round
              case rel => exact ⟨q, by omega, by go_num, HD2.out⟩
              case measure => simp [intOf]
        · have hjk : j = k := by omega
          subst hjk
          obtain ⟨A', c', rfl⟩ := hO.form
          have hw := hO.ow
          have el : (saUp n j j).length = j := saUp_len n j j
          rw [el] at hw ⊢
          have HW := Lib.hid hw
          have LT := Lib.hid (fun k hk => (hw.lt k hk).1)
          have e0 : (j : Int) - j = 0 := by omega
          rw [e0]
          clear hw hO
          go_wp2_with fail
          refine (reverse_any _ _ _ _ _ _ HW.out el (by omega)).mono ?_
          rintro e w3 ⟨⟨ve, rfl⟩, O3, G3⟩
          go_wp2
          go_ret2
          refine ⟨A', c', ret_tuple_slice (by rw [HL.out, List.length_reverse, el]) HBo.out.symm, ?_, hB.grown G3 hs LT.out⟩
          rw [HL.out, List.length_reverse, el]
          exact O3
    · have HF := Lib.hid (subsetAtB_no2 h2)
      have HN := Lib.hid (subsetAtL_no HF.out)
      have H2 := Lib.hid h2
      obtain ⟨B20, hB20⟩ : ∃ b, bN 20 k = b := ⟨_, rfl⟩
      rw [hB20] at CB H2 bB
      clear h2 e20 hB20
      go_enter Try.func30, Try.ntmps30
      go_wp2_with fail
      refine (within_any _ _ _ _).mono ?_
      rintro e w' ⟨rfl, rfl⟩
      go_wp2_with fail
      refine (CB.out).mono ?_
      rintro e w' ⟨rfl, rfl⟩
      go_wp2_with fail
      refine (within_any _ _ _ _).mono ?_
      rintro e w' ⟨rfl, rfl⟩
      rw [H2.out]
      go_wp2
      go_ret2
      exact ⟨none, 0, by rw [HN.out, HF.out]; rfl, by rw [HN.out]; exact Ow.nil_ _ _, Below.refl _ _⟩
  · have HF := Lib.hid (subsetAtB_no1 (n := N) h1)
    have HN := Lib.hid (subsetAtL_no HF.out)
    go_enter Try.func30, Try.ntmps30
    go_wp2_with fail
    refine (within_any _ _ _ _).mono ?_
    rintro e w' ⟨rfl, rfl⟩
    rw [h1]
    clear h1
    go_wp2
    go_ret2
    exact ⟨none, 0, by rw [HN.out, HF.out]; rfl, by rw [HN.out]; exact Ow.nil_ _ _, Below.refl _ _⟩
theorem iSubsetAt_c (w : World) (N : Int) (hN : I64 N) (K : Int) (hK : I64 K) :
    Calls Try.prog 30 #[.int .i64 N, .int .i64 K] w fun e w' => ∃ A c, e = .returned (.tuple #[.slice A (subsetAtL N K).length c, .bool (subsetAtB N K)]) ∧ Ow w' w.heap.size (.slice A (subsetAtL N K).length c) (subsetAtL N K) ∧ Below w.heap.size w w' := iSubsetAt_any N K w hN hK


set_option maxHeartbeats 3200000 in
theorem sSubsetAt_any (N K : Int) (w : World) (_hN : I64 N) (_hK : I64 K) :
    Calls Try.prog 29 #[.int .i64 N, .int .i64 K] w fun e w' => ∃ A c, e = .returned (.tuple #[.slice A (subsetAtL N K).length c, .bool (subsetAtB N K)]) ∧ Ow w' w.heap.size (.slice A (subsetAtL N K).length c) (subsetAtL N K) ∧ Below w.heap.size w w' := by
  rcases Bool.eq_false_or_eq_true (inB K 0 8) with h1 | h1
  · obtain ⟨k0, k1⟩ := inB_true h1
    obtain ⟨k, rfl⟩ : ∃ k : Nat, K = k := ⟨K.toNat, by omega⟩
    have CB := Lib.hid (l09Binomial_in 20 k w (by omega) (by omega))
    have e20 : ((20 : Nat) : Int) = 20 := rfl
    rw [e20] at CB
    have bB := bN_table 20 (by omega) k (by omega)
    rcases Bool.eq_false_or_eq_true (inB N 0 ((bN 20 k : Nat) - 1)) with h2 | h2
    · obtain ⟨n0, n1⟩ := inB_true h2
      obtain ⟨n, rfl⟩ : ∃ n : Nat, N = n := ⟨N.toNat, by omega⟩
      have HL := Lib.hid (subsetAtL_of h1 h2)
      have HBo := Lib.hid (subsetAtB_of h1 h2)
      have HFIT := Lib.hid (stN_fit (n := n) (k := k) (by omega) (by omega))
      have H2 := Lib.hid h2
      obtain ⟨B20, hB20⟩ : ∃ b, bN 20 k = b := ⟨_, rfl⟩
      rw [hB20] at CB H2 bB n1
      clear h2 e20 hB20
      go_enter Try.func29, Try.ntmps29
      go_wp2_with fail
      refine (l01In_any _ _ _ _).mono ?_
      rintro e w' ⟨rfl, rfl⟩
      go_wp2_with fail
      refine (CB.out).mono ?_
      rintro e w' ⟨rfl, rfl⟩
      go_wp2_with fail
      refine (l01In_any _ _ _ _).mono ?_
      rintro e w' ⟨rfl, rfl⟩
      rw [H2.out]
      go_wp2
      go_loopw [0, 6, 7] (fun m v i wr => ∃ j : Nat, j ≤ k ∧ i = .int .i64 ((k : Int) - j) ∧ m = .int .i64 (stN n k j : Nat) ∧ Ap wr w.heap.size v (saUp n k j) ∧ Below w.heap.size w wr) (fun _ _ i _ => (intOf i).toNat)
      case atStart => exact ⟨0, Nat.zero_le _, by simp, by rw [stN_zero], Ap.empty _ _ (Nat.le_refl _), (Below.refl _ _).alloc (Nat.le_refl _) _⟩
      case round =>
        obtain ⟨j, hj, rfl, rfl, hO, hB⟩ := hrel
        have hs := hB.size
        by_cases hlt : j < k
        · obtain ⟨i, hi⟩ : ∃ i : Nat, i = k - j := ⟨_, rfl⟩
          have ei : (k : Int) - j = (i : Int) := by omega
          have hL : (saUp n k j).length < 1099511627776 := by rw [saUp_len]; omega
          have HS := Lib.hid (saUp_succ n k j)
          have HT := Lib.hid (stN_succ n k j)
          have hf := HFIT.out j hlt
          rw [← hi] at HS HT hf
          rw [ei]
          obtain ⟨z, hz⟩ : ∃ z, stN n k j = z := ⟨_, rfl⟩
          rw [hz] at HS HT hf
          rw [hz]
          have bz := bN_table 20 (by omega) i (by omega)
          obtain ⟨F1, F2, F3⟩ := dnX_fit (n := z) (i := i) (by omega) (by omega) hf
          have G1 := Lib.hid F1
          have G2 := Lib.hid F2
          have ib0 : 0 < i := by omega
          have ib1 : i ≤ 8 := by omega
          have ib2 : (1 : Int) ≤ i := by omega
          have ib3 : decide ((1 : Int) ≤ (i : Int)) = true := decide_eq_true ib2
          have HI := Lib.hid hi
          clear hz ei hi F1 F2
          go_wp2
          go_loop [8] (fun xx => ∃ y : Nat, y ≤ 19 ∧ xx = .int .i64 y ∧ Hid (bN y i ≤ z)) (fun xx => 20 - (intOf xx).toNat)
          case atStart => exact ⟨i - 1, by omega, by rw [Int.natCast_sub (by omega)]; rfl, (by rw [bN_none i (by omega) ib0]; omega : bN (i - 1) i ≤ z)⟩
          case round =>
            obtain ⟨y, hy, rfl, hD⟩ := hrel
            have CI := Lib.hid (l09Binomial_in (y + 1) i wr (by omega) (by omega))
            have ey : ((y + 1 : Nat) : Int) = (y : Int) + 1 := by omega
            rw [ey] at CI
            have by1 := bN_table (y + 1) (by omega) i (by omega)
            by_cases hgt : bN (y + 1) i ≤ z
            · have hy2 : y ≠ 19 := by
                intro e
                subst e
                have h20 : bN (19 + 1) i = bN 20 i := rfl
                omega
              have HD2 := Lib.hid hgt
              obtain ⟨bv, hbv⟩ : ∃ b, bN (y + 1) i = b := ⟨_, rfl⟩
              rw [hbv] at CI by1 hgt
              clear hbv ey
              go_wp2_with fail
              refine (CI.out).mono ?_
              rintro e w' ⟨rfl, rfl⟩
              go_wp2
              go_round
              case rel => exact ⟨y + 1, by omega, by go_num, HD2.out⟩
              case measure => simp [intOf]; omega
            · have HX : Hid (dnX z i 19 = y) := dnX_from_below (by omega) hD.out hgt 19 hy (by omega)
              rw [HX.out] at HS HT
              have CJ := Lib.hid (l09Binomial_in y i wr (by omega) (by omega))
              have by_ := bN_table y (by omega) i (by omega)
              have hle := hD.out
              obtain ⟨bv, hbv⟩ : ∃ b, bN (y + 1) i = b := ⟨_, rfl⟩
              obtain ⟨cv, hcv⟩ : ∃ b, bN y i = b := ⟨_, rfl⟩
              rw [hbv] at CI by1 hgt
              rw [hcv] at CJ by_ HT hle
              clear hbv hcv ey
              go_wp2_with fail
              refine (CI.out).mono ?_
              rintro e w' ⟨rfl, rfl⟩
              go_wp2_with fail
              refine (CJ.out).mono ?_
              rintro e w' ⟨rfl, rfl⟩
              go_wp2_with (at_builtin; refine wpList_app1 hO hL hs rfl _ _ 24 rfl rfl rfl rfl ?_; intro v' w' O' B')
              go_roundw
              case rel =>
                have e := HI.out
                exact ⟨j + 1, by omega, by go_num, by rw [HT.out, Int.natCast_sub hle], by rw [HS.out]; exact O', hB.trans B'⟩
              case measure => have e := HI.out; simp [intOf]; omega
        · have hjk : j = k := by omega
          subst hjk
          obtain ⟨A', c', rfl⟩ := hO.form
          have hw := hO.ow
          have el : (saUp n j j).length = j := saUp_len n j j
          rw [el] at hw ⊢
          have HW := Lib.hid hw
          have LT := Lib.hid (fun k hk => (hw.lt k hk).1)
          have e0 : (j : Int) - j = 0 := by omega
          rw [e0]
          clear hw hO
          go_wp2_with fail
          refine (l02Turn_any _ _ _ _ _ HW.out.rd el (by omega)).mono ?_
          rintro e w3 ⟨A3, c3, rfl, O3, B3⟩
          go_wp2
          go_ret2
          refine ⟨A3, c3, ret_tuple_slice (by rw [HL.out, List.length_reverse, el]) HBo.out.symm, ?_, hB.trans (B3.mono hs)⟩
          rw [HL.out, List.length_reverse, el]
          exact O3.more hs
    · have HF := Lib.hid (subsetAtB_no2 h2)
      have HN := Lib.hid (subsetAtL_no HF.out)
      have H2 := Lib.hid h2
      obtain ⟨B20, hB20⟩ : ∃ b, bN 20 k = b := ⟨_, rfl⟩
      rw [hB20] at CB H2 bB
      clear h2 e20 hB20
      go_enter Try.func29, Try.ntmps29
      go_wp2_with fail
      refine (l01In_any _ _ _ _).mono ?_
      rintro e w' ⟨rfl, rfl⟩
      go_wp2_with fail
      refine (CB.out).mono ?_
      rintro e w' ⟨rfl, rfl⟩
      go_wp2_with fail
      refine (l01In_any _ _ _ _).mono ?_
      rintro e w' ⟨rfl, rfl⟩
      rw [H2.out]
      go_wp2
      go_ret2
      exact ⟨none, 0, by rw [HN.out, HF.out]; rfl, by rw [HN.out]; exact Ow.nil_ _ _, Below.refl _ _⟩
  · have HF := Lib.hid (subsetAtB_no1 (n := N) h1)
    have HN := Lib.hid (subsetAtL_no HF.out)
    go_enter Try.func29, Try.ntmps29
    go_wp2_with fail
    refine (l01In_any _ _ _ _).mono ?_
    rintro e w' ⟨rfl, rfl⟩
    rw [h1]
    clear h1
    go_wp2
    go_ret2
    exact ⟨none, 0, by rw [HN.out, HF.out]; rfl, by rw [HN.out]; exact Ow.nil_ _ _, Below.refl _ _⟩
theorem sSubsetAt_c (w : World) (N : Int) (hN : I64 N) (K : Int) (hK : I64 K) :
    Calls Try.prog 29 #[.int .i64 N, .int .i64 K] w fun e w' => ∃ A c, e = .returned (.tuple #[.slice A (subsetAtL N K).length c, .bool (subsetAtB N K)]) ∧ Ow w' w.heap.size (.slice A (subsetAtL N K).length c) (subsetAtL N K) ∧ Below w.heap.size w w' := sSubsetAt_any N K w hN hK


def nextB (xs : List Int) : Bool := subB xs 20 && subsetAtB (rankR xs + 1) xs.length
def nextL (xs : List Int) : List Int := if subB xs 20 then subsetAtL (rankR xs + 1) xs.length else []
theorem nextB_of {xs : List Int} (h : subB xs 20 = true) : nextB xs = subsetAtB (rankR xs + 1) xs.length := by simp [nextB, h]
theorem nextL_of {xs : List Int} (h : subB xs 20 = true) : nextL xs = subsetAtL (rankR xs + 1) xs.length := by simp [nextL, h]
theorem nextB_no {xs : List Int} (h : subB xs 20 = false) : nextB xs = false := by simp [nextB, h]
theorem nextL_no {xs : List Int} (h : subB xs 20 = false) : nextL xs = [] := by simp [nextL, h]
theorem nextL_len (xs : List Int) : (nextL xs).length ≤ 1099511627776 := by
  unfold nextL
  split
  · exact subsetAtL_len _ _
  · simp
theorem rank_small {xs : List Int} (h : subB xs 20 = true) : (xs.length : Int) ≤ 20 ∧ 0 ≤ rankR xs ∧ rankR xs ≤ 20 * 300540195 := by
  obtain ⟨a, b, hS⟩ := subB_parts h
  have hl := sub_len (by omega) hS
  have := rankUp_bound hS (by omega) xs.length (Nat.le_refl _)
  rw [rankR_of h]
  omega


set_option maxHeartbeats 1600000 in
theorem iNextSubset_c (w : World) (A : Option Addr) (c : Nat) (xs : List Int) (hr : Rd w A xs) (hl : xs.length ≤ 1048576) (_hb : AllI64 xs) :
    Calls Try.prog 34 #[.slice A xs.length c] w fun e w' => ∃ A c, e = .returned (.tuple #[.slice A (nextL xs).length c, .bool (nextB xs)]) ∧ Ow w' w.heap.size (.slice A (nextL xs).length c) (nextL xs) ∧ Below w.heap.size w w' := by
  have W1 := Lib.hid (iSubsetOk_any A c xs 20 w hr (by omega) ⟨by omega, by omega⟩)
  rcases Bool.eq_false_or_eq_true (subB xs 20) with h | h
  · rw [h] at W1
    obtain ⟨r0, r1, r2⟩ := rank_small h
    have HRd := Lib.hid hr
    have HL := Lib.hid (nextL_of h)
    have HBo := Lib.hid (nextB_of h)
    clear h
    go_enter Try.func34, Try.ntmps34
    go_wp2_with fail
    refine (W1.out).mono ?_
    rintro e w' ⟨rfl, rfl⟩
    go_wp2_with fail
    refine (iSubsetRank_any A c xs _ HRd.out (by omega)).mono ?_
    rintro e w' ⟨rfl, rfl⟩
    go_wp2_with fail
    refine (iSubsetAt_any _ _ _ ⟨by omega, by omega⟩ ⟨by omega, by omega⟩).mono ?_
    rintro e w1 ⟨A1, c1, rfl, O1, B1⟩
    go_wp2
    go_ret2
    exact ⟨A1, c1, ret_tuple_slice (by rw [HL.out]) HBo.out.symm, by rw [HL.out]; exact O1, B1⟩
  · rw [h] at W1
    have HL := Lib.hid (nextL_no h)
    have HBo := Lib.hid (nextB_no h)
    clear h
    go_enter Try.func34, Try.ntmps34
    go_wp2_with fail
    refine (W1.out).mono ?_
    rintro e w' ⟨rfl, rfl⟩
    go_wp2
    go_ret2
    exact ⟨none, 0, by rw [HL.out, HBo.out]; rfl, by rw [HL.out]; exact Ow.nil_ _ _, Below.refl _ _⟩


set_option maxHeartbeats 1600000 in
theorem sNextSubset_c (w : World) (A : Option Addr) (c : Nat) (xs : List Int) (hr : Rd w A xs) (hl : xs.length ≤ 1048576) (_hb : AllI64 xs) :
    Calls Try.prog 33 #[.slice A xs.length c] w fun e w' => ∃ A c, e = .returned (.tuple #[.slice A (nextL xs).length c, .bool (nextB xs)]) ∧ Ow w' w.heap.size (.slice A (nextL xs).length c) (nextL xs) ∧ Below w.heap.size w w' := by
  have W1 := Lib.hid (sSubsetOk_any A c xs 20 w hr (by omega) ⟨by omega, by omega⟩)
  rcases Bool.eq_false_or_eq_true (subB xs 20) with h | h
  · rw [h] at W1
    obtain ⟨r0, r1, r2⟩ := rank_small h
    have HRd := Lib.hid hr
    have HL := Lib.hid (nextL_of h)
    have HBo := Lib.hid (nextB_of h)
    clear h
    go_enter Try.func33, Try.ntmps33
    by_cases h9 : xs.length ≤ 8
    · have h8 : decide ((8 : Int) < (xs.length : Int)) = false := decide_eq_false (by omega)
      go_wp2_with fail
      refine (W1.out).mono ?_
      rintro e w' ⟨rfl, rfl⟩
      go_wp2_with fail
      refine (sSubsetRank_any A c xs _ HRd.out (by omega)).mono ?_
      rintro e w' ⟨rfl, rfl⟩
      go_wp2_with fail
      refine (sSubsetAt_any _ _ _ ⟨by omega, by omega⟩ ⟨by omega, by omega⟩).mono ?_
      rintro e w1 ⟨A1, c1, rfl, O1, B1⟩
      go_wp2
      go_ret2
      exact ⟨A1, c1, ret_tuple_slice (by rw [HL.out]) HBo.out.symm, by rw [HL.out]; exact O1, B1⟩
    · have HZ : Hid (subsetAtB (rankR xs + 1) xs.length = false) := by
        unfold Hid
        refine subsetAtB_no1 ?_
        unfold inB
        simp
        omega
      have HN := Lib.hid (subsetAtL_no HZ.out)
      go_wp2_with fail
      refine (W1.out).mono ?_
      rintro e w' ⟨rfl, rfl⟩
      go_wp2
      go_ret2
      exact ⟨none, 0, by rw [HL.out, HBo.out, HN.out, HZ.out]; rfl, by rw [HL.out, HN.out]; exact Ow.nil_ _ _, Below.refl _ _⟩
  · rw [h] at W1
    have HL := Lib.hid (nextL_no h)
    have HBo := Lib.hid (nextB_no h)
    clear h
    go_enter Try.func33, Try.ntmps33
    go_wp2_with fail
    refine (W1.out).mono ?_
    rintro e w' ⟨rfl, rfl⟩
    go_wp2
    go_ret2
    exact ⟨none, 0, by rw [HL.out, HBo.out]; rfl, by rw [HL.out]; exact Ow.nil_ _ _, Below.refl _ _⟩

set_option maxRecDepth 100000 in
set_option maxHeartbeats 1600000 in
theorem lSubsetAt_law (w : World) (n0 : Int) (b0 : -9223372036854775808 ≤ n0 ∧ n0 ≤ 9223372036854775807) (n1 : Int) (b1 : -9223372036854775808 ≤ n1 ∧ n1 ≤ 9223372036854775807) :
    Calls Try.prog 8 #[.int .i64 n0, .int .i64 n1] w fun e w' => e = .returned (.bool true) ∧ Below w.heap.size w w' := by
  have BA0 : I64 n0 := b0
  clear b0
  have BA1 : I64 n1 := b1
  clear b1
  go_enter Try.func8, Try.ntmps8
  go_wp2_with fail
  refine (sSubsetAt_c _ _ BA0 _ BA1).mono ?_
  rintro e w1 ⟨A_W0, c_W0, rfl, W0_0, B1⟩
  have L_W0 := fun k hk => (W0_0.lt k hk).1
  have C2 := (Below.refl w.heap.size w).trans (B1.mono (Below.refl w.heap.size w).size)
  go_wp2_with fail
  refine (iSubsetAt_c _ _ BA0 _ BA1).mono ?_
  rintro e w3 ⟨A_G0, c_G0, rfl, G0_0, B3⟩
  have U_W0_G0 := fun k hk => (W0_0.lt k hk).2
  have L_G0 := fun k hk => (G0_0.lt k hk).1
  have C4 := C2.trans (B3.mono C2.size)
  have W0_4 := W0_0.below' B3
  go_wp2_with fail
  refine (eqIntS_same _ _ _ _ _ _ G0_0.rd W0_4.rd ((subsetAtL_len n0 n1))).mono ?_
  rintro e w5 ⟨rfl, n5_, rfl⟩
  have C6 := below_drewN C4 n5_
  have W0_6 := W0_4.drewN n5_
  have G0_6 := G0_0.drewN n5_
  go_wp2_with fail
  refine (markIntS_any _ _ _ _ _ _ G0_6 ((subsetAtL_len n0 n1)) (by omega) (by omega)).mono ?_
  rintro e w7 ⟨rfl, G0_7, G7⟩
  have W0_7 := W0_6.kept G7 (own_ne U_W0_G0 L_G0)
  have C8 := C6.grown G7 C6.size (fun k hk => Nat.le_trans C2.size (L_G0 k hk))
  go_wp2_with fail
  refine (heldIntS_any _ _ _ _ _ (by have h := G0_7.rd' (marks_length _ _); exact h) ((subsetAtL_len n0 n1)) (by omega) (by omega)).mono ?_
  rintro e w9 ⟨rfl, rfl⟩
  go_wp2_with fail
  refine (iSubsetAt_c _ _ BA0 _ BA1).mono ?_
  rintro e w10 ⟨A_H0, c_H0, rfl, H0_0, B10⟩
  have U_W0_H0 := fun k hk => (W0_7.lt k hk).2
  have U_G0_H0 := fun k hk => (G0_7.lt k hk).2
  have L_H0 := fun k hk => (H0_0.lt k hk).1
  have C11 := C8.trans (B10.mono C8.size)
  have W0_11 := W0_7.below' B10
  have G0_11 := G0_7.below' B10
  go_wp2_with fail
  refine (eqIntS_same _ _ _ _ _ _ H0_0.rd W0_11.rd ((subsetAtL_len n0 n1))).mono ?_
  rintro e w12 ⟨rfl, n12_, rfl⟩
  have C13 := below_drewN C11 n12_
  have W0_13 := W0_11.drewN n12_
  have G0_13 := G0_11.drewN n12_
  have H0_13 := H0_0.drewN n12_
  go_wp2_with fail
  refine (heldIntS_any _ _ _ _ _ (by have h := G0_13.rd' (marks_length _ _); exact h) ((subsetAtL_len n0 n1)) (by omega) (by omega)).mono ?_
  rintro e w14 ⟨rfl, rfl⟩
  go_wp2
  go_ret
  exact ⟨rfl, C13⟩

set_option maxRecDepth 100000 in
set_option maxHeartbeats 1600000 in
theorem lNextSubset_law (w : World) (A0 : Option Addr) (c0 : Nat) (xs0 : List Int) (r0 : Rd w A0 xs0) (_m0 : xs0.length ≤ maxLen) (b0 : ∀ x ∈ xs0, -9223372036854775808 ≤ x ∧ x ≤ 9223372036854775807) :
    Calls Try.prog 10 #[.slice A0 xs0.length c0] w fun e w' => e = .returned (.bool true) ∧ Below w.heap.size w w' := by
  have RA0 := Lib.hid r0
  have BA0 : AllI64 xs0 := b0
  clear r0 b0
  by_cases h0 : xs0.length ≤ 1048576
  · skip
    go_enter Try.func10, Try.ntmps10
    go_wp2_with fail
    refine (toIntS_any _ _ _ _ (RA0.out.below (Below.refl w.heap.size w)) h0).mono ?_
    rintro e w1 ⟨A_S0, c_S0, rfl, S0_0, B1⟩
    have L_S0 := fun k hk => (S0_0.lt k hk).1
    have C2 := (Below.refl w.heap.size w).trans (B1.mono (Below.refl w.heap.size w).size)
    go_wp2_with fail
    refine (sNextSubset_c _ _ _ _ S0_0.rd h0 BA0).mono ?_
    rintro e w3 ⟨A_W0, c_W0, rfl, W0_0, B3⟩
    have U_S0_W0 := fun k hk => (S0_0.lt k hk).2
    have L_W0 := fun k hk => (W0_0.lt k hk).1
    have C4 := C2.trans (B3.mono C2.size)
    have S0_4 := S0_0.below' B3
    go_wp2_with fail
    refine (toIntS_any _ _ _ _ (RA0.out.below C4) h0).mono ?_
    rintro e w5 ⟨A_X0, c_X0, rfl, X0_0, B5⟩
    have U_W0_X0 := fun k hk => (W0_0.lt k hk).2
    have L_X0 := fun k hk => (X0_0.lt k hk).1
    have C6 := C4.trans (B5.mono C4.size)
    have W0_6 := W0_0.below' B5
    go_wp2_with fail
    refine (iNextSubset_c _ _ _ _ X0_0.rd h0 BA0).mono ?_
    rintro e w7 ⟨A_G0, c_G0, rfl, G0_0, B7⟩
    have U_W0_G0 := fun k hk => (W0_6.lt k hk).2
    have U_X0_G0 := fun k hk => (X0_0.lt k hk).2
    have L_G0 := fun k hk => (G0_0.lt k hk).1
    have C8 := C6.trans (B7.mono C6.size)
    have W0_8 := W0_6.below' B7
    have X0_8 := X0_0.below' B7
    go_wp2_with fail
    refine (eqIntS_same _ _ _ _ _ _ G0_0.rd W0_8.rd ((nextL_len xs0))).mono ?_
    rintro e w9 ⟨rfl, n9_, rfl⟩
    have C10 := below_drewN C8 n9_
    have W0_10 := W0_8.drewN n9_
    have X0_10 := X0_8.drewN n9_
    have G0_10 := G0_0.drewN n9_
    go_wp2_with fail
    refine (toIntS_any _ _ _ _ (RA0.out.below C10) h0).mono ?_
    rintro e w11 ⟨A_T0, c_T0, rfl, T0_0, B11⟩
    have U_W0_T0 := fun k hk => (W0_10.lt k hk).2
    have U_X0_T0 := fun k hk => (X0_10.lt k hk).2
    have U_G0_T0 := fun k hk => (G0_10.lt k hk).2
    have L_T0 := fun k hk => (T0_0.lt k hk).1
    have C12 := C10.trans (B11.mono C10.size)
    have W0_12 := W0_10.below' B11
    have X0_12 := X0_10.below' B11
    have G0_12 := G0_10.below' B11
    go_wp2_with fail
    refine (eqIntS_same _ _ _ _ _ _ X0_12.rd T0_0.rd (by omega)).mono ?_
    rintro e w13 ⟨rfl, n13_, rfl⟩
    have C14 := below_drewN C12 n13_
    have W0_14 := W0_12.drewN n13_
    have X0_14 := X0_12.drewN n13_
    have G0_14 := G0_12.drewN n13_
    have T0_14 := T0_0.drewN n13_
    go_wp2_with fail
    refine (markIntS_any _ _ _ _ _ _ X0_14 (by omega) (by omega) (by omega)).mono ?_
    rintro e w15 ⟨rfl, X0_15, G15⟩
    have W0_15 := W0_14.kept G15 (own_ne U_W0_X0 L_X0)
    have G0_15 := G0_14.kept G15 (own_ne' U_X0_G0 L_G0)
    have C16 := C14.grown G15 C14.size (fun k hk => Nat.le_trans C4.size (L_X0 k hk))
    go_wp2_with fail
    refine (eqIntS_same _ _ _ _ _ _ G0_15.rd W0_15.rd ((nextL_len xs0))).mono ?_
    rintro e w17 ⟨rfl, n17_, rfl⟩
    have C18 := below_drewN C16 n17_
    have W0_18 := W0_15.drewN n17_
    have G0_18 := G0_15.drewN n17_
    go_wp2_with fail
    refine (markIntS_any _ _ _ _ _ _ G0_18 ((nextL_len xs0)) (by omega) (by omega)).mono ?_
    rintro e w19 ⟨rfl, G0_19, G19⟩
    have W0_19 := W0_18.kept G19 (own_ne U_W0_G0 L_G0)
    have C20 := C18.grown G19 C18.size (fun k hk => Nat.le_trans C6.size (L_G0 k hk))
    go_wp2_with fail
    refine (heldIntS_any _ _ _ _ _ (by have h := G0_19.rd' (marks_length _ _); exact h) ((nextL_len xs0)) (by omega) (by omega)).mono ?_
    rintro e w21 ⟨rfl, rfl⟩
    go_wp2_with fail
    refine (toIntS_any _ _ _ _ (RA0.out.below C20) h0).mono ?_
    rintro e w22 ⟨A_Y0, c_Y0, rfl, Y0_0, B22⟩
    have U_W0_Y0 := fun k hk => (W0_19.lt k hk).2
    have U_G0_Y0 := fun k hk => (G0_19.lt k hk).2
    have L_Y0 := fun k hk => (Y0_0.lt k hk).1
    have C23 := C20.trans (B22.mono C20.size)
    have W0_23 := W0_19.below' B22
    have G0_23 := G0_19.below' B22
    go_wp2_with fail
    refine (iNextSubset_c _ _ _ _ Y0_0.rd h0 BA0).mono ?_
    rintro e w24 ⟨A_H0, c_H0, rfl, H0_0, B24⟩
    have U_W0_H0 := fun k hk => (W0_23.lt k hk).2
    have U_G0_H0 := fun k hk => (G0_23.lt k hk).2
    have U_Y0_H0 := fun k hk => (Y0_0.lt k hk).2
    have L_H0 := fun k hk => (H0_0.lt k hk).1
    have C25 := C23.trans (B24.mono C23.size)
    have W0_25 := W0_23.below' B24
    have G0_25 := G0_23.below' B24
    have Y0_25 := Y0_0.below' B24
    go_wp2_with fail
    refine (eqIntS_same _ _ _ _ _ _ H0_0.rd W0_25.rd ((nextL_len xs0))).mono ?_
    rintro e w26 ⟨rfl, n26_, rfl⟩
    have C27 := below_drewN C25 n26_
    have W0_27 := W0_25.drewN n26_
    have G0_27 := G0_25.drewN n26_
    have H0_27 := H0_0.drewN n26_
    go_wp2_with fail
    refine (heldIntS_any _ _ _ _ _ (by have h := G0_27.rd' (marks_length _ _); exact h) ((nextL_len xs0)) (by omega) (by omega)).mono ?_
    rintro e w28 ⟨rfl, rfl⟩
    go_wp2
    go_ret
    exact ⟨rfl, C27⟩
  · unfold maxLen at _m0
    go_enter Try.func10, Try.ntmps10
    go_wp2
    go_ret
    exact ⟨rfl, Below.refl _ _⟩

end Go.Proofs.Ytepjmlcleggnnaa
