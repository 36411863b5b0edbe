/-
  WALKS: RecurrentCoins (both packages) and the law over it.
-/
import Derived.Test.YtlhabcpoemcpjaaC11
namespace Go.Proofs.Ytlhabcpoemcpjaa
open Go.RowKit

def rcV (a b : Int) : Nat → Int
  | 0 => 1
  | 1 => a + 1
  | n + 2 => a * rcV a b (n + 1) + b * rcV a b n
theorem rcV_zero (a b : Int) : rcV a b 0 = 1 := rfl
theorem rcV_one (a b : Int) : rcV a b 1 = a + 1 := rfl
theorem rcV_two (a b : Int) (n : Nat) : rcV a b (n + 2) = a * rcV a b (n + 1) + b * rcV a b n := rfl
theorem rcV_bound {a b : Int} (a0 : 1 ≤ a) (a1 : a ≤ 9) (b0 : 0 ≤ b) (b1 : b ≤ 9) : ∀ n, (0 ≤ rcV a b n ∧ rcV a b n ≤ 20 ^ n) ∧ (0 ≤ rcV a b (n + 1) ∧ rcV a b (n + 1) ≤ 20 ^ (n + 1)) := by
  intro n
  induction n with
  | zero => rw [rcV_zero, rcV_one]; refine ⟨by simp, by omega, ?_⟩; simp; omega
  | succ n ih =>
    refine ⟨ih.2, ?_⟩
    rw [rcV_two]
    have m1 := Int.mul_nonneg (show 0 ≤ a by omega) ih.2.1
    have m2 := Int.mul_nonneg b0 ih.1.1
    have m3 : a * rcV a b (n + 1) ≤ 9 * 20 ^ (n + 1) := Int.mul_le_mul a1 ih.2.2 ih.2.1 (by omega)
    have m4 : b * rcV a b n ≤ 9 * 20 ^ n := Int.mul_le_mul b1 ih.1.2 ih.1.1 (by omega)
    have p : (0 : Int) ≤ 20 ^ n := Int.pow_nonneg (by omega)
    have e1 : (20 : Int) ^ (n + 1) = 20 ^ n * 20 := Int.pow_succ ..
    have e2 : (20 : Int) ^ (n + 1 + 1) = 20 ^ (n + 1) * 20 := Int.pow_succ ..
    rw [e1] at m3 e2
    rw [e2]
    omega
theorem rcV_in {a b : Int} (a0 : 1 ≤ a) (a1 : a ≤ 9) (b0 : 0 ≤ b) (b1 : b ≤ 9) {n : Nat} (hn : n ≤ 10) : 0 ≤ rcV a b n ∧ rcV a b n ≤ 10240000000000 := by
  have h := (rcV_bound a0 a1 b0 b1 n).1
  have h2 : 20 ^ n ≤ 20 ^ 10 := Nat.pow_le_pow_right (by omega) hn
  have e : ((20 ^ n : Nat) : Int) = (20 : Int) ^ n := by simp
  omega
attribute [irreducible] rcV
def rcL (a b : Int) (k : Nat) : List Int := (List.range k).map (rcV a b)
theorem rcL_len (a b : Int) (k : Nat) : (rcL a b k).length = k := by simp [rcL]
theorem rcL_succ (a b : Int) (k : Nat) : rcL a b (k + 1) = rcL a b k ++ [rcV a b k] := by simp [rcL, List.range_succ]
theorem rcL_at {a b : Int} {k j : Nat} (h : j < k) : (rcL a b k)[j]? = some (rcV a b j) := by simp [rcL, h]
theorem rcL_one (a b : Int) : rcL a b 1 = [1] := by simp [rcL, rcV_zero]
attribute [irreducible] rcL
def recB (a b k : Int) : Bool := (inB a 1 9 && inB b 0 9 && inB k 1 10) && coinsB (rcL a b k.toNat)
def recL (a b k : Int) : List Int := if recB a b k then rcL a b k.toNat else []
theorem recB_of {a b : Int} {k : Nat} (h1 : inB a 1 9 = true) (h2 : inB b 0 9 = true) (h3 : inB (k : Int) 1 10 = true) : recB a b k = coinsB (rcL a b k) := by simp [recB, h1, h2, h3]
theorem recB_no1 {a b k : Int} (h1 : inB a 1 9 = false) : recB a b k = false := by simp [recB, h1]
theorem recB_no2 {a b k : Int} (h1 : inB b 0 9 = false) : recB a b k = false := by simp [recB, h1]
theorem recB_no3 {a b k : Int} (h1 : inB k 1 10 = false) : recB a b k = false := by simp [recB, h1]
theorem recL_yes {a b : Int} {k : Nat} (h : recB a b k = true) : recL a b k = rcL a b k := by simp [recL, h]
theorem recL_no {a b k : Int} (h : recB a b k = false) : recL a b k = [] := by simp [recL, h]
theorem recL_len (a b k : Int) : (recL a b k).length ≤ 1099511627776 := by
  unfold recL
  split
  · rename_i h
    unfold recB at h
    simp only [Bool.and_eq_true] at h
    have := inB_true h.1.2
    rw [rcL_len]
    omega
  · simp
theorem rcL_big {a b : Int} {k j : Nat} (hj : j < k) (h : 1000 < rcV a b j) : coinsB (rcL a b k) = false := by
  rcases Bool.eq_false_or_eq_true (coinsB (rcL a b k)) with h2 | h2
  · exfalso
    have := (coinsB_parts h2).2.2.1 (rcV a b j) (List.mem_of_getElem? (rcL_at hj))
    omega
  · exact h2
/-- '[]int{1}' -/
theorem Ap.one1 (w : World) : Ap (w.alloc (.cells #[.int .i64 1] 3)) w.heap.size (.slice (some ⟨w.heap.size, 0, none⟩) 1 1) [1] :=
  World.ownsRow_lit w #[.int .i64 1] 1 (Nat.le_refl _) (by unfold maxLen; omega) rfl
theorem ret_tuple_slice {A : Option Addr} {n m c : Nat} {b d : Bool} (h : n = m) (k : b = d) : Ending.returned (.tuple #[.slice A n c, .bool b]) = .returned (.tuple #[.slice A m c, .bool d]) := by rw [h, k]


set_option maxHeartbeats 3200000 in
theorem iRecurrentCoins_c (w : World) (a : Int) (_ha : I64 a) (b : Int) (_hb : I64 b) (K : Int) (_hK : I64 K) :
    Calls Try.prog 22 #[.int .i64 a, .int .i64 b, .int .i64 K] w fun e w' => ∃ A c, e = .returned (.tuple #[.slice A (recL a b K).length c, .bool (recB a b K)]) ∧ Ow w' w.heap.size (.slice A (recL a b K).length c) (recL a b K) ∧ Below w.heap.size w w' := by
  rcases Bool.eq_false_or_eq_true (inB a 1 9) with h1 | h1
  · rcases Bool.eq_false_or_eq_true (inB b 0 9) with h2 | h2
    · rcases Bool.eq_false_or_eq_true (inB K 1 10) with h3 | h3
      · obtain ⟨k0, k1⟩ := inB_true h3
        obtain ⟨k, rfl⟩ : ∃ k : Nat, K = k := ⟨K.toNat, by omega⟩
        obtain ⟨a0, a1⟩ := inB_true h1
        obtain ⟨b0, b1⟩ := inB_true h2
        have HRB := Lib.hid (recB_of h1 h2 h3)
        have HV := Lib.hid (fun n hn => rcV_in a0 a1 b0 b1 (n := n) hn)
        have AP1 : Ap (w.alloc (.cells #[.int .i64 1] 3)) w.heap.size (.slice (some ⟨w.heap.size, 0, none⟩) 1 1) (rcL a b 1) := by rw [rcL_one]; exact Ap.one1 w
        have HA1 := Lib.hid AP1
        clear AP1
        go_enter Try.func22, Try.ntmps22
        go_wp2_with fail
        refine (within_any _ _ _ _).mono ?_
        rintro e w' ⟨rfl, rfl⟩
        go_wp2_with fail
        refine (within_any _ _ _ _).mono ?_
        rintro e w' ⟨rfl, rfl⟩
        go_wp2_with fail
        refine (within_any _ _ _ _).mono ?_
        rintro e w' ⟨rfl, rfl⟩
        go_wp2
        go_loopw [8] (fun v wr => ∃ (j : Nat) (A : Option Addr) (c : Nat), 1 ≤ j ∧ j ≤ k ∧ v = .slice A j c ∧ Ap wr w.heap.size (.slice A j c) (rcL a b j) ∧ Below w.heap.size w wr) (fun v _ => match v with | .slice _ n _ => k - n | _ => 0)
        case atStart => exact ⟨1, _, _, Nat.le_refl _, by omega, rfl, HA1.out, (Below.refl _ _).alloc (Nat.le_refl _) _⟩
        case round =>
          obtain ⟨j, A, c, j1, jk, rfl, hO, hB⟩ := hrel
          have hs := hB.size
          by_cases hlt : j < k
          · have hL : (rcL a b j).length < 1099511627776 := by rw [rcL_len]; omega
            have HS := Lib.hid (rcL_succ a b j)
            have HLn : Hid ((rcL a b j ++ [rcV a b j]).length = j + 1) := by unfold Hid; rw [List.length_append, rcL_len]; rfl
            have c1 : (j : Int) < k := by omega
            by_cases hj1 : j = 1
            · subst hj1
              have HY := Lib.hid (rcV_one a b)
              rw [HY.out] at HS HLn
              obtain ⟨y, hy⟩ : ∃ y, a + 1 = y := ⟨_, rfl⟩
              have HYY := Lib.hid hy
              rw [hy] at HS HLn HY
              go_wp2_with (at_builtin; refine wpList_app1 hO hL hs rfl _ _ 22 rfl rfl rfl rfl ?_; intro v' w' O' B'; obtain ⟨A2, c2, rfl⟩ := O'.form)
              go_roundw
              case rel =>
                refine ⟨1 + 1, A2, c2, by omega, by omega, by first | rfl | (rw [rcL_len]) | (rw [HLn.out]), ?_, hB.trans B'⟩
                rw [HS.out]
                have h := O'
                rw [HLn.out] at h
                exact h
              case measure => simp [rcL_len]; omega
            · have RO := hO.ow.rd
              obtain ⟨ad, x1, rfl, hx1, hc1⟩ := RO.at_ (k := j - 1) (by rw [rcL_len]; omega)
              obtain ⟨ad2, x2, eq2, hx2, hc2⟩ := RO.at_ (k := j - 2) (by rw [rcL_len]; omega)
              obtain rfl := Option.some.inj eq2
              have ex1 := hx1.out
              have ex2 := hx2.out
              rw [rcL_at (by omega)] at ex1 ex2
              have v1 := HV.out (j - 1) (by omega)
              have v2 := HV.out (j - 2) (by omega)
              rw [Option.some.inj ex1] at v1
              rw [Option.some.inj ex2] at v2
              have HY : Hid (rcV a b j = a * x1 + b * x2) := by
                unfold Hid
                obtain ⟨q, hq⟩ : ∃ q, j = q + 2 := ⟨j - 2, by omega⟩
                subst hq
                rw [rcV_two, ← Option.some.inj ex1, ← Option.some.inj ex2]
                rfl
              rw [HY.out] at HS HLn
              have m1 : 0 ≤ a * x1 := Int.mul_nonneg (by omega) v1.1
              have m2 : 0 ≤ b * x2 := Int.mul_nonneg (by omega) v2.1
              have m3 : a * x1 ≤ 9 * 10240000000000 := Int.mul_le_mul a1 v1.2 v1.1 (by omega)
              have m4 : b * x2 ≤ 9 * 10240000000000 := Int.mul_le_mul b1 v2.2 v2.1 (by omega)
              have t1 : IntKind.i64.wrap (a * x1) = a * x1 := IntWalk.i64_in _ (by omega)
              have t2 : IntKind.i64.wrap (b * x2) = b * x2 := IntWalk.i64_in _ (by omega)
              have t3 : IntKind.i64.wrap (a * x1 + b * x2) = a * x1 + b * x2 := IntWalk.i64_in _ (by omega)
              have t4 : IntKind.i64.wrap ((j : Int) - 1) = (j : Int) - 1 := IntWalk.i64_in _ (by omega)
              have t5 : IntKind.i64.wrap ((j : Int) - 2) = (j : Int) - 2 := IntWalk.i64_in _ (by omega)
              have g0 : (1 : Int) < j := by omega
              have g7 : (1 : Int) ≤ j := by omega
              have g8 : (2 : Int) ≤ j := by omega
              have g1 : (0 : Int) ≤ (j : Int) - 1 := by omega
              have g2 : (j : Int) - 1 < j := by omega
              have g3 : (0 : Int) ≤ (j : Int) - 2 := by omega
              have g4 : (j : Int) - 2 < j := by omega
              have g5 : ((j : Int) - 1).toNat = j - 1 := by omega
              have g6 : ((j : Int) - 2).toNat = j - 2 := by omega
              clear hx1 hx2 ex1 ex2 eq2 RO hj1
              obtain ⟨y, hy⟩ : ∃ y, a * x1 + b * x2 = y := ⟨_, rfl⟩
              rw [hy] at HY HS HLn t3
              go_wp2
              go_region_held3 (fun w' => w'.cell? (ad.add (j - 1)) = some (.int .i64 x1) ∧ w'.cell? (ad.add (j - 2)) = some (.int .i64 x2)) (go_keep) (fail)
              clear t1 t2 t3 t4 t5 g0 g1 g2 g3 g4 g5 g6 g7 g8
              go_wp2_with (at_builtin; refine wpList_app1 (hO.drewN _) hL hs rfl _ _ 22 rfl rfl rfl rfl ?_; intro v' w' O' B'; obtain ⟨A2, c2, rfl⟩ := O'.form)
              go_roundw
              case rel =>
                refine ⟨j + 1, A2, c2, by omega, by omega, by first | rfl | (rw [rcL_len]) | (rw [HLn.out]), ?_, (below_drewN hB _).trans B'⟩
                rw [HS.out]
                have h := O'
                rw [HLn.out] at h
                exact h
              case measure => simp [rcL_len]; omega
          · have hjk : j = k := by omega
            subst hjk
            have CO := iCoinsOk_any A c (rcL a b j) wr hO.ow.rd (by rw [rcL_len]; omega)
            rw [rcL_len] at CO
            have hw := hO.ow
            rcases Bool.eq_false_or_eq_true (coinsB (rcL a b j)) with h | h
            · rw [h] at CO HRB
              have CO2 := Lib.hid CO
              have HN := Lib.hid (recL_yes HRB.out)
              have HW : Hid (Ow wr w.heap.size (.slice A (rcL a b j).length c) (rcL a b j)) := by unfold Hid; rw [rcL_len]; exact hw
              have HLj := Lib.hid (rcL_len a b j)
              clear CO h hO hw
              go_wp2_with fail
              refine (CO2.out).mono ?_
              rintro e w' ⟨rfl, rfl⟩
              go_wp2
              go_ret2
              exact ⟨A, c, ret_tuple_slice (by rw [HN.out, HLj.out]) HRB.out.symm, by rw [HN.out]; exact HW.out, hB⟩
            · rw [h] at CO HRB
              have CO2 := Lib.hid CO
              have HN := Lib.hid (recL_no HRB.out)
              clear CO h hO hw
              go_wp2_with fail
              refine (CO2.out).mono ?_
              rintro e w' ⟨rfl, rfl⟩
              go_wp2
              go_ret2
              exact ⟨none, 0, by rw [HN.out, HRB.out]; rfl, by rw [HN.out]; exact Ow.nil_ _ _, hB⟩
      · have HF : Hid (recB a b K = false) := recB_no3 h3
        have HN := Lib.hid (recL_no HF.out)
        go_enter Try.func22, Try.ntmps22
        go_wp2_with fail
        refine (within_any _ _ _ _).mono ?_
        rintro e w' ⟨rfl, rfl⟩
        go_wp2_with fail
        refine (within_any _ _ _ _).mono ?_
        rintro e w' ⟨rfl, rfl⟩
        go_wp2_with fail
        refine (within_any _ _ _ _).mono ?_
        rintro e w' ⟨rfl, rfl⟩
        go_wp2
        go_ret2
        exact ⟨none, 0, by rw [HN.out, HF.out]; rfl, by rw [HN.out]; exact Ow.nil_ _ _, Below.refl _ _⟩
    · have HF : Hid (recB a b K = false) := recB_no2 h2
      have HN := Lib.hid (recL_no HF.out)
      go_enter Try.func22, Try.ntmps22
      go_wp2_with fail
      refine (within_any _ _ _ _).mono ?_
      rintro e w' ⟨rfl, rfl⟩
      go_wp2_with fail
      refine (within_any _ _ _ _).mono ?_
      rintro e w' ⟨rfl, rfl⟩
      go_wp2
      go_ret2
      exact ⟨none, 0, by rw [HN.out, HF.out]; rfl, by rw [HN.out]; exact Ow.nil_ _ _, Below.refl _ _⟩
  · have HF : Hid (recB a b K = false) := recB_no1 h1
    have HN := Lib.hid (recL_no HF.out)
    go_enter Try.func22, Try.ntmps22
    go_wp2_with fail
    refine (within_any _ _ _ _).mono ?_
    rintro e w' ⟨rfl, rfl⟩
    go_wp2
    go_ret2
    exact ⟨none, 0, by rw [HN.out, HF.out]; rfl, by rw [HN.out]; exact Ow.nil_ _ _, Below.refl _ _⟩


set_option maxHeartbeats 3200000 in
theorem sRecurrentCoins_c (w : World) (a : Int) (_ha : I64 a) (b : Int) (_hb : I64 b) (K : Int) (_hK : I64 K) :
    Calls Try.prog 21 #[.int .i64 a, .int .i64 b, .int .i64 K] w fun e w' => ∃ A c, e = .returned (.tuple #[.slice A (recL a b K).length c, .bool (recB a b K)]) ∧ Ow w' w.heap.size (.slice A (recL a b K).length c) (recL a b K) ∧ Below w.heap.size w w' := by
  rcases Bool.eq_false_or_eq_true (inB a 1 9) with h1 | h1
  · rcases Bool.eq_false_or_eq_true (inB b 0 9) with h2 | h2
    · rcases Bool.eq_false_or_eq_true (inB K 1 10) with h3 | h3
      · obtain ⟨k0, k1⟩ := inB_true h3
        obtain ⟨k, rfl⟩ : ∃ k : Nat, K = k := ⟨K.toNat, by omega⟩
        obtain ⟨a0, a1⟩ := inB_true h1
        obtain ⟨b0, b1⟩ := inB_true h2
        have HRB := Lib.hid (recB_of h1 h2 h3)
        have HV := Lib.hid (fun n hn => rcV_in a0 a1 b0 b1 (n := n) hn)
        have AP1 : Ap (w.alloc (.cells #[.int .i64 1] 3)) w.heap.size (.slice (some ⟨w.heap.size, 0, none⟩) 1 1) (rcL a b 1) := by rw [rcL_one]; exact Ap.one1 w
        have HA1 := Lib.hid AP1
        clear AP1
        go_enter Try.func21, Try.ntmps21
        go_wp2_with fail
        refine (l01In_any _ _ _ _).mono ?_
        rintro e w' ⟨rfl, rfl⟩
        go_wp2_with fail
        refine (l01In_any _ _ _ _).mono ?_
        rintro e w' ⟨rfl, rfl⟩
        go_wp2_with fail
        refine (l01In_any _ _ _ _).mono ?_
        rintro e w' ⟨rfl, rfl⟩
        go_wp2
        go_loopw [8] (fun v wr => ∃ (j : Nat) (A : Option Addr) (c : Nat), 1 ≤ j ∧ j ≤ k ∧ v = .slice A j c ∧ Ap wr w.heap.size (.slice A j c) (rcL a b j) ∧ Below w.heap.size w wr) (fun v _ => match v with | .slice _ n _ => k - n | _ => 0)
        case atStart => exact ⟨1, _, _, Nat.le_refl _, by omega, rfl, HA1.out, (Below.refl _ _).alloc (Nat.le_refl _) _⟩
        case round =>
          obtain ⟨j, A, c, j1, jk, rfl, hO, hB⟩ := hrel
          have hs := hB.size
          by_cases hlt : j < k
          · have hL : (rcL a b j).length < 1099511627776 := by rw [rcL_len]; omega
            have HS := Lib.hid (rcL_succ a b j)
            have HLn : Hid ((rcL a b j ++ [rcV a b j]).length = j + 1) := by unfold Hid; rw [List.length_append, rcL_len]; rfl
            have c1 : (j : Int) < k := by omega
            by_cases hj1 : j = 1
            · subst hj1
              have HY := Lib.hid (rcV_one a b)
              rw [HY.out] at HS HLn
              obtain ⟨y, hy⟩ : ∃ y, a + 1 = y := ⟨_, rfl⟩
              have HYY := Lib.hid hy
              rw [hy] at HS HLn HY
              go_wp2_with (at_builtin; refine wpList_app1 hO hL hs rfl _ _ 22 rfl rfl rfl rfl ?_; intro v' w' O' B'; obtain ⟨A2, c2, rfl⟩ := O'.form)
              go_roundw
              case rel =>
                refine ⟨1 + 1, A2, c2, by omega, by omega, by first | rfl | (rw [rcL_len]) | (rw [HLn.out]), ?_, hB.trans B'⟩
                rw [HS.out]
                have h := O'
                rw [HLn.out] at h
                exact h
              case measure => simp [rcL_len]; omega
            · have RO := hO.ow.rd
              obtain ⟨ad, x1, rfl, hx1, hc1⟩ := RO.at_ (k := j - 1) (by rw [rcL_len]; omega)
              obtain ⟨ad2, x2, eq2, hx2, hc2⟩ := RO.at_ (k := j - 2) (by rw [rcL_len]; omega)
              obtain rfl := Option.some.inj eq2
              have ex1 := hx1.out
              have ex2 := hx2.out
              rw [rcL_at (by omega)] at ex1 ex2
              have v1 := HV.out (j - 1) (by omega)
              have v2 := HV.out (j - 2) (by omega)
              rw [Option.some.inj ex1] at v1
              rw [Option.some.inj ex2] at v2
              have HY : Hid (rcV a b j = a * x1 + b * x2) := by
                unfold Hid
                obtain ⟨q, hq⟩ : ∃ q, j = q + 2 := ⟨j - 2, by omega⟩
                subst hq
                rw [rcV_two, ← Option.some.inj ex1, ← Option.some.inj ex2]
                rfl
              rw [HY.out] at HS HLn
              have m1 : 0 ≤ a * x1 := Int.mul_nonneg (by omega) v1.1
              have m2 : 0 ≤ b * x2 := Int.mul_nonneg (by omega) v2.1
              have m3 : a * x1 ≤ 9 * 10240000000000 := Int.mul_le_mul a1 v1.2 v1.1 (by omega)
              have m4 : b * x2 ≤ 9 * 10240000000000 := Int.mul_le_mul b1 v2.2 v2.1 (by omega)
              have t1 : IntKind.i64.wrap (a * x1) = a * x1 := IntWalk.i64_in _ (by omega)
              have t2 : IntKind.i64.wrap (b * x2) = b * x2 := IntWalk.i64_in _ (by omega)
              have t3 : IntKind.i64.wrap (a * x1 + b * x2) = a * x1 + b * x2 := IntWalk.i64_in _ (by omega)
              have t4 : IntKind.i64.wrap ((j : Int) - 1) = (j : Int) - 1 := IntWalk.i64_in _ (by omega)
              have t5 : IntKind.i64.wrap ((j : Int) - 2) = (j : Int) - 2 := IntWalk.i64_in _ (by omega)
              have g0 : (1 : Int) < j := by omega
              have g7 : (1 : Int) ≤ j := by omega
              have g8 : (2 : Int) ≤ j := by omega
              have g1 : (0 : Int) ≤ (j : Int) - 1 := by omega
              have g2 : (j : Int) - 1 < j := by omega
              have g3 : (0 : Int) ≤ (j : Int) - 2 := by omega
              have g4 : (j : Int) - 2 < j := by omega
              have g5 : ((j : Int) - 1).toNat = j - 1 := by omega
              have g6 : ((j : Int) - 2).toNat = j - 2 := by omega
              clear hx1 hx2 ex1 ex2 eq2 RO hj1
              obtain ⟨y, hy⟩ : ∃ y, a * x1 + b * x2 = y := ⟨_, rfl⟩
              rw [hy] at HY HS HLn t3
              go_wp2
              go_region_held3 (fun w' => w'.cell? (ad.add (j - 1)) = some (.int .i64 x1) ∧ w'.cell? (ad.add (j - 2)) = some (.int .i64 x2)) (go_keep) (fail)
              clear t1 t2 t3 t4 t5 g0 g1 g2 g3 g4 g5 g6 g7 g8
              by_cases hbig : 1000 < y
              · have HF : Hid (recB a b k = false) := by unfold Hid; rw [HRB.out]; exact rcL_big (j := j) (by omega) (by rw [HY.out]; exact hbig)
                have HN := Lib.hid (recL_no HF.out)
                go_wp2_with (at_builtin; refine wpList_app1 (hO.drewN _) hL hs rfl _ _ 22 rfl rfl rfl rfl ?_; intro v' w' O' B'; obtain ⟨A2, c2, rfl⟩ := O'.form)
                go_ret2
                exact ⟨none, 0, by rw [HN.out, HF.out]; rfl, by rw [HN.out]; exact Ow.nil_ _ _, (below_drewN hB _).trans B'⟩
              · go_wp2_with (at_builtin; refine wpList_app1 (hO.drewN _) hL hs rfl _ _ 22 rfl rfl rfl rfl ?_; intro v' w' O' B'; obtain ⟨A2, c2, rfl⟩ := O'.form)
                go_roundw
                case rel =>
                  refine ⟨j + 1, A2, c2, by omega, by omega, by first | rfl | (rw [rcL_len]) | (rw [HLn.out]), ?_, (below_drewN hB _).trans B'⟩
                  rw [HS.out]
                  have h := O'
                  rw [HLn.out] at h
                  exact h
                case measure => simp [rcL_len]; omega
          · have hjk : j = k := by omega
            subst hjk
            have CO := sCoinsOk_any A c (rcL a b j) wr hO.ow.rd (by rw [rcL_len]; omega)
            rw [rcL_len] at CO
            have hw := hO.ow
            rcases Bool.eq_false_or_eq_true (coinsB (rcL a b j)) with h | h
            · rw [h] at CO HRB
              have CO2 := Lib.hid CO
              have HN := Lib.hid (recL_yes HRB.out)
              have HW : Hid (Ow wr w.heap.size (.slice A (rcL a b j).length c) (rcL a b j)) := by unfold Hid; rw [rcL_len]; exact hw
              have HLj := Lib.hid (rcL_len a b j)
              clear CO h hO hw
              go_wp2_with fail
              refine (CO2.out).mono ?_
              rintro e w' ⟨rfl, rfl⟩
              go_wp2
              go_ret2
              exact ⟨A, c, ret_tuple_slice (by rw [HN.out, HLj.out]) HRB.out.symm, by rw [HN.out]; exact HW.out, hB⟩
            · rw [h] at CO HRB
              have CO2 := Lib.hid CO
              have HN := Lib.hid (recL_no HRB.out)
              clear CO h hO hw
              go_wp2_with fail
              refine (CO2.out).mono ?_
              rintro e w' ⟨rfl, rfl⟩
              go_wp2
              go_ret2
              exact ⟨none, 0, by rw [HN.out, HRB.out]; rfl, by rw [HN.out]; exact Ow.nil_ _ _, hB⟩
      · have HF : Hid (recB a b K = false) := recB_no3 h3
        have HN := Lib.hid (recL_no HF.out)
        go_enter Try.func21, Try.ntmps21
        go_wp2_with fail
        refine (l01In_any _ _ _ _).mono ?_
        rintro e w' ⟨rfl, rfl⟩
        go_wp2_with fail
        refine (l01In_any _ _ _ _).mono ?_
        rintro e w' ⟨rfl, rfl⟩
        go_wp2_with fail
        refine (l01In_any _ _ _ _).mono ?_
        rintro e w' ⟨rfl, rfl⟩
        go_wp2
        go_ret2
        exact ⟨none, 0, by rw [HN.out, HF.out]; rfl, by rw [HN.out]; exact Ow.nil_ _ _, Below.refl _ _⟩
    · have HF : Hid (recB a b K = false) := recB_no2 h2
      have HN := Lib.hid (recL_no HF.out)
      go_enter Try.func21, Try.ntmps21
      go_wp2_with fail
      refine (l01In_any _ _ _ _).mono ?_
      rintro e w' ⟨rfl, rfl⟩
      go_wp2_with fail
      refine (l01In_any _ _ _ _).mono ?_
      rintro e w' ⟨rfl, rfl⟩
      go_wp2
      go_ret2
      exact ⟨none, 0, by rw [HN.out, HF.out]; rfl, by rw [HN.out]; exact Ow.nil_ _ _, Below.refl _ _⟩
  · have HF : Hid (recB a b K = false) := recB_no1 h1
    have HN := Lib.hid (recL_no HF.out)
    go_enter Try.func21, Try.ntmps21
    go_wp2_with fail
    refine (l01In_any _ _ _ _).mono ?_
    rintro e w' ⟨rfl, rfl⟩
    go_wp2
    go_ret2
    exact ⟨none, 0, by rw [HN.out, HF.out]; rfl, by rw [HN.out]; exact Ow.nil_ _ _, Below.refl _ _⟩

set_option maxRecDepth 100000 in
set_option maxHeartbeats 1600000 in
theorem lRecurrentCoins_law (w : World) (n0 : Int) (b0 : -9223372036854775808 ≤ n0 ∧ n0 ≤ 9223372036854775807) (n1 : Int) (b1 : -9223372036854775808 ≤ n1 ∧ n1 ≤ 9223372036854775807) (n2 : Int) (b2 : -9223372036854775808 ≤ n2 ∧ n2 ≤ 9223372036854775807) :
    Calls Try.prog 6 #[.int .i64 n0, .int .i64 n1, .int .i64 n2] w fun e w' => e = .returned (.bool true) ∧ Below w.heap.size w w' := by
  have BA0 : I64 n0 := b0
  clear b0
  have BA1 : I64 n1 := b1
  clear b1
  have BA2 : I64 n2 := b2
  clear b2
  go_enter Try.func6, Try.ntmps6
  go_wp2_with fail
  refine (sRecurrentCoins_c _ _ BA0 _ BA1 _ BA2).mono ?_
  rintro e w1 ⟨A_W0, c_W0, rfl, W0_0, B1⟩
  have L_W0 := fun k hk => (W0_0.lt k hk).1
  have C2 := (Below.refl w.heap.size w).trans (B1.mono (Below.refl w.heap.size w).size)
  go_wp2_with fail
  refine (iRecurrentCoins_c _ _ BA0 _ BA1 _ BA2).mono ?_
  rintro e w3 ⟨A_G0, c_G0, rfl, G0_0, B3⟩
  have U_W0_G0 := fun k hk => (W0_0.lt k hk).2
  have L_G0 := fun k hk => (G0_0.lt k hk).1
  have C4 := C2.trans (B3.mono C2.size)
  have W0_4 := W0_0.below' B3
  go_wp2_with fail
  refine (eqIntS_same _ _ _ _ _ _ G0_0.rd W0_4.rd ((recL_len n0 n1 n2))).mono ?_
  rintro e w5 ⟨rfl, n5_, rfl⟩
  have C6 := below_drewN C4 n5_
  have W0_6 := W0_4.drewN n5_
  have G0_6 := G0_0.drewN n5_
  go_wp2_with fail
  refine (markIntS_any _ _ _ _ _ _ G0_6 ((recL_len n0 n1 n2)) (by omega) (by omega)).mono ?_
  rintro e w7 ⟨rfl, G0_7, G7⟩
  have W0_7 := W0_6.kept G7 (own_ne U_W0_G0 L_G0)
  have C8 := C6.grown G7 C6.size (fun k hk => Nat.le_trans C2.size (L_G0 k hk))
  go_wp2_with fail
  refine (heldIntS_any _ _ _ _ _ (by have h := G0_7.rd' (marks_length _ _); exact h) ((recL_len n0 n1 n2)) (by omega) (by omega)).mono ?_
  rintro e w9 ⟨rfl, rfl⟩
  go_wp2_with fail
  refine (iRecurrentCoins_c _ _ BA0 _ BA1 _ BA2).mono ?_
  rintro e w10 ⟨A_H0, c_H0, rfl, H0_0, B10⟩
  have U_W0_H0 := fun k hk => (W0_7.lt k hk).2
  have U_G0_H0 := fun k hk => (G0_7.lt k hk).2
  have L_H0 := fun k hk => (H0_0.lt k hk).1
  have C11 := C8.trans (B10.mono C8.size)
  have W0_11 := W0_7.below' B10
  have G0_11 := G0_7.below' B10
  go_wp2_with fail
  refine (eqIntS_same _ _ _ _ _ _ H0_0.rd W0_11.rd ((recL_len n0 n1 n2))).mono ?_
  rintro e w12 ⟨rfl, n12_, rfl⟩
  have C13 := below_drewN C11 n12_
  have W0_13 := W0_11.drewN n12_
  have G0_13 := G0_11.drewN n12_
  have H0_13 := H0_0.drewN n12_
  go_wp2_with fail
  refine (heldIntS_any _ _ _ _ _ (by have h := G0_13.rd' (marks_length _ _); exact h) ((recL_len n0 n1 n2)) (by omega) (by omega)).mono ?_
  rintro e w14 ⟨rfl, rfl⟩
  go_wp2
  go_ret
  exact ⟨rfl, C13⟩

end Go.Proofs.Ytlhabcpoemcpjaa
