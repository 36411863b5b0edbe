/-
  WALKS: ResiduesCompare and ExtendResidues (both packages) and the laws over them.
-/
import Derived.Test.YtfdighaginmabaaR7
namespace Go.Proofs.Ytfdighaginmabaa
open Go.RowKit

def cmpI (x y : Int) : Int := if x < y then -1 else if y < x then 1 else 0
theorem isNaN_any (x : Int) (w : World) : Calls Try.prog 75 #[.int .i64 x] w fun e w' => e = .returned (.bool false) ∧ w = w' := by
  go_enter Try.func75, Try.ntmps75
  go_wp2
  go_ret
  exact ⟨ret_bool (by simp), rfl⟩
theorem cmpI_lt {x y : Int} (h : x < y) : cmpI x y = -1 := by simp [cmpI, h]
theorem cmpI_gt {x y : Int} (h : y < x) : cmpI x y = 1 := by unfold cmpI; rw [if_neg (by omega), if_pos h]
theorem cmpI_eq {x y : Int} (h : x = y) : cmpI x y = 0 := by subst h; simp [cmpI]
theorem compare_any (x y : Int) (w : World) : Calls Try.prog 67 #[.int .i64 x, .int .i64 y] w fun e w' => e = .returned (.int .i64 (cmpI x y)) ∧ w = w' := by
  rcases Int.lt_trichotomy x y with h | h | h
  · have HC := Lib.hid (cmpI_lt h)
    go_enter Try.func67, Try.ntmps67
    go_wp2_with fail
    refine (isNaN_any _ _).mono ?_
    rintro e w' ⟨rfl, rfl⟩
    go_wp2_with fail
    refine (isNaN_any _ _).mono ?_
    rintro e w' ⟨rfl, rfl⟩
    go_wp2
    go_ret
    exact ⟨ret_int HC.out.symm, rfl⟩
  · have HC := Lib.hid (cmpI_eq h)
    go_enter Try.func67, Try.ntmps67
    go_wp2_with fail
    refine (isNaN_any _ _).mono ?_
    rintro e w' ⟨rfl, rfl⟩
    go_wp2_with fail
    refine (isNaN_any _ _).mono ?_
    rintro e w' ⟨rfl, rfl⟩
    go_wp2
    go_ret
    exact ⟨ret_int HC.out.symm, rfl⟩
  · have HC := Lib.hid (cmpI_gt h)
    go_enter Try.func67, Try.ntmps67
    go_wp2_with fail
    refine (isNaN_any _ _).mono ?_
    rintro e w' ⟨rfl, rfl⟩
    go_wp2_with fail
    refine (isNaN_any _ _).mono ?_
    rintro e w' ⟨rfl, rfl⟩
    go_wp2
    go_ret
    exact ⟨ret_int HC.out.symm, rfl⟩

def compareR (xs ys ms : List Int) : Int := if residuesB xs ms && residuesB ys ms then cmpI (fromR xs ms) (fromR ys ms) else -2
theorem compareR_of {xs ys ms : List Int} (h1 : residuesB xs ms = true) (h2 : residuesB ys ms = true) : compareR xs ys ms = cmpI (fromR xs ms) (fromR ys ms) := by simp [compareR, h1, h2]
theorem compareR_no1 {xs ys ms : List Int} (h1 : residuesB xs ms = false) : compareR xs ys ms = -2 := by simp [compareR, h1]
theorem compareR_no2 {xs ys ms : List Int} (h1 : residuesB ys ms = false) : compareR xs ys ms = -2 := by simp [compareR, h1]
def extendR (xs ms : List Int) (m : Int) : Int := if residuesB xs ms && inB m 2 1000 then fromR xs ms % m else -1
theorem extendR_of {xs ms : List Int} {m : Int} (h1 : residuesB xs ms = true) (h2 : inB m 2 1000 = true) : extendR xs ms m = fromR xs ms % m := by simp [extendR, h1, h2]
theorem extendR_no1 {xs ms : List Int} {m : Int} (h1 : residuesB xs ms = false) : extendR xs ms m = -1 := by simp [extendR, h1]
theorem extendR_no2 {xs ms : List Int} {m : Int} (h1 : inB m 2 1000 = false) : extendR xs ms m = -1 := by simp [extendR, h1]


set_option maxHeartbeats 1600000 in
theorem iResiduesCompare_c (w : World) (A : Option Addr) (c1 : Nat) (xs : List Int) (ha : Rd w A xs) (k1 : xs.length ≤ c1) (hl : xs.length ≤ 1048576) (h1 : AllI64 xs) (C : Option Addr) (c2 : Nat) (ys : List Int) (hc : Rd w C ys) (k2 : ys.length ≤ c2) (hl2 : ys.length ≤ 1048576) (h2 : AllI64 ys) (B : Option Addr) (c3 : Nat) (ms : List Int) (hb : Rd w B ms) (hcap : ms.length ≤ c3) (hl' : ms.length ≤ 1048576) (h3 : AllI64 ms) :
    Calls Try.prog 40 #[.slice A xs.length c1, .slice C ys.length c2, .slice B ms.length c3] w fun e w' => e = .returned (.int .i64 (compareR xs ys ms)) ∧ Below w.heap.size w w' := by
  have W1 := Lib.hid (iResiduesOk_any A B c1 c3 xs ms w ha hb hcap (by omega) (by omega))
  have W2 := Lib.hid (fun (u : World) (B1 : Below w.heap.size w u) => iResiduesOk_any C B c2 c3 ys ms u (hc.below B1) (hb.below B1) hcap (by omega) (by omega))
  have HA := Lib.hid ha
  have HB := Lib.hid hb
  have HC := Lib.hid hc
  clear ha hb hc
  rcases Bool.eq_false_or_eq_true (residuesB xs ms) with g1 | g1
  · rw [g1] at W1
    rcases Bool.eq_false_or_eq_true (residuesB ys ms) with g2 | g2
    · rw [g2] at W2
      have HR := Lib.hid (compareR_of g1 g2)
      clear g1 g2
      go_enter Try.func40, Try.ntmps40
      go_wp2_with fail
      refine (W1.out).mono ?_
      rintro e w1 ⟨rfl, B1⟩
      go_wp2_with fail
      refine (W2.out _ B1).mono ?_
      rintro e w2 ⟨rfl, B2⟩
      have D2 := B1.trans (B2.mono B1.size)
      go_wp2_with fail
      refine (iFromResidues_c _ A c1 xs (HA.out.below D2) k1 hl h1 B c3 ms (HB.out.below D2) hcap hl' h3).mono ?_
      rintro e w3 ⟨rfl, B3⟩
      have D3 := D2.trans (B3.mono D2.size)
      go_wp2_with fail
      refine (iFromResidues_c _ C c2 ys (HC.out.below D3) k2 hl2 h2 B c3 ms (HB.out.below D3) hcap hl' h3).mono ?_
      rintro e w4 ⟨rfl, B4⟩
      have D4 := D3.trans (B4.mono D3.size)
      go_wp2_with fail
      refine (compare_any _ _ _).mono ?_
      rintro e w' ⟨rfl, rfl⟩
      go_wp2
      go_ret
      exact ⟨ret_int HR.out.symm, D4⟩
    · rw [g2] at W2
      have HR := Lib.hid (compareR_no2 (xs := xs) g2)
      clear g1 g2
      go_enter Try.func40, Try.ntmps40
      go_wp2_with fail
      refine (W1.out).mono ?_
      rintro e w1 ⟨rfl, B1⟩
      go_wp2_with fail
      refine (W2.out _ B1).mono ?_
      rintro e w2 ⟨rfl, B2⟩
      go_wp2
      go_ret
      exact ⟨ret_int HR.out.symm, B1.trans (B2.mono B1.size)⟩
  · rw [g1] at W1
    have HR := Lib.hid (compareR_no1 (ys := ys) g1)
    clear g1
    go_enter Try.func40, Try.ntmps40
    go_wp2_with fail
    refine (W1.out).mono ?_
    rintro e w1 ⟨rfl, B1⟩
    go_wp2
    go_ret
    exact ⟨ret_int HR.out.symm, B1⟩

set_option maxHeartbeats 1600000 in
theorem sResiduesCompare_c (w : World) (A : Option Addr) (c1 : Nat) (xs : List Int) (ha : Rd w A xs) (k1 : xs.length ≤ c1) (hl : xs.length ≤ 1048576) (h1 : AllI64 xs) (C : Option Addr) (c2 : Nat) (ys : List Int) (hc : Rd w C ys) (k2 : ys.length ≤ c2) (hl2 : ys.length ≤ 1048576) (h2 : AllI64 ys) (B : Option Addr) (c3 : Nat) (ms : List Int) (hb : Rd w B ms) (hcap : ms.length ≤ c3) (hl' : ms.length ≤ 1048576) (h3 : AllI64 ms) :
    Calls Try.prog 39 #[.slice A xs.length c1, .slice C ys.length c2, .slice B ms.length c3] w fun e w' => e = .returned (.int .i64 (compareR xs ys ms)) ∧ Below w.heap.size w w' := by
  have W1 := Lib.hid (l13Two_any A C B c1 c2 c3 xs ys ms w ha hc hb hcap (by omega) (by omega) (by omega))
  have HA := Lib.hid ha
  have HB := Lib.hid hb
  have HC := Lib.hid hc
  clear ha hb hc
  rcases Bool.eq_false_or_eq_true (residuesB xs ms && residuesB ys ms) with g | g
  · rw [g] at W1
    rw [Bool.and_eq_true] at g
    have HR := Lib.hid (compareR_of g.1 g.2)
    clear g
    rcases Int.lt_trichotomy (fromR xs ms) (fromR ys ms) with h | h | h
    all_goals
      first | rw [cmpI_lt h] at HR | rw [cmpI_gt h] at HR | rw [cmpI_eq h] at HR
      go_enter Try.func39, Try.ntmps39
      go_wp2_with fail
      refine (W1.out).mono ?_
      rintro e w' ⟨rfl, rfl⟩
      go_wp2_with fail
      refine (sFromResidues_c _ A c1 xs HA.out k1 hl h1 B c3 ms HB.out hcap hl' h3).mono ?_
      rintro e w3 ⟨rfl, B3⟩
      go_wp2_with fail
      refine (sFromResidues_c _ C c2 ys (HC.out.below B3) k2 hl2 h2 B c3 ms (HB.out.below B3) hcap hl' h3).mono ?_
      rintro e w4 ⟨rfl, B4⟩
      have D4 := B3.trans (B4.mono B3.size)
      go_wp2
      go_ret
      exact ⟨ret_int HR.out.symm, D4⟩
  · rw [g] at W1
    have HR : Hid (compareR xs ys ms = -2) := by unfold Hid compareR; rw [g]; rfl
    clear g
    go_enter Try.func39, Try.ntmps39
    go_wp2_with fail
    refine (W1.out).mono ?_
    rintro e w' ⟨rfl, rfl⟩
    go_wp2
    go_ret
    exact ⟨ret_int HR.out.symm, Below.refl _ _⟩


set_option maxHeartbeats 1600000 in
theorem iExtendResidues_c (w : World) (A : Option Addr) (c1 : Nat) (xs : List Int) (ha : Rd w A xs) (k1 : xs.length ≤ c1) (hl : xs.length ≤ 1048576) (h1 : AllI64 xs) (B : Option Addr) (c3 : Nat) (ms : List Int) (hb : Rd w B ms) (hcap : ms.length ≤ c3) (hl' : ms.length ≤ 1048576) (h3 : AllI64 ms) (m : Int) (_hm : I64 m) :
    Calls Try.prog 38 #[.slice A xs.length c1, .slice B ms.length c3, .int .i64 m] w fun e w' => e = .returned (.int .i64 (extendR xs ms m)) ∧ Below w.heap.size w w' := by
  have W1 := Lib.hid (iResiduesOk_any A B c1 c3 xs ms w ha hb hcap (by omega) (by omega))
  have HA := Lib.hid ha
  have HB := Lib.hid hb
  clear ha hb
  rcases Bool.eq_false_or_eq_true (residuesB xs ms) with g1 | g1
  · rw [g1] at W1
    rcases Bool.eq_false_or_eq_true (inB m 2 1000) with g2 | g2
    · have HR := Lib.hid (extendR_of g1 g2)
      obtain ⟨m2, m3⟩ := inB_true g2
      have f0 := fromR_nn g1
      have t0 := Int.emod_nonneg (fromR xs ms) (show m ≠ 0 by omega)
      clear g1
      go_enter Try.func38, Try.ntmps38
      go_wp2_with fail
      refine (W1.out).mono ?_
      rintro e w1 ⟨rfl, B1⟩
      go_wp2_with fail
      refine (within_any _ _ _ _).mono ?_
      rintro e w' ⟨rfl, rfl⟩
      go_wp2_with fail
      refine (iFromResidues_c _ A c1 xs (HA.out.below B1) k1 hl h1 B c3 ms (HB.out.below B1) hcap hl' h3).mono ?_
      rintro e w3 ⟨rfl, B3⟩
      go_wp2
      go_ret
      exact ⟨ret_int HR.out.symm, B1.trans (B3.mono B1.size)⟩
    · have HR := Lib.hid (extendR_no2 (xs := xs) (ms := ms) g2)
      clear g1
      go_enter Try.func38, Try.ntmps38
      go_wp2_with fail
      refine (W1.out).mono ?_
      rintro e w1 ⟨rfl, B1⟩
      go_wp2_with fail
      refine (within_any _ _ _ _).mono ?_
      rintro e w' ⟨rfl, rfl⟩
      go_wp2
      go_ret
      exact ⟨ret_int HR.out.symm, B1⟩
  · rw [g1] at W1
    have HR := Lib.hid (extendR_no1 (m := m) g1)
    clear g1
    go_enter Try.func38, Try.ntmps38
    go_wp2_with fail
    refine (W1.out).mono ?_
    rintro e w1 ⟨rfl, B1⟩
    go_wp2
    go_ret
    exact ⟨ret_int HR.out.symm, B1⟩


set_option maxHeartbeats 1600000 in
theorem sExtendResidues_c (w : World) (A : Option Addr) (c1 : Nat) (xs : List Int) (ha : Rd w A xs) (k1 : xs.length ≤ c1) (hl : xs.length ≤ 1048576) (h1 : AllI64 xs) (B : Option Addr) (c3 : Nat) (ms : List Int) (hb : Rd w B ms) (hcap : ms.length ≤ c3) (hl' : ms.length ≤ 1048576) (h3 : AllI64 ms) (m : Int) (_hm : I64 m) :
    Calls Try.prog 37 #[.slice A xs.length c1, .slice B ms.length c3, .int .i64 m] w fun e w' => e = .returned (.int .i64 (extendR xs ms m)) ∧ Below w.heap.size w w' := by
  have W1 := Lib.hid (sResiduesOk_any A B c1 c3 xs ms w ha hb hcap (by omega) (by omega))
  have HA := Lib.hid ha
  have HB := Lib.hid hb
  clear ha hb
  rcases Bool.eq_false_or_eq_true (residuesB xs ms) with g1 | g1
  · rw [g1] at W1
    rcases Bool.eq_false_or_eq_true (inB m 2 1000) with g2 | g2
    · have HR := Lib.hid (extendR_of g1 g2)
      obtain ⟨m2, m3⟩ := inB_true g2
      have f0 := fromR_nn g1
      have t0 := Int.emod_nonneg (fromR xs ms) (show m ≠ 0 by omega)
      clear g1
      go_enter Try.func37, Try.ntmps37
      go_wp2_with fail
      refine (W1.out).mono ?_
      rintro e w' ⟨rfl, rfl⟩
      have B1 : Below w.heap.size w w := Below.refl _ _
      go_wp2_with fail
      refine (l01In_any _ _ _ _).mono ?_
      rintro e w' ⟨rfl, rfl⟩
      go_wp2_with fail
      refine (sFromResidues_c _ A c1 xs (HA.out.below B1) k1 hl h1 B c3 ms (HB.out.below B1) hcap hl' h3).mono ?_
      rintro e w3 ⟨rfl, B3⟩
      go_wp2
      go_ret
      exact ⟨ret_int HR.out.symm, B1.trans (B3.mono B1.size)⟩
    · have HR := Lib.hid (extendR_no2 (xs := xs) (ms := ms) g2)
      clear g1
      go_enter Try.func37, Try.ntmps37
      go_wp2_with fail
      refine (W1.out).mono ?_
      rintro e w' ⟨rfl, rfl⟩
      have B1 : Below w.heap.size w w := Below.refl _ _
      go_wp2_with fail
      refine (l01In_any _ _ _ _).mono ?_
      rintro e w' ⟨rfl, rfl⟩
      go_wp2
      go_ret
      exact ⟨ret_int HR.out.symm, B1⟩
  · rw [g1] at W1
    have HR := Lib.hid (extendR_no1 (m := m) g1)
    clear g1
    go_enter Try.func37, Try.ntmps37
    go_wp2_with fail
    refine (W1.out).mono ?_
    rintro e w' ⟨rfl, rfl⟩
    have B1 : Below w.heap.size w w := Below.refl _ _
    go_wp2
    go_ret
    exact ⟨ret_int HR.out.symm, B1⟩

set_option maxRecDepth 100000 in
set_option maxHeartbeats 1600000 in
theorem lResiduesCompare_law (w : World) (A0 : Option Addr) (c0 : Nat) (xs0 : List Int) (r0 : Rd w A0 xs0) (_m0 : xs0.length ≤ maxLen) (b0 : ∀ x ∈ xs0, -9223372036854775808 ≤ x ∧ x ≤ 9223372036854775807) (A1 : Option Addr) (c1 : Nat) (xs1 : List Int) (r1 : Rd w A1 xs1) (_m1 : xs1.length ≤ maxLen) (b1 : ∀ x ∈ xs1, -9223372036854775808 ≤ x ∧ x ≤ 9223372036854775807) (A2 : Option Addr) (c2 : Nat) (xs2 : List Int) (r2 : Rd w A2 xs2) (_m2 : xs2.length ≤ maxLen) (b2 : ∀ x ∈ xs2, -9223372036854775808 ≤ x ∧ x ≤ 9223372036854775807) :
    Calls Try.prog 13 #[.slice A0 xs0.length c0, .slice A1 xs1.length c1, .slice A2 xs2.length c2] w fun e w' => e = .returned (.bool true) ∧ Below w.heap.size w w' := by
  have RA0 := Lib.hid r0
  have BA0 : AllI64 xs0 := b0
  clear r0 b0
  have RA1 := Lib.hid r1
  have BA1 : AllI64 xs1 := b1
  clear r1 b1
  have RA2 := Lib.hid r2
  have BA2 : AllI64 xs2 := b2
  clear r2 b2
  by_cases h0 : xs0.length ≤ 1048576
  · skip
    by_cases h1 : xs1.length ≤ 1048576
    · skip
      by_cases h2 : xs2.length ≤ 1048576
      · skip
        go_enter Try.func13, Try.ntmps13
        go_wp2_with fail
        refine (toIntS_any _ _ _ _ (RA0.out.below (Below.refl w.heap.size w)) h0).mono ?_
        rintro e w1 ⟨A_S0, c_S0, rfl, S0_0, B1⟩
        have L_S0 := fun k hk => (S0_0.lt k hk).1
        have C2 := (Below.refl w.heap.size w).trans (B1.mono (Below.refl w.heap.size w).size)
        go_wp2_with fail
        refine (toIntS_any _ _ _ _ (RA1.out.below C2) h1).mono ?_
        rintro e w3 ⟨A_S1, c_S1, rfl, S1_0, B3⟩
        have U_S0_S1 := fun k hk => (S0_0.lt k hk).2
        have L_S1 := fun k hk => (S1_0.lt k hk).1
        have C4 := C2.trans (B3.mono C2.size)
        have S0_4 := S0_0.below' B3
        go_wp2_with fail
        refine (toIntS_any _ _ _ _ (RA2.out.below C4) h2).mono ?_
        rintro e w5 ⟨A_S2, c_S2, rfl, S2_0, B5⟩
        have U_S0_S2 := fun k hk => (S0_4.lt k hk).2
        have U_S1_S2 := fun k hk => (S1_0.lt k hk).2
        have L_S2 := fun k hk => (S2_0.lt k hk).1
        have C6 := C4.trans (B5.mono C4.size)
        have S0_6 := S0_4.below' B5
        have S1_6 := S1_0.below' B5
        go_wp2_with fail
        refine (sResiduesCompare_c _ _ _ _ S0_6.rd S0_6.cap.1 h0 BA0 _ _ _ S1_6.rd S1_6.cap.1 h1 BA1 _ _ _ S2_0.rd S2_0.cap.1 h2 BA2).mono ?_
        rintro e w7 ⟨rfl, B7⟩
        have C8 := C6.trans (B7.mono C6.size)
        have S0_8 := S0_6.below' B7
        have S1_8 := S1_6.below' B7
        have S2_8 := S2_0.below' B7
        go_wp2_with fail
        refine (toIntS_any _ _ _ _ (RA0.out.below C8) h0).mono ?_
        rintro e w9 ⟨A_X0, c_X0, rfl, X0_0, B9⟩
        have L_X0 := fun k hk => (X0_0.lt k hk).1
        have C10 := C8.trans (B9.mono C8.size)
        go_wp2_with fail
        refine (toIntS_any _ _ _ _ (RA1.out.below C10) h1).mono ?_
        rintro e w11 ⟨A_X1, c_X1, rfl, X1_0, B11⟩
        have U_X0_X1 := fun k hk => (X0_0.lt k hk).2
        have L_X1 := fun k hk => (X1_0.lt k hk).1
        have C12 := C10.trans (B11.mono C10.size)
        have X0_12 := X0_0.below' B11
        go_wp2_with fail
        refine (toIntS_any _ _ _ _ (RA2.out.below C12) h2).mono ?_
        rintro e w13 ⟨A_X2, c_X2, rfl, X2_0, B13⟩
        have U_X0_X2 := fun k hk => (X0_12.lt k hk).2
        have U_X1_X2 := fun k hk => (X1_0.lt k hk).2
        have L_X2 := fun k hk => (X2_0.lt k hk).1
        have C14 := C12.trans (B13.mono C12.size)
        have X0_14 := X0_12.below' B13
        have X1_14 := X1_0.below' B13
        go_wp2_with fail
        refine (iResiduesCompare_c _ _ _ _ X0_14.rd X0_14.cap.1 h0 BA0 _ _ _ X1_14.rd X1_14.cap.1 h1 BA1 _ _ _ X2_0.rd X2_0.cap.1 h2 BA2).mono ?_
        rintro e w15 ⟨rfl, B15⟩
        have C16 := C14.trans (B15.mono C14.size)
        have X0_16 := X0_14.below' B15
        have X1_16 := X1_14.below' B15
        have X2_16 := X2_0.below' B15
        go_wp2_with fail
        refine (toIntS_any _ _ _ _ (RA0.out.below C16) h0).mono ?_
        rintro e w17 ⟨A_T0, c_T0, rfl, T0_0, B17⟩
        have U_X0_T0 := fun k hk => (X0_16.lt k hk).2
        have U_X1_T0 := fun k hk => (X1_16.lt k hk).2
        have U_X2_T0 := fun k hk => (X2_16.lt k hk).2
        have L_T0 := fun k hk => (T0_0.lt k hk).1
        have C18 := C16.trans (B17.mono C16.size)
        have X0_18 := X0_16.below' B17
        have X1_18 := X1_16.below' B17
        have X2_18 := X2_16.below' B17
        go_wp2_with fail
        refine (eqIntS_same _ _ _ _ _ _ X0_18.rd T0_0.rd (by omega)).mono ?_
        rintro e w19 ⟨rfl, n19_, rfl⟩
        have C20 := below_drewN C18 n19_
        have X0_20 := X0_18.drewN n19_
        have X1_20 := X1_18.drewN n19_
        have X2_20 := X2_18.drewN n19_
        have T0_20 := T0_0.drewN n19_
        go_wp2_with fail
        refine (toIntS_any _ _ _ _ (RA1.out.below C20) h1).mono ?_
        rintro e w21 ⟨A_T1, c_T1, rfl, T1_0, B21⟩
        have U_X0_T1 := fun k hk => (X0_20.lt k hk).2
        have U_X1_T1 := fun k hk => (X1_20.lt k hk).2
        have U_X2_T1 := fun k hk => (X2_20.lt k hk).2
        have L_T1 := fun k hk => (T1_0.lt k hk).1
        have C22 := C20.trans (B21.mono C20.size)
        have X0_22 := X0_20.below' B21
        have X1_22 := X1_20.below' B21
        have X2_22 := X2_20.below' B21
        go_wp2_with fail
        refine (eqIntS_same _ _ _ _ _ _ X1_22.rd T1_0.rd (by omega)).mono ?_
        rintro e w23 ⟨rfl, n23_, rfl⟩
        have C24 := below_drewN C22 n23_
        have X0_24 := X0_22.drewN n23_
        have X1_24 := X1_22.drewN n23_
        have X2_24 := X2_22.drewN n23_
        have T1_24 := T1_0.drewN n23_
        go_wp2_with fail
        refine (toIntS_any _ _ _ _ (RA2.out.below C24) h2).mono ?_
        rintro e w25 ⟨A_T2, c_T2, rfl, T2_0, B25⟩
        have U_X0_T2 := fun k hk => (X0_24.lt k hk).2
        have U_X1_T2 := fun k hk => (X1_24.lt k hk).2
        have U_X2_T2 := fun k hk => (X2_24.lt k hk).2
        have L_T2 := fun k hk => (T2_0.lt k hk).1
        have C26 := C24.trans (B25.mono C24.size)
        have X0_26 := X0_24.below' B25
        have X1_26 := X1_24.below' B25
        have X2_26 := X2_24.below' B25
        go_wp2_with fail
        refine (eqIntS_same _ _ _ _ _ _ X2_26.rd T2_0.rd (by omega)).mono ?_
        rintro e w27 ⟨rfl, n27_, rfl⟩
        have C28 := below_drewN C26 n27_
        have X0_28 := X0_26.drewN n27_
        have X1_28 := X1_26.drewN n27_
        have X2_28 := X2_26.drewN n27_
        have T2_28 := T2_0.drewN n27_
        go_wp2
        go_ret
        exact ⟨rfl, C28⟩
      · unfold maxLen at _m2
        go_enter Try.func13, Try.ntmps13
        go_wp2
        go_ret
        exact ⟨rfl, Below.refl _ _⟩
    · unfold maxLen at _m1
      go_enter Try.func13, Try.ntmps13
      go_wp2
      go_ret
      exact ⟨rfl, Below.refl _ _⟩
  · unfold maxLen at _m0
    go_enter Try.func13, Try.ntmps13
    go_wp2
    go_ret
    exact ⟨rfl, Below.refl _ _⟩

set_option maxRecDepth 100000 in
set_option maxHeartbeats 1600000 in
theorem lExtendResidues_law (w : World) (A0 : Option Addr) (c0 : Nat) (xs0 : List Int) (r0 : Rd w A0 xs0) (_m0 : xs0.length ≤ maxLen) (b0 : ∀ x ∈ xs0, -9223372036854775808 ≤ x ∧ x ≤ 9223372036854775807) (A1 : Option Addr) (c1 : Nat) (xs1 : List Int) (r1 : Rd w A1 xs1) (_m1 : xs1.length ≤ maxLen) (b1 : ∀ x ∈ xs1, -9223372036854775808 ≤ x ∧ x ≤ 9223372036854775807) (n2 : Int) (b2 : -9223372036854775808 ≤ n2 ∧ n2 ≤ 9223372036854775807) :
    Calls Try.prog 12 #[.slice A0 xs0.length c0, .slice A1 xs1.length c1, .int .i64 n2] w fun e w' => e = .returned (.bool true) ∧ Below w.heap.size w w' := by
  have RA0 := Lib.hid r0
  have BA0 : AllI64 xs0 := b0
  clear r0 b0
  have RA1 := Lib.hid r1
  have BA1 : AllI64 xs1 := b1
  clear r1 b1
  have BA2 : I64 n2 := b2
  clear b2
  by_cases h0 : xs0.length ≤ 1048576
  · skip
    by_cases h1 : xs1.length ≤ 1048576
    · skip
      go_enter Try.func12, Try.ntmps12
      go_wp2_with fail
      refine (toIntS_any _ _ _ _ (RA0.out.below (Below.refl w.heap.size w)) h0).mono ?_
      rintro e w1 ⟨A_S0, c_S0, rfl, S0_0, B1⟩
      have L_S0 := fun k hk => (S0_0.lt k hk).1
      have C2 := (Below.refl w.heap.size w).trans (B1.mono (Below.refl w.heap.size w).size)
      go_wp2_with fail
      refine (toIntS_any _ _ _ _ (RA1.out.below C2) h1).mono ?_
      rintro e w3 ⟨A_S1, c_S1, rfl, S1_0, B3⟩
      have U_S0_S1 := fun k hk => (S0_0.lt k hk).2
      have L_S1 := fun k hk => (S1_0.lt k hk).1
      have C4 := C2.trans (B3.mono C2.size)
      have S0_4 := S0_0.below' B3
      go_wp2_with fail
      refine (sExtendResidues_c _ _ _ _ S0_4.rd S0_4.cap.1 h0 BA0 _ _ _ S1_0.rd S1_0.cap.1 h1 BA1 _ BA2).mono ?_
      rintro e w5 ⟨rfl, B5⟩
      have C6 := C4.trans (B5.mono C4.size)
      have S0_6 := S0_4.below' B5
      have S1_6 := S1_0.below' B5
      go_wp2_with fail
      refine (toIntS_any _ _ _ _ (RA0.out.below C6) h0).mono ?_
      rintro e w7 ⟨A_X0, c_X0, rfl, X0_0, B7⟩
      have L_X0 := fun k hk => (X0_0.lt k hk).1
      have C8 := C6.trans (B7.mono C6.size)
      go_wp2_with fail
      refine (toIntS_any _ _ _ _ (RA1.out.below C8) h1).mono ?_
      rintro e w9 ⟨A_X1, c_X1, rfl, X1_0, B9⟩
      have U_X0_X1 := fun k hk => (X0_0.lt k hk).2
      have L_X1 := fun k hk => (X1_0.lt k hk).1
      have C10 := C8.trans (B9.mono C8.size)
      have X0_10 := X0_0.below' B9
      go_wp2_with fail
      refine (iExtendResidues_c _ _ _ _ X0_10.rd X0_10.cap.1 h0 BA0 _ _ _ X1_0.rd X1_0.cap.1 h1 BA1 _ BA2).mono ?_
      rintro e w11 ⟨rfl, B11⟩
      have C12 := C10.trans (B11.mono C10.size)
      have X0_12 := X0_10.below' B11
      have X1_12 := X1_0.below' B11
      go_wp2_with fail
      refine (toIntS_any _ _ _ _ (RA0.out.below C12) h0).mono ?_
      rintro e w13 ⟨A_T0, c_T0, rfl, T0_0, B13⟩
      have U_X0_T0 := fun k hk => (X0_12.lt k hk).2
      have U_X1_T0 := fun k hk => (X1_12.lt k hk).2
      have L_T0 := fun k hk => (T0_0.lt k hk).1
      have C14 := C12.trans (B13.mono C12.size)
      have X0_14 := X0_12.below' B13
      have X1_14 := X1_12.below' B13
      go_wp2_with fail
      refine (eqIntS_same _ _ _ _ _ _ X0_14.rd T0_0.rd (by omega)).mono ?_
      rintro e w15 ⟨rfl, n15_, rfl⟩
      have C16 := below_drewN C14 n15_
      have X0_16 := X0_14.drewN n15_
      have X1_16 := X1_14.drewN n15_
      have T0_16 := T0_0.drewN n15_
      go_wp2_with fail
      refine (toIntS_any _ _ _ _ (RA1.out.below C16) h1).mono ?_
      rintro e w17 ⟨A_T1, c_T1, rfl, T1_0, B17⟩
      have U_X0_T1 := fun k hk => (X0_16.lt k hk).2
      have U_X1_T1 := fun k hk => (X1_16.lt k hk).2
      have L_T1 := fun k hk => (T1_0.lt k hk).1
      have C18 := C16.trans (B17.mono C16.size)
      have X0_18 := X0_16.below' B17
      have X1_18 := X1_16.below' B17
      go_wp2_with fail
      refine (eqIntS_same _ _ _ _ _ _ X1_18.rd T1_0.rd (by omega)).mono ?_
      rintro e w19 ⟨rfl, n19_, rfl⟩
      have C20 := below_drewN C18 n19_
      have X0_20 := X0_18.drewN n19_
      have X1_20 := X1_18.drewN n19_
      have T1_20 := T1_0.drewN n19_
      go_wp2
      go_ret
      exact ⟨rfl, C20⟩
    · unfold maxLen at _m1
      go_enter Try.func12, Try.ntmps12
      go_wp2
      go_ret
      exact ⟨rfl, Below.refl _ _⟩
  · unfold maxLen at _m0
    go_enter Try.func12, Try.ntmps12
    go_wp2
    go_ret
    exact ⟨rfl, Below.refl _ _⟩

end Go.Proofs.Ytfdighaginmabaa
