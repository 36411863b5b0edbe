/-
  WALKS: CoinsValue (both packages) and the law over it.
-/
import Derived.Test.YtlhabcpoemcpjaaC2
namespace Go.Proofs.Ytlhabcpoemcpjaa
open Go.RowKit

/-- The sum of the first k products. -/
def dotK (ds cs : List Int) : Nat → Int
  | 0 => 0
  | k + 1 => dotK ds cs k + ds.getD k 0 * cs.getD k 0
theorem dotK_zero (ds cs : List Int) : dotK ds cs 0 = 0 := rfl
theorem dotK_step {ds cs : List Int} {k : Nat} {d c : Int} (hd : ds[k]? = some d) (hc : cs[k]? = some c) : dotK ds cs (k + 1) = dotK ds cs k + d * c := by
  show dotK ds cs k + ds.getD k 0 * cs.getD k 0 = _
  rw [getD_of hd, getD_of hc]
attribute [irreducible] dotK
def coinsValueR (ds cs : List Int) : Int := if coinsB cs && (ds.length == cs.length && allB ds 0 100000) then dotK ds cs ds.length else -1
theorem coinsValueR_of {ds cs : List Int} (h1 : coinsB cs = true) (h2 : ds.length = cs.length) (h3 : allB ds 0 100000 = true) : coinsValueR ds cs = dotK ds cs ds.length := by
  simp [coinsValueR, h1, h2, h3]
theorem coinsValueR_no1 {ds cs : List Int} (h1 : coinsB cs = false) : coinsValueR ds cs = -1 := by simp [coinsValueR, h1]
theorem coinsValueR_no2 {ds cs : List Int} (h1 : ¬ ds.length = cs.length) : coinsValueR ds cs = -1 := by simp [coinsValueR, h1]
theorem coinsValueR_no3 {ds cs : List Int} (h1 : allB ds 0 100000 = false) : coinsValueR ds cs = -1 := by simp [coinsValueR, h1]
theorem mul_bounds {d c : Int} (h0 : 0 ≤ d) (h1 : d ≤ 100000) (h2 : 1 ≤ c) (h3 : c ≤ 1000) : 0 ≤ d * c ∧ d * c ≤ 100000000 := by
  refine ⟨Int.mul_nonneg h0 (by omega), ?_⟩
  calc d * c ≤ 100000 * c := Int.mul_le_mul_of_nonneg_right h1 (by omega)
    _ ≤ 100000 * 1000 := Int.mul_le_mul_of_nonneg_left h3 (by omega)
    _ = 100000000 := by decide

set_option maxHeartbeats 1600000 in
theorem iCoinsValue_c (w : World) (D : Option Addr) (cd : Nat) (ds : List Int) (hd : Rd w D ds) (hld : ds.length ≤ 1048576) (_hbd : AllI64 ds) (B : Option Addr) (cb : Nat) (cs : List Int) (hb : Rd w B cs) (hlb : cs.length ≤ 1048576) (hbb : AllI64 cs) :
    Calls Try.prog 20 #[.slice D ds.length cd, .slice B cs.length cb] w fun e w' => e = .returned (.int .i64 (coinsValueR ds cs)) ∧ Below w.heap.size w w' := by
  have CO := iCoinsOk_any B cb cs w hb (by omega)
  rcases Bool.eq_false_or_eq_true (coinsB cs) with h | h
  · rw [h] at CO
    have CO2 := Lib.hid CO
    clear CO
    obtain ⟨p1, p2, p3, _, _⟩ := coinsB_parts h
    by_cases hl : ds.length = cs.length
    · have AW := allWithin_any D cd ds 0 100000 w hd (by omega)
      have tl : ((ds.length : Int) != (cs.length : Int)) = false := by simp; omega
      rcases Bool.eq_false_or_eq_true (allB ds 0 100000) with h3 | h3
      · rw [h3] at AW
        have AW2 := Lib.hid AW
        have HV := Lib.hid (coinsValueR_of h hl h3)
        have HX := Lib.hid p3
        have HD := Lib.hid (allB_true h3)
        have RD := Lib.hid hd
        have RB := Lib.hid hb
        have HL := Lib.hid hl
        clear AW p3 h3 hd hb hl
        go_enter Try.func20, Try.ntmps20
        go_wp2_with fail
        refine (CO2.out).mono ?_
        rintro e w' ⟨rfl, rfl⟩
        go_wp2_with fail
        refine (AW2.out).mono ?_
        rintro e w1 ⟨rfl, B1⟩
        go_wp2
        go_loop [5, 25] (fun v i => ∃ k : Nat, k ≤ ds.length ∧ i = .int .i64 k ∧ v = .int .i64 (dotK ds cs k) ∧ 0 ≤ dotK ds cs k ∧ dotK ds cs k ≤ 100000000 * k) (fun _ i => ds.length - (intOf i).toNat)
        case atStart => exact ⟨0, Nat.zero_le _, rfl, by rw [dotK_zero], by rw [dotK_zero]; omega, by rw [dotK_zero]; omega⟩
        case round =>
          obtain ⟨k, hk, rfl, rfl, q0, q1⟩ := hrel
          have eL := HL.out
          by_cases hlt : k < ds.length
          · obtain ⟨ad, d, rfl, hx, hc⟩ := (RD.out.below B1).at_ hlt
            obtain ⟨ad2, c, rfl, hx2, hc2⟩ := (RB.out.below B1).at_ (k := k) (by omega)
            have bd := HD.out d (List.mem_of_getElem? hx.out)
            have bc := HX.out c (List.mem_of_getElem? hx2.out)
            have bp := mul_bounds bd.1 bd.2 bc.1 bc.2
            have b1 := bp.1
            have b2 := bp.2
            have HS := Lib.hid (dotK_step hx.out hx2.out)
            have c1 : (k : Int) < cs.length := by omega
            have c0 : (0 : Int) ≤ k := by omega
            clear eL hx hx2
            obtain ⟨S, hS⟩ : ∃ S, dotK ds cs k = S := ⟨_, rfl⟩
            have HS2 : Hid (dotK ds cs (k + 1) = S + d * c) := by unfold Hid; rw [HS.out, hS]
            rw [hS] at q0 q1
            rw [hS]
            clear HS hS
            go_wp2
            go_round
            case rel => exact ⟨k + 1, by omega, by go_num, by rw [HS2.out], by rw [HS2.out]; omega, by rw [HS2.out]; omega⟩
            case measure => simp [intOf]; omega
          · have hkl : k = ds.length := by omega
            subst hkl
            clear q0 q1 eL
            go_wp2
            go_ret
            exact ⟨ret_int HV.out.symm, B1⟩
      · rw [h3] at AW
        have AW2 := Lib.hid AW
        have HV := Lib.hid (coinsValueR_no3 (cs := cs) h3)
        clear AW hl
        go_enter Try.func20, Try.ntmps20
        go_wp2_with fail
        refine (CO2.out).mono ?_
        rintro e w' ⟨rfl, rfl⟩
        go_wp2_with fail
        refine (AW2.out).mono ?_
        rintro e w1 ⟨rfl, B1⟩
        go_wp2
        go_ret
        exact ⟨ret_int HV.out.symm, B1⟩
    · have tl : ((ds.length : Int) != (cs.length : Int)) = true := by simp; omega
      have HV := Lib.hid (coinsValueR_no2 hl)
      go_enter Try.func20, Try.ntmps20
      go_wp2_with fail
      refine (CO2.out).mono ?_
      rintro e w' ⟨rfl, rfl⟩
      go_wp2
      go_ret
      exact ⟨ret_int HV.out.symm, Below.refl _ _⟩
  · rw [h] at CO
    have CO2 := Lib.hid CO
    clear CO
    have HV := Lib.hid (coinsValueR_no1 (ds := ds) h)
    go_enter Try.func20, Try.ntmps20
    go_wp2_with fail
    refine (CO2.out).mono ?_
    rintro e w' ⟨rfl, rfl⟩
    go_wp2
    go_ret
    exact ⟨ret_int HV.out.symm, Below.refl _ _⟩

set_option maxHeartbeats 1600000 in
theorem sCoinsValue_any (w : World) (D : Option Addr) (cd : Nat) (ds : List Int) (hd : Rd w D ds) (hld : ds.length ≤ 1048576) (B : Option Addr) (cb : Nat) (cs : List Int) (hb : Rd w B cs) (hlb : cs.length ≤ 1048576) :
    Calls Try.prog 19 #[.slice D ds.length cd, .slice B cs.length cb] w fun e w' => e = .returned (.int .i64 (coinsValueR ds cs)) ∧ w = w' := by
  have CO := sCoinsOk_any B cb cs w hb (by omega)
  rcases Bool.eq_false_or_eq_true (coinsB cs) with h | h
  · rw [h] at CO
    have CO2 := Lib.hid CO
    have HC := Lib.hid h
    clear CO
    obtain ⟨p1, p2, p3, _, _⟩ := coinsB_parts h
    by_cases hl : ds.length = cs.length
    · have tl : ((ds.length : Int) != (cs.length : Int)) = false := by simp; omega
      have HX := Lib.hid p3
      have RD := Lib.hid hd
      have RB := Lib.hid hb
      have HL := Lib.hid hl
      clear p3 hd hb hl h
      go_enter Try.func19, Try.ntmps19
      go_wp2_with fail
      refine (CO2.out).mono ?_
      rintro e w' ⟨rfl, rfl⟩
      go_wp2
      go_loop [5, 20] (fun v i => ∃ k : Nat, k ≤ ds.length ∧ i = .int .i64 k ∧ v = .int .i64 (dotK ds cs k) ∧ 0 ≤ dotK ds cs k ∧ dotK ds cs k ≤ 100000000 * k ∧ Hid (allB (ds.take k) 0 100000 = true)) (fun _ i => ds.length - (intOf i).toNat)
      case atStart => exact ⟨0, Nat.zero_le _, rfl, by rw [dotK_zero], by rw [dotK_zero]; omega, by rw [dotK_zero]; omega, (rfl : allB (ds.take 0) 0 100000 = true)⟩
      case round =>
        obtain ⟨k, hk, rfl, rfl, q0, q1, hall⟩ := hrel
        have eL := HL.out
        by_cases hlt : k < ds.length
        · obtain ⟨ad, d, rfl, hx, hc⟩ := RD.out.at_ hlt
          obtain ⟨ad2, c, rfl, hx2, hc2⟩ := RB.out.at_ (k := k) (by omega)
          have HI := Lib.hid hx.out
          obtain ⟨S, hS⟩ : ∃ S, dotK ds cs k = S := ⟨_, rfl⟩
          rcases Bool.eq_false_or_eq_true (inB d 0 100000) with h | h
          · have bd := inB_true h
            have bc := HX.out c (List.mem_of_getElem? hx2.out)
            have bp := mul_bounds bd.1 bd.2 bc.1 bc.2
            have b1 := bp.1
            have b2 := bp.2
            have HS := Lib.hid (dotK_step hx.out hx2.out)
            have c1 : (k : Int) < cs.length := by omega
            have c0 : (0 : Int) ≤ k := by omega
            have HS2 : Hid (dotK ds cs (k + 1) = S + d * c) := by unfold Hid; rw [HS.out, hS]
            have HA : Hid (allB (ds.take (k + 1)) 0 100000 = true) := by unfold Hid; rw [allB_take_succ _ _ _ _ _ hx.out, hall.out, h]; rfl
            rw [hS] at q0 q1
            rw [hS]
            clear HS hS eL hx hx2
            go_wp2_with (go_at_call 39; refine (l01In_any _ _ _ _).mono ?_; rintro e w' ⟨rfl, rfl⟩)
            go_round
            case rel => exact ⟨k + 1, by omega, by go_num, by rw [HS2.out], by rw [HS2.out]; omega, by rw [HS2.out]; omega, HA⟩
            case measure => simp [intOf]; omega
          · have HV := Lib.hid (coinsValueR_no3 (cs := cs) (allB_not hx.out h))
            rw [hS] at q0 q1
            rw [hS]
            clear hS eL hx hx2
            go_wp2_with (go_at_call 39; refine (l01In_any _ _ _ _).mono ?_; rintro e w' ⟨rfl, rfl⟩)
            go_ret
            exact ⟨ret_int HV.out.symm, rfl⟩
        · have hkl : k = ds.length := by omega
          subst hkl
          have HV : Hid (coinsValueR ds cs = dotK ds cs ds.length) := by
            have h3 := hall.out
            rw [List.take_length] at h3
            exact coinsValueR_of HC.out HL.out h3
          clear q0 q1 eL
          go_wp2
          go_ret
          exact ⟨ret_int HV.out.symm, rfl⟩
    · have tl : ((ds.length : Int) != (cs.length : Int)) = true := by simp; omega
      have HV := Lib.hid (coinsValueR_no2 hl)
      go_enter Try.func19, Try.ntmps19
      go_wp2_with fail
      refine (CO2.out).mono ?_
      rintro e w' ⟨rfl, rfl⟩
      go_wp2
      go_ret
      exact ⟨ret_int HV.out.symm, rfl⟩
  · rw [h] at CO
    have CO2 := Lib.hid CO
    clear CO
    have HV := Lib.hid (coinsValueR_no1 (ds := ds) h)
    go_enter Try.func19, Try.ntmps19
    go_wp2_with fail
    refine (CO2.out).mono ?_
    rintro e w' ⟨rfl, rfl⟩
    go_wp2
    go_ret
    exact ⟨ret_int HV.out.symm, rfl⟩
theorem sCoinsValue_c (w : World) (D : Option Addr) (cd : Nat) (ds : List Int) (hd : Rd w D ds) (hld : ds.length ≤ 1048576) (_hbd : AllI64 ds) (B : Option Addr) (cb : Nat) (cs : List Int) (hb : Rd w B cs) (hlb : cs.length ≤ 1048576) (_hbb : AllI64 cs) :
    Calls Try.prog 19 #[.slice D ds.length cd, .slice B cs.length cb] w fun e w' => e = .returned (.int .i64 (coinsValueR ds cs)) ∧ Below w.heap.size w w' :=
  (sCoinsValue_any w D cd ds hd hld B cb cs hb hlb).mono fun _ _ ⟨h, e⟩ => ⟨h, e ▸ Below.refl _ _⟩

set_option maxRecDepth 100000 in
set_option maxHeartbeats 1600000 in
theorem lCoinsValue_law (w : World) (A0 : Option Addr) (c0 : Nat) (xs0 : List Int) (r0 : Rd w A0 xs0) (_m0 : xs0.length ≤ maxLen) (b0 : ∀ x ∈ xs0, -9223372036854775808 ≤ x ∧ x ≤ 9223372036854775807) (A1 : Option Addr) (c1 : Nat) (xs1 : List Int) (r1 : Rd w A1 xs1) (_m1 : xs1.length ≤ maxLen) (b1 : ∀ x ∈ xs1, -9223372036854775808 ≤ x ∧ x ≤ 9223372036854775807) :
    Calls Try.prog 5 #[.slice A0 xs0.length c0, .slice A1 xs1.length c1] w fun e w' => e = .returned (.bool true) ∧ Below w.heap.size w w' := by
  have RA0 := Lib.hid r0
  have BA0 : AllI64 xs0 := b0
  clear r0 b0
  have RA1 := Lib.hid r1
  have BA1 : AllI64 xs1 := b1
  clear r1 b1
  by_cases h0 : xs0.length ≤ 1048576
  · skip
    by_cases h1 : xs1.length ≤ 1048576
    · skip
      go_enter Try.func5, Try.ntmps5
      go_wp2_with fail
      refine (toIntS_any _ _ _ _ (RA0.out.below (Below.refl w.heap.size w)) h0).mono ?_
      rintro e w1 ⟨A_S0, c_S0, rfl, S0_0, B1⟩
      have L_S0 := fun k hk => (S0_0.lt k hk).1
      have C2 := (Below.refl w.heap.size w).trans (B1.mono (Below.refl w.heap.size w).size)
      go_wp2_with fail
      refine (toIntS_any _ _ _ _ (RA1.out.below C2) h1).mono ?_
      rintro e w3 ⟨A_S1, c_S1, rfl, S1_0, B3⟩
      have U_S0_S1 := fun k hk => (S0_0.lt k hk).2
      have L_S1 := fun k hk => (S1_0.lt k hk).1
      have C4 := C2.trans (B3.mono C2.size)
      have S0_4 := S0_0.below' B3
      go_wp2_with fail
      refine (sCoinsValue_c _ _ _ _ S0_4.rd h0 BA0 _ _ _ S1_0.rd h1 BA1).mono ?_
      rintro e w5 ⟨rfl, B5⟩
      have C6 := C4.trans (B5.mono C4.size)
      have S0_6 := S0_4.below' B5
      have S1_6 := S1_0.below' B5
      go_wp2_with fail
      refine (toIntS_any _ _ _ _ (RA0.out.below C6) h0).mono ?_
      rintro e w7 ⟨A_X0, c_X0, rfl, X0_0, B7⟩
      have L_X0 := fun k hk => (X0_0.lt k hk).1
      have C8 := C6.trans (B7.mono C6.size)
      go_wp2_with fail
      refine (toIntS_any _ _ _ _ (RA1.out.below C8) h1).mono ?_
      rintro e w9 ⟨A_X1, c_X1, rfl, X1_0, B9⟩
      have U_X0_X1 := fun k hk => (X0_0.lt k hk).2
      have L_X1 := fun k hk => (X1_0.lt k hk).1
      have C10 := C8.trans (B9.mono C8.size)
      have X0_10 := X0_0.below' B9
      go_wp2_with fail
      refine (iCoinsValue_c _ _ _ _ X0_10.rd h0 BA0 _ _ _ X1_0.rd h1 BA1).mono ?_
      rintro e w11 ⟨rfl, B11⟩
      have C12 := C10.trans (B11.mono C10.size)
      have X0_12 := X0_10.below' B11
      have X1_12 := X1_0.below' B11
      go_wp2_with fail
      refine (toIntS_any _ _ _ _ (RA0.out.below C12) h0).mono ?_
      rintro e w13 ⟨A_T0, c_T0, rfl, T0_0, B13⟩
      have U_X0_T0 := fun k hk => (X0_12.lt k hk).2
      have U_X1_T0 := fun k hk => (X1_12.lt k hk).2
      have L_T0 := fun k hk => (T0_0.lt k hk).1
      have C14 := C12.trans (B13.mono C12.size)
      have X0_14 := X0_12.below' B13
      have X1_14 := X1_12.below' B13
      go_wp2_with fail
      refine (eqIntS_same _ _ _ _ _ _ X0_14.rd T0_0.rd (by omega)).mono ?_
      rintro e w15 ⟨rfl, n15_, rfl⟩
      have C16 := below_drewN C14 n15_
      have X0_16 := X0_14.drewN n15_
      have X1_16 := X1_14.drewN n15_
      have T0_16 := T0_0.drewN n15_
      go_wp2_with fail
      refine (toIntS_any _ _ _ _ (RA1.out.below C16) h1).mono ?_
      rintro e w17 ⟨A_T1, c_T1, rfl, T1_0, B17⟩
      have U_X0_T1 := fun k hk => (X0_16.lt k hk).2
      have U_X1_T1 := fun k hk => (X1_16.lt k hk).2
      have L_T1 := fun k hk => (T1_0.lt k hk).1
      have C18 := C16.trans (B17.mono C16.size)
      have X0_18 := X0_16.below' B17
      have X1_18 := X1_16.below' B17
      go_wp2_with fail
      refine (eqIntS_same _ _ _ _ _ _ X1_18.rd T1_0.rd (by omega)).mono ?_
      rintro e w19 ⟨rfl, n19_, rfl⟩
      have C20 := below_drewN C18 n19_
      have X0_20 := X0_18.drewN n19_
      have X1_20 := X1_18.drewN n19_
      have T1_20 := T1_0.drewN n19_
      go_wp2
      go_ret
      exact ⟨rfl, C20⟩
    · unfold maxLen at _m1
      go_enter Try.func5, Try.ntmps5
      go_wp2
      go_ret
      exact ⟨rfl, Below.refl _ _⟩
  · unfold maxLen at _m0
    go_enter Try.func5, Try.ntmps5
    go_wp2
    go_ret
    exact ⟨rfl, Below.refl _ _⟩

end Go.Proofs.Ytlhabcpoemcpjaa
