/-
  WALKS: FewestCoins (both packages) and the law over it.
-/
import Derived.Test.YtlhabcpoemcpjaaC9
namespace Go.Proofs.Ytlhabcpoemcpjaa
open Go.RowKit

def fewestR (N : Int) (cs : List Int) : Int := if coinsB cs && inB N 0 400 then (fewT cs N.toNat).getD N.toNat 0 else -1
theorem fewestR_of {n : Nat} {cs : List Int} {x : Int} (h1 : coinsB cs = true) (h2 : inB (n : Int) 0 400 = true) (hx : (fewT cs n)[n]? = some x) : fewestR n cs = x := by
  simp only [fewestR, h1, h2, Bool.and_true, if_true, Int.toNat_natCast, List.getD, hx, Option.getD_some]
theorem fewestR_no1 {N : Int} {cs : List Int} (h : coinsB cs = false) : fewestR N cs = -1 := by simp [fewestR, h]
theorem fewestR_no2 {N : Int} {cs : List Int} (h : inB N 0 400 = false) : fewestR N cs = -1 := by simp [fewestR, h]

theorem sFewestCoins_c (w : World) (N : Int) (_hN : I64 N) (B : Option Addr) (c' : Nat) (cs : List Int) (hb : Rd w B cs) (hl : cs.length ≤ 1048576) (_hb : AllI64 cs) :
    Calls Try.prog 27 #[.int .i64 N, .slice B cs.length c'] w fun e w' => e = .returned (.int .i64 (fewestR N cs)) ∧ Below w.heap.size w w' := by
  have CO := sCoinsOk_any B c' cs w hb (by omega)
  rcases Bool.eq_false_or_eq_true (coinsB cs) with h | h
  · rw [h] at CO
    have CO2 := Lib.hid CO
    clear CO
    rcases Bool.eq_false_or_eq_true (inB N 0 400) with h2 | h2
    · obtain ⟨n0, n1⟩ := inB_true h2
      obtain ⟨n, rfl⟩ : ∃ n : Nat, N = n := ⟨N.toNat, by omega⟩
      go_enter Try.func27, Try.ntmps27
      go_wp2_with fail
      refine (CO2.out).mono ?_
      rintro e w' ⟨rfl, rfl⟩
      go_wp2_with fail
      refine (l01In_any _ _ _ _).mono ?_
      rintro e w' ⟨rfl, rfl⟩
      go_wp2_with fail
      refine (l11Fewest_any _ _ _ _ _ hb h (by omega)).mono ?_
      rintro e w1 ⟨A, c, rfl, O1, B1⟩
      obtain ⟨g, a, rfl, ha, hca, _, _⟩ := O1.at_ (k := n) (by rw [fewT_len]; omega)
      have HR := Lib.hid (fewestR_of h h2 ha.out)
      have c1 : (n : Int) < n + 1 := by omega
      clear ha O1
      go_wp2
      go_ret
      exact ⟨ret_int HR.out.symm, B1⟩
    · have HR := Lib.hid (fewestR_no2 (cs := cs) h2)
      go_enter Try.func27, Try.ntmps27
      go_wp2_with fail
      refine (CO2.out).mono ?_
      rintro e w' ⟨rfl, rfl⟩
      go_wp2_with fail
      refine (l01In_any _ _ _ _).mono ?_
      rintro e w' ⟨rfl, rfl⟩
      go_wp2
      go_ret
      exact ⟨ret_int HR.out.symm, Below.refl _ _⟩
  · rw [h] at CO
    have CO2 := Lib.hid CO
    have HR := Lib.hid (fewestR_no1 (N := N) h)
    clear CO
    go_enter Try.func27, Try.ntmps27
    go_wp2_with fail
    refine (CO2.out).mono ?_
    rintro e w' ⟨rfl, rfl⟩
    go_wp2
    go_ret
    exact ⟨ret_int HR.out.symm, Below.refl _ _⟩

theorem iFewestCoins_c (w : World) (N : Int) (_hN : I64 N) (B : Option Addr) (c' : Nat) (cs : List Int) (hb : Rd w B cs) (hl : cs.length ≤ 1048576) (_hb : AllI64 cs) :
    Calls Try.prog 28 #[.int .i64 N, .slice B cs.length c'] w fun e w' => e = .returned (.int .i64 (fewestR N cs)) ∧ Below w.heap.size w w' := by
  have CO := iCoinsOk_any B c' cs w hb (by omega)
  rcases Bool.eq_false_or_eq_true (coinsB cs) with h | h
  · rw [h] at CO
    have CO2 := Lib.hid CO
    clear CO
    rcases Bool.eq_false_or_eq_true (inB N 0 400) with h2 | h2
    · obtain ⟨n0, n1⟩ := inB_true h2
      obtain ⟨n, rfl⟩ : ∃ n : Nat, N = n := ⟨N.toNat, by omega⟩
      go_enter Try.func28, Try.ntmps28
      go_wp2_with fail
      refine (CO2.out).mono ?_
      rintro e w' ⟨rfl, rfl⟩
      go_wp2_with fail
      refine (within_any _ _ _ _).mono ?_
      rintro e w' ⟨rfl, rfl⟩
      go_wp2_with fail
      refine (fewest_any _ _ _ _ _ hb h (by omega)).mono ?_
      rintro e w1 ⟨A, c, rfl, O1, B1⟩
      obtain ⟨g, a, rfl, ha, hca, _, _⟩ := O1.at_ (k := n) (by rw [fewT_len]; omega)
      have HR := Lib.hid (fewestR_of h h2 ha.out)
      have c1 : (n : Int) < n + 1 := by omega
      clear ha O1
      go_wp2
      go_ret
      exact ⟨ret_int HR.out.symm, B1⟩
    · have HR := Lib.hid (fewestR_no2 (cs := cs) h2)
      go_enter Try.func28, Try.ntmps28
      go_wp2_with fail
      refine (CO2.out).mono ?_
      rintro e w' ⟨rfl, rfl⟩
      go_wp2_with fail
      refine (within_any _ _ _ _).mono ?_
      rintro e w' ⟨rfl, rfl⟩
      go_wp2
      go_ret
      exact ⟨ret_int HR.out.symm, Below.refl _ _⟩
  · rw [h] at CO
    have CO2 := Lib.hid CO
    have HR := Lib.hid (fewestR_no1 (N := N) h)
    clear CO
    go_enter Try.func28, Try.ntmps28
    go_wp2_with fail
    refine (CO2.out).mono ?_
    rintro e w' ⟨rfl, rfl⟩
    go_wp2
    go_ret
    exact ⟨ret_int HR.out.symm, Below.refl _ _⟩

set_option maxRecDepth 100000 in
set_option maxHeartbeats 1600000 in
theorem lFewestCoins_law (w : World) (n0 : Int) (b0 : -9223372036854775808 ≤ n0 ∧ n0 ≤ 9223372036854775807) (A1 : Option Addr) (c1 : Nat) (xs1 : List Int) (r1 : Rd w A1 xs1) (_m1 : xs1.length ≤ maxLen) (b1 : ∀ x ∈ xs1, -9223372036854775808 ≤ x ∧ x ≤ 9223372036854775807) :
    Calls Try.prog 8 #[.int .i64 n0, .slice A1 xs1.length c1] w fun e w' => e = .returned (.bool true) ∧ Below w.heap.size w w' := by
  have BA0 : I64 n0 := b0
  clear b0
  have RA1 := Lib.hid r1
  have BA1 : AllI64 xs1 := b1
  clear r1 b1
  by_cases h1 : xs1.length ≤ 1048576
  · skip
    go_enter Try.func8, Try.ntmps8
    go_wp2_with fail
    refine (toIntS_any _ _ _ _ (RA1.out.below (Below.refl w.heap.size w)) h1).mono ?_
    rintro e w1 ⟨A_S1, c_S1, rfl, S1_0, B1⟩
    have L_S1 := fun k hk => (S1_0.lt k hk).1
    have C2 := (Below.refl w.heap.size w).trans (B1.mono (Below.refl w.heap.size w).size)
    go_wp2_with fail
    refine (sFewestCoins_c _ _ BA0 _ _ _ S1_0.rd h1 BA1).mono ?_
    rintro e w3 ⟨rfl, B3⟩
    have C4 := C2.trans (B3.mono C2.size)
    have S1_4 := S1_0.below' B3
    go_wp2_with fail
    refine (toIntS_any _ _ _ _ (RA1.out.below C4) h1).mono ?_
    rintro e w5 ⟨A_X1, c_X1, rfl, X1_0, B5⟩
    have L_X1 := fun k hk => (X1_0.lt k hk).1
    have C6 := C4.trans (B5.mono C4.size)
    go_wp2_with fail
    refine (iFewestCoins_c _ _ BA0 _ _ _ X1_0.rd h1 BA1).mono ?_
    rintro e w7 ⟨rfl, B7⟩
    have C8 := C6.trans (B7.mono C6.size)
    have X1_8 := X1_0.below' B7
    go_wp2_with fail
    refine (toIntS_any _ _ _ _ (RA1.out.below C8) h1).mono ?_
    rintro e w9 ⟨A_T1, c_T1, rfl, T1_0, B9⟩
    have U_X1_T1 := fun k hk => (X1_8.lt k hk).2
    have L_T1 := fun k hk => (T1_0.lt k hk).1
    have C10 := C8.trans (B9.mono C8.size)
    have X1_10 := X1_8.below' B9
    go_wp2_with fail
    refine (eqIntS_same _ _ _ _ _ _ X1_10.rd T1_0.rd (by omega)).mono ?_
    rintro e w11 ⟨rfl, n11_, rfl⟩
    have C12 := below_drewN C10 n11_
    have X1_12 := X1_10.drewN n11_
    have T1_12 := T1_0.drewN n11_
    go_wp2
    go_ret
    exact ⟨rfl, C12⟩
  · unfold maxLen at _m1
    go_enter Try.func8, Try.ntmps8
    go_wp2
    go_ret
    exact ⟨rfl, Below.refl _ _⟩

end Go.Proofs.Ytlhabcpoemcpjaa
