/-
  WALKS: GarnerDigits and FromResidues (both packages) and the laws over them.
-/
import Derived.Test.YtfdighaginmabaaR6
namespace Go.Proofs.Ytfdighaginmabaa
open Go.RowKit


/-- What follows from valid residues. -/
theorem gar_facts {xs ms : List Int} (h : residuesB xs ms = true) : (garL xs ms).length = ms.length ∧ (∀ (i : Nat) (d r : Int), (garL xs ms)[i]? = some d → ms[i]? = some r → 0 ≤ d ∧ d ≤ r - 1) ∧ prodI ms ≤ 4611686018427387904 ∧ ms.length ≤ 1099511627776 := by
  obtain ⟨q1, q2, q3⟩ := residuesB_parts h
  have := moduliB_parts q1
  have hp := prod_dec q1
  refine ⟨garUp_length _ _ _, fun i d r hd hr => ?_, by omega, by omega⟩
  obtain ⟨r', hr', hd'⟩ := garUp_digit' q1 (Nat.le_refl _) hd
  rw [hr] at hr'
  obtain rfl := Option.some.inj hr'
  omega

def garR (xs ms : List Int) : List Int := if residuesB xs ms then garL xs ms else []
theorem garR_of {xs ms : List Int} (h : residuesB xs ms = true) : garR xs ms = garL xs ms := by simp [garR, h]
theorem garR_no {xs ms : List Int} (h : residuesB xs ms = false) : garR xs ms = [] := by simp [garR, h]
theorem garR_len (xs ms : List Int) : (garR xs ms).length ≤ 1099511627776 := by
  unfold garR
  split
  · rename_i h
    have := gar_facts h
    omega
  · simp
def fromR (xs ms : List Int) : Int := if residuesB xs ms then mvL (garL xs ms) ms else -1
theorem fromR_of {xs ms : List Int} (h : residuesB xs ms = true) : fromR xs ms = mvL (garL xs ms) ms := by simp [fromR, h]
theorem fromR_no {xs ms : List Int} (h : residuesB xs ms = false) : fromR xs ms = -1 := by simp [fromR, h]
theorem fromR_bound (xs ms : List Int) : -1 ≤ fromR xs ms ∧ fromR xs ms ≤ 1000000000000 := by
  unfold fromR
  split
  · rename_i h
    have h2 := (residuesB_parts h).1
    have := garUp_value (xs := xs) h2 ms.length (Nat.le_refl _)
    have := prodUp_in h2 ms.length
    unfold garL
    omega
  · omega
theorem fromR_nn {xs ms : List Int} (h : residuesB xs ms = true) : 0 ≤ fromR xs ms := by
  have := garUp_value (xs := xs) (residuesB_parts h).1 ms.length (Nat.le_refl _)
  rw [fromR_of h]
  exact this.1


set_option maxHeartbeats 1600000 in
theorem iGarnerDigits_c (w : World) (A : Option Addr) (c : Nat) (xs : List Int) (ha : Rd w A xs) (_k1 : xs.length ≤ c) (hl : xs.length ≤ 1048576) (_h1 : AllI64 xs) (B : Option Addr) (c' : Nat) (ms : List Int) (hb : Rd w B ms) (hcap : ms.length ≤ c') (hl' : ms.length ≤ 1048576) (_h2 : AllI64 ms) :
    Calls Try.prog 36 #[.slice A xs.length c, .slice B ms.length c'] w fun e w' => ∃ A c, e = .returned (.slice A (garR xs ms).length c) ∧ Ow w' w.heap.size (.slice A (garR xs ms).length c) (garR xs ms) ∧ Below w.heap.size w w' := by
  have W1 := Lib.hid (iResiduesOk_any A B c c' xs ms w ha hb hcap (by omega) (by omega))
  rcases Bool.eq_false_or_eq_true (residuesB xs ms) with h | h
  · rw [h] at W1
    have HR := Lib.hid (garR_of h)
    have HG := Lib.hid (fun (u : World) (B1 : Below w.heap.size w u) => garner_any A B c c' xs ms u (ha.below B1) (hb.below B1) h)
    have HLn := Lib.hid (gar_facts h).1
    clear h
    go_enter Try.func36, Try.ntmps36
    go_wp2_with fail
    refine (W1.out).mono ?_
    rintro e w1 ⟨rfl, B1⟩
    go_wp2_with fail
    refine (HG.out _ B1).mono ?_
    rintro e w2 ⟨A2, c2, rfl, O, B2⟩
    go_wp2
    go_ret
    exact ⟨A2, c2, by rw [HR.out, HLn.out]; rfl, by rw [HR.out, HLn.out]; exact O.more B1.size, B1.trans (B2.mono B1.size)⟩
  · rw [h] at W1
    have HR := Lib.hid (garR_no h)
    clear h
    go_enter Try.func36, Try.ntmps36
    go_wp2_with fail
    refine (W1.out).mono ?_
    rintro e w1 ⟨rfl, B1⟩
    go_wp2
    go_ret
    exact ⟨none, 0, by rw [HR.out]; rfl, by rw [HR.out]; exact Ow.nil_ _ _, B1⟩


set_option maxHeartbeats 1600000 in
theorem iFromResidues_c (w : World) (A : Option Addr) (c : Nat) (xs : List Int) (ha : Rd w A xs) (_k1 : xs.length ≤ c) (hl : xs.length ≤ 1048576) (_h1 : AllI64 xs) (B : Option Addr) (c' : Nat) (ms : List Int) (hb : Rd w B ms) (hcap : ms.length ≤ c') (hl' : ms.length ≤ 1048576) (_h2 : AllI64 ms) :
    Calls Try.prog 34 #[.slice A xs.length c, .slice B ms.length c'] w fun e w' => e = .returned (.int .i64 (fromR xs ms)) ∧ Below w.heap.size w w' := by
  have W1 := Lib.hid (iResiduesOk_any A B c c' xs ms w ha hb hcap (by omega) (by omega))
  rcases Bool.eq_false_or_eq_true (residuesB xs ms) with h | h
  · rw [h] at W1
    have HR := Lib.hid (fromR_of h)
    have HG := Lib.hid (fun (u : World) (B1 : Below w.heap.size w u) => garner_any A B c c' xs ms u (ha.below B1) (hb.below B1) h)
    obtain ⟨g1, g2, g3, g4⟩ := gar_facts h
    have HB := Lib.hid hb
    have HG1 := Lib.hid g1
    have HG2 := Lib.hid g2
    clear h g2
    go_enter Try.func34, Try.ntmps34
    go_wp2_with fail
    refine (W1.out).mono ?_
    rintro e w1 ⟨rfl, B1⟩
    go_wp2_with fail
    refine (HG.out _ B1).mono ?_
    rintro e w2 ⟨A2, c2, rfl, O, B2⟩
    have B3 := B1.trans (B2.mono B1.size)
    go_wp2_with fail
    refine (mixedValue_any _ _ _ _ _ _ _ _ O.rd (HB.out.below B3) HG1.out g4 HG1.out HG2.out g3).mono ?_
    rintro e w3 ⟨rfl, n3, rfl⟩
    go_wp2
    go_ret
    exact ⟨ret_int HR.out.symm, below_drewN B3 n3⟩
  · rw [h] at W1
    have HR := Lib.hid (fromR_no h)
    clear h
    go_enter Try.func34, Try.ntmps34
    go_wp2_with fail
    refine (W1.out).mono ?_
    rintro e w1 ⟨rfl, B1⟩
    go_wp2
    go_ret
    exact ⟨ret_int HR.out.symm, B1⟩


set_option maxHeartbeats 1600000 in
theorem sGarnerDigits_c (w : World) (A : Option Addr) (c : Nat) (xs : List Int) (ha : Rd w A xs) (_k1 : xs.length ≤ c) (hl : xs.length ≤ 1048576) (_h1 : AllI64 xs) (B : Option Addr) (c' : Nat) (ms : List Int) (hb : Rd w B ms) (hcap : ms.length ≤ c') (hl' : ms.length ≤ 1048576) (_h2 : AllI64 ms) :
    Calls Try.prog 35 #[.slice A xs.length c, .slice B ms.length c'] w fun e w' => ∃ A c, e = .returned (.slice A (garR xs ms).length c) ∧ Ow w' w.heap.size (.slice A (garR xs ms).length c) (garR xs ms) ∧ Below w.heap.size w w' := by
  have W1 := Lib.hid (sResiduesOk_any A B c c' xs ms w ha hb hcap (by omega) (by omega))
  rcases Bool.eq_false_or_eq_true (residuesB xs ms) with h | h
  · rw [h] at W1
    have HR := Lib.hid (garR_of h)
    have HG := Lib.hid (fun (u : World) (B1 : Below w.heap.size w u) => l13Garner_any A B c c' xs ms u (ha.below B1) (hb.below B1) h)
    have HLn := Lib.hid (gar_facts h).1
    clear h
    go_enter Try.func35, Try.ntmps35
    go_wp2_with fail
    refine (W1.out).mono ?_
    rintro e w1 ⟨rfl, rfl⟩
    have B1 : Below w.heap.size w w := Below.refl _ _
    go_wp2_with fail
    refine (HG.out _ B1).mono ?_
    rintro e w2 ⟨A2, c2, rfl, O, B2⟩
    go_wp2
    go_ret
    exact ⟨A2, c2, by rw [HR.out, HLn.out]; rfl, by rw [HR.out, HLn.out]; exact O.more B1.size, B1.trans (B2.mono B1.size)⟩
  · rw [h] at W1
    have HR := Lib.hid (garR_no h)
    clear h
    go_enter Try.func35, Try.ntmps35
    go_wp2_with fail
    refine (W1.out).mono ?_
    rintro e w1 ⟨rfl, rfl⟩
    have B1 : Below w.heap.size w w := Below.refl _ _
    go_wp2
    go_ret
    exact ⟨none, 0, by rw [HR.out]; rfl, by rw [HR.out]; exact Ow.nil_ _ _, B1⟩


set_option maxHeartbeats 1600000 in
theorem sFromResidues_c (w : World) (A : Option Addr) (c : Nat) (xs : List Int) (ha : Rd w A xs) (_k1 : xs.length ≤ c) (hl : xs.length ≤ 1048576) (_h1 : AllI64 xs) (B : Option Addr) (c' : Nat) (ms : List Int) (hb : Rd w B ms) (hcap : ms.length ≤ c') (hl' : ms.length ≤ 1048576) (_h2 : AllI64 ms) :
    Calls Try.prog 33 #[.slice A xs.length c, .slice B ms.length c'] w fun e w' => e = .returned (.int .i64 (fromR xs ms)) ∧ Below w.heap.size w w' := by
  have W1 := Lib.hid (sResiduesOk_any A B c c' xs ms w ha hb hcap (by omega) (by omega))
  rcases Bool.eq_false_or_eq_true (residuesB xs ms) with h | h
  · rw [h] at W1
    have HR := Lib.hid (fromR_of h)
    have HG := Lib.hid (fun (u : World) (B1 : Below w.heap.size w u) => l13Garner_any A B c c' xs ms u (ha.below B1) (hb.below B1) h)
    obtain ⟨g1, g2, g3, g4⟩ := gar_facts h
    have HB := Lib.hid hb
    have HG1 := Lib.hid g1
    have HG2 := Lib.hid g2
    clear h g2
    go_enter Try.func33, Try.ntmps33
    go_wp2_with fail
    refine (W1.out).mono ?_
    rintro e w1 ⟨rfl, rfl⟩
    have B1 : Below w.heap.size w w := Below.refl _ _
    go_wp2_with fail
    refine (HG.out _ B1).mono ?_
    rintro e w2 ⟨A2, c2, rfl, O, B2⟩
    have B3 := B1.trans (B2.mono B1.size)
    go_wp2_with fail
    refine (l07Value_any _ _ _ _ _ _ _ _ O.rd (HB.out.below B3) HG1.out g4 HG1.out HG2.out g3).mono ?_
    rintro e w3 ⟨rfl, n3, rfl⟩
    go_wp2
    go_ret
    exact ⟨ret_int HR.out.symm, below_drewN B3 n3⟩
  · rw [h] at W1
    have HR := Lib.hid (fromR_no h)
    clear h
    go_enter Try.func33, Try.ntmps33
    go_wp2_with fail
    refine (W1.out).mono ?_
    rintro e w1 ⟨rfl, rfl⟩
    have B1 : Below w.heap.size w w := Below.refl _ _
    go_wp2
    go_ret
    exact ⟨ret_int HR.out.symm, B1⟩

set_option maxRecDepth 100000 in
set_option maxHeartbeats 1600000 in
theorem lGarnerDigits_law (w : World) (A0 : Option Addr) (c0 : Nat) (xs0 : List Int) (r0 : Rd w A0 xs0) (_m0 : xs0.length ≤ maxLen) (b0 : ∀ x ∈ xs0, -9223372036854775808 ≤ x ∧ x ≤ 9223372036854775807) (A1 : Option Addr) (c1 : Nat) (xs1 : List Int) (r1 : Rd w A1 xs1) (_m1 : xs1.length ≤ maxLen) (b1 : ∀ x ∈ xs1, -9223372036854775808 ≤ x ∧ x ≤ 9223372036854775807) :
    Calls Try.prog 11 #[.slice A0 xs0.length c0, .slice A1 xs1.length c1] w fun e w' => e = .returned (.bool true) ∧ Below w.heap.size w w' := by
  have RA0 := Lib.hid r0
  have BA0 : AllI64 xs0 := b0
  clear r0 b0
  have RA1 := Lib.hid r1
  have BA1 : AllI64 xs1 := b1
  clear r1 b1
  by_cases h0 : xs0.length ≤ 1048576
  · skip
    by_cases h1 : xs1.length ≤ 1048576
    · skip
      go_enter Try.func11, Try.ntmps11
      go_wp2_with fail
      refine (toIntS_any _ _ _ _ (RA0.out.below (Below.refl w.heap.size w)) h0).mono ?_
      rintro e w1 ⟨A_S0, c_S0, rfl, S0_0, B1⟩
      have L_S0 := fun k hk => (S0_0.lt k hk).1
      have C2 := (Below.refl w.heap.size w).trans (B1.mono (Below.refl w.heap.size w).size)
      go_wp2_with fail
      refine (toIntS_any _ _ _ _ (RA1.out.below C2) h1).mono ?_
      rintro e w3 ⟨A_S1, c_S1, rfl, S1_0, B3⟩
      have U_S0_S1 := fun k hk => (S0_0.lt k hk).2
      have L_S1 := fun k hk => (S1_0.lt k hk).1
      have C4 := C2.trans (B3.mono C2.size)
      have S0_4 := S0_0.below' B3
      go_wp2_with fail
      refine (sGarnerDigits_c _ _ _ _ S0_4.rd S0_4.cap.1 h0 BA0 _ _ _ S1_0.rd S1_0.cap.1 h1 BA1).mono ?_
      rintro e w5 ⟨A_W0, c_W0, rfl, W0_0, B5⟩
      have U_S0_W0 := fun k hk => (S0_4.lt k hk).2
      have U_S1_W0 := fun k hk => (S1_0.lt k hk).2
      have L_W0 := fun k hk => (W0_0.lt k hk).1
      have C6 := C4.trans (B5.mono C4.size)
      have S0_6 := S0_4.below' B5
      have S1_6 := S1_0.below' B5
      go_wp2_with fail
      refine (toIntS_any _ _ _ _ (RA0.out.below C6) h0).mono ?_
      rintro e w7 ⟨A_X0, c_X0, rfl, X0_0, B7⟩
      have U_W0_X0 := fun k hk => (W0_0.lt k hk).2
      have L_X0 := fun k hk => (X0_0.lt k hk).1
      have C8 := C6.trans (B7.mono C6.size)
      have W0_8 := W0_0.below' B7
      go_wp2_with fail
      refine (toIntS_any _ _ _ _ (RA1.out.below C8) h1).mono ?_
      rintro e w9 ⟨A_X1, c_X1, rfl, X1_0, B9⟩
      have U_W0_X1 := fun k hk => (W0_8.lt k hk).2
      have U_X0_X1 := fun k hk => (X0_0.lt k hk).2
      have L_X1 := fun k hk => (X1_0.lt k hk).1
      have C10 := C8.trans (B9.mono C8.size)
      have W0_10 := W0_8.below' B9
      have X0_10 := X0_0.below' B9
      go_wp2_with fail
      refine (iGarnerDigits_c _ _ _ _ X0_10.rd X0_10.cap.1 h0 BA0 _ _ _ X1_0.rd X1_0.cap.1 h1 BA1).mono ?_
      rintro e w11 ⟨A_G0, c_G0, rfl, G0_0, B11⟩
      have U_W0_G0 := fun k hk => (W0_10.lt k hk).2
      have U_X0_G0 := fun k hk => (X0_10.lt k hk).2
      have U_X1_G0 := fun k hk => (X1_0.lt k hk).2
      have L_G0 := fun k hk => (G0_0.lt k hk).1
      have C12 := C10.trans (B11.mono C10.size)
      have W0_12 := W0_10.below' B11
      have X0_12 := X0_10.below' B11
      have X1_12 := X1_0.below' B11
      go_wp2_with fail
      refine (eqIntS_same _ _ _ _ _ _ G0_0.rd W0_12.rd ((garR_len xs0 xs1))).mono ?_
      rintro e w13 ⟨rfl, n13_, rfl⟩
      have C14 := below_drewN C12 n13_
      have W0_14 := W0_12.drewN n13_
      have X0_14 := X0_12.drewN n13_
      have X1_14 := X1_12.drewN n13_
      have G0_14 := G0_0.drewN n13_
      go_wp2_with fail
      refine (toIntS_any _ _ _ _ (RA0.out.below C14) h0).mono ?_
      rintro e w15 ⟨A_T0, c_T0, rfl, T0_0, B15⟩
      have U_W0_T0 := fun k hk => (W0_14.lt k hk).2
      have U_X0_T0 := fun k hk => (X0_14.lt k hk).2
      have U_X1_T0 := fun k hk => (X1_14.lt k hk).2
      have U_G0_T0 := fun k hk => (G0_14.lt k hk).2
      have L_T0 := fun k hk => (T0_0.lt k hk).1
      have C16 := C14.trans (B15.mono C14.size)
      have W0_16 := W0_14.below' B15
      have X0_16 := X0_14.below' B15
      have X1_16 := X1_14.below' B15
      have G0_16 := G0_14.below' B15
      go_wp2_with fail
      refine (eqIntS_same _ _ _ _ _ _ X0_16.rd T0_0.rd (by omega)).mono ?_
      rintro e w17 ⟨rfl, n17_, rfl⟩
      have C18 := below_drewN C16 n17_
      have W0_18 := W0_16.drewN n17_
      have X0_18 := X0_16.drewN n17_
      have X1_18 := X1_16.drewN n17_
      have G0_18 := G0_16.drewN n17_
      have T0_18 := T0_0.drewN n17_
      go_wp2_with fail
      refine (toIntS_any _ _ _ _ (RA1.out.below C18) h1).mono ?_
      rintro e w19 ⟨A_T1, c_T1, rfl, T1_0, B19⟩
      have U_W0_T1 := fun k hk => (W0_18.lt k hk).2
      have U_X0_T1 := fun k hk => (X0_18.lt k hk).2
      have U_X1_T1 := fun k hk => (X1_18.lt k hk).2
      have U_G0_T1 := fun k hk => (G0_18.lt k hk).2
      have L_T1 := fun k hk => (T1_0.lt k hk).1
      have C20 := C18.trans (B19.mono C18.size)
      have W0_20 := W0_18.below' B19
      have X0_20 := X0_18.below' B19
      have X1_20 := X1_18.below' B19
      have G0_20 := G0_18.below' B19
      go_wp2_with fail
      refine (eqIntS_same _ _ _ _ _ _ X1_20.rd T1_0.rd (by omega)).mono ?_
      rintro e w21 ⟨rfl, n21_, rfl⟩
      have C22 := below_drewN C20 n21_
      have W0_22 := W0_20.drewN n21_
      have X0_22 := X0_20.drewN n21_
      have X1_22 := X1_20.drewN n21_
      have G0_22 := G0_20.drewN n21_
      have T1_22 := T1_0.drewN n21_
      go_wp2_with fail
      refine (markIntS_any _ _ _ _ _ _ X0_22 (by omega) (by omega) (by omega)).mono ?_
      rintro e w23 ⟨rfl, X0_23, G23⟩
      have W0_23 := W0_22.kept G23 (own_ne U_W0_X0 L_X0)
      have X1_23 := X1_22.kept G23 (own_ne' U_X0_X1 L_X1)
      have G0_23 := G0_22.kept G23 (own_ne' U_X0_G0 L_G0)
      have C24 := C22.grown G23 C22.size (fun k hk => Nat.le_trans C6.size (L_X0 k hk))
      go_wp2_with fail
      refine (markIntS_any _ _ _ _ _ _ X1_23 (by omega) (by omega) (by omega)).mono ?_
      rintro e w25 ⟨rfl, X1_25, G25⟩
      have W0_25 := W0_23.kept G25 (own_ne U_W0_X1 L_X1)
      have X0_25 := X0_23.kept G25 (own_ne U_X0_X1 L_X1)
      have G0_25 := G0_23.kept G25 (own_ne' U_X1_G0 L_G0)
      have C26 := C24.grown G25 C24.size (fun k hk => Nat.le_trans C8.size (L_X1 k hk))
      go_wp2_with fail
      refine (eqIntS_same _ _ _ _ _ _ G0_25.rd W0_25.rd ((garR_len xs0 xs1))).mono ?_
      rintro e w27 ⟨rfl, n27_, rfl⟩
      have C28 := below_drewN C26 n27_
      have W0_28 := W0_25.drewN n27_
      have G0_28 := G0_25.drewN n27_
      go_wp2_with fail
      refine (markIntS_any _ _ _ _ _ _ G0_28 ((garR_len xs0 xs1)) (by omega) (by omega)).mono ?_
      rintro e w29 ⟨rfl, G0_29, G29⟩
      have W0_29 := W0_28.kept G29 (own_ne U_W0_G0 L_G0)
      have C30 := C28.grown G29 C28.size (fun k hk => Nat.le_trans C10.size (L_G0 k hk))
      go_wp2_with fail
      refine (heldIntS_any _ _ _ _ _ (by have h := G0_29.rd' (marks_length _ _); exact h) ((garR_len xs0 xs1)) (by omega) (by omega)).mono ?_
      rintro e w31 ⟨rfl, rfl⟩
      go_wp2_with fail
      refine (toIntS_any _ _ _ _ (RA0.out.below C30) h0).mono ?_
      rintro e w32 ⟨A_Y0, c_Y0, rfl, Y0_0, B32⟩
      have U_W0_Y0 := fun k hk => (W0_29.lt k hk).2
      have U_G0_Y0 := fun k hk => (G0_29.lt k hk).2
      have L_Y0 := fun k hk => (Y0_0.lt k hk).1
      have C33 := C30.trans (B32.mono C30.size)
      have W0_33 := W0_29.below' B32
      have G0_33 := G0_29.below' B32
      go_wp2_with fail
      refine (toIntS_any _ _ _ _ (RA1.out.below C33) h1).mono ?_
      rintro e w34 ⟨A_Y1, c_Y1, rfl, Y1_0, B34⟩
      have U_W0_Y1 := fun k hk => (W0_33.lt k hk).2
      have U_G0_Y1 := fun k hk => (G0_33.lt k hk).2
      have U_Y0_Y1 := fun k hk => (Y0_0.lt k hk).2
      have L_Y1 := fun k hk => (Y1_0.lt k hk).1
      have C35 := C33.trans (B34.mono C33.size)
      have W0_35 := W0_33.below' B34
      have G0_35 := G0_33.below' B34
      have Y0_35 := Y0_0.below' B34
      go_wp2_with fail
      refine (iGarnerDigits_c _ _ _ _ Y0_35.rd Y0_35.cap.1 h0 BA0 _ _ _ Y1_0.rd Y1_0.cap.1 h1 BA1).mono ?_
      rintro e w36 ⟨A_H0, c_H0, rfl, H0_0, B36⟩
      have U_W0_H0 := fun k hk => (W0_35.lt k hk).2
      have U_G0_H0 := fun k hk => (G0_35.lt k hk).2
      have U_Y0_H0 := fun k hk => (Y0_35.lt k hk).2
      have U_Y1_H0 := fun k hk => (Y1_0.lt k hk).2
      have L_H0 := fun k hk => (H0_0.lt k hk).1
      have C37 := C35.trans (B36.mono C35.size)
      have W0_37 := W0_35.below' B36
      have G0_37 := G0_35.below' B36
      have Y0_37 := Y0_35.below' B36
      have Y1_37 := Y1_0.below' B36
      go_wp2_with fail
      refine (eqIntS_same _ _ _ _ _ _ H0_0.rd W0_37.rd ((garR_len xs0 xs1))).mono ?_
      rintro e w38 ⟨rfl, n38_, rfl⟩
      have C39 := below_drewN C37 n38_
      have W0_39 := W0_37.drewN n38_
      have G0_39 := G0_37.drewN n38_
      have H0_39 := H0_0.drewN n38_
      go_wp2_with fail
      refine (heldIntS_any _ _ _ _ _ (by have h := G0_39.rd' (marks_length _ _); exact h) ((garR_len xs0 xs1)) (by omega) (by omega)).mono ?_
      rintro e w40 ⟨rfl, rfl⟩
      go_wp2
      go_ret
      exact ⟨rfl, C39⟩
    · unfold maxLen at _m1
      go_enter Try.func11, Try.ntmps11
      go_wp2
      go_ret
      exact ⟨rfl, Below.refl _ _⟩
  · unfold maxLen at _m0
    go_enter Try.func11, Try.ntmps11
    go_wp2
    go_ret
    exact ⟨rfl, Below.refl _ _⟩

set_option maxRecDepth 100000 in
set_option maxHeartbeats 1600000 in
theorem lFromResidues_law (w : World) (A0 : Option Addr) (c0 : Nat) (xs0 : List Int) (r0 : Rd w A0 xs0) (_m0 : xs0.length ≤ maxLen) (b0 : ∀ x ∈ xs0, -9223372036854775808 ≤ x ∧ x ≤ 9223372036854775807) (A1 : Option Addr) (c1 : Nat) (xs1 : List Int) (r1 : Rd w A1 xs1) (_m1 : xs1.length ≤ maxLen) (b1 : ∀ x ∈ xs1, -9223372036854775808 ≤ x ∧ x ≤ 9223372036854775807) :
    Calls Try.prog 10 #[.slice A0 xs0.length c0, .slice A1 xs1.length c1] w fun e w' => e = .returned (.bool true) ∧ Below w.heap.size w w' := by
  have RA0 := Lib.hid r0
  have BA0 : AllI64 xs0 := b0
  clear r0 b0
  have RA1 := Lib.hid r1
  have BA1 : AllI64 xs1 := b1
  clear r1 b1
  by_cases h0 : xs0.length ≤ 1048576
  · skip
    by_cases h1 : xs1.length ≤ 1048576
    · skip
      go_enter Try.func10, Try.ntmps10
      go_wp2_with fail
      refine (toIntS_any _ _ _ _ (RA0.out.below (Below.refl w.heap.size w)) h0).mono ?_
      rintro e w1 ⟨A_S0, c_S0, rfl, S0_0, B1⟩
      have L_S0 := fun k hk => (S0_0.lt k hk).1
      have C2 := (Below.refl w.heap.size w).trans (B1.mono (Below.refl w.heap.size w).size)
      go_wp2_with fail
      refine (toIntS_any _ _ _ _ (RA1.out.below C2) h1).mono ?_
      rintro e w3 ⟨A_S1, c_S1, rfl, S1_0, B3⟩
      have U_S0_S1 := fun k hk => (S0_0.lt k hk).2
      have L_S1 := fun k hk => (S1_0.lt k hk).1
      have C4 := C2.trans (B3.mono C2.size)
      have S0_4 := S0_0.below' B3
      go_wp2_with fail
      refine (sFromResidues_c _ _ _ _ S0_4.rd S0_4.cap.1 h0 BA0 _ _ _ S1_0.rd S1_0.cap.1 h1 BA1).mono ?_
      rintro e w5 ⟨rfl, B5⟩
      have C6 := C4.trans (B5.mono C4.size)
      have S0_6 := S0_4.below' B5
      have S1_6 := S1_0.below' B5
      go_wp2_with fail
      refine (toIntS_any _ _ _ _ (RA0.out.below C6) h0).mono ?_
      rintro e w7 ⟨A_X0, c_X0, rfl, X0_0, B7⟩
      have L_X0 := fun k hk => (X0_0.lt k hk).1
      have C8 := C6.trans (B7.mono C6.size)
      go_wp2_with fail
      refine (toIntS_any _ _ _ _ (RA1.out.below C8) h1).mono ?_
      rintro e w9 ⟨A_X1, c_X1, rfl, X1_0, B9⟩
      have U_X0_X1 := fun k hk => (X0_0.lt k hk).2
      have L_X1 := fun k hk => (X1_0.lt k hk).1
      have C10 := C8.trans (B9.mono C8.size)
      have X0_10 := X0_0.below' B9
      go_wp2_with fail
      refine (iFromResidues_c _ _ _ _ X0_10.rd X0_10.cap.1 h0 BA0 _ _ _ X1_0.rd X1_0.cap.1 h1 BA1).mono ?_
      rintro e w11 ⟨rfl, B11⟩
      have C12 := C10.trans (B11.mono C10.size)
      have X0_12 := X0_10.below' B11
      have X1_12 := X1_0.below' B11
      go_wp2_with fail
      refine (toIntS_any _ _ _ _ (RA0.out.below C12) h0).mono ?_
      rintro e w13 ⟨A_T0, c_T0, rfl, T0_0, B13⟩
      have U_X0_T0 := fun k hk => (X0_12.lt k hk).2
      have U_X1_T0 := fun k hk => (X1_12.lt k hk).2
      have L_T0 := fun k hk => (T0_0.lt k hk).1
      have C14 := C12.trans (B13.mono C12.size)
      have X0_14 := X0_12.below' B13
      have X1_14 := X1_12.below' B13
      go_wp2_with fail
      refine (eqIntS_same _ _ _ _ _ _ X0_14.rd T0_0.rd (by omega)).mono ?_
      rintro e w15 ⟨rfl, n15_, rfl⟩
      have C16 := below_drewN C14 n15_
      have X0_16 := X0_14.drewN n15_
      have X1_16 := X1_14.drewN n15_
      have T0_16 := T0_0.drewN n15_
      go_wp2_with fail
      refine (toIntS_any _ _ _ _ (RA1.out.below C16) h1).mono ?_
      rintro e w17 ⟨A_T1, c_T1, rfl, T1_0, B17⟩
      have U_X0_T1 := fun k hk => (X0_16.lt k hk).2
      have U_X1_T1 := fun k hk => (X1_16.lt k hk).2
      have L_T1 := fun k hk => (T1_0.lt k hk).1
      have C18 := C16.trans (B17.mono C16.size)
      have X0_18 := X0_16.below' B17
      have X1_18 := X1_16.below' B17
      go_wp2_with fail
      refine (eqIntS_same _ _ _ _ _ _ X1_18.rd T1_0.rd (by omega)).mono ?_
      rintro e w19 ⟨rfl, n19_, rfl⟩
      have C20 := below_drewN C18 n19_
      have X0_20 := X0_18.drewN n19_
      have X1_20 := X1_18.drewN n19_
      have T1_20 := T1_0.drewN n19_
      go_wp2
      go_ret
      exact ⟨rfl, C20⟩
    · unfold maxLen at _m1
      go_enter Try.func10, Try.ntmps10
      go_wp2
      go_ret
      exact ⟨rfl, Below.refl _ _⟩
  · unfold maxLen at _m0
    go_enter Try.func10, Try.ntmps10
    go_wp2
    go_ret
    exact ⟨rfl, Below.refl _ _⟩

end Go.Proofs.Ytfdighaginmabaa
