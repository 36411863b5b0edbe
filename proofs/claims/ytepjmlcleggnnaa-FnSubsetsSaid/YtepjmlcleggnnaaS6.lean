/-
  WALKS: SubsetOf, OtherSubset (both packages) and the law over the last.
-/
import Derived.Test.YtepjmlcleggnnaaSN
import Derived.Deep.RegionHeld3
namespace Go.Proofs.Ytepjmlcleggnnaa
open Go.RowKit

theorem shr_bit (M x : Nat) (hM : M < 1048576) : bits .and .i64 ((M : Int) / 2 ^ x) 1 = if M.testBit x then 1 else 0 := by
  have e : (M : Int) / 2 ^ x = ((M / 2 ^ x : Nat) : Int) := by simp
  have h1 : M / 2 ^ x ≤ M := Nat.div_le_self _ _
  have h2 := i64_and_nat (M / 2 ^ x) 1 (by omega) (by omega)
  rw [Nat.and_one_is_mod] at h2
  rw [e, show (1 : Int) = ((1 : Nat) : Int) from rfl, h2, Nat.testBit_eq_decide_div_mod_eq]
  have : M / 2 ^ x % 2 = 0 ∨ M / 2 ^ x % 2 = 1 := by omega
  rcases this with h | h <;> simp [h]
theorem sub20 {xs : List Int} {m : Int} (h : subB xs m = true) : subB xs 20 = true := by
  obtain ⟨h0, h1, hS⟩ := subB_parts h
  have hS2 : subSoFar xs 20 xs.length := fun i hi => by
    have := hS i hi
    unfold subAt at this ⊢
    rw [Bool.and_eq_true] at this ⊢
    have hb := inB_true this.1
    exact ⟨inB_of ⟨hb.1, by omega⟩, this.2⟩
  rw [subB_end hS2]
  rfl

set_option maxHeartbeats 1600000 in
theorem iSubsetOf_in (M : Nat) (hM : M < 1048576) (L : List Int) (hL : lp (fun x => M.testBit x) 20 = L) (w : World) :
    Calls Try.prog 40 #[.int .i64 (M : Int)] w fun e w' => ∃ A c, e = .returned (.slice A L.length c) ∧ Ow w' w.heap.size (.slice A L.length c) L ∧ Below w.heap.size w w' := by
  go_enter Try.func40, Try.ntmps40
  go_wp2_with fail
  refine (within_any _ _ _ _).mono ?_
  rintro e w' ⟨rfl, rfl⟩
  have h1 : inB (M : Int) 0 1048575 = true := inB_of ⟨by omega, by omega⟩
  have HL := Lib.hid hL
  clear hL
  go_wp2
  clear h1
  go_loopw [3, 8] (fun v i wr => ∃ j : Nat, j ≤ 20 ∧ i = .int .i64 j ∧ Ap wr w.heap.size v (lp (fun x => M.testBit x) j) ∧ Below w.heap.size w wr) (fun _ i _ => 20 - (intOf i).toNat)
  case atStart => exact ⟨0, Nat.zero_le _, rfl, by rw [lp_zero]; exact Ap.nil_ _ _, Below.refl _ _⟩
  case round =>
    obtain ⟨j, hj, rfl, hO, hB⟩ := hrel
    have hs := hB.size
    by_cases hlt : j < 20
    · have c0 : (j : Int) < 20 := by omega
      have c1 : (0 : Int) ≤ j := by omega
      have hl := lp_len (fun x => M.testBit x) j
      have hL : (lp (fun x => M.testBit x) j).length < 1099511627776 := by omega
      have hbit := shr_bit M j hM
      by_cases ht : M.testBit j = true
      · rw [if_pos ht] at hbit
        have HS := Lib.hid (lp_yes (p := fun x => M.testBit x) (n := j) ht)
        clear ht
        go_wp2_with (at_builtin; refine wpList_app1 hO hL hs rfl _ _ 24 rfl rfl rfl rfl ?_; intro v' w' O' B')
        go_roundw
        case rel => exact ⟨j + 1, by omega, by go_num, by rw [HS.out]; exact O', hB.trans B'⟩
        case measure => simp [intOf]; omega
      · rw [if_neg ht] at hbit
        have HS := Lib.hid (lp_no (p := fun x => M.testBit x) (n := j) (by simpa using ht))
        clear ht
        go_wp2
        go_roundw
        case rel => exact ⟨j + 1, by omega, by go_num, by rw [HS.out]; exact hO, hB⟩
        case measure => simp [intOf]; omega
    · have hjk : j = 20 := by omega
      subst hjk
      obtain ⟨A', c', rfl⟩ := hO.form
      have hw := hO.ow
      rw [HL.out] at hw ⊢
      go_wp2
      go_ret
      exact ⟨A', c', rfl, hw, hB⟩


set_option maxHeartbeats 1600000 in
theorem iOtherSubset_c (w : World) (A : Option Addr) (c : Nat) (xs : List Int) (hr : Rd w A xs) (hl : xs.length ≤ 1048576) (_hb : AllI64 xs) (m : Int) (hm : I64 m) :
    Calls Try.prog 32 #[.slice A xs.length c, .int .i64 m] w fun e w' => ∃ A c, e = .returned (.tuple #[.slice A (otherL xs m).length c, .bool (otherB xs m)]) ∧ Ow w' w.heap.size (.slice A (otherL xs m).length c) (otherL xs m) ∧ Below w.heap.size w w' := by
  have W1 := Lib.hid (iSubsetOk_any A c xs m w hr (by omega) hm)
  rcases Bool.eq_false_or_eq_true (subB xs m) with h | h
  · rw [h] at W1
    obtain ⟨h0, h1, hS⟩ := subB_parts h
    obtain ⟨n, rfl⟩ : ∃ n : Nat, m = n := ⟨m.toNat, by omega⟩
    have HL := Lib.hid (otherL_of h)
    have HBo : Hid (otherB xs (n : Int) = true) := h
    obtain ⟨e1, e2, e3⟩ := other_mask h
    have HM := Lib.hid (maskR_of (sub20 h))
    have RM := Lib.hid hr
    obtain ⟨K, hK⟩ : ∃ K, mskL (fun y => !xs.contains (y : Int)) n = K := ⟨_, rfl⟩
    rw [hK] at e1 e2 e3
    have HE3 := Lib.hid e3
    obtain ⟨p1, p2⟩ := pow_le20 (n := n) (by omega)
    obtain ⟨Q, hQ⟩ : ∃ Q, maskUp xs xs.length = Q := ⟨_, rfl⟩
    rw [hQ] at e1 HM
    have hQ2 : Q < 1048576 := by
      have := mask_end hS (by omega) xs.length (Nat.le_refl _)
      rw [hQ] at this
      simpa using this
    have f1 : IntKind.i64.wrap ((2 : Int) ^ n - 1) = 2 ^ n - 1 := IntWalk.i64_in _ (by omega)
    have f2 : IntKind.i64.wrap ((2 : Int) ^ n - 1 - maskR xs) = K := by rw [HM.out, e1]; exact IntWalk.i64_in _ (by omega)
    have f3 : IntKind.i64.wrap ((2 : Int) ^ n) = 2 ^ n := IntWalk.i64_in _ (by omega)
    have f4 : (0 : Int) ≤ n := by omega
    have e2' : K < 1048576 := by simpa using e2
    clear h hS e2 e3 hK hQ HM hr
    go_enter Try.func32, Try.ntmps32
    go_wp2_with fail
    refine (W1.out).mono ?_
    rintro e w' ⟨rfl, rfl⟩
    go_wp2_with fail
    go_region_held3 (fun _ => True) (trivial)
      (first
        | ((go_at_call 16; refine (iMaskOf_any A c xs _ (RM.out.drewN _) (by omega)).mono ?_; rintro e w' ⟨rfl, rfl⟩))
        | ((go_at_call 40; refine (iSubsetOf_in K e2' _ HE3.out _).mono ?_; rintro e w1 ⟨A1, c1, rfl, O1, B1⟩)))
    go_wp2
    go_ret2
    exact ⟨A1, c1, ret_tuple_slice rfl HBo.out.symm, O1, (below_drewN (Below.refl _ _) _).trans B1⟩
  · rw [h] at W1
    have HL := Lib.hid (otherL_no h)
    have HBo : Hid (otherB xs m = false) := h
    clear h
    go_enter Try.func32, Try.ntmps32
    go_wp2_with fail
    refine (W1.out).mono ?_
    rintro e w' ⟨rfl, rfl⟩
    go_wp2
    go_ret2
    exact ⟨none, 0, by rw [HL.out, HBo.out]; rfl, by rw [HL.out]; exact Ow.nil_ _ _, Below.refl _ _⟩


set_option maxHeartbeats 1600000 in
theorem sOtherSubset_c (w : World) (A : Option Addr) (c : Nat) (xs : List Int) (hr : Rd w A xs) (hl : xs.length ≤ 1048576) (_hb : AllI64 xs) (m : Int) (hm : I64 m) :
    Calls Try.prog 31 #[.slice A xs.length c, .int .i64 m] w fun e w' => ∃ A c, e = .returned (.tuple #[.slice A (otherL xs m).length c, .bool (otherB xs m)]) ∧ Ow w' w.heap.size (.slice A (otherL xs m).length c) (otherL xs m) ∧ Below w.heap.size w w' := by
  have W1 := Lib.hid (sSubsetOk_any A c xs m w hr (by omega) hm)
  rcases Bool.eq_false_or_eq_true (subB xs m) with h | h
  · rw [h] at W1
    obtain ⟨h0, h1, hS⟩ := subB_parts h
    obtain ⟨n, rfl⟩ : ∃ n : Nat, m = n := ⟨m.toNat, by omega⟩
    have HL := Lib.hid (otherL_of h)
    have HBo : Hid (otherB xs (n : Int) = true) := h
    have HRd := Lib.hid hr
    have HS := Lib.hid hS
    have HP0 := Lib.hid (Ptr.start hS)
    have hl2 := sub_len h0 hS
    clear h hr
    go_enter Try.func31, Try.ntmps31
    go_wp2_with fail
    refine (W1.out).mono ?_
    rintro e w' ⟨rfl, rfl⟩
    go_wp2
    go_loopw [6, 7, 8] (fun v p i wr => ∃ j q : Nat, j ≤ n ∧ i = .int .i64 j ∧ p = .int .i64 q ∧ Hid (Ptr xs j q) ∧ Ap wr w.heap.size v (lp (fun y => !xs.contains (y : Int)) j) ∧ Below w.heap.size w wr) (fun _ _ i _ => n - (intOf i).toNat)
    case atStart => exact ⟨0, 0, Nat.zero_le _, rfl, rfl, HP0.out, by rw [lp_zero]; exact Ap.empty _ _ (Nat.le_refl _), (Below.refl _ _).alloc (Nat.le_refl _) _⟩
    case round =>
      obtain ⟨j, q, hj, rfl, rfl, hP, hO, hB⟩ := hrel
      have hs := hB.size
      have hq := hP.out.le
      by_cases hlt : j < n
      · have c0 : (j : Int) < n := by omega
        have c1 : (0 : Int) ≤ q := by omega
        have hl3 := lp_len (fun y => !xs.contains (y : Int)) j
        have hL : (lp (fun y => !xs.contains (y : Int)) j).length < 1099511627776 := by omega
        by_cases hq2 : q < xs.length
        · obtain ⟨ad, v, rfl, hv, hc⟩ := (HRd.out.below hB).at_ hq2
          have c2 : (q : Int) < xs.length := by omega
          by_cases hx : v = j
          · subst hx
            obtain ⟨P2, hcn⟩ := hP.out.yes HS.out hv.out
            have HN := Lib.hid (lp_no (p := fun y => !xs.contains (y : Int)) (n := j) (by simp only [hcn]; rfl))
            have HP2 := Lib.hid P2
            clear hv hcn P2
            go_wp2
            go_roundw
            case rel => exact ⟨j + 1, q + 1, by omega, by go_num, by go_num, HP2.out, by rw [HN.out]; exact hO, hB⟩
            case measure => simp [intOf]; omega
          · obtain ⟨P2, hcn⟩ := hP.out.no HS.out (fun e => hx (by rw [hv.out] at e; exact Option.some.inj e))
            have HN := Lib.hid (lp_yes (p := fun y => !xs.contains (y : Int)) (n := j) (by simp only [hcn]; rfl))
            have HP2 := Lib.hid P2
            clear hv hcn P2
            go_wp2_with (at_builtin; refine wpList_app1 hO hL hs rfl _ _ 24 rfl rfl rfl rfl ?_; intro v' w' O' B')
            go_roundw
            case rel => exact ⟨j + 1, q, by omega, by go_num, rfl, HP2.out, by rw [HN.out]; exact O', hB.trans B'⟩
            case measure => simp [intOf]; omega
        · have c2 : ¬ (q : Int) < xs.length := by omega
          obtain ⟨P2, hcn⟩ := hP.out.no HS.out (fun e => by have := (List.getElem?_eq_some_iff.1 e).1; omega)
          have HN := Lib.hid (lp_yes (p := fun y => !xs.contains (y : Int)) (n := j) (by simp only [hcn]; rfl))
          have HP2 := Lib.hid P2
          clear hcn P2
          go_wp2_with (at_builtin; refine wpList_app1 hO hL hs rfl _ _ 24 rfl rfl rfl rfl ?_; intro v' w' O' B')
          go_roundw
          case rel => exact ⟨j + 1, q, by omega, by go_num, rfl, HP2.out, by rw [HN.out]; exact O', hB.trans B'⟩
          case measure => simp [intOf]; omega
      · have hjn : j = n := by omega
        subst hjn
        obtain ⟨A', c', rfl⟩ := hO.form
        have hw := hO.ow
        rw [← HL.out] at hw ⊢
        go_wp2
        go_ret2
        exact ⟨A', c', ret_tuple_slice rfl HBo.out.symm, hw, hB⟩
  · rw [h] at W1
    have HL := Lib.hid (otherL_no h)
    have HBo : Hid (otherB xs m = false) := h
    clear h
    go_enter Try.func31, Try.ntmps31
    go_wp2_with fail
    refine (W1.out).mono ?_
    rintro e w' ⟨rfl, rfl⟩
    go_wp2
    go_ret2
    exact ⟨none, 0, by rw [HL.out, HBo.out]; rfl, by rw [HL.out]; exact Ow.nil_ _ _, Below.refl _ _⟩

set_option maxRecDepth 100000 in
set_option maxHeartbeats 1600000 in
theorem lOtherSubset_law (w : World) (A0 : Option Addr) (c0 : Nat) (xs0 : List Int) (r0 : Rd w A0 xs0) (_m0 : xs0.length ≤ maxLen) (b0 : ∀ x ∈ xs0, -9223372036854775808 ≤ x ∧ x ≤ 9223372036854775807) (n1 : Int) (b1 : -9223372036854775808 ≤ n1 ∧ n1 ≤ 9223372036854775807) :
    Calls Try.prog 9 #[.slice A0 xs0.length c0, .int .i64 n1] w fun e w' => e = .returned (.bool true) ∧ Below w.heap.size w w' := by
  have RA0 := Lib.hid r0
  have BA0 : AllI64 xs0 := b0
  clear r0 b0
  have BA1 : I64 n1 := b1
  clear b1
  by_cases h0 : xs0.length ≤ 1048576
  · skip
    go_enter Try.func9, Try.ntmps9
    go_wp2_with fail
    refine (toIntS_any _ _ _ _ (RA0.out.below (Below.refl w.heap.size w)) h0).mono ?_
    rintro e w1 ⟨A_S0, c_S0, rfl, S0_0, B1⟩
    have L_S0 := fun k hk => (S0_0.lt k hk).1
    have C2 := (Below.refl w.heap.size w).trans (B1.mono (Below.refl w.heap.size w).size)
    go_wp2_with fail
    refine (sOtherSubset_c _ _ _ _ S0_0.rd h0 BA0 _ BA1).mono ?_
    rintro e w3 ⟨A_W0, c_W0, rfl, W0_0, B3⟩
    have U_S0_W0 := fun k hk => (S0_0.lt k hk).2
    have L_W0 := fun k hk => (W0_0.lt k hk).1
    have C4 := C2.trans (B3.mono C2.size)
    have S0_4 := S0_0.below' B3
    go_wp2_with fail
    refine (toIntS_any _ _ _ _ (RA0.out.below C4) h0).mono ?_
    rintro e w5 ⟨A_X0, c_X0, rfl, X0_0, B5⟩
    have U_W0_X0 := fun k hk => (W0_0.lt k hk).2
    have L_X0 := fun k hk => (X0_0.lt k hk).1
    have C6 := C4.trans (B5.mono C4.size)
    have W0_6 := W0_0.below' B5
    go_wp2_with fail
    refine (iOtherSubset_c _ _ _ _ X0_0.rd h0 BA0 _ BA1).mono ?_
    rintro e w7 ⟨A_G0, c_G0, rfl, G0_0, B7⟩
    have U_W0_G0 := fun k hk => (W0_6.lt k hk).2
    have U_X0_G0 := fun k hk => (X0_0.lt k hk).2
    have L_G0 := fun k hk => (G0_0.lt k hk).1
    have C8 := C6.trans (B7.mono C6.size)
    have W0_8 := W0_6.below' B7
    have X0_8 := X0_0.below' B7
    go_wp2_with fail
    refine (eqIntS_same _ _ _ _ _ _ G0_0.rd W0_8.rd ((otherL_len xs0 n1))).mono ?_
    rintro e w9 ⟨rfl, n9_, rfl⟩
    have C10 := below_drewN C8 n9_
    have W0_10 := W0_8.drewN n9_
    have X0_10 := X0_8.drewN n9_
    have G0_10 := G0_0.drewN n9_
    go_wp2_with fail
    refine (toIntS_any _ _ _ _ (RA0.out.below C10) h0).mono ?_
    rintro e w11 ⟨A_T0, c_T0, rfl, T0_0, B11⟩
    have U_W0_T0 := fun k hk => (W0_10.lt k hk).2
    have U_X0_T0 := fun k hk => (X0_10.lt k hk).2
    have U_G0_T0 := fun k hk => (G0_10.lt k hk).2
    have L_T0 := fun k hk => (T0_0.lt k hk).1
    have C12 := C10.trans (B11.mono C10.size)
    have W0_12 := W0_10.below' B11
    have X0_12 := X0_10.below' B11
    have G0_12 := G0_10.below' B11
    go_wp2_with fail
    refine (eqIntS_same _ _ _ _ _ _ X0_12.rd T0_0.rd (by omega)).mono ?_
    rintro e w13 ⟨rfl, n13_, rfl⟩
    have C14 := below_drewN C12 n13_
    have W0_14 := W0_12.drewN n13_
    have X0_14 := X0_12.drewN n13_
    have G0_14 := G0_12.drewN n13_
    have T0_14 := T0_0.drewN n13_
    go_wp2_with fail
    refine (markIntS_any _ _ _ _ _ _ X0_14 (by omega) (by omega) (by omega)).mono ?_
    rintro e w15 ⟨rfl, X0_15, G15⟩
    have W0_15 := W0_14.kept G15 (own_ne U_W0_X0 L_X0)
    have G0_15 := G0_14.kept G15 (own_ne' U_X0_G0 L_G0)
    have C16 := C14.grown G15 C14.size (fun k hk => Nat.le_trans C4.size (L_X0 k hk))
    go_wp2_with fail
    refine (eqIntS_same _ _ _ _ _ _ G0_15.rd W0_15.rd ((otherL_len xs0 n1))).mono ?_
    rintro e w17 ⟨rfl, n17_, rfl⟩
    have C18 := below_drewN C16 n17_
    have W0_18 := W0_15.drewN n17_
    have G0_18 := G0_15.drewN n17_
    go_wp2_with fail
    refine (markIntS_any _ _ _ _ _ _ G0_18 ((otherL_len xs0 n1)) (by omega) (by omega)).mono ?_
    rintro e w19 ⟨rfl, G0_19, G19⟩
    have W0_19 := W0_18.kept G19 (own_ne U_W0_G0 L_G0)
    have C20 := C18.grown G19 C18.size (fun k hk => Nat.le_trans C6.size (L_G0 k hk))
    go_wp2_with fail
    refine (heldIntS_any _ _ _ _ _ (by have h := G0_19.rd' (marks_length _ _); exact h) ((otherL_len xs0 n1)) (by omega) (by omega)).mono ?_
    rintro e w21 ⟨rfl, rfl⟩
    go_wp2_with fail
    refine (toIntS_any _ _ _ _ (RA0.out.below C20) h0).mono ?_
    rintro e w22 ⟨A_Y0, c_Y0, rfl, Y0_0, B22⟩
    have U_W0_Y0 := fun k hk => (W0_19.lt k hk).2
    have U_G0_Y0 := fun k hk => (G0_19.lt k hk).2
    have L_Y0 := fun k hk => (Y0_0.lt k hk).1
    have C23 := C20.trans (B22.mono C20.size)
    have W0_23 := W0_19.below' B22
    have G0_23 := G0_19.below' B22
    go_wp2_with fail
    refine (iOtherSubset_c _ _ _ _ Y0_0.rd h0 BA0 _ BA1).mono ?_
    rintro e w24 ⟨A_H0, c_H0, rfl, H0_0, B24⟩
    have U_W0_H0 := fun k hk => (W0_23.lt k hk).2
    have U_G0_H0 := fun k hk => (G0_23.lt k hk).2
    have U_Y0_H0 := fun k hk => (Y0_0.lt k hk).2
    have L_H0 := fun k hk => (H0_0.lt k hk).1
    have C25 := C23.trans (B24.mono C23.size)
    have W0_25 := W0_23.below' B24
    have G0_25 := G0_23.below' B24
    have Y0_25 := Y0_0.below' B24
    go_wp2_with fail
    refine (eqIntS_same _ _ _ _ _ _ H0_0.rd W0_25.rd ((otherL_len xs0 n1))).mono ?_
    rintro e w26 ⟨rfl, n26_, rfl⟩
    have C27 := below_drewN C25 n26_
    have W0_27 := W0_25.drewN n26_
    have G0_27 := G0_25.drewN n26_
    have H0_27 := H0_0.drewN n26_
    go_wp2_with fail
    refine (heldIntS_any _ _ _ _ _ (by have h := G0_27.rd' (marks_length _ _); exact h) ((otherL_len xs0 n1)) (by omega) (by omega)).mono ?_
    rintro e w28 ⟨rfl, rfl⟩
    go_wp2
    go_ret
    exact ⟨rfl, C27⟩
  · unfold maxLen at _m0
    go_enter Try.func9, Try.ntmps9
    go_wp2
    go_ret
    exact ⟨rfl, Below.refl _ _⟩

end Go.Proofs.Ytepjmlcleggnnaa
