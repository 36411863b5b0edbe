/-
  WALKS: the reference's DenseFib, and the law over DenseFib.
-/
import Derived.Test.YtlimphfkagdjiaaF5
namespace Go.Proofs.Ytlimphfkagdjiaa
open Go.RowKit

theorem denseK {k : Nat} {N : Int} (h : k = 0 ∨ (fibN k : Int) - 2 < N) (hN : N ≤ 500000000000) : k ≤ 55 := by
  rcases h with h | h
  · omega
  · rcases Nat.lt_or_ge k 56 with h2 | h2
    · omega
    · have := fibN_mono h2
      have e := fibN_56
      omega
theorem dense_top {k : Nat} {N : Int} (hk : k ≤ 57) (h : N ≤ (fibN (k + 1) : Int) - 2) : trimL (dg usedD 57 N) = trimL (dg usedD k N) :=
  trimL_dg_high hk fun j hj => by
    have h2 := fibN_mono (show k + 1 ≤ j + 1 by omega)
    unfold usedD
    apply decide_eq_false
    omega

set_option maxHeartbeats 3200000 in
theorem sDenseFib_c (w : World) (N : Int) (_hN : I64 N) :
    Calls Try.prog 36 #[.int .i64 N] w fun e w' => ∃ A c, e = .returned (.slice A (dnR N).length c) ∧ Ow w' w.heap.size (.slice A (dnR N).length c) (dnR N) ∧ Below w.heap.size w w' := by
  rcases Bool.eq_false_or_eq_true (inB N 0 500000000000) with h | h
  · obtain ⟨h0, h1⟩ := inB_true h
    have HE := Lib.hid (dnR_of h)
    go_enter Try.func36, Try.ntmps36
    go_wp2_with (go_at_call 47; refine (l01In_any _ _ _ _).mono ?_; rintro e w' ⟨rfl, rfl⟩)
    go_loop [3, 4] (fun s i => ∃ k : Nat, k ≤ 56 ∧ i = .int .i64 k ∧ s = .int .i64 ((fibN (k + 1) : Nat) - 2) ∧ Hid (k = 0 ∨ (fibN k : Int) - 2 < N)) (fun _ i => 57 - (intOf i).toNat)
    case atStart => exact ⟨0, by omega, rfl, rfl, Or.inl rfl⟩
    case round =>
      obtain ⟨k, hk, rfl, rfl, hK⟩ := hrel
      have hk55 := denseK hK.out h1
      have HF := Lib.hid (fibPlaceR_of (k := k) (by omega))
      have HA := Lib.hid (fibN_add k)
      have l1 := fibN_le (n := k) (by omega)
      have l2 := fibN_le (n := k + 1) (by omega)
      have l3 := fibN_lt k
      have l4 := (fibN_pos k).1
      by_cases hlt : (fibN (k + 1) : Int) - 2 < N
      · have HK2 : Hid (k + 1 = 0 ∨ (fibN (k + 1) : Int) - 2 < N) := Or.inr hlt
        obtain ⟨x, hx⟩ : ∃ x, fibN k = x := ⟨_, rfl⟩
        obtain ⟨y, hy⟩ : ∃ y, fibN (k + 1) = y := ⟨_, rfl⟩
        rw [hx] at HF HA l1 l3 l4
        rw [hy] at HA l2 l3 hlt
        rw [hy]
        clear hx hy
        go_wp2_with fail
        refine (sFibPlace_any _ _).mono ?_
        rintro e w' ⟨rfl, rfl⟩
        rw [HF.out]
        go_wp2
        go_round
        case rel => exact ⟨k + 1, by omega, by go_num, by rw [show k + 1 + 1 = k + 2 from rfl, HA.out]; go_num, HK2⟩
        case measure => simp [intOf]; omega
      · have HTop := Lib.hid (dense_top (k := k) (by omega) (show N ≤ (fibN (k + 1) : Int) - 2 by omega))
        obtain ⟨y, hy⟩ : ∃ y, fibN (k + 1) = y := ⟨_, rfl⟩
        have HY := Lib.hid hy
        rw [hy] at hlt l2 l3
        rw [hy]
        clear hy HA HF hK
        go_wp2_with fail
        go_loopw [0, 3, 4, 5] (fun v s i u wr => ∃ (j : Nat) (m : Int) (T : List Int), j ≤ k ∧ i = .int .i64 ((j : Int) - 1) ∧ v = .int .i64 m ∧ s = .int .i64 ((fibN (j + 1) : Nat) - 2) ∧ 0 ≤ m ∧ m ≤ 500000000000 ∧ T.length = k - j ∧ Hid (dg usedD k N = dg usedD j m ++ T) ∧ Ap wr w.heap.size u T.reverse ∧ Below w.heap.size w wr) (fun _ _ i _ _ => (intOf i + 1).toNat)
        case atStart => exact ⟨k, N, [], Nat.le_refl _, rfl, rfl, by rw [HY.out], h0, h1, by simp, (by simp : dg usedD k N = dg usedD k N ++ []), Ap.empty _ _ (Nat.le_refl _), (Below.refl _ _).alloc (Nat.le_refl _) _⟩
        case round =>
          obtain ⟨j, m, T, hj, rfl, rfl, rfl, m0, m1, hT, hD, hO, hB⟩ := hrel
          have hs := hB.size
          clear l1 l2 l3 l4 hlt
          by_cases hlt : 0 < j
          · obtain ⟨q, rfl⟩ : ∃ q, j = q + 1 := ⟨j - 1, by omega⟩
            have ej : ((q + 1 : Nat) : Int) - 1 = (q : Int) := by omega
            rw [ej]
            clear ej
            have HF := Lib.hid (fibPlaceR_of (k := q) (by omega))
            have HA := fibN_add q
            have hL : T.reverse.length < 1099511627776 := by rw [List.length_reverse]; omega
            have HT := Lib.hid hT
            have c0 : (0 : Int) ≤ q := by omega
            have c1 : (q : Int) < 58 := by omega
            have l1 := fibN_le (n := q) (by omega)
            have l2 := fibN_le (n := q + 1) (by omega)
            have l4 := (fibN_pos q).1
            have l5 := (fibN_pos q).2
            have e2 : ((fibN (q + 1 + 1) : Nat) : Int) = (fibN q : Int) + (fibN (q + 1) : Int) := by rw [show q + 1 + 1 = q + 2 from rfl, HA]; omega
            rw [e2]
            clear e2 HA hT
            rcases Bool.eq_false_or_eq_true (usedD q m) with hu | hu
            · have hdn := downD q m hu
              have hu2 : (fibN (q + 1) : Int) - 2 < m := of_decide_eq_true hu
              have HG := Lib.hid (dg_use hu)
              clear hu
              obtain ⟨f, hf2⟩ : ∃ f, fibN q = f := ⟨_, rfl⟩
              obtain ⟨g, hg2⟩ : ∃ g, fibN (q + 1) = g := ⟨_, rfl⟩
              rw [hf2] at hdn HF HG l1 l4
              rw [hg2] at hu2 l2 l5
              rw [hf2, hg2]
              have HG2 := Lib.hid hg2
              clear hf2 hg2
              go_wp2_with fail
              refine (sFibPlace_any _ _).mono ?_
              rintro e w' ⟨rfl, rfl⟩
              rw [HF.out]
              go_wp2_with (at_builtin; refine wpList_app1 hO hL hs rfl _ _ 24 rfl rfl rfl rfl ?_; intro v' w' O' B')
              go_roundw
              case rel =>
                refine ⟨q, m - f, 1 :: T, by omega, by go_num, by go_num, by rw [HG2.out]; go_num, by omega, by omega, by simp [HT.out]; omega, ?_, by rw [List.reverse_cons]; exact O', hB.trans B'⟩
                unfold Hid
                rw [hD.out, HG.out, List.append_assoc]
                rfl
              case measure => simp [intOf]
            · have hu2 : m ≤ (fibN (q + 1) : Int) - 2 := by
                have := of_decide_eq_false hu
                omega
              have HG := Lib.hid (dg_top hu)
              clear hu
              obtain ⟨f, hf2⟩ : ∃ f, fibN q = f := ⟨_, rfl⟩
              obtain ⟨g, hg2⟩ : ∃ g, fibN (q + 1) = g := ⟨_, rfl⟩
              rw [hf2] at HF l1 l4
              rw [hg2] at hu2 l2 l5
              rw [hf2, hg2]
              have HG2 := Lib.hid hg2
              clear hf2 hg2
              go_wp2_with fail
              refine (sFibPlace_any _ _).mono ?_
              rintro e w' ⟨rfl, rfl⟩
              rw [HF.out]
              go_wp2_with (at_builtin; refine wpList_app1 hO hL hs rfl _ _ 24 rfl rfl rfl rfl ?_; intro v' w' O' B')
              go_roundw
              case rel =>
                refine ⟨q, m, 0 :: T, by omega, by go_num, rfl, by rw [HG2.out]; go_num, m0, m1, by simp [HT.out]; omega, ?_, by rw [List.reverse_cons]; exact O', hB.trans B'⟩
                unfold Hid
                rw [hD.out, HG.out, List.append_assoc]
                rfl
              case measure => simp [intOf]
          · obtain rfl : j = 0 := by omega
            have HD : Hid (dg usedD k N = T) := by have := hD.out; rwa [dg_zero, List.nil_append] at this
            obtain ⟨A, c, rfl⟩ := hO.form
            have OO := hO.ow
            have HT := Lib.hid hT
            clear hO hT
            go_wp2_with fail
            refine (l02Turn_any _ _ _ _ _ OO.rd List.length_reverse (by rw [HT.out]; omega)).mono ?_
            rintro e w1 ⟨A1, c1, rfl, O1, B1⟩
            rw [List.reverse_reverse] at O1
            go_wp2_with fail
            refine (l03Trim_any _ _ _ _ _ _ O1 (by rw [HT.out]; omega)).mono ?_
            rintro e w2 ⟨A2, rfl, O2, rfl⟩
            go_wp2
            go_ret
            rw [HE.out, HTop.out, HD.out]
            exact ⟨A2, c1, rfl, O2.more hB.size, hB.trans (B1.mono hB.size)⟩
  · have HE : Hid (dnR N = []) := by unfold Hid; simp [dnR, h]
    go_enter Try.func36, Try.ntmps36
    go_wp2_with fail
    refine (l01In_any _ _ _ _).mono ?_
    rintro e w' ⟨rfl, rfl⟩
    go_wp2
    go_ret
    rw [HE.out]
    exact ⟨none, 0, rfl, Ow.nil_ _ _, Below.refl _ _⟩

set_option maxRecDepth 100000 in
set_option maxHeartbeats 1600000 in
theorem lDenseFib_law (w : World) (n0 : Int) (b0 : -9223372036854775808 ≤ n0 ∧ n0 ≤ 9223372036854775807) :
    Calls Try.prog 11 #[.int .i64 n0] w fun e w' => e = .returned (.bool true) ∧ Below w.heap.size w w' := by
  have BA0 : I64 n0 := b0
  clear b0
  go_enter Try.func11, Try.ntmps11
  go_wp2_with fail
  refine (sDenseFib_c _ _ BA0).mono ?_
  rintro e w1 ⟨A_W0, c_W0, rfl, W0_0, B1⟩
  have L_W0 := fun k hk => (W0_0.lt k hk).1
  have C2 := (Below.refl w.heap.size w).trans (B1.mono (Below.refl w.heap.size w).size)
  go_wp2_with fail
  refine (iDenseFib_c _ _ BA0).mono ?_
  rintro e w3 ⟨A_G0, c_G0, rfl, G0_0, B3⟩
  have U_W0_G0 := fun k hk => (W0_0.lt k hk).2
  have L_G0 := fun k hk => (G0_0.lt k hk).1
  have C4 := C2.trans (B3.mono C2.size)
  have W0_4 := W0_0.below' B3
  go_wp2_with fail
  refine (eqIntS_same _ _ _ _ _ _ G0_0.rd W0_4.rd ((dnR_len n0))).mono ?_
  rintro e w5 ⟨rfl, n5_, rfl⟩
  have C6 := below_drewN C4 n5_
  have W0_6 := W0_4.drewN n5_
  have G0_6 := G0_0.drewN n5_
  go_wp2_with fail
  refine (markIntS_any _ _ _ _ _ _ G0_6 ((dnR_len n0)) (by omega) (by omega)).mono ?_
  rintro e w7 ⟨rfl, G0_7, G7⟩
  have W0_7 := W0_6.kept G7 (own_ne U_W0_G0 L_G0)
  have C8 := C6.grown G7 C6.size (fun k hk => Nat.le_trans C2.size (L_G0 k hk))
  go_wp2_with fail
  refine (heldIntS_any _ _ _ _ _ (by have h := G0_7.rd' (marks_length _ _); exact h) ((dnR_len n0)) (by omega) (by omega)).mono ?_
  rintro e w9 ⟨rfl, rfl⟩
  go_wp2_with fail
  refine (iDenseFib_c _ _ BA0).mono ?_
  rintro e w10 ⟨A_H0, c_H0, rfl, H0_0, B10⟩
  have U_W0_H0 := fun k hk => (W0_7.lt k hk).2
  have U_G0_H0 := fun k hk => (G0_7.lt k hk).2
  have L_H0 := fun k hk => (H0_0.lt k hk).1
  have C11 := C8.trans (B10.mono C8.size)
  have W0_11 := W0_7.below' B10
  have G0_11 := G0_7.below' B10
  go_wp2_with fail
  refine (eqIntS_same _ _ _ _ _ _ H0_0.rd W0_11.rd ((dnR_len n0))).mono ?_
  rintro e w12 ⟨rfl, n12_, rfl⟩
  have C13 := below_drewN C11 n12_
  have W0_13 := W0_11.drewN n12_
  have G0_13 := G0_11.drewN n12_
  have H0_13 := H0_0.drewN n12_
  go_wp2_with fail
  refine (heldIntS_any _ _ _ _ _ (by have h := G0_13.rd' (marks_length _ _); exact h) ((dnR_len n0)) (by omega) (by omega)).mono ?_
  rintro e w14 ⟨rfl, rfl⟩
  go_wp2
  go_ret
  exact ⟨rfl, C13⟩

end Go.Proofs.Ytlimphfkagdjiaa
