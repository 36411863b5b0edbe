/-
  WALKS: the reference's GrayDigits and FromGrayDigits, and the two laws over them.
-/
import Derived.Test.YthnpobbpmgjhjaaG9
namespace Go.Proofs.Ythnpobbpmgjhjaa
open Go.RowKit

set_option maxHeartbeats 3200000 in
theorem sGrayDigits_c (w : World) (N : Int) (_hN : I64 N) (B : Option Addr) (c' : Nat) (rs : List Int) (hb : Rd w B rs) (hl' : rs.length ≤ 1048576) (_hb : AllI64 rs) :
    Calls Try.prog 27 #[.int .i64 N, .slice B rs.length c'] w fun e w' => ∃ A c, e = .returned (.slice A (grayDR N rs).length c) ∧ Ow w' w.heap.size (.slice A (grayDR N rs).length c) (grayDR N rs) ∧ Below w.heap.size w w' := by
  have HL := Lib.hid (grayDR_len' N rs)
  have hm := mixDR_len N rs
  have hle := mixDR_le N rs
  have hdg := mixDR_digs N rs
  have HG : Hid (grayDR N rs = (fL true (mixDR N rs) rs).1) := rfl
  have SM := sMixedDigits_any B c' N rs w hb hl'
  obtain ⟨ds, hds⟩ : ∃ ds, mixDR N rs = ds := ⟨_, rfl⟩
  rw [hds] at hm hle hdg HG SM HL
  have SM2 := Lib.hid SM
  clear hds SM
  by_cases h0 : ds = []
  · subst h0
    have HZ : Hid (grayDR N rs = []) := by unfold Hid; rw [HG.out]; cases rs <;> rfl
    go_enter Try.func27, Try.ntmps27
    go_wp2_with fail
    refine (SM2.out).mono ?_
    rintro e w1 ⟨A, c, rfl, O1, B1⟩
    go_wp2
    go_ret
    exact ⟨none, 0, by rw [HZ.out]; rfl, by rw [HZ.out]; exact Ow.nil_ _ _, B1⟩
  · have hp : 0 < ds.length := List.length_pos_iff.2 h0
    have t0 : ((ds.length : Int) == 0) = false := by simp; omega
    have HB := Lib.hid hb
    have HD := Lib.hid hdg
    have HS := Lib.hid (fAt_sum (own := true) hdg (by omega))
    have H0 := Lib.hid (fAt_end true ds rs)
    clear hdg h0
    go_enter Try.func27, Try.ntmps27
    go_wp2_with fail
    refine (SM2.out).mono ?_
    rintro e w1 ⟨A, c, rfl, O1, B1⟩
    have HR1 := Lib.hid (HB.out.below B1)
    have HSEP := Lib.hid (own_sep HB.out (by omega) (fun k hk => (O1.lt k hk).1))
    clear hb
    go_wp2
    go_loopw [6, 7] (fun s i wr => ∃ j : Nat, j ≤ ds.length ∧ i = .int .i64 ((j : Int) - 1) ∧ s = .int .i64 (fAt true ds rs j).2 ∧ Ow wr w.heap.size (.slice A ds.length c) (ds.take j ++ (fAt true ds rs j).1) ∧ w1.grownBy wr (Value.slice A ds.length c).ownBlock) (fun _ i _ => (intOf i + 1).toNat)
    case atStart => exact ⟨ds.length, Nat.le_refl _, rfl, by rw [H0.out], by rw [H0.out, List.take_length, List.append_nil]; exact O1, World.grownBy.refl _ _⟩
    case round =>
      obtain ⟨k, hk, rfl, rfl, hO, hG⟩ := hrel
      by_cases hlt : 0 < k
      · obtain ⟨q, rfl⟩ : ∃ q, k = q + 1 := ⟨k - 1, by omega⟩
        have ej : ((q + 1 : Nat) : Int) - 1 = (q : Int) := by omega
        rw [ej]
        clear ej
        have RB := HR1.out.grown hG HSEP.out
        have hdq : ds[q]? = some (ds[q]'(by omega)) := List.getElem?_eq_getElem _
        obtain ⟨d, hd⟩ : ∃ d, ds[q]? = some d := ⟨_, hdq⟩
        clear hdq
        obtain ⟨g, x, rfl, hx, hc, hf, hst⟩ := hO.at_ (k := q) (by rw [List.length_append, List.length_take]; omega)
        obtain rfl : x = d := by have := hx.out; rw [mem_at hd] at this; exact (Option.some.inj this).symm
        obtain ⟨bd, r, rfl, hr, hcr⟩ := RB.at_ (k := q) (by omega)
        have hD := HD.out q x r hd hr.out
        have b1 := HS.out (q + 1)
        have HF := Lib.hid (fAt_step (own := true) hd hr.out)
        have HE := Lib.hid hd
        clear hx RB hd
        obtain ⟨p, hp⟩ : ∃ p, fAt true ds rs (q + 1) = p := ⟨_, rfl⟩
        rw [hp] at b1 HF hO hst
        rw [hp]
        clear hp
        obtain ⟨T, s⟩ := p
        have c0 : (0 : Int) ≤ q := by omega
        have c1 : (q : Int) < ds.length := by omega
        have c2 : (q : Int) < rs.length := by omega
        simp only at b1 hO hst ⊢
        have HFF := Lib.hid HF.out
        clear HF
        by_cases hodd : s % 2 = 1
        · have t1 : (s % 2 == 1) = true := by simp [hodd]
          have HU := Lib.hid (hst (r - 1 - x))
          have HO := Lib.hid hodd
          clear hst hO hodd
          go_wp2
          go_region
          go_wp2
          go_roundw
          case rel =>
            have e := HFF.out
            rw [if_pos HO.out] at e
            have hu := HU.out
            rw [set_at HE.out] at hu
            refine ⟨q, by omega, by go_num, by rw [e]; rfl, ?_, ?_⟩
            · rw [e]
              exact hu.1
            · exact only_drew (grown_trans hG hu.2)
          case measure => simp [intOf]
        · have t1 : (s % 2 == 1) = false := by simp [hodd]
          have HOw := Lib.hid hO
          have HO := Lib.hid hodd
          clear hst hO hodd
          go_wp2
          go_roundw
          case rel =>
            have e := HFF.out
            rw [if_neg HO.out] at e
            refine ⟨q, by omega, by go_num, by rw [e]; rfl, ?_, hG⟩
            rw [e]
            have := HOw.out
            rw [keep_at HE.out] at this
            exact this
          case measure => simp [intOf]
      · obtain rfl : k = 0 := by omega
        have HW := Lib.hid hO
        have LT := Lib.hid (fun k hk => (O1.lt k hk).1)
        clear hO
        go_wp2
        go_ret
        refine ⟨A, c, by rw [HL.out]; rfl, ?_, B1.grown hG B1.size LT.out⟩
        rw [HL.out, HG.out]
        have := HW.out
        simpa [fAt] using this

set_option maxHeartbeats 3200000 in
theorem sFromGrayDigits_c (w : World) (D : Option Addr) (c : Nat) (ds : List Int) (hd : Rd w D ds) (hl : ds.length ≤ 1048576) (_hd : AllI64 ds) (B : Option Addr) (c' : Nat) (rs : List Int) (hb : Rd w B rs) (hl' : rs.length ≤ 1048576) (_hb : AllI64 rs) :
    Calls Try.prog 29 #[.slice D ds.length c, .slice B rs.length c'] w fun e w' => e = .returned (.int .i64 (fromGR ds rs)) ∧ Below w.heap.size w w' := by
  have SM := sMixedOk_any D B c c' ds rs w hd hb (by omega) (by omega)
  rcases Bool.eq_false_or_eq_true (mixOkB ds rs) with h | h
  · rw [h] at SM
    have SM2 := Lib.hid SM
    clear SM
    obtain ⟨d1, d2, d3, d4, d5⟩ := digs_of h
    have HM : Hid (fromGR ds rs = mvL (fL false ds rs).1 rs) := by unfold Hid; simp [fromGR, h]
    have hlen : (fL false ds rs).1.length = ds.length := fL_len (by omega)
    have HLn := Lib.hid hlen
    have HD1 := Lib.hid d1
    have HB := Lib.hid hb
    have HD := Lib.hid d2
    have HS := Lib.hid (fAt_sum (own := false) d2 hl)
    have H0 := Lib.hid (fAt_end false ds rs)
    have hp : 0 < ds.length := by omega
    obtain ⟨dd, x0, rfl, _, _⟩ := hd.at_ (k := 0) hp
    have R1 := hd.alloc (.cells #[] 3)
    have O1 := Ap.empty w w.heap.size (Nat.le_refl _)
    have hL : ([] : List Int).length + ds.length ≤ 1099511627776 := by simp; omega
    have hs : w.heap.size ≤ (w.alloc (.cells #[] 3)).heap.size := by simp
    clear hlen d2 d1 hd hb
    go_enter Try.func29, Try.ntmps29
    go_wp2_with fail
    refine (SM2.out).mono ?_
    rintro e w' ⟨rfl, rfl⟩
    go_wp2_with (at_builtin; refine wpList_appN O1 R1 rfl hL hs rfl _ _ 26 rfl rfl rfl rfl ?_; intro v' w1 O' B'; rw [List.nil_append] at O'; obtain ⟨A, ca, rfl⟩ := O'.form)
    have C1 := ((Below.refl w.heap.size w).alloc (Nat.le_refl _) (.cells #[] 3)).trans B'
    have OO := O'.ow
    clear O' O1 R1 hL hs B'
    have HR1 := Lib.hid (HB.out.below C1)
    have HSEP := Lib.hid (own_sep (v := Value.slice A ds.length ca) HB.out (by omega) (fun k hk => (OO.lt k hk).1))
    have LT := Lib.hid (fun k hk => (OO.lt k hk).1)
    go_loopw [6, 7] (fun s i wr => ∃ j : Nat, j ≤ ds.length ∧ i = .int .i64 ((j : Int) - 1) ∧ s = .int .i64 (fAt false ds rs j).2 ∧ Ow wr w.heap.size (.slice A ds.length ca) (ds.take j ++ (fAt false ds rs j).1) ∧ w1.grownBy wr (Value.slice A ds.length ca).ownBlock) (fun _ i _ => (intOf i + 1).toNat)
    case atStart => exact ⟨ds.length, Nat.le_refl _, rfl, by rw [H0.out], by rw [H0.out, List.take_length, List.append_nil]; exact OO, World.grownBy.refl _ _⟩
    case round =>
      obtain ⟨k, hk, rfl, rfl, hO, hG⟩ := hrel
      by_cases hlt : 0 < k
      · obtain ⟨q, rfl⟩ : ∃ q, k = q + 1 := ⟨k - 1, by omega⟩
        have ej : ((q + 1 : Nat) : Int) - 1 = (q : Int) := by omega
        rw [ej]
        clear ej
        have RB := HR1.out.grown hG HSEP.out
        have hdq : ds[q]? = some (ds[q]'(by omega)) := List.getElem?_eq_getElem _
        obtain ⟨d, hd⟩ : ∃ d, ds[q]? = some d := ⟨_, hdq⟩
        clear hdq
        obtain ⟨g, x, rfl, hx, hc, hf, hst⟩ := hO.at_ (k := q) (by rw [List.length_append, List.length_take]; omega)
        obtain rfl : x = d := by have := hx.out; rw [mem_at hd] at this; exact (Option.some.inj this).symm
        obtain ⟨bd, r, rfl, hr, hcr⟩ := RB.at_ (k := q) (by have := HD1.out; omega)
        have hD := HD.out q x r hd hr.out
        have b1 := HS.out (q + 1)
        have HF := Lib.hid (fAt_step (own := false) hd hr.out)
        have HE := Lib.hid hd
        clear hx RB hd
        obtain ⟨p, hp⟩ : ∃ p, fAt false ds rs (q + 1) = p := ⟨_, rfl⟩
        rw [hp] at b1 HF hO hst
        rw [hp]
        clear hp
        obtain ⟨T, s⟩ := p
        have c0 : (0 : Int) ≤ q := by omega
        have c1 : (q : Int) < ds.length := by omega
        have c2 : (q : Int) < rs.length := by have := HD1.out; omega
        simp only at b1 hO hst ⊢
        have HFF := Lib.hid HF.out
        clear HF
        by_cases hodd : s % 2 = 1
        · have t1 : (s % 2 == 1) = true := by simp [hodd]
          have HU := Lib.hid (hst (r - 1 - x))
          have HO := Lib.hid hodd
          clear hst hO hodd
          go_wp2
          go_roundw
          case rel =>
            have e := HFF.out
            rw [if_pos HO.out] at e
            have hu := HU.out
            rw [set_at HE.out] at hu
            refine ⟨q, by omega, by go_num, by rw [e]; rfl, ?_, ?_⟩
            · rw [e]
              exact hu.1
            · exact grown_trans hG hu.2
          case measure => simp [intOf]
        · have t1 : (s % 2 == 1) = false := by simp [hodd]
          have HOw := Lib.hid hO
          have HO := Lib.hid hodd
          clear hst hO hodd
          go_wp2
          go_roundw
          case rel =>
            have e := HFF.out
            rw [if_neg HO.out] at e
            refine ⟨q, by omega, by go_num, by rw [e]; rfl, ?_, hG⟩
            rw [e]
            have := HOw.out
            rw [keep_at HE.out] at this
            exact this
          case measure => simp [intOf]
      · obtain rfl : k = 0 := by omega
        have HW : Hid (Ow wr w.heap.size (.slice A ds.length ca) (fL false ds rs).1) := by unfold Hid; simpa [fAt] using hO
        have R5 := HR1.out.grown hG HSEP.out
        clear hO
        go_wp2_with fail
        refine (l07Value_any _ _ _ _ _ _ _ _ HW.out.rd R5 HLn.out (by omega) (by rw [HLn.out, HD1.out]) (fun i d r hd hr => by have := fL_digs (own := false) HD.out i d r hd hr; omega) (by omega)).mono ?_
        rintro e w4 ⟨rfl, n4, rfl⟩
        go_wp2
        go_ret
        exact ⟨ret_int HM.out.symm, below_drewN (C1.grown hG C1.size LT.out) n4⟩
  · rw [h] at SM
    have SM2 := Lib.hid SM
    clear SM
    have HM : Hid (fromGR ds rs = -1) := by unfold Hid; simp [fromGR, h]
    go_enter Try.func29, Try.ntmps29
    go_wp2_with fail
    refine (SM2.out).mono ?_
    rintro e w' ⟨rfl, rfl⟩
    go_wp2
    go_ret
    exact ⟨ret_int HM.out.symm, Below.refl _ _⟩

set_option maxRecDepth 100000 in
set_option maxHeartbeats 1600000 in
theorem lGrayDigits_law (w : World) (n0 : Int) (b0 : -9223372036854775808 ≤ n0 ∧ n0 ≤ 9223372036854775807) (A1 : Option Addr) (c1 : Nat) (xs1 : List Int) (r1 : Rd w A1 xs1) (_m1 : xs1.length ≤ maxLen) (b1 : ∀ x ∈ xs1, -9223372036854775808 ≤ x ∧ x ≤ 9223372036854775807) :
    Calls Try.prog 9 #[.int .i64 n0, .slice A1 xs1.length c1] w fun e w' => e = .returned (.bool true) ∧ Below w.heap.size w w' := by
  have BA0 : I64 n0 := b0
  clear b0
  have RA1 := Lib.hid r1
  have BA1 : AllI64 xs1 := b1
  clear r1 b1
  by_cases h1 : xs1.length ≤ 1048576
  · skip
    go_enter Try.func9, Try.ntmps9
    go_wp2_with fail
    refine (toIntS_any _ _ _ _ (RA1.out.below (Below.refl w.heap.size w)) h1).mono ?_
    rintro e w1 ⟨A_S1, c_S1, rfl, S1_0, B1⟩
    have L_S1 := fun k hk => (S1_0.lt k hk).1
    have C2 := (Below.refl w.heap.size w).trans (B1.mono (Below.refl w.heap.size w).size)
    go_wp2_with fail
    refine (sGrayDigits_c _ _ BA0 _ _ _ S1_0.rd h1 BA1).mono ?_
    rintro e w3 ⟨A_W0, c_W0, rfl, W0_0, B3⟩
    have U_S1_W0 := fun k hk => (S1_0.lt k hk).2
    have L_W0 := fun k hk => (W0_0.lt k hk).1
    have C4 := C2.trans (B3.mono C2.size)
    have S1_4 := S1_0.below' B3
    go_wp2_with fail
    refine (toIntS_any _ _ _ _ (RA1.out.below C4) h1).mono ?_
    rintro e w5 ⟨A_X1, c_X1, rfl, X1_0, B5⟩
    have U_W0_X1 := fun k hk => (W0_0.lt k hk).2
    have L_X1 := fun k hk => (X1_0.lt k hk).1
    have C6 := C4.trans (B5.mono C4.size)
    have W0_6 := W0_0.below' B5
    go_wp2_with fail
    refine (iGrayDigits_c _ _ BA0 _ _ _ X1_0.rd h1 BA1).mono ?_
    rintro e w7 ⟨A_G0, c_G0, rfl, G0_0, B7⟩
    have U_W0_G0 := fun k hk => (W0_6.lt k hk).2
    have U_X1_G0 := fun k hk => (X1_0.lt k hk).2
    have L_G0 := fun k hk => (G0_0.lt k hk).1
    have C8 := C6.trans (B7.mono C6.size)
    have W0_8 := W0_6.below' B7
    have X1_8 := X1_0.below' B7
    go_wp2_with fail
    refine (eqIntS_same _ _ _ _ _ _ G0_0.rd W0_8.rd ((grayDR_len n0 xs1))).mono ?_
    rintro e w9 ⟨rfl, n9_, rfl⟩
    have C10 := below_drewN C8 n9_
    have W0_10 := W0_8.drewN n9_
    have X1_10 := X1_8.drewN n9_
    have G0_10 := G0_0.drewN n9_
    go_wp2_with fail
    refine (toIntS_any _ _ _ _ (RA1.out.below C10) h1).mono ?_
    rintro e w11 ⟨A_T1, c_T1, rfl, T1_0, B11⟩
    have U_W0_T1 := fun k hk => (W0_10.lt k hk).2
    have U_X1_T1 := fun k hk => (X1_10.lt k hk).2
    have U_G0_T1 := fun k hk => (G0_10.lt k hk).2
    have L_T1 := fun k hk => (T1_0.lt k hk).1
    have C12 := C10.trans (B11.mono C10.size)
    have W0_12 := W0_10.below' B11
    have X1_12 := X1_10.below' B11
    have G0_12 := G0_10.below' B11
    go_wp2_with fail
    refine (eqIntS_same _ _ _ _ _ _ X1_12.rd T1_0.rd (by omega)).mono ?_
    rintro e w13 ⟨rfl, n13_, rfl⟩
    have C14 := below_drewN C12 n13_
    have W0_14 := W0_12.drewN n13_
    have X1_14 := X1_12.drewN n13_
    have G0_14 := G0_12.drewN n13_
    have T1_14 := T1_0.drewN n13_
    go_wp2_with fail
    refine (markIntS_any _ _ _ _ _ _ X1_14 (by omega) (by omega) (by omega)).mono ?_
    rintro e w15 ⟨rfl, X1_15, G15⟩
    have W0_15 := W0_14.kept G15 (own_ne U_W0_X1 L_X1)
    have G0_15 := G0_14.kept G15 (own_ne' U_X1_G0 L_G0)
    have C16 := C14.grown G15 C14.size (fun k hk => Nat.le_trans C4.size (L_X1 k hk))
    go_wp2_with fail
    refine (eqIntS_same _ _ _ _ _ _ G0_15.rd W0_15.rd ((grayDR_len n0 xs1))).mono ?_
    rintro e w17 ⟨rfl, n17_, rfl⟩
    have C18 := below_drewN C16 n17_
    have W0_18 := W0_15.drewN n17_
    have G0_18 := G0_15.drewN n17_
    go_wp2_with fail
    refine (markIntS_any _ _ _ _ _ _ G0_18 ((grayDR_len n0 xs1)) (by omega) (by omega)).mono ?_
    rintro e w19 ⟨rfl, G0_19, G19⟩
    have W0_19 := W0_18.kept G19 (own_ne U_W0_G0 L_G0)
    have C20 := C18.grown G19 C18.size (fun k hk => Nat.le_trans C6.size (L_G0 k hk))
    go_wp2_with fail
    refine (heldIntS_any _ _ _ _ _ (by have h := G0_19.rd' (marks_length _ _); exact h) ((grayDR_len n0 xs1)) (by omega) (by omega)).mono ?_
    rintro e w21 ⟨rfl, rfl⟩
    go_wp2_with fail
    refine (toIntS_any _ _ _ _ (RA1.out.below C20) h1).mono ?_
    rintro e w22 ⟨A_Y1, c_Y1, rfl, Y1_0, B22⟩
    have U_W0_Y1 := fun k hk => (W0_19.lt k hk).2
    have U_G0_Y1 := fun k hk => (G0_19.lt k hk).2
    have L_Y1 := fun k hk => (Y1_0.lt k hk).1
    have C23 := C20.trans (B22.mono C20.size)
    have W0_23 := W0_19.below' B22
    have G0_23 := G0_19.below' B22
    go_wp2_with fail
    refine (iGrayDigits_c _ _ BA0 _ _ _ Y1_0.rd h1 BA1).mono ?_
    rintro e w24 ⟨A_H0, c_H0, rfl, H0_0, B24⟩
    have U_W0_H0 := fun k hk => (W0_23.lt k hk).2
    have U_G0_H0 := fun k hk => (G0_23.lt k hk).2
    have U_Y1_H0 := fun k hk => (Y1_0.lt k hk).2
    have L_H0 := fun k hk => (H0_0.lt k hk).1
    have C25 := C23.trans (B24.mono C23.size)
    have W0_25 := W0_23.below' B24
    have G0_25 := G0_23.below' B24
    have Y1_25 := Y1_0.below' B24
    go_wp2_with fail
    refine (eqIntS_same _ _ _ _ _ _ H0_0.rd W0_25.rd ((grayDR_len n0 xs1))).mono ?_
    rintro e w26 ⟨rfl, n26_, rfl⟩
    have C27 := below_drewN C25 n26_
    have W0_27 := W0_25.drewN n26_
    have G0_27 := G0_25.drewN n26_
    have H0_27 := H0_0.drewN n26_
    go_wp2_with fail
    refine (heldIntS_any _ _ _ _ _ (by have h := G0_27.rd' (marks_length _ _); exact h) ((grayDR_len n0 xs1)) (by omega) (by omega)).mono ?_
    rintro e w28 ⟨rfl, rfl⟩
    go_wp2
    go_ret
    exact ⟨rfl, C27⟩
  · unfold maxLen at _m1
    go_enter Try.func9, Try.ntmps9
    go_wp2
    go_ret
    exact ⟨rfl, Below.refl _ _⟩

set_option maxRecDepth 100000 in
set_option maxHeartbeats 1600000 in
theorem lFromGrayDigits_law (w : World) (A0 : Option Addr) (c0 : Nat) (xs0 : List Int) (r0 : Rd w A0 xs0) (_m0 : xs0.length ≤ maxLen) (b0 : ∀ x ∈ xs0, -9223372036854775808 ≤ x ∧ x ≤ 9223372036854775807) (A1 : Option Addr) (c1 : Nat) (xs1 : List Int) (r1 : Rd w A1 xs1) (_m1 : xs1.length ≤ maxLen) (b1 : ∀ x ∈ xs1, -9223372036854775808 ≤ x ∧ x ≤ 9223372036854775807) :
    Calls Try.prog 10 #[.slice A0 xs0.length c0, .slice A1 xs1.length c1] w fun e w' => e = .returned (.bool true) ∧ Below w.heap.size w w' := by
  have RA0 := Lib.hid r0
  have BA0 : AllI64 xs0 := b0
  clear r0 b0
  have RA1 := Lib.hid r1
  have BA1 : AllI64 xs1 := b1
  clear r1 b1
  by_cases h0 : xs0.length ≤ 1048576
  · skip
    by_cases h1 : xs1.length ≤ 1048576
    · skip
      go_enter Try.func10, Try.ntmps10
      go_wp2_with fail
      refine (toIntS_any _ _ _ _ (RA0.out.below (Below.refl w.heap.size w)) h0).mono ?_
      rintro e w1 ⟨A_S0, c_S0, rfl, S0_0, B1⟩
      have L_S0 := fun k hk => (S0_0.lt k hk).1
      have C2 := (Below.refl w.heap.size w).trans (B1.mono (Below.refl w.heap.size w).size)
      go_wp2_with fail
      refine (toIntS_any _ _ _ _ (RA1.out.below C2) h1).mono ?_
      rintro e w3 ⟨A_S1, c_S1, rfl, S1_0, B3⟩
      have U_S0_S1 := fun k hk => (S0_0.lt k hk).2
      have L_S1 := fun k hk => (S1_0.lt k hk).1
      have C4 := C2.trans (B3.mono C2.size)
      have S0_4 := S0_0.below' B3
      go_wp2_with fail
      refine (sFromGrayDigits_c _ _ _ _ S0_4.rd h0 BA0 _ _ _ S1_0.rd h1 BA1).mono ?_
      rintro e w5 ⟨rfl, B5⟩
      have C6 := C4.trans (B5.mono C4.size)
      have S0_6 := S0_4.below' B5
      have S1_6 := S1_0.below' B5
      go_wp2_with fail
      refine (toIntS_any _ _ _ _ (RA0.out.below C6) h0).mono ?_
      rintro e w7 ⟨A_X0, c_X0, rfl, X0_0, B7⟩
      have L_X0 := fun k hk => (X0_0.lt k hk).1
      have C8 := C6.trans (B7.mono C6.size)
      go_wp2_with fail
      refine (toIntS_any _ _ _ _ (RA1.out.below C8) h1).mono ?_
      rintro e w9 ⟨A_X1, c_X1, rfl, X1_0, B9⟩
      have U_X0_X1 := fun k hk => (X0_0.lt k hk).2
      have L_X1 := fun k hk => (X1_0.lt k hk).1
      have C10 := C8.trans (B9.mono C8.size)
      have X0_10 := X0_0.below' B9
      go_wp2_with fail
      refine (iFromGrayDigits_c _ _ _ _ X0_10.rd h0 BA0 _ _ _ X1_0.rd h1 BA1).mono ?_
      rintro e w11 ⟨rfl, B11⟩
      have C12 := C10.trans (B11.mono C10.size)
      have X0_12 := X0_10.below' B11
      have X1_12 := X1_0.below' B11
      go_wp2_with fail
      refine (toIntS_any _ _ _ _ (RA0.out.below C12) h0).mono ?_
      rintro e w13 ⟨A_T0, c_T0, rfl, T0_0, B13⟩
      have U_X0_T0 := fun k hk => (X0_12.lt k hk).2
      have U_X1_T0 := fun k hk => (X1_12.lt k hk).2
      have L_T0 := fun k hk => (T0_0.lt k hk).1
      have C14 := C12.trans (B13.mono C12.size)
      have X0_14 := X0_12.below' B13
      have X1_14 := X1_12.below' B13
      go_wp2_with fail
      refine (eqIntS_same _ _ _ _ _ _ X0_14.rd T0_0.rd (by omega)).mono ?_
      rintro e w15 ⟨rfl, n15_, rfl⟩
      have C16 := below_drewN C14 n15_
      have X0_16 := X0_14.drewN n15_
      have X1_16 := X1_14.drewN n15_
      have T0_16 := T0_0.drewN n15_
      go_wp2_with fail
      refine (toIntS_any _ _ _ _ (RA1.out.below C16) h1).mono ?_
      rintro e w17 ⟨A_T1, c_T1, rfl, T1_0, B17⟩
      have U_X0_T1 := fun k hk => (X0_16.lt k hk).2
      have U_X1_T1 := fun k hk => (X1_16.lt k hk).2
      have L_T1 := fun k hk => (T1_0.lt k hk).1
      have C18 := C16.trans (B17.mono C16.size)
      have X0_18 := X0_16.below' B17
      have X1_18 := X1_16.below' B17
      go_wp2_with fail
      refine (eqIntS_same _ _ _ _ _ _ X1_18.rd T1_0.rd (by omega)).mono ?_
      rintro e w19 ⟨rfl, n19_, rfl⟩
      have C20 := below_drewN C18 n19_
      have X0_20 := X0_18.drewN n19_
      have X1_20 := X1_18.drewN n19_
      have T1_20 := T1_0.drewN n19_
      go_wp2
      go_ret
      exact ⟨rfl, C20⟩
    · unfold maxLen at _m1
      go_enter Try.func10, Try.ntmps10
      go_wp2
      go_ret
      exact ⟨rfl, Below.refl _ _⟩
  · unfold maxLen at _m0
    go_enter Try.func10, Try.ntmps10
    go_wp2
    go_ret
    exact ⟨rfl, Below.refl _ _⟩

end Go.Proofs.Ythnpobbpmgjhjaa
