/-
  WALKS: LeastDigits of the program, and the law over it.
-/
import Derived.Test.YtlhabcpoemcpjaaC15
import Derived.Deep.RegionHeld3
namespace Go.Proofs.Ytlhabcpoemcpjaa
open Go.RowKit

theorem Rd.drop {w : World} {ad : Addr} {xs : List Int} (h : Rd w (some ad) xs) (k : Nat) : Rd w (some (ad.add k)) (xs.drop k) := by
  have hc : ∀ i, i < (xs.drop k).length → w.cell? ((ad.add k).add i) = some (.int .i64 ((xs.drop k).getD i 0)) := by
    intro i hi
    rw [List.length_drop] at hi
    have hx : xs[k + i]? = some (xs[k + i]'(by omega)) := List.getElem?_eq_getElem (by omega)
    have := h.at2 hx rfl
    rw [Addr.add_add, this]
    congr 2
    unfold List.getD
    rw [List.getElem?_drop, hx]
    rfl
  have := Rd.of_cells (n := (xs.drop k).length) (Nat.le_refl _) hc
  rwa [List.take_length] at this
theorem kReach (w : World) (B : Option Addr) (cb m : Nat) (e1 e2 : Int) (n s : Nat) (cs : List Int) (hb : Rd w B cs) (hm : cs.length = m) (he1 : e1 = n) (he2 : e2 = s) (hcs : ∀ x ∈ cs, (1 : Int) ≤ x ∧ x ≤ 1000) (hne : 0 < cs.length) (hl : cs.length ≤ 1000) (hn : n ≤ 400) (hs : s ≤ 400) :
    Calls Try.prog 50 #[.slice B m cb, .int .i64 e1, .int .i64 e2] w fun e w' => ∃ v : Int, Fewest cs n v ∧ e = .returned (.bool (v == (s : Int))) ∧ Below w.heap.size w w' := by
  subst hm he1 he2
  exact reaches_any B cb n s cs w hb hcs hne hl hn hs
/-- What the loop keeps: the digits that are found, and what is left to find. -/
structure LSt (cs L : List Int) (k n s : Nat) (lo l : List Int) : Prop where
  rest : lst (cs.drop k) n s = some l
  min : ∀ t, Rep (cs.drop k) n t → s ≤ t
  cat : lo ++ l = L
  len : lo.length = k
  n4 : n ≤ 400
  s4 : s ≤ 400
theorem LSt.step {cs L : List Int} {k n s : Nat} {lo l : List Int} {c : Int} (hcs : ∀ x ∈ cs, (1 : Int) ≤ x ∧ x ≤ 1000) (h : LSt cs L k n s lo l) (hc : cs[k]? = some c) :
    ∃ (d : Nat) (l' : List Int), d ≤ s ∧ (d : Int) * c ≤ n ∧ LSt cs L (k + 1) ((n : Int) - d * c).toNat (s - d) (lo ++ [(d : Int)]) l' ∧
      (∀ j : Nat, j ≤ d → ∀ v : Int, Fewest (cs.drop (k + 1)) ((n : Int) - j * c).toNat v → (v = ((s - j : Nat) : Int) ↔ j = d)) ∧ (k + 1 = cs.length → d = s) := by
  obtain ⟨h1, h2, h3, h4, h5, h6⟩ := h
  have b := hcs c (List.mem_of_getElem? hc)
  rw [drop_cons hc] at h1 h2
  obtain ⟨d, l', e, d1, e2, m2, d2, dv⟩ := least_step b.1 (fun x hx => (hcs x (List.mem_of_mem_drop hx)).1) h1 h2
  have en : (((n : Int) - d * c).toNat : Int) = (n : Int) - d * c := Int.toNat_of_nonneg (by omega)
  have d0 : 0 ≤ (d : Int) * c := Int.mul_nonneg (by omega) (by omega)
  refine ⟨d, l', d1, d2, ⟨by rw [en]; exact e2, fun t ht => m2 t (by rw [en] at ht; exact ht), by rw [List.append_assoc, ← h3, e]; rfl, by simp [h4], by omega, by omega⟩, dv, fun hk => ?_⟩
  have hd : cs.drop (k + 1) = [] := List.drop_eq_nil_of_le (by omega)
  rw [hd, lst_nil] at e2
  split at e2
  · rename_i hz; omega
  · cases e2

set_option maxRecDepth 100000 in
set_option maxHeartbeats 6400000 in
theorem iLeastDigits_c (w : World) (N : Int) (hN : I64 N) (B : Option Addr) (c' : Nat) (cs : List Int) (hb : Rd w B cs) (hcap : cs.length ≤ c') (hl : cs.length ≤ 1048576) (hab : AllI64 cs) :
    Calls Try.prog 34 #[.int .i64 N, .slice B cs.length c'] w fun e w' => ∃ A c, e = .returned (.slice A (leastL N cs).length c) ∧ Ow w' w.heap.size (.slice A (leastL N cs).length c) (leastL N cs) ∧ Below w.heap.size w w' := by
  have FC := Lib.hid (iFewestCoins_c w N hN B c' cs hb hl hab)
  have HB := Lib.hid hb
  clear hb
  rcases Bool.eq_false_or_eq_true (coinsB cs) with h | h
  · rcases Bool.eq_false_or_eq_true (inB N 0 400) with h2 | h2
    · obtain ⟨n0, n1⟩ := inB_true h2
      obtain ⟨n, rfl⟩ : ∃ n : Nat, N = n := ⟨N.toNat, by omega⟩
      obtain ⟨s, e1, s1, e2, m2⟩ := leastL_of h h2
      obtain ⟨p1, p2, p3, p4, p5⟩ := coinsB_parts h
      rw [e1] at FC
      have HX := Lib.hid p3
      obtain ⟨L, hL⟩ : ∃ L, leastL (n : Int) cs = L := ⟨_, rfl⟩
      rw [hL] at e2 ⊢
      have L0 : Hid (LSt cs L 0 n s [] L) := ⟨by rw [List.drop_zero]; exact e2, fun t ht => m2 t (by rwa [List.drop_zero] at ht), rfl, rfl, by omega, s1⟩
      have s0 : (0 : Int) ≤ s := by omega
      clear e1 e2 m2 h h2 p3 p4 p5 hL
      go_enter Try.func34, Try.ntmps34
      go_wp2_with fail
      refine (FC.out).mono ?_
      rintro e w1 ⟨rfl, B1⟩
      go_wp2
      clear FC s0 n0 n1 s1
      go_loopw [0, 5, 6, 16] (fun nv sv v iv wr => ∃ (k n s : Nat) (lo l : List Int), k ≤ cs.length ∧ iv = .int .i64 k ∧ nv = .int .i64 n ∧ sv = .int .i64 s ∧ Hid (LSt cs L k n s lo l) ∧ Ap wr w.heap.size v lo ∧ Below w.heap.size w wr) (fun _ _ _ iv _ => cs.length - (intOf iv).toNat)
      case atStart => exact ⟨0, n, s, [], L, Nat.zero_le _, rfl, rfl, rfl, L0.out, Ap.nil_ _ _, B1⟩
      case round =>
        clear L0 B1
        obtain ⟨k, n, s, lo, l, hk, rfl, rfl, rfl, hS, hO, hB⟩ := hrel
        have hs := hB.size
        have n4 := hS.out.n4
        have s4 := hS.out.s4
        have hL0 : lo.length < 1099511627776 := by have := hS.out.len; omega
        by_cases hlt : k < cs.length
        · obtain ⟨ad0, c, rfl, hci, hcell⟩ := (HB.out.below hB).at_ hlt
          have bc := HX.out c (List.mem_of_getElem? hci.out)
          obtain ⟨bc0, bc1⟩ := bc
          obtain ⟨d, l', d1, d2, hS2, hdv, hlast⟩ := hS.out.step HX.out hci.out
          have HS2 := Lib.hid hS2
          have HDV := Lib.hid hdv
          have HRD := Lib.hid ((HB.out.below hB).drop (k + 1))
          have m0 : 0 ≤ (d : Int) * c := Int.mul_nonneg (by omega) (by omega)
          obtain ⟨Q, hQ⟩ : ∃ Q, (d : Int) * c = Q := ⟨_, rfl⟩
          have HQ := Lib.hid hQ
          rw [hQ] at d2 m0
          have wQ : IntKind.i64.wrap ((d : Int) * c) = Q := by rw [hQ]; exact IntWalk.i64_in _ (by omega)
          have k0 : (0 : Int) ≤ k := by omega
          have k1 : (k : Int) < cs.length := by omega
          have wn : IntKind.i64.wrap ((n : Int) - Q) = (n : Int) - Q := IntWalk.i64_in _ (by omega)
          have HN2 : Hid ((((n : Int) - Q).toNat : Nat) = ((n : Int) - Q)) := Int.toNat_of_nonneg (by omega)
          have HS3 : Hid (LSt cs L (k + 1) ((n : Int) - Q).toNat (s - d) (lo ++ [(d : Int)]) l') := by rw [← hQ]; exact hS2
          have wsd : IntKind.i64.wrap ((s : Int) - d) = (s : Int) - d := IntWalk.i64_in _ (by omega)
          clear hS2 hdv hQ hS
          by_cases hla : k + 1 < cs.length
          · have k2 : (k : Int) + 1 < cs.length := by omega
            have k3 : ((k : Int) + 1 == cs.length) = false := by simp; omega
            have k4 : ¬ (k : Int) + 1 = cs.length := by omega
            have k5 : (k : Int) + 1 ≤ cs.length := by omega
            have k6 : (k : Int) + 1 ≤ c' := by omega
            have k7 : ((k : Int) + 1).toNat = k + 1 := by omega
            have k8 : (0 : Int) ≤ (k : Int) + 1 := by omega
            have k9 : (cs.length : Int) ≤ c' := by omega
            have k10 : ¬ c' = k + 1 := by omega
            have HXd : Hid (∀ x ∈ cs.drop (k + 1), (1 : Int) ≤ x ∧ x ≤ 1000) := fun x hx => HX.out x (List.mem_of_mem_drop hx)
            have hlenD : Hid ((cs.drop (k + 1)).length = cs.length - (k + 1)) := List.length_drop
            have LG : (ad0.add k).block < wr.heap.size := cell_lt hcell
            go_wp2
            go_loopw [8] (fun dv wq => ∃ j : Nat, j ≤ d ∧ dv = .int .i64 j ∧ Below wr.heap.size wr wq) (fun dv _ => d - (intOf dv).toNat)
            case atStart => exact ⟨0, Nat.zero_le _, rfl, Below.refl _ _⟩
            case round =>
              obtain ⟨j, hj, rfl, hBq⟩ := hrel
              have j0 : 0 ≤ (j : Int) * c := Int.mul_nonneg (by omega) (by omega)
              have j1 : (j : Int) * c ≤ Q := by rw [← HQ.out]; exact Int.mul_le_mul_of_nonneg_right (by omega) (by omega)
              have hd := HDV.out j hj
              obtain ⟨P, hP⟩ : ∃ P, (j : Int) * c = P := ⟨_, rfl⟩
              rw [hP] at j0 j1 hd
              have w1 : IntKind.i64.wrap ((j : Int) * c) = P := by rw [hP]; exact IntWalk.i64_in _ (by omega)
              have w2_ : IntKind.i64.wrap ((n : Int) - P) = (n : Int) - P := IntWalk.i64_in _ (by omega)
              have w3_ : IntKind.i64.wrap ((s : Int) - j) = (s : Int) - j := IntWalk.i64_in _ (by omega)
              have w4_ : IntKind.i64.wrap ((k : Int) + 1) = (k : Int) + 1 := IntWalk.i64_in _ (by omega)
              have hcell2 := (hBq.cell LG).trans hcell
              have LG2 := Nat.lt_of_lt_of_le LG hBq.size
              have RQ := HRD.out.below hBq
              have HD := Lib.hid hd
              have b0 : (0 : Int) ≤ j := by omega
              have x1 : ((n : Int) - P) = (((n : Int) - P).toNat : Nat) := by omega
              have x2 : ((s : Int) - j) = ((s - j : Nat) : Int) := by omega
              have HX1 := Lib.hid x1
              have HX2 := Lib.hid x2
              have hnn : ((n : Int) - P).toNat ≤ 400 := by omega
              have hss : s - j ≤ 400 := by omega
              clear hd hP x1 x2
              go_wp2_with fail
              go_region_held3 (fun w' => w'.cell? (ad0.add k) = some (.int .i64 c)) (first | go_keep | (rw [B2.cell LG2]; exact hcell2))
                ((go_at_call 50; refine (kReach _ _ _ _ _ _ ((n : Int) - P).toNat (s - j) (cs.drop (k + 1)) (RQ.drewN _) hlenD.out HX1.out HX2.out HXd.out (by have := hlenD.out; omega) (by have := hlenD.out; omega) hnn hss).mono ?_; rintro e w2 ⟨v, hv, rfl, B2⟩))
              have hvd := HD.out v hv
              have hB2 := (below_drewN hBq _).trans (B2.mono hBq.size)
              by_cases hjd : j = d
              · have hvb : (v == ((s - j : Nat) : Int)) = true := by rw [beq_iff_eq]; exact hvd.2 hjd
                rw [hvb]
                have hjd2 := hjd.symm
                subst hjd2
                have hB3 := hB.trans (hB2.mono hs)
                have O2 := hO.below' hB2
                have hs2 := hB3.size
                have HCI := Lib.hid hci.out
                clear hvb hvd hv hcell2 hcell HD HX1 HX2 RQ w1 w2_ B2 hjd
                go_wp2_with (at_builtin; refine wpList_app1 O2 hL0 hs2 rfl _ _ 22 rfl rfl rfl rfl ?_; intro v' w' O' B'; have hcell4 := (HB.out.below (hB3.trans B')).at2 HCI.out rfl)
                go_roundw
                case rel => exact ⟨k + 1, ((n : Int) - Q).toNat, s - d, lo ++ [(d : Int)], l', by omega, by go_num, by rw [HN2.out], (by congr 1; omega), HS3.out, O', hB3.trans B'⟩
                case measure => simp [intOf]; omega
              · have hvb : (v == ((s - j : Nat) : Int)) = false := by
                  rw [beq_eq_false_iff_ne]
                  exact fun e => hjd (hvd.1 e)
                rw [hvb]
                clear hvb hvd hv HD HX1 HX2
                go_wp2
                go_roundw
                case rel => exact ⟨j + 1, by omega, by go_num, hB2⟩
                case measure => simp [intOf]; omega
          · have hkl : k + 1 = cs.length := by omega
            obtain rfl := hlast hkl
            have k2 : ((k : Int) + 1 < cs.length) = False := eq_false (by omega)
            have k3 : ((k : Int) + 1 == cs.length) = true := by simp; omega
            have k4 : (k : Int) + 1 = cs.length := by omega
            have w4_ : IntKind.i64.wrap ((k : Int) + 1) = (k : Int) + 1 := IntWalk.i64_in _ (by omega)
            have HK3 := Lib.hid k3
            have HK4 := Lib.hid k4
            clear hcell hlast k3 k4
            go_wp2
            go_loopw [8] (fun dv wq => ∃ q : Nat, dv = .int .i64 0 ∧ wq = wr.drewN q) (fun _ _ => 0)
            case atStart => exact ⟨0, rfl, rfl⟩
            case round =>
              obtain ⟨q, rfl, rfl⟩ := hrel
              have hB2 := below_drewN hB q
              have O2 := hO.drewN q
              have HCI := Lib.hid hci.out
              go_wp2
              go_quiet (fail)
              have hB3 := below_drewN hB (q + nq)
              have O3 := hO.drewN (q + nq)
              have hs3 := hB3.size
              have k4 := HK4.out
              have k3 := HK3.out
              go_wp2_with (at_builtin; refine wpList_app1 O3 hL0 hs3 rfl _ _ 22 rfl rfl rfl rfl ?_; intro v' w' O' B'; have hcell4 := (HB.out.below (hB3.trans B')).at2 HCI.out rfl)
              go_roundw
              case rel => exact ⟨k + 1, ((n : Int) - Q).toNat, d - d, lo ++ [(d : Int)], l', by omega, by go_num, by rw [HN2.out], (by congr 1; omega), HS3.out, O', hB3.trans B'⟩
              case measure => simp [intOf]; omega
        · have hkl : k = cs.length := by omega
          subst hkl
          have HLo : Hid (lo = L) := by
            have h1 := hS.out.rest
            rw [List.drop_length, lst_nil] at h1
            split at h1
            · have := Option.some.inj h1
              have h2 := hS.out.cat
              rw [← this, List.append_nil] at h2
              exact h2
            · cases h1
          obtain ⟨A', c2, rfl⟩ := hO.form
          have hw := hO.ow
          rw [HLo.out] at hw ⊢
          clear hO hS hL0
          go_wp2
          go_ret
          exact ⟨A', c2, rfl, hw, hB⟩
    · have HL := Lib.hid (leastL_no2 (cs := cs) h2)
      rw [fewestR_no2 h2] at FC
      clear h2
      go_enter Try.func34, Try.ntmps34
      go_wp2_with fail
      refine (FC.out).mono ?_
      rintro e w1 ⟨rfl, B1⟩
      go_wp2
      go_ret
      exact ⟨none, 0, by rw [HL.out]; rfl, by rw [HL.out]; exact Ow.nil_ _ _, B1⟩
  · have HL := Lib.hid (leastL_no1 (N := N) h)
    rw [fewestR_no1 h] at FC
    clear h
    go_enter Try.func34, Try.ntmps34
    go_wp2_with fail
    refine (FC.out).mono ?_
    rintro e w1 ⟨rfl, B1⟩
    go_wp2
    go_ret
    exact ⟨none, 0, by rw [HL.out]; rfl, by rw [HL.out]; exact Ow.nil_ _ _, B1⟩

theorem sLeastDigitsK_c (w : World) (N : Int) (hN : I64 N) (B : Option Addr) (c' : Nat) (cs : List Int) (hb : Rd w B cs) (_hcap : cs.length ≤ c') (hl : cs.length ≤ 1048576) (hab : AllI64 cs) :
    Calls Try.prog 33 #[.int .i64 N, .slice B cs.length c'] w fun e w' => ∃ A c, e = .returned (.slice A (leastL N cs).length c) ∧ Ow w' w.heap.size (.slice A (leastL N cs).length c) (leastL N cs) ∧ Below w.heap.size w w' := sLeastDigits_c w N hN B c' cs hb hl hab
theorem iLeastDigitsK_c (w : World) (N : Int) (hN : I64 N) (B : Option Addr) (c' : Nat) (cs : List Int) (hb : Rd w B cs) (hcap : cs.length ≤ c') (hl : cs.length ≤ 1048576) (hab : AllI64 cs) :
    Calls Try.prog 34 #[.int .i64 N, .slice B cs.length c'] w fun e w' => ∃ A c, e = .returned (.slice A (leastL N cs).length c) ∧ Ow w' w.heap.size (.slice A (leastL N cs).length c) (leastL N cs) ∧ Below w.heap.size w w' := iLeastDigits_c w N hN B c' cs hb hcap hl hab

set_option maxRecDepth 100000 in
set_option maxHeartbeats 1600000 in
theorem lLeastDigits_law (w : World) (n0 : Int) (b0 : -9223372036854775808 ≤ n0 ∧ n0 ≤ 9223372036854775807) (A1 : Option Addr) (c1 : Nat) (xs1 : List Int) (r1 : Rd w A1 xs1) (_m1 : xs1.length ≤ maxLen) (b1 : ∀ x ∈ xs1, -9223372036854775808 ≤ x ∧ x ≤ 9223372036854775807) :
    Calls Try.prog 11 #[.int .i64 n0, .slice A1 xs1.length c1] w fun e w' => e = .returned (.bool true) ∧ Below w.heap.size w w' := by
  have BA0 : I64 n0 := b0
  clear b0
  have RA1 := Lib.hid r1
  have BA1 : AllI64 xs1 := b1
  clear r1 b1
  by_cases h1 : xs1.length ≤ 1048576
  · skip
    go_enter Try.func11, Try.ntmps11
    go_wp2_with fail
    refine (toIntS_any _ _ _ _ (RA1.out.below (Below.refl w.heap.size w)) h1).mono ?_
    rintro e w1 ⟨A_S1, c_S1, rfl, S1_0, B1⟩
    have L_S1 := fun k hk => (S1_0.lt k hk).1
    have C2 := (Below.refl w.heap.size w).trans (B1.mono (Below.refl w.heap.size w).size)
    go_wp2_with fail
    refine (sLeastDigitsK_c _ _ BA0 _ _ _ S1_0.rd S1_0.cap.1 h1 BA1).mono ?_
    rintro e w3 ⟨A_W0, c_W0, rfl, W0_0, B3⟩
    have U_S1_W0 := fun k hk => (S1_0.lt k hk).2
    have L_W0 := fun k hk => (W0_0.lt k hk).1
    have C4 := C2.trans (B3.mono C2.size)
    have S1_4 := S1_0.below' B3
    go_wp2_with fail
    refine (toIntS_any _ _ _ _ (RA1.out.below C4) h1).mono ?_
    rintro e w5 ⟨A_X1, c_X1, rfl, X1_0, B5⟩
    have U_W0_X1 := fun k hk => (W0_0.lt k hk).2
    have L_X1 := fun k hk => (X1_0.lt k hk).1
    have C6 := C4.trans (B5.mono C4.size)
    have W0_6 := W0_0.below' B5
    go_wp2_with fail
    refine (iLeastDigitsK_c _ _ BA0 _ _ _ X1_0.rd X1_0.cap.1 h1 BA1).mono ?_
    rintro e w7 ⟨A_G0, c_G0, rfl, G0_0, B7⟩
    have U_W0_G0 := fun k hk => (W0_6.lt k hk).2
    have U_X1_G0 := fun k hk => (X1_0.lt k hk).2
    have L_G0 := fun k hk => (G0_0.lt k hk).1
    have C8 := C6.trans (B7.mono C6.size)
    have W0_8 := W0_6.below' B7
    have X1_8 := X1_0.below' B7
    go_wp2_with fail
    refine (eqIntS_same _ _ _ _ _ _ G0_0.rd W0_8.rd ((leastL_len n0 xs1))).mono ?_
    rintro e w9 ⟨rfl, n9_, rfl⟩
    have C10 := below_drewN C8 n9_
    have W0_10 := W0_8.drewN n9_
    have X1_10 := X1_8.drewN n9_
    have G0_10 := G0_0.drewN n9_
    go_wp2_with fail
    refine (toIntS_any _ _ _ _ (RA1.out.below C10) h1).mono ?_
    rintro e w11 ⟨A_T1, c_T1, rfl, T1_0, B11⟩
    have U_W0_T1 := fun k hk => (W0_10.lt k hk).2
    have U_X1_T1 := fun k hk => (X1_10.lt k hk).2
    have U_G0_T1 := fun k hk => (G0_10.lt k hk).2
    have L_T1 := fun k hk => (T1_0.lt k hk).1
    have C12 := C10.trans (B11.mono C10.size)
    have W0_12 := W0_10.below' B11
    have X1_12 := X1_10.below' B11
    have G0_12 := G0_10.below' B11
    go_wp2_with fail
    refine (eqIntS_same _ _ _ _ _ _ X1_12.rd T1_0.rd (by omega)).mono ?_
    rintro e w13 ⟨rfl, n13_, rfl⟩
    have C14 := below_drewN C12 n13_
    have W0_14 := W0_12.drewN n13_
    have X1_14 := X1_12.drewN n13_
    have G0_14 := G0_12.drewN n13_
    have T1_14 := T1_0.drewN n13_
    go_wp2_with fail
    refine (markIntS_any _ _ _ _ _ _ X1_14 (by omega) (by omega) (by omega)).mono ?_
    rintro e w15 ⟨rfl, X1_15, G15⟩
    have W0_15 := W0_14.kept G15 (own_ne U_W0_X1 L_X1)
    have G0_15 := G0_14.kept G15 (own_ne' U_X1_G0 L_G0)
    have C16 := C14.grown G15 C14.size (fun k hk => Nat.le_trans C4.size (L_X1 k hk))
    go_wp2_with fail
    refine (eqIntS_same _ _ _ _ _ _ G0_15.rd W0_15.rd ((leastL_len n0 xs1))).mono ?_
    rintro e w17 ⟨rfl, n17_, rfl⟩
    have C18 := below_drewN C16 n17_
    have W0_18 := W0_15.drewN n17_
    have G0_18 := G0_15.drewN n17_
    go_wp2_with fail
    refine (markIntS_any _ _ _ _ _ _ G0_18 ((leastL_len n0 xs1)) (by omega) (by omega)).mono ?_
    rintro e w19 ⟨rfl, G0_19, G19⟩
    have W0_19 := W0_18.kept G19 (own_ne U_W0_G0 L_G0)
    have C20 := C18.grown G19 C18.size (fun k hk => Nat.le_trans C6.size (L_G0 k hk))
    go_wp2_with fail
    refine (heldIntS_any _ _ _ _ _ (by have h := G0_19.rd' (marks_length _ _); exact h) ((leastL_len n0 xs1)) (by omega) (by omega)).mono ?_
    rintro e w21 ⟨rfl, rfl⟩
    go_wp2_with fail
    refine (toIntS_any _ _ _ _ (RA1.out.below C20) h1).mono ?_
    rintro e w22 ⟨A_Y1, c_Y1, rfl, Y1_0, B22⟩
    have U_W0_Y1 := fun k hk => (W0_19.lt k hk).2
    have U_G0_Y1 := fun k hk => (G0_19.lt k hk).2
    have L_Y1 := fun k hk => (Y1_0.lt k hk).1
    have C23 := C20.trans (B22.mono C20.size)
    have W0_23 := W0_19.below' B22
    have G0_23 := G0_19.below' B22
    go_wp2_with fail
    refine (iLeastDigitsK_c _ _ BA0 _ _ _ Y1_0.rd Y1_0.cap.1 h1 BA1).mono ?_
    rintro e w24 ⟨A_H0, c_H0, rfl, H0_0, B24⟩
    have U_W0_H0 := fun k hk => (W0_23.lt k hk).2
    have U_G0_H0 := fun k hk => (G0_23.lt k hk).2
    have U_Y1_H0 := fun k hk => (Y1_0.lt k hk).2
    have L_H0 := fun k hk => (H0_0.lt k hk).1
    have C25 := C23.trans (B24.mono C23.size)
    have W0_25 := W0_23.below' B24
    have G0_25 := G0_23.below' B24
    have Y1_25 := Y1_0.below' B24
    go_wp2_with fail
    refine (eqIntS_same _ _ _ _ _ _ H0_0.rd W0_25.rd ((leastL_len n0 xs1))).mono ?_
    rintro e w26 ⟨rfl, n26_, rfl⟩
    have C27 := below_drewN C25 n26_
    have W0_27 := W0_25.drewN n26_
    have G0_27 := G0_25.drewN n26_
    have H0_27 := H0_0.drewN n26_
    go_wp2_with fail
    refine (heldIntS_any _ _ _ _ _ (by have h := G0_27.rd' (marks_length _ _); exact h) ((leastL_len n0 xs1)) (by omega) (by omega)).mono ?_
    rintro e w28 ⟨rfl, rfl⟩
    go_wp2
    go_ret
    exact ⟨rfl, C27⟩
  · unfold maxLen at _m1
    go_enter Try.func11, Try.ntmps11
    go_wp2
    go_ret
    exact ⟨rfl, Below.refl _ _⟩

end Go.Proofs.Ytlhabcpoemcpjaa
