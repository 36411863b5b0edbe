/-
  WALKS: GreedyCoins, CoinsValue, IsGreedy (both packages) and the three laws over them.
-/
import Derived.Test.YtlhabcpoemcpjaaC1
namespace Go.Proofs.Ytlhabcpoemcpjaa
open Go.RowKit

/-- Greedy digits: going down from coin k - 1, the quotient; on with the remainder. -/
def grD (cs : List Int) : Nat → Int → List Int
  | 0, _ => []
  | k + 1, n => grD cs k (n % cs.getD k 1) ++ [n / cs.getD k 1]
theorem grD_zero (cs : List Int) (n : Int) : grD cs 0 n = [] := rfl
theorem grD_len (cs : List Int) (k : Nat) : ∀ n, (grD cs k n).length = k := by
  induction k with
  | zero => intro n; rfl
  | succ k ih => intro n; simp [grD, ih]
theorem grD_step {cs : List Int} {k : Nat} {x : Int} (hx : cs[k]? = some x) (n : Int) : grD cs (k + 1) n = grD cs k (n % x) ++ [n / x] := by
  have : cs.getD k 1 = x := by simp [List.getD, hx]
  show grD cs k (n % cs.getD k 1) ++ [n / cs.getD k 1] = _
  rw [this]
attribute [irreducible] grD
def greedyR (n : Int) (cs : List Int) : List Int := if coinsB cs && inB n 0 100000 then grD cs cs.length n else []
theorem greedyR_len10 (n : Int) (cs : List Int) : (greedyR n cs).length ≤ 10 := by
  unfold greedyR
  rcases Bool.eq_false_or_eq_true (coinsB cs && inB n 0 100000) with h | h
  · rw [if_pos h, grD_len]
    rw [Bool.and_eq_true] at h
    exact (coinsB_parts h.1).2.1
  · rw [h]; simp
theorem greedyR_len (n : Int) (cs : List Int) : (greedyR n cs).length ≤ 1099511627776 := by
  have := greedyR_len10 n cs
  omega
theorem greedyR_of {n : Int} {cs : List Int} (h : coinsB cs = true) (h2 : inB n 0 100000 = true) : greedyR n cs = grD cs cs.length n := by simp [greedyR, h, h2]

set_option maxHeartbeats 1600000 in
theorem l11Greedy_any (B : Option Addr) (c' : Nat) (N : Int) (cs : List Int) (w : World) (hb : Rd w B cs) (hl : cs.length ≤ 10) (hcs : ∀ x ∈ cs, (1 : Int) ≤ x ∧ x ≤ 1000) (h0 : 0 ≤ N) (h1 : N ≤ 100000) :
    Calls Try.prog 42 #[.int .i64 N, .slice B cs.length c'] w fun e w' => ∃ A c, e = .returned (.slice A cs.length c) ∧ Ow w' w.heap.size (.slice A cs.length c) (grD cs cs.length N) ∧ Below w.heap.size w w' := by
  have HX := Lib.hid hcs
  have LT := Lib.hid (l02Turn_any B c' cs.length cs (w.alloc (.cells #[] 3)) (hb.alloc _) rfl (by omega))
  clear hcs hb
  go_enter Try.func42, Try.ntmps42
  go_wp2_with fail
  refine (LT.out).mono ?_
  rintro e w1 ⟨A1, c1, rfl, O1, B1⟩
  have C1 := ((Below.refl w.heap.size w).alloc (Nat.le_refl _) (.cells #[] 3)).trans (B1.mono (by simp))
  have HO1 := Lib.hid O1.rd
  have PE := (Ap.empty w w.heap.size (Nat.le_refl _)).below' B1
  have OF1 : Off (.slice (some ⟨w.heap.size, 0, none⟩) 0 0) A1 := fun ad e he => by
    have := (O1.lt ad.block (by rw [e]; rfl)).1
    simp [Value.ownBlock] at he this
    omega
  clear O1 LT
  go_wp2
  go_loopw [0, 5, 12] (fun v u i wr => ∃ (j : Nat) (m : Int) (T : List Int), j ≤ cs.length ∧ i = .int .i64 ((cs.length : Int) - j) ∧ v = .int .i64 m ∧ 0 ≤ m ∧ m ≤ 100000 ∧ T.length = cs.length - j ∧ Hid (grD cs cs.length N = grD cs j m ++ T) ∧ Ap wr w.heap.size u T.reverse ∧ Below w.heap.size w wr ∧ Rd wr A1 cs.reverse ∧ Off u A1) (fun _ _ i _ => cs.length - (intOf i).toNat)
  case atStart => exact ⟨cs.length, N, [], Nat.le_refl _, by simp, rfl, h0, h1, by simp, (by simp : grD cs cs.length N = grD cs cs.length N ++ []), PE, C1, HO1.out, OF1⟩
  case round =>
    obtain ⟨j, m, T, hj, rfl, rfl, m0, m1, hT, hD, hO, hB, hR, hF⟩ := hrel
    have hs := hB.size
    by_cases hlt : 0 < j
    · obtain ⟨q, rfl⟩ : ∃ q, j = q + 1 := ⟨j - 1, by omega⟩
      have hrl : cs.length - (q + 1) < cs.reverse.length := by rw [List.length_reverse]; omega
      obtain ⟨ad, x, rfl, hx, hc⟩ := hR.at_ hrl
      have hxq : cs[q]? = some x := by
        have := hx.out
        rw [List.getElem?_reverse (by omega)] at this
        rwa [show cs.length - 1 - (cs.length - (q + 1)) = q by omega] at this
      have bx := HX.out x (List.mem_of_getElem? hxq)
      have HS := Lib.hid (grD_step hxq m)
      have hL : T.reverse.length < 1099511627776 := by rw [List.length_reverse]; omega
      have HT := Lib.hid hT
      have ej : (cs.length : Int) - ((q + 1 : Nat) : Int) = ((cs.length - (q + 1) : Nat) : Int) := by omega
      rw [ej]
      obtain ⟨p, hp⟩ : ∃ p, cs.length - (q + 1) = p := ⟨_, rfl⟩
      have hpl : p < cs.length := by omega
      have HP := Lib.hid hp
      rw [hp] at hc
      rw [hp]
      have q0 : 0 ≤ m % x := Int.emod_nonneg _ (by omega)
      have q1 : m % x < x := Int.emod_lt_of_pos _ (by omega)
      have q2 : 0 ≤ m / x := Int.ediv_nonneg m0 (by omega)
      have q3 : m / x ≤ m := Int.ediv_le_self _ m0
      clear hx hxq hT ej hp hrl
      go_wp2_with (at_builtin; refine wpList_app1k hO hL hs rfl _ _ 22 rfl rfl rfl rfl ?_; intro v' w' O' B' K')
      go_roundw
      case rel =>
        have hp := HP.out
        have hK := K' _ _ hR (by rw [List.length_reverse]; omega) hF
        refine ⟨q, m % x, (m / x) :: T, by omega, by go_num, by go_num, q0, by omega, by simp [HT.out]; omega, ?_, by rw [List.reverse_cons]; exact O', hB.trans B', hK.1, hK.2⟩
        unfold Hid
        rw [hD.out, HS.out, List.append_assoc]
        rfl
      case measure => simp [intOf]; omega
    · obtain rfl : j = 0 := by omega
      have HD : Hid (grD cs cs.length N = T) := by have := hD.out; rwa [grD_zero, List.nil_append] at this
      obtain ⟨A, c, rfl⟩ := hO.form
      have OO := hO.ow
      have HT := Lib.hid hT
      clear hO hT
      go_wp2_with fail
      refine (l02Turn_any _ _ _ _ _ OO.rd List.length_reverse (by rw [HT.out]; omega)).mono ?_
      rintro e w2 ⟨A2, c2, rfl, O2, B2⟩
      rw [List.reverse_reverse] at O2
      have eT : T.length = cs.length := by rw [HT.out]; omega
      go_wp2
      go_ret
      rw [HD.out]
      exact ⟨A2, c2, by rw [← eT]; rfl, by rw [← eT]; exact O2.more hB.size, hB.trans (B2.mono hB.size)⟩

theorem sGreedyCoins_c (w : World) (N : Int) (_hN : I64 N) (B : Option Addr) (c' : Nat) (cs : List Int) (hb : Rd w B cs) (hl : cs.length ≤ 1048576) (_hb : AllI64 cs) :
    Calls Try.prog 25 #[.int .i64 N, .slice B cs.length c'] w fun e w' => ∃ A c, e = .returned (.slice A (greedyR N cs).length c) ∧ Ow w' w.heap.size (.slice A (greedyR N cs).length c) (greedyR N cs) ∧ Below w.heap.size w w' := by
  have CO := sCoinsOk_any B c' cs w hb (by omega)
  rcases Bool.eq_false_or_eq_true (coinsB cs) with h | h
  · rw [h] at CO
    have CO2 := Lib.hid CO
    clear CO
    obtain ⟨p1, p2, p3, _, _⟩ := coinsB_parts h
    rcases Bool.eq_false_or_eq_true (inB N 0 100000) with h2 | h2
    · have hb2 := inB_true h2
      have HE := Lib.hid (greedyR_of h h2)
      have HL : Hid ((greedyR N cs).length = cs.length) := by unfold Hid; rw [HE.out, grD_len]
      go_enter Try.func25, Try.ntmps25
      go_wp2_with fail
      refine (CO2.out).mono ?_
      rintro e w' ⟨rfl, rfl⟩
      go_wp2_with fail
      refine (l01In_any _ _ _ _).mono ?_
      rintro e w' ⟨rfl, rfl⟩
      go_wp2_with fail
      refine (l11Greedy_any _ _ _ _ _ hb p2 p3 hb2.1 hb2.2).mono ?_
      rintro e w1 ⟨A, c, rfl, O1, B1⟩
      go_wp2
      go_ret
      exact ⟨A, c, by rw [HL.out]; rfl, by rw [HL.out, HE.out]; exact O1, B1⟩
    · have HE : Hid (greedyR N cs = []) := by unfold Hid; simp [greedyR, h2]
      go_enter Try.func25, Try.ntmps25
      go_wp2_with fail
      refine (CO2.out).mono ?_
      rintro e w' ⟨rfl, rfl⟩
      go_wp2_with fail
      refine (l01In_any _ _ _ _).mono ?_
      rintro e w' ⟨rfl, rfl⟩
      go_wp2
      go_ret
      rw [HE.out]
      exact ⟨none, 0, rfl, Ow.nil_ _ _, Below.refl _ _⟩
  · rw [h] at CO
    have CO2 := Lib.hid CO
    clear CO
    have HE : Hid (greedyR N cs = []) := by unfold Hid; simp [greedyR, h]
    go_enter Try.func25, Try.ntmps25
    go_wp2_with fail
    refine (CO2.out).mono ?_
    rintro e w' ⟨rfl, rfl⟩
    go_wp2
    go_ret
    rw [HE.out]
    exact ⟨none, 0, rfl, Ow.nil_ _ _, Below.refl _ _⟩

set_option maxHeartbeats 1600000 in
theorem iGreedyCoins_c (w : World) (N : Int) (_hN : I64 N) (B : Option Addr) (c' : Nat) (cs : List Int) (hb : Rd w B cs) (hl : cs.length ≤ 1048576) (_hb : AllI64 cs) :
    Calls Try.prog 26 #[.int .i64 N, .slice B cs.length c'] w fun e w' => ∃ A c, e = .returned (.slice A (greedyR N cs).length c) ∧ Ow w' w.heap.size (.slice A (greedyR N cs).length c) (greedyR N cs) ∧ Below w.heap.size w w' := by
  have CO := iCoinsOk_any B c' cs w hb (by omega)
  rcases Bool.eq_false_or_eq_true (coinsB cs) with h | h
  · rw [h] at CO
    have CO2 := Lib.hid CO
    clear CO
    obtain ⟨p1, p2, p3, _, _⟩ := coinsB_parts h
    rcases Bool.eq_false_or_eq_true (inB N 0 100000) with h2 | h2
    · obtain ⟨n0, n1⟩ := inB_true h2
      have HE := Lib.hid (greedyR_of h h2)
      have HL : Hid ((greedyR N cs).length = cs.length) := by unfold Hid; rw [HE.out, grD_len]
      have HX := Lib.hid p3
      have HB := Lib.hid hb
      clear p3 hb
      obtain ⟨i0, hi, hz0, hz1, hz2⟩ := info_parts info3
      have hmk : ∀ u : World, (Instr.makeSlice 22 (.int .i64 (cs.length : Int)) (.int .i64 (cs.length : Int))).run Try.prog u =
          .ok (.slice (some ⟨u.heap.size, 0, none⟩) cs.length cs.length) (u.alloc (.cells (madeCells #[.int .i64 0] cs.length) 3)) := fun u => by
        have h := run_make (P := Try.prog) u 22 3 i0 (.int .i64 0) Try.underlying22 hi hz0 .i64 .i64 (cs.length : Int) (cs.length : Int) (by omega) (Int.le_refl _) (by rw [hz2]; omega) (by omega)
        rw [Int.toNat_natCast] at h
        simpa [hz1, Value.cells] using h
      have hst : Ow (w.alloc (.cells (madeCells #[.int .i64 0] cs.length) 3)) w.heap.size (.slice (some ⟨w.heap.size, 0, none⟩) cs.length cs.length) (List.replicate cs.length 0) := by
        refine .inr ⟨w.heap.size, cs.length, _, by rw [List.length_replicate], Nat.le_refl _, heap_alloc_new w _, by rw [List.length_replicate]; exact Nat.le_refl _, by unfold maxLen; omega, by simp [size_madeCells], by rw [toList_madeCells_one]; simp⟩
      obtain ⟨Z, hZ⟩ : ∃ Z, madeCells #[Value.int .i64 0] cs.length = Z := ⟨_, rfl⟩
      rw [hZ] at hmk hst
      clear hZ
      have hb0 : Below w.heap.size w (w.alloc (.cells Z 3)) := (Below.refl _ _).alloc (Nat.le_refl _) _
      go_enter Try.func26, Try.ntmps26
      go_wp2_with fail
      refine (CO2.out).mono ?_
      rintro e w' ⟨rfl, rfl⟩
      go_wp2_with fail
      refine (within_any _ _ _ _).mono ?_
      rintro e w' ⟨rfl, rfl⟩
      go_wp2
      go_loopw [0, 6] (fun v i wr => ∃ (j : Nat) (m : Int) (T : List Int), j ≤ cs.length ∧ i = .int .i64 ((j : Int) - 1) ∧ v = .int .i64 m ∧ 0 ≤ m ∧ m ≤ 100000 ∧ T.length = cs.length - j ∧ Hid (grD cs cs.length N = grD cs j m ++ T) ∧ Ow wr w.heap.size (.slice (some ⟨w.heap.size, 0, none⟩) cs.length cs.length) (List.replicate j 0 ++ T) ∧ Below w.heap.size w wr) (fun _ i _ => (intOf i + 1).toNat)
      case atStart => exact ⟨cs.length, N, [], Nat.le_refl _, rfl, rfl, n0, n1, by simp, (by simp : grD cs cs.length N = grD cs cs.length N ++ []), by rw [List.append_nil]; exact hst, hb0⟩
      case round =>
        obtain ⟨j, m, T, hj, rfl, rfl, m0, m1, hT, hD, hO, hB⟩ := hrel
        clear hmk hst hb0
        by_cases hlt : 0 < j
        · obtain ⟨q, rfl⟩ : ∃ q, j = q + 1 := ⟨j - 1, by omega⟩
          have ej : ((q + 1 : Nat) : Int) - 1 = (q : Int) := by omega
          rw [ej]
          clear ej
          obtain ⟨ad, x, rfl, hx, hc⟩ := (HB.out.below hB).at_ (k := q) (by omega)
          have hadl : ad.block < w.heap.size := HB.out.lt rfl (by omega)
          obtain ⟨g, x', eg, _, hc2, hf, hst⟩ := hO.at_ (k := q) (by rw [List.length_append, List.length_replicate]; omega)
          have eg2 : g = w.heap.size := by cases eg; rfl
          subst eg2
          have bx := HX.out x (List.mem_of_getElem? hx.out)
          have HS := Lib.hid (grD_step hx.out m)
          have HT := Lib.hid hT
          have q0 : 0 ≤ m % x := Int.emod_nonneg _ (by omega)
          have q1 : m % x < x := Int.emod_lt_of_pos _ (by omega)
          have q2 : 0 ≤ m / x := Int.ediv_nonneg m0 (by omega)
          have q3 : m / x ≤ m := Int.ediv_le_self _ m0
          have c0 : (0 : Int) ≤ q := by omega
          have c1 : (q : Int) < cs.length := by omega
          have HST := Lib.hid (hst (m / x))
          have hne : ad.block ≠ w.heap.size := by omega
          have hc3 : (wr.setCell ⟨w.heap.size, q, none⟩ (.int .i64 (m / x))).cell? (ad.add q) = some (.int .i64 x) := by
            rw [World.cell?_setCell_other _ _ _ _ (fun e => hne (by have := congrArg Addr.block e; rw [block_add] at this; simpa using this.symm))]
            exact hc
          have HSet : Hid ((List.replicate (q + 1) (0 : Int) ++ T).set q (m / x) = List.replicate q 0 ++ (m / x) :: T) := by
            unfold Hid
            rw [List.replicate_succ', List.append_assoc, List.set_append_right _ _ (by simp), List.length_replicate, Nat.sub_self]
            rfl
          clear hst hO hT eg hx
          go_wp2
          go_roundw
          case rel =>
            have h2 := HST.out.1
            rw [HSet.out] at h2
            refine ⟨q, m % x, (m / x) :: T, by omega, by go_num, rfl, q0, by omega, by simp [HT.out]; omega, ?_, h2, hB.trans (grown_below HST.out.2 hB.size (fun k hk => by simp at hk; omega))⟩
            unfold Hid
            rw [hD.out, HS.out, List.append_assoc]
            rfl
          case measure => simp [intOf]
        · obtain rfl : j = 0 := by omega
          have HD : Hid (grD cs cs.length N = T) := by have := hD.out; rwa [grD_zero, List.nil_append] at this
          have hO2 : Ow wr w.heap.size (.slice (some ⟨w.heap.size, 0, none⟩) cs.length cs.length) T := hO
          have HT := Lib.hid hT
          clear hO hT
          go_wp2
          go_ret
          exact ⟨_, _, by rw [HL.out]; rfl, by rw [HL.out, HE.out, HD.out]; exact hO2, hB⟩
    · have HE : Hid (greedyR N cs = []) := by unfold Hid; simp [greedyR, h2]
      go_enter Try.func26, Try.ntmps26
      go_wp2_with fail
      refine (CO2.out).mono ?_
      rintro e w' ⟨rfl, rfl⟩
      go_wp2_with fail
      refine (within_any _ _ _ _).mono ?_
      rintro e w' ⟨rfl, rfl⟩
      go_wp2
      go_ret
      rw [HE.out]
      exact ⟨none, 0, rfl, Ow.nil_ _ _, Below.refl _ _⟩
  · rw [h] at CO
    have CO2 := Lib.hid CO
    clear CO
    have HE : Hid (greedyR N cs = []) := by unfold Hid; simp [greedyR, h]
    go_enter Try.func26, Try.ntmps26
    go_wp2_with fail
    refine (CO2.out).mono ?_
    rintro e w' ⟨rfl, rfl⟩
    go_wp2
    go_ret
    rw [HE.out]
    exact ⟨none, 0, rfl, Ow.nil_ _ _, Below.refl _ _⟩

set_option maxRecDepth 100000 in
set_option maxHeartbeats 1600000 in
theorem lGreedyCoins_law (w : World) (n0 : Int) (b0 : -9223372036854775808 ≤ n0 ∧ n0 ≤ 9223372036854775807) (A1 : Option Addr) (c1 : Nat) (xs1 : List Int) (r1 : Rd w A1 xs1) (_m1 : xs1.length ≤ maxLen) (b1 : ∀ x ∈ xs1, -9223372036854775808 ≤ x ∧ x ≤ 9223372036854775807) :
    Calls Try.prog 7 #[.int .i64 n0, .slice A1 xs1.length c1] w fun e w' => e = .returned (.bool true) ∧ Below w.heap.size w w' := by
  have BA0 : I64 n0 := b0
  clear b0
  have RA1 := Lib.hid r1
  have BA1 : AllI64 xs1 := b1
  clear r1 b1
  by_cases h1 : xs1.length ≤ 1048576
  · skip
    go_enter Try.func7, Try.ntmps7
    go_wp2_with fail
    refine (toIntS_any _ _ _ _ (RA1.out.below (Below.refl w.heap.size w)) h1).mono ?_
    rintro e w1 ⟨A_S1, c_S1, rfl, S1_0, B1⟩
    have L_S1 := fun k hk => (S1_0.lt k hk).1
    have C2 := (Below.refl w.heap.size w).trans (B1.mono (Below.refl w.heap.size w).size)
    go_wp2_with fail
    refine (sGreedyCoins_c _ _ BA0 _ _ _ S1_0.rd h1 BA1).mono ?_
    rintro e w3 ⟨A_W0, c_W0, rfl, W0_0, B3⟩
    have U_S1_W0 := fun k hk => (S1_0.lt k hk).2
    have L_W0 := fun k hk => (W0_0.lt k hk).1
    have C4 := C2.trans (B3.mono C2.size)
    have S1_4 := S1_0.below' B3
    go_wp2_with fail
    refine (toIntS_any _ _ _ _ (RA1.out.below C4) h1).mono ?_
    rintro e w5 ⟨A_X1, c_X1, rfl, X1_0, B5⟩
    have U_W0_X1 := fun k hk => (W0_0.lt k hk).2
    have L_X1 := fun k hk => (X1_0.lt k hk).1
    have C6 := C4.trans (B5.mono C4.size)
    have W0_6 := W0_0.below' B5
    go_wp2_with fail
    refine (iGreedyCoins_c _ _ BA0 _ _ _ X1_0.rd h1 BA1).mono ?_
    rintro e w7 ⟨A_G0, c_G0, rfl, G0_0, B7⟩
    have U_W0_G0 := fun k hk => (W0_6.lt k hk).2
    have U_X1_G0 := fun k hk => (X1_0.lt k hk).2
    have L_G0 := fun k hk => (G0_0.lt k hk).1
    have C8 := C6.trans (B7.mono C6.size)
    have W0_8 := W0_6.below' B7
    have X1_8 := X1_0.below' B7
    go_wp2_with fail
    refine (eqIntS_same _ _ _ _ _ _ G0_0.rd W0_8.rd ((greedyR_len n0 xs1))).mono ?_
    rintro e w9 ⟨rfl, n9_, rfl⟩
    have C10 := below_drewN C8 n9_
    have W0_10 := W0_8.drewN n9_
    have X1_10 := X1_8.drewN n9_
    have G0_10 := G0_0.drewN n9_
    go_wp2_with fail
    refine (toIntS_any _ _ _ _ (RA1.out.below C10) h1).mono ?_
    rintro e w11 ⟨A_T1, c_T1, rfl, T1_0, B11⟩
    have U_W0_T1 := fun k hk => (W0_10.lt k hk).2
    have U_X1_T1 := fun k hk => (X1_10.lt k hk).2
    have U_G0_T1 := fun k hk => (G0_10.lt k hk).2
    have L_T1 := fun k hk => (T1_0.lt k hk).1
    have C12 := C10.trans (B11.mono C10.size)
    have W0_12 := W0_10.below' B11
    have X1_12 := X1_10.below' B11
    have G0_12 := G0_10.below' B11
    go_wp2_with fail
    refine (eqIntS_same _ _ _ _ _ _ X1_12.rd T1_0.rd (by omega)).mono ?_
    rintro e w13 ⟨rfl, n13_, rfl⟩
    have C14 := below_drewN C12 n13_
    have W0_14 := W0_12.drewN n13_
    have X1_14 := X1_12.drewN n13_
    have G0_14 := G0_12.drewN n13_
    have T1_14 := T1_0.drewN n13_
    go_wp2_with fail
    refine (markIntS_any _ _ _ _ _ _ X1_14 (by omega) (by omega) (by omega)).mono ?_
    rintro e w15 ⟨rfl, X1_15, G15⟩
    have W0_15 := W0_14.kept G15 (own_ne U_W0_X1 L_X1)
    have G0_15 := G0_14.kept G15 (own_ne' U_X1_G0 L_G0)
    have C16 := C14.grown G15 C14.size (fun k hk => Nat.le_trans C4.size (L_X1 k hk))
    go_wp2_with fail
    refine (eqIntS_same _ _ _ _ _ _ G0_15.rd W0_15.rd ((greedyR_len n0 xs1))).mono ?_
    rintro e w17 ⟨rfl, n17_, rfl⟩
    have C18 := below_drewN C16 n17_
    have W0_18 := W0_15.drewN n17_
    have G0_18 := G0_15.drewN n17_
    go_wp2_with fail
    refine (markIntS_any _ _ _ _ _ _ G0_18 ((greedyR_len n0 xs1)) (by omega) (by omega)).mono ?_
    rintro e w19 ⟨rfl, G0_19, G19⟩
    have W0_19 := W0_18.kept G19 (own_ne U_W0_G0 L_G0)
    have C20 := C18.grown G19 C18.size (fun k hk => Nat.le_trans C6.size (L_G0 k hk))
    go_wp2_with fail
    refine (heldIntS_any _ _ _ _ _ (by have h := G0_19.rd' (marks_length _ _); exact h) ((greedyR_len n0 xs1)) (by omega) (by omega)).mono ?_
    rintro e w21 ⟨rfl, rfl⟩
    go_wp2_with fail
    refine (toIntS_any _ _ _ _ (RA1.out.below C20) h1).mono ?_
    rintro e w22 ⟨A_Y1, c_Y1, rfl, Y1_0, B22⟩
    have U_W0_Y1 := fun k hk => (W0_19.lt k hk).2
    have U_G0_Y1 := fun k hk => (G0_19.lt k hk).2
    have L_Y1 := fun k hk => (Y1_0.lt k hk).1
    have C23 := C20.trans (B22.mono C20.size)
    have W0_23 := W0_19.below' B22
    have G0_23 := G0_19.below' B22
    go_wp2_with fail
    refine (iGreedyCoins_c _ _ BA0 _ _ _ Y1_0.rd h1 BA1).mono ?_
    rintro e w24 ⟨A_H0, c_H0, rfl, H0_0, B24⟩
    have U_W0_H0 := fun k hk => (W0_23.lt k hk).2
    have U_G0_H0 := fun k hk => (G0_23.lt k hk).2
    have U_Y1_H0 := fun k hk => (Y1_0.lt k hk).2
    have L_H0 := fun k hk => (H0_0.lt k hk).1
    have C25 := C23.trans (B24.mono C23.size)
    have W0_25 := W0_23.below' B24
    have G0_25 := G0_23.below' B24
    have Y1_25 := Y1_0.below' B24
    go_wp2_with fail
    refine (eqIntS_same _ _ _ _ _ _ H0_0.rd W0_25.rd ((greedyR_len n0 xs1))).mono ?_
    rintro e w26 ⟨rfl, n26_, rfl⟩
    have C27 := below_drewN C25 n26_
    have W0_27 := W0_25.drewN n26_
    have G0_27 := G0_25.drewN n26_
    have H0_27 := H0_0.drewN n26_
    go_wp2_with fail
    refine (heldIntS_any _ _ _ _ _ (by have h := G0_27.rd' (marks_length _ _); exact h) ((greedyR_len n0 xs1)) (by omega) (by omega)).mono ?_
    rintro e w28 ⟨rfl, rfl⟩
    go_wp2
    go_ret
    exact ⟨rfl, C27⟩
  · unfold maxLen at _m1
    go_enter Try.func7, Try.ntmps7
    go_wp2
    go_ret
    exact ⟨rfl, Below.refl _ _⟩

end Go.Proofs.Ytlhabcpoemcpjaa
