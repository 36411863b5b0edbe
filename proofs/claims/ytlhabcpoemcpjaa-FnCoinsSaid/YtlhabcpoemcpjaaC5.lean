/-
  WALKS: CountCoins (both packages) and the law over it.
-/
import Derived.Test.YtlhabcpoemcpjaaC2
namespace Go.Proofs.Ytlhabcpoemcpjaa
open Go.RowKit

theorem below_drew1 {B : Nat} {a w : World} (h : Below B a w) : Below B a w.drew := ⟨h.os, h.tape, h.output, h.size, h.block⟩
/-- The table of ways after k steps with the coin c: the entry at c + k gets the entry at k added. -/
def cntK (T : List Int) (c : Nat) : Nat → List Int
  | 0 => T
  | k + 1 => (cntK T c k).set (c + k) (wrap64 ((cntK T c k).getD (c + k) 0 + (cntK T c k).getD k 0))
theorem cntK_zero (T : List Int) (c : Nat) : cntK T c 0 = T := rfl
theorem cntK_len (T : List Int) (c k : Nat) : (cntK T c k).length = T.length := by
  induction k with
  | zero => rfl
  | succ k ih => simp [cntK, ih]
theorem cntK_step {T : List Int} {c k p : Nat} {a b : Int} (hp : c + k = p) (ha : (cntK T c k)[p]? = some a) (hb : (cntK T c k)[k]? = some b) :
    cntK T c (k + 1) = (cntK T c k).set p (wrap64 (a + b)) := by
  subst hp
  show (cntK T c k).set (c + k) (wrap64 ((cntK T c k).getD (c + k) 0 + (cntK T c k).getD k 0)) = _
  rw [getD_of ha, getD_of hb]
attribute [irreducible] cntK
/-- The table after the first j coins. -/
def wayK (cs : List Int) (n : Nat) : Nat → List Int
  | 0 => 1 :: List.replicate n 0
  | j + 1 => cntK (wayK cs n j) (cs.getD j 1).toNat (n + 1 - (cs.getD j 1).toNat)
theorem wayK_zero (cs : List Int) (n : Nat) : wayK cs n 0 = 1 :: List.replicate n 0 := rfl
theorem wayK_len (cs : List Int) (n j : Nat) : (wayK cs n j).length = n + 1 := by
  induction j with
  | zero => simp [wayK]
  | succ j ih => rw [wayK, cntK_len, ih]
theorem wayK_step {cs : List Int} {n j c : Nat} (hc : cs[j]? = some (c : Int)) : wayK cs n (j + 1) = cntK (wayK cs n j) c (n + 1 - c) := by
  show cntK (wayK cs n j) (cs.getD j 1).toNat (n + 1 - (cs.getD j 1).toNat) = _
  have : cs.getD j 1 = c := by simp [List.getD, hc]
  rw [this]
  rfl
attribute [irreducible] wayK
def countR (N : Int) (cs : List Int) : Int := if coinsB cs && inB N 0 400 then (wayK cs N.toNat cs.length).getD N.toNat 0 else -1
theorem countR_of {n : Nat} {cs : List Int} {x : Int} (h1 : coinsB cs = true) (h2 : inB (n : Int) 0 400 = true) (hx : (wayK cs n cs.length)[n]? = some x) : countR n cs = x := by
  simp only [countR, h1, h2, Bool.and_true, if_true, Int.toNat_natCast, List.getD, hx, Option.getD_some]
theorem countR_no1 {N : Int} {cs : List Int} (h : coinsB cs = false) : countR N cs = -1 := by simp [countR, h]
theorem countR_no2 {N : Int} {cs : List Int} (h : inB N 0 400 = false) : countR N cs = -1 := by simp [countR, h]

set_option maxHeartbeats 3200000 in
theorem iCountCoins_c (w : World) (N : Int) (_hN : I64 N) (B : Option Addr) (c' : Nat) (cs : List Int) (hb : Rd w B cs) (hl : cs.length ≤ 1048576) (_hb : AllI64 cs) :
    Calls Try.prog 18 #[.int .i64 N, .slice B cs.length c'] w fun e w' => e = .returned (.int .i64 (countR N cs)) ∧ Below w.heap.size w w' := by
  have CO := iCoinsOk_any B c' cs w hb (by omega)
  rcases Bool.eq_false_or_eq_true (coinsB cs) with h | h
  · rw [h] at CO
    have CO2 := Lib.hid CO
    clear CO
    obtain ⟨p1, p2, p3, _, _⟩ := coinsB_parts h
    rcases Bool.eq_false_or_eq_true (inB N 0 400) with h2 | h2
    · obtain ⟨n0, n1⟩ := inB_true h2
      obtain ⟨n, rfl⟩ : ∃ n : Nat, N = n := ⟨N.toNat, by omega⟩
      have HC1 := Lib.hid h
      have HC2 := Lib.hid h2
      have HX := Lib.hid p3
      have HB := Lib.hid hb
      clear p3 hb
      obtain ⟨i0, hi, hz0, hz1, hz2⟩ := info_parts info3
      have hmk : ∀ u : World, (Instr.makeSlice 22 (.int .i64 ((n : Int) + 1)) (.int .i64 ((n : Int) + 1))).run Try.prog u =
          .ok (.slice (some ⟨u.heap.size, 0, none⟩) (n + 1) (n + 1)) (u.alloc (.cells (madeCells #[.int .i64 0] (n + 1)) 3)) := fun u => by
        have h := run_make (P := Try.prog) u 22 3 i0 (.int .i64 0) Try.underlying22 hi hz0 .i64 .i64 ((n : Int) + 1) ((n : Int) + 1) (by omega) (Int.le_refl _) (by rw [hz2]; omega) (by omega)
        rw [show ((n : Int) + 1).toNat = n + 1 by omega] at h
        simpa [hz1, Value.cells] using h
      have hst : Ow (w.alloc (.cells (madeCells #[.int .i64 0] (n + 1)) 3)) w.heap.size (.slice (some ⟨w.heap.size, 0, none⟩) (n + 1) (n + 1)) (List.replicate (n + 1) 0) := by
        refine .inr ⟨w.heap.size, n + 1, _, by rw [List.length_replicate], Nat.le_refl _, heap_alloc_new w _, by rw [List.length_replicate]; exact Nat.le_refl _, by unfold maxLen; omega, by simp [size_madeCells], by rw [toList_madeCells_one]; simp⟩
      have hst2 : Ow (w.alloc (.cells ((madeCells #[.int .i64 0] (n + 1)).setIfInBounds 0 (.int .i64 1)) 3)) w.heap.size (.slice (some ⟨w.heap.size, 0, none⟩) (n + 1) (n + 1)) (1 :: List.replicate n 0) := by
        refine .inr ⟨w.heap.size, n + 1, _, by simp, Nat.le_refl _, heap_alloc_new w _, by simp, by unfold maxLen; omega, by simp [size_madeCells], ?_⟩
        rw [Array.toList_setIfInBounds, toList_madeCells_one]
        simp [List.replicate_succ]
      obtain ⟨Z, hZ⟩ : ∃ Z, madeCells #[Value.int .i64 0] (n + 1) = Z := ⟨_, rfl⟩
      rw [hZ] at hmk hst hst2
      have HK := Lib.hid hst2
      clear hZ
      have hb0 : Below w.heap.size w (w.alloc (.cells Z 3)) := (Below.refl _ _).alloc (Nat.le_refl _) _
      obtain ⟨g0, y0, eg0, _, z1, f1, k0⟩ := hst.at_ (k := 0) (by simp)
      have eg1 : w.heap.size = g0 := by cases eg0; rfl
      subst eg1
      clear k0 hst eg0 hst2
      go_enter Try.func18, Try.ntmps18
      go_wp2_with fail
      refine (CO2.out).mono ?_
      rintro e w' ⟨rfl, rfl⟩
      go_wp2_with fail
      refine (within_any _ _ _ _).mono ?_
      rintro e w' ⟨rfl, rfl⟩
      go_wp2
      clear hmk
      go_loopw [24] (fun i wr => ∃ j : Nat, j ≤ cs.length ∧ i = .int .i64 j ∧ Ow wr w.heap.size (.slice (some ⟨w.heap.size, 0, none⟩) (n + 1) (n + 1)) (wayK cs n j) ∧ Below w.heap.size w wr) (fun i _ => cs.length - (intOf i).toNat)
      case atStart =>
        refine ⟨0, Nat.zero_le _, rfl, ?_, (Below.refl _ _).alloc (Nat.le_refl _) _⟩
        rw [wayK_zero]
        exact HK.out
      case round =>
        obtain ⟨j, hj, rfl, hO, hB⟩ := hrel
        by_cases hlt : j < cs.length
        · obtain ⟨ad, x, rfl, hx, hc⟩ := (HB.out.below hB).at_ hlt
          have bx := HX.out x (List.mem_of_getElem? hx.out)
          obtain ⟨c, rfl⟩ : ∃ c : Nat, x = c := ⟨x.toNat, by omega⟩
          have HS := Lib.hid (wayK_step (n := n) hx.out)
          have HLen := Lib.hid (wayK_len cs n j)
          clear hx
          go_wp2
          go_loopw [8] (fun v wq => ∃ k : Nat, k ≤ n + 1 - c ∧ v = .int .i64 ((c + k : Nat) : Int) ∧ Ow wq w.heap.size (.slice (some ⟨w.heap.size, 0, none⟩) (n + 1) (n + 1)) (cntK (wayK cs n j) c k) ∧ Below w.heap.size w wq) (fun v _ => n + 1 - (intOf v).toNat)
          case atStart => exact ⟨0, Nat.zero_le _, rfl, by rw [cntK_zero]; exact hO, hB⟩
          case round =>
            obtain ⟨k, hk, rfl, hO2, hB2⟩ := hrel
            have eLen : (cntK (wayK cs n j) c k).length = n + 1 := by rw [cntK_len, HLen.out]
            by_cases hlt2 : c + k ≤ n
            · obtain ⟨p, hp⟩ : ∃ p, c + k = p := ⟨_, rfl⟩
              obtain ⟨g, a, eg, ha, hca, hfa, hsta⟩ := hO2.at_ (k := p) (by omega)
              obtain ⟨g', b, eg', hb', hcb, _, _⟩ := hO2.at_ (k := k) (by omega)
              obtain rfl : w.heap.size = g := by cases eg; rfl
              obtain rfl : w.heap.size = g' := by cases eg'; rfl
              have HN := Lib.hid (cntK_step hp ha.out hb'.out)
              have ek : k = p - c := by omega
              have HST := Lib.hid (hsta (wrap64 (a + b)))
              have HP := Lib.hid hp
              rw [hp]
              rw [ek] at hcb
              have c0 : (0 : Int) ≤ p := by omega
              have c1 : (p : Int) ≤ n := by omega
              have c2 : (c : Int) ≤ p := by omega
              have c3 : (1 : Int) ≤ c := by omega
              clear hsta eg eg' ha hb' eLen hO2 hp ek
              go_wp2
              go_region
              go_wp2
              go_roundw
              case rel =>
                have hs := HST.out
                rw [← HN.out] at hs
                have eP := HP.out
                exact ⟨k + 1, by omega, by go_num, hs.1, hB2.trans (below_drew1 (grown_below hs.2 hB2.size (fun k hk => by simp at hk; omega)))⟩
              case measure => have eP := HP.out; simp [intOf]; omega
            · have ek : k = n + 1 - c := by omega
              have HO2 := Lib.hid hO2
              clear eLen hO2
              go_wp2
              go_roundw
              case rel => exact ⟨j + 1, by omega, by go_num, by rw [HS.out, ← ek]; exact HO2.out, hB2⟩
              case measure => simp [intOf]; omega
        · have hjl : j = cs.length := by omega
          subst hjl
          obtain ⟨g, a, eg, ha, hca, _, _⟩ := hO.at_ (k := n) (by rw [wayK_len]; omega)
          have eg1 : w.heap.size = g := by cases eg; rfl
          subst eg1
          have HR := Lib.hid (countR_of HC1.out HC2.out ha.out)
          have c0 : (0 : Int) ≤ n := by omega
          clear eg ha hO
          go_wp2
          go_ret
          exact ⟨ret_int HR.out.symm, hB⟩
    · have HR := Lib.hid (countR_no2 (cs := cs) h2)
      go_enter Try.func18, Try.ntmps18
      go_wp2_with fail
      refine (CO2.out).mono ?_
      rintro e w' ⟨rfl, rfl⟩
      go_wp2_with fail
      refine (within_any _ _ _ _).mono ?_
      rintro e w' ⟨rfl, rfl⟩
      go_wp2
      go_ret
      exact ⟨ret_int HR.out.symm, Below.refl _ _⟩
  · rw [h] at CO
    have CO2 := Lib.hid CO
    have HR := Lib.hid (countR_no1 (N := N) h)
    clear CO
    go_enter Try.func18, Try.ntmps18
    go_wp2_with fail
    refine (CO2.out).mono ?_
    rintro e w' ⟨rfl, rfl⟩
    go_wp2
    go_ret
    exact ⟨ret_int HR.out.symm, Below.refl _ _⟩

set_option maxHeartbeats 3200000 in
theorem sCountCoins_c (w : World) (N : Int) (_hN : I64 N) (B : Option Addr) (c' : Nat) (cs : List Int) (hb : Rd w B cs) (hl : cs.length ≤ 1048576) (_hb : AllI64 cs) :
    Calls Try.prog 17 #[.int .i64 N, .slice B cs.length c'] w fun e w' => e = .returned (.int .i64 (countR N cs)) ∧ Below w.heap.size w w' := by
  have CO := sCoinsOk_any B c' cs w hb (by omega)
  rcases Bool.eq_false_or_eq_true (coinsB cs) with h | h
  · rw [h] at CO
    have CO2 := Lib.hid CO
    clear CO
    obtain ⟨p1, p2, p3, _, _⟩ := coinsB_parts h
    rcases Bool.eq_false_or_eq_true (inB N 0 400) with h2 | h2
    · obtain ⟨n0, n1⟩ := inB_true h2
      obtain ⟨n, rfl⟩ : ∃ n : Nat, N = n := ⟨N.toNat, by omega⟩
      have HC1 := Lib.hid h
      have HC2 := Lib.hid h2
      have HX := Lib.hid p3
      have HB := Lib.hid hb
      clear p3 hb
      obtain ⟨i0, hi, hz0, hz1, hz2⟩ := info_parts info3
      have hmk : ∀ u : World, (Instr.makeSlice 22 (.int .i64 ((n : Int) + 1)) (.int .i64 ((n : Int) + 1))).run Try.prog u =
          .ok (.slice (some ⟨u.heap.size, 0, none⟩) (n + 1) (n + 1)) (u.alloc (.cells (madeCells #[.int .i64 0] (n + 1)) 3)) := fun u => by
        have h := run_make (P := Try.prog) u 22 3 i0 (.int .i64 0) Try.underlying22 hi hz0 .i64 .i64 ((n : Int) + 1) ((n : Int) + 1) (by omega) (Int.le_refl _) (by rw [hz2]; omega) (by omega)
        rw [show ((n : Int) + 1).toNat = n + 1 by omega] at h
        simpa [hz1, Value.cells] using h
      have hst : Ow (w.alloc (.cells (madeCells #[.int .i64 0] (n + 1)) 3)) w.heap.size (.slice (some ⟨w.heap.size, 0, none⟩) (n + 1) (n + 1)) (List.replicate (n + 1) 0) := by
        refine .inr ⟨w.heap.size, n + 1, _, by rw [List.length_replicate], Nat.le_refl _, heap_alloc_new w _, by rw [List.length_replicate]; exact Nat.le_refl _, by unfold maxLen; omega, by simp [size_madeCells], by rw [toList_madeCells_one]; simp⟩
      have hst2 : Ow (w.alloc (.cells ((madeCells #[.int .i64 0] (n + 1)).setIfInBounds 0 (.int .i64 1)) 3)) w.heap.size (.slice (some ⟨w.heap.size, 0, none⟩) (n + 1) (n + 1)) (1 :: List.replicate n 0) := by
        refine .inr ⟨w.heap.size, n + 1, _, by simp, Nat.le_refl _, heap_alloc_new w _, by simp, by unfold maxLen; omega, by simp [size_madeCells], ?_⟩
        rw [Array.toList_setIfInBounds, toList_madeCells_one]
        simp [List.replicate_succ]
      obtain ⟨Z, hZ⟩ : ∃ Z, madeCells #[Value.int .i64 0] (n + 1) = Z := ⟨_, rfl⟩
      rw [hZ] at hmk hst hst2
      have HK := Lib.hid hst2
      clear hZ
      have hb0 : Below w.heap.size w (w.alloc (.cells Z 3)) := (Below.refl _ _).alloc (Nat.le_refl _) _
      obtain ⟨g0, y0, eg0, _, z1, f1, k0⟩ := hst.at_ (k := 0) (by simp)
      have eg1 : w.heap.size = g0 := by cases eg0; rfl
      subst eg1
      clear k0 hst eg0 hst2
      go_enter Try.func17, Try.ntmps17
      go_wp2_with fail
      refine (CO2.out).mono ?_
      rintro e w' ⟨rfl, rfl⟩
      go_wp2_with fail
      refine (l01In_any _ _ _ _).mono ?_
      rintro e w' ⟨rfl, rfl⟩
      go_wp2
      clear hmk
      go_loopw [24] (fun i wr => ∃ j : Nat, j ≤ cs.length ∧ i = .int .i64 j ∧ Ow wr w.heap.size (.slice (some ⟨w.heap.size, 0, none⟩) (n + 1) (n + 1)) (wayK cs n j) ∧ Below w.heap.size w wr) (fun i _ => cs.length - (intOf i).toNat)
      case atStart =>
        refine ⟨0, Nat.zero_le _, rfl, ?_, (Below.refl _ _).alloc (Nat.le_refl _) _⟩
        rw [wayK_zero]
        exact HK.out
      case round =>
        obtain ⟨j, hj, rfl, hO, hB⟩ := hrel
        by_cases hlt : j < cs.length
        · obtain ⟨ad, x, rfl, hx, hc⟩ := (HB.out.below hB).at_ hlt
          have bx := HX.out x (List.mem_of_getElem? hx.out)
          obtain ⟨c, rfl⟩ : ∃ c : Nat, x = c := ⟨x.toNat, by omega⟩
          have HS := Lib.hid (wayK_step (n := n) hx.out)
          have HLen := Lib.hid (wayK_len cs n j)
          clear hx
          go_wp2
          go_loopw [8] (fun v wq => ∃ k : Nat, k ≤ n + 1 - c ∧ v = .int .i64 ((c + k : Nat) : Int) ∧ Ow wq w.heap.size (.slice (some ⟨w.heap.size, 0, none⟩) (n + 1) (n + 1)) (cntK (wayK cs n j) c k) ∧ Below w.heap.size w wq) (fun v _ => n + 1 - (intOf v).toNat)
          case atStart => exact ⟨0, Nat.zero_le _, rfl, by rw [cntK_zero]; exact hO, hB⟩
          case round =>
            obtain ⟨k, hk, rfl, hO2, hB2⟩ := hrel
            have eLen : (cntK (wayK cs n j) c k).length = n + 1 := by rw [cntK_len, HLen.out]
            by_cases hlt2 : c + k ≤ n
            · obtain ⟨p, hp⟩ : ∃ p, c + k = p := ⟨_, rfl⟩
              obtain ⟨g, a, eg, ha, hca, hfa, hsta⟩ := hO2.at_ (k := p) (by omega)
              obtain ⟨g', b, eg', hb', hcb, _, _⟩ := hO2.at_ (k := k) (by omega)
              obtain rfl : w.heap.size = g := by cases eg; rfl
              obtain rfl : w.heap.size = g' := by cases eg'; rfl
              have HN := Lib.hid (cntK_step hp ha.out hb'.out)
              have ek : k = p - c := by omega
              have HST := Lib.hid (hsta (wrap64 (a + b)))
              have HP := Lib.hid hp
              rw [hp]
              rw [ek] at hcb
              have c0 : (0 : Int) ≤ p := by omega
              have c1 : (p : Int) ≤ n := by omega
              have c2 : (c : Int) ≤ p := by omega
              have c3 : (1 : Int) ≤ c := by omega
              clear hsta eg eg' ha hb' eLen hO2 hp ek
              go_wp2
              go_region
              go_wp2
              go_roundw
              case rel =>
                have hs := HST.out
                rw [← HN.out] at hs
                have eP := HP.out
                exact ⟨k + 1, by omega, by go_num, hs.1, hB2.trans (below_drew1 (grown_below hs.2 hB2.size (fun k hk => by simp at hk; omega)))⟩
              case measure => have eP := HP.out; simp [intOf]; omega
            · have ek : k = n + 1 - c := by omega
              have HO2 := Lib.hid hO2
              clear eLen hO2
              go_wp2
              go_roundw
              case rel => exact ⟨j + 1, by omega, by go_num, by rw [HS.out, ← ek]; exact HO2.out, hB2⟩
              case measure => simp [intOf]; omega
        · have hjl : j = cs.length := by omega
          subst hjl
          obtain ⟨g, a, eg, ha, hca, _, _⟩ := hO.at_ (k := n) (by rw [wayK_len]; omega)
          have eg1 : w.heap.size = g := by cases eg; rfl
          subst eg1
          have HR := Lib.hid (countR_of HC1.out HC2.out ha.out)
          have c0 : (0 : Int) ≤ n := by omega
          clear eg ha hO
          go_wp2
          go_ret
          exact ⟨ret_int HR.out.symm, hB⟩
    · have HR := Lib.hid (countR_no2 (cs := cs) h2)
      go_enter Try.func17, Try.ntmps17
      go_wp2_with fail
      refine (CO2.out).mono ?_
      rintro e w' ⟨rfl, rfl⟩
      go_wp2_with fail
      refine (l01In_any _ _ _ _).mono ?_
      rintro e w' ⟨rfl, rfl⟩
      go_wp2
      go_ret
      exact ⟨ret_int HR.out.symm, Below.refl _ _⟩
  · rw [h] at CO
    have CO2 := Lib.hid CO
    have HR := Lib.hid (countR_no1 (N := N) h)
    clear CO
    go_enter Try.func17, Try.ntmps17
    go_wp2_with fail
    refine (CO2.out).mono ?_
    rintro e w' ⟨rfl, rfl⟩
    go_wp2
    go_ret
    exact ⟨ret_int HR.out.symm, Below.refl _ _⟩

set_option maxRecDepth 100000 in
set_option maxHeartbeats 1600000 in
theorem lCountCoins_law (w : World) (n0 : Int) (b0 : -9223372036854775808 ≤ n0 ∧ n0 ≤ 9223372036854775807) (A1 : Option Addr) (c1 : Nat) (xs1 : List Int) (r1 : Rd w A1 xs1) (_m1 : xs1.length ≤ maxLen) (b1 : ∀ x ∈ xs1, -9223372036854775808 ≤ x ∧ x ≤ 9223372036854775807) :
    Calls Try.prog 4 #[.int .i64 n0, .slice A1 xs1.length c1] w fun e w' => e = .returned (.bool true) ∧ Below w.heap.size w w' := by
  have BA0 : I64 n0 := b0
  clear b0
  have RA1 := Lib.hid r1
  have BA1 : AllI64 xs1 := b1
  clear r1 b1
  by_cases h1 : xs1.length ≤ 1048576
  · skip
    go_enter Try.func4, Try.ntmps4
    go_wp2_with fail
    refine (toIntS_any _ _ _ _ (RA1.out.below (Below.refl w.heap.size w)) h1).mono ?_
    rintro e w1 ⟨A_S1, c_S1, rfl, S1_0, B1⟩
    have L_S1 := fun k hk => (S1_0.lt k hk).1
    have C2 := (Below.refl w.heap.size w).trans (B1.mono (Below.refl w.heap.size w).size)
    go_wp2_with fail
    refine (sCountCoins_c _ _ BA0 _ _ _ S1_0.rd h1 BA1).mono ?_
    rintro e w3 ⟨rfl, B3⟩
    have C4 := C2.trans (B3.mono C2.size)
    have S1_4 := S1_0.below' B3
    go_wp2_with fail
    refine (toIntS_any _ _ _ _ (RA1.out.below C4) h1).mono ?_
    rintro e w5 ⟨A_X1, c_X1, rfl, X1_0, B5⟩
    have L_X1 := fun k hk => (X1_0.lt k hk).1
    have C6 := C4.trans (B5.mono C4.size)
    go_wp2_with fail
    refine (iCountCoins_c _ _ BA0 _ _ _ X1_0.rd h1 BA1).mono ?_
    rintro e w7 ⟨rfl, B7⟩
    have C8 := C6.trans (B7.mono C6.size)
    have X1_8 := X1_0.below' B7
    go_wp2_with fail
    refine (toIntS_any _ _ _ _ (RA1.out.below C8) h1).mono ?_
    rintro e w9 ⟨A_T1, c_T1, rfl, T1_0, B9⟩
    have U_X1_T1 := fun k hk => (X1_8.lt k hk).2
    have L_T1 := fun k hk => (T1_0.lt k hk).1
    have C10 := C8.trans (B9.mono C8.size)
    have X1_10 := X1_8.below' B9
    go_wp2_with fail
    refine (eqIntS_same _ _ _ _ _ _ X1_10.rd T1_0.rd (by omega)).mono ?_
    rintro e w11 ⟨rfl, n11_, rfl⟩
    have C12 := below_drewN C10 n11_
    have X1_12 := X1_10.drewN n11_
    have T1_12 := T1_0.drewN n11_
    go_wp2
    go_ret
    exact ⟨rfl, C12⟩
  · unfold maxLen at _m1
    go_enter Try.func4, Try.ntmps4
    go_wp2
    go_ret
    exact ⟨rfl, Below.refl _ _⟩

end Go.Proofs.Ytlhabcpoemcpjaa
