/-
  WALK of FnGray: neighbors in a Gray code differ in one digit, and rings are counted by it. The library's table is a hypothesis.
-/
import Derived.Test.YthnpobbpmgjhjaaDoorD2
namespace Go.Proofs.YthnpobbpmgjhjaaDoor
open Go.RowKit

/-- A few small numbers. -/
structure Few (xs : List Int) : Prop where
  len : xs.length ≤ 64
  val : ∀ x ∈ xs, (0 : Int) ≤ x ∧ x ≤ 1000000
theorem Few.i64 {xs : List Int} (h : Few xs) : AllI64 xs := fun x hx => by have := h.val x hx; omega
theorem few_rad {rs : List Int} (h : radB rs = true) : Few rs := ⟨by have := (radB_parts h).2.1; omega, fun x hx => by have := (radB_parts h).2.2.1 x hx; omega⟩
theorem few_gray {m : Int} {rs : List Int} (h : radB rs = true) (h0 : 0 ≤ m) (h1 : m < prodI rs) : Few (grayDR m rs) := by
  obtain ⟨a, b⟩ := gray_mix h h0 h1
  have hl := (radB_parts h).2.1
  refine ⟨by omega, fun x hx => ?_⟩
  have hd := fL_digs (own := true) (mixDR_digs m rs)
  obtain ⟨i, hi⟩ := List.mem_iff_getElem?.1 hx
  have hr : rs[i]? = some (rs[i]'(by have := (List.getElem?_eq_some_iff.1 hi).1; omega)) := List.getElem?_eq_getElem _
  have := hd i x _ hi hr
  omega
theorem few_cycle {q : Nat} (h : q < 6) : Few (cycleR ((q : Int) + 1)) := by
  have hl := (cycle_law h).2
  have : 2 ^ (q + 1) ≤ 2 ^ 6 := Nat.pow_le_pow_right (by omega) (by omega)
  refine ⟨by omega, fun x hx => ?_⟩
  unfold cycleR at hx
  split at hx
  · unfold grayL at hx
    obtain ⟨n, hn, rfl⟩ := List.mem_map.1 hx
    have hn2 := List.mem_range.1 hn
    have e : ((q : Int) + 1).toNat = q + 1 := by omega
    rw [e] at hn2
    have : grayN n < 2 ^ 6 := Nat.xor_lt_two_pow (by omega) (by omega)
    omega
  · cases hx
theorem kGrayOf (w : World) (e0 : Int) (n : Nat) (he : e0 = n) {a : Nat} (h1 : grayR (n : Int) = a) :
    Calls Tryd.prog 8 #[.int .i64 e0] w fun e w' => e = .returned (.int .i64 (a : Int)) ∧ w = w' := by
  subst he
  have := iGrayOf_any (n : Int) w
  rwa [h1] at this
theorem kFrom (w : World) (b : Nat) {v : Int} (h1 : fromR (b : Int) = v) :
    Calls Tryd.prog 9 #[.int .i64 (b : Int)] w fun e w' => e = .returned (.int .i64 v) ∧ w = w' := by
  subst h1; exact iFromGray_any (b : Int) w
theorem kFlip (w : World) (e0 : Int) (n : Nat) (he : e0 = n) (hT : Tab64 w) (h0 : 1 ≤ n) (h1 : n ≤ 100000000000) {k : Nat} (hk : tzN n = k) :
    Calls Tryd.prog 6 #[.int .i64 e0] w fun e w' => e = .returned (.int .i64 (k : Int)) ∧ w = w' := by
  subst he hk
  have := iFlipIndex_any (n : Int) w hT
  rwa [flipR_of (inB_of ⟨by omega, by omega⟩)] at this
theorem kGray (w : World) (m : Int) (hm : I64 m) (B : Option Addr) (c : Nat) (rs : List Int) (hb : Rd w B rs) (hf : Few rs) {O : List Int} (h1 : grayDR m rs = O) :
    Calls Tryd.prog 13 #[.int .i64 m, .slice B rs.length c] w fun e w' => ∃ A c, e = .returned (.slice A O.length c) ∧ Ow w' w.heap.size (.slice A O.length c) O ∧ Below w.heap.size w w' := by
  subst h1; exact iGrayDigits_c w m hm B c rs hb (by have := hf.len; omega) hf.i64
theorem kFromD (w : World) (D : Option Addr) (d : Nat) (ds : List Int) (hd : Rd w D ds) (hfd : Few ds) (B : Option Addr) (c : Nat) (rs : List Int) (hb : Rd w B rs) (hf : Few rs) {v : Int} (h1 : fromGR ds rs = v) :
    Calls Tryd.prog 15 #[.slice D ds.length d, .slice B rs.length c] w fun e w' => e = .returned (.int .i64 v) ∧ Below w.heap.size w w' := by
  subst h1; exact iFromGrayDigits_c w D d ds hd (by have := hfd.len; omega) hfd.i64 B c rs hb (by have := hf.len; omega) hf.i64
theorem kCount (w : World) (A : Option Addr) (c : Nat) (xs : List Int) (B : Option Addr) (d : Nat) (ys : List Int) (ha : Rd w A xs) (hb : Rd w B ys) (hx : Few xs) (hy : Few ys) {v : Int} (h1 : countR xs ys = v) :
    Calls Tryd.prog 14 #[.slice A xs.length c, .slice B ys.length d] w fun e w' => e = .returned (.int .i64 v) ∧ Below w.heap.size w w' := by
  subst h1
  refine (iCount_any A B c d xs ys w ha hb (by have := hx.len; omega) (by have := hy.len; omega)).mono ?_
  rintro e w' ⟨rfl, h⟩
  refine ⟨rfl, ?_⟩
  first
    | (obtain ⟨n, rfl⟩ := h; exact below_drewN (Below.refl _ _) n)
    | (subst h; exact Below.refl _ _)
    | exact h
theorem kRing (w : World) (s : Int) {v : Int} (h1 : ringR s 10 = v) :
    Calls Tryd.prog 17 #[.int .i64 s, .int .i64 10] w fun e w' => e = .returned (.int .i64 v) ∧ w = w' := by
  subst h1; exact iRing_any s 10 w
theorem kCycle (w : World) (k : Int) (hk : I64 k) {O : List Int} (h1 : cycleR k = O) :
    Calls Tryd.prog 16 #[.int .i64 k] w fun e w' => ∃ A c, e = .returned (.slice A O.length c) ∧ Ow w' w.heap.size (.slice A O.length c) O ∧ Below w.heap.size w w' := by
  subst h1; exact iGrayCycle_c w k hk
theorem kIsCycle (w : World) (A : Option Addr) (c : Nat) (xs : List Int) (hr : Rd w A xs) (hc : xs.length ≤ c) (hf : Few xs) (k : Int) (hk : I64 k) (h1 : cycB xs k = true) :
    Calls Tryd.prog 18 #[.slice A xs.length c, .int .i64 k] w fun e w' => e = .returned (.bool true) ∧ Below w.heap.size w w' := by
  have := iIsGrayCycle_c w A c xs hr hc (by have := hf.len; omega) hf.i64 k hk
  rwa [h1] at this

set_option maxRecDepth 100000 in
set_option maxHeartbeats 12800000 in
theorem lFnGray_law (w : World) (A0 : Option Addr) (c0 : Nat) (xs0 : List Int) (r0 : Rd8 w A0 xs0) (_m0 : xs0.length ≤ maxLen) (b0 : ∀ x ∈ xs0, 0 ≤ x ∧ x ≤ 255) (hT : Tab64 w) :
    Calls Tryd.prog 4 #[.slice A0 xs0.length c0] w fun e w' => e = .returned (.bool true) ∧ Below w.heap.size w w' := by
  unfold maxLen at _m0
  by_cases hlen : xs0.length ≤ 1048576
  · have hA : 0 < xs0.length → ∀ ad, A0 = some ad → ad.block < w.heap.size := fun hn ad e => by
      obtain ⟨ad', e', hc⟩ := r0 hn
      rw [e] at e'
      obtain rfl := Option.some.inj e'
      have := cell_lt (hc 0 hn)
      rwa [block_add] at this
    have hsz : 1 < w.heap.size := cell_lt (hT 0 (by omega))
    have MN0 := Lib.hid (makeNumber_c 0 (by omega) A0 c0 xs0 w r0 hA b0 (by omega))
    have MR := Lib.hid (fun (u : World) (B : Below w.heap.size w u) => makeRadices_c 10 (by omega) A0 c0 xs0 u (r0.far hA B) (fun hn ad e => Nat.lt_of_lt_of_le (hA hn ad e) B.size) b0 (by omega))
    have MN := Lib.hid (fun (N : Nat) (hN : N ≤ 1000) (u : World) (B : Below w.heap.size w u) => makeNum_c N hN A0 c0 xs0 u (r0.far hA B) (fun hn ad e => Nat.lt_of_lt_of_le (hA hn ad e) B.size) b0 (by omega))
    rw [show ((0 : Nat) : Int) = 0 from rfl] at MN0
    rw [show ((10 : Nat) : Int) = 10 from rfl] at MR
    have MN24 := Lib.hid (MN.out 24 (by omega))
    have MN28 := Lib.hid (MN.out 28 (by omega))
    have MN30 := Lib.hid (MN.out 30 (by omega))
    rw [show ((24 : Nat) : Int) = 24 from rfl] at MN24
    rw [show ((28 : Nat) : Int) = 28 from rfl] at MN28
    rw [show ((30 : Nat) : Int) = 30 from rfl] at MN30
    have HT := Lib.hid (fun (u : World) (B : Below w.heap.size w u) => hT.below B hsz)
    clear hA r0 b0 hT hsz MN
    go_enter Tryd.func4, Tryd.ntmps4
    go_wp2_with fail
    refine (MN0.out).mono ?_
    rintro e w1 ⟨X, rfl, X0, X1, T1⟩
    obtain ⟨n, hn⟩ : ∃ n : Nat, 1 + X = (n : Int) := ⟨(1 + X).toNat, by omega⟩
    have n1 : 1 ≤ n := by omega
    have n2 : n ≤ 100000000000 := by omega
    obtain ⟨a, b, k, N1, N2, N3, k40, N4, N5, bb, ab⟩ := number_law n1 n2
    have HN1 := Lib.hid N1
    have HN2 := Lib.hid N2
    have HN3 := Lib.hid N3
    have HN5 := Lib.hid N5
    have hx : bits .xor .i64 (a : Int) (b : Int) = (2 : Int) ^ k := by
      rw [i64_xor_nat a b (by omega) (by omega), N4]; simp
    have hp : (2 : Int) ^ k ≤ 1099511627776 ∧ 1 ≤ (2 : Int) ^ k := by
      have h1 : 2 ^ k ≤ 2 ^ 40 := Nat.pow_le_pow_right (by omega) (by omega)
      have h2 := Nat.one_le_two_pow (n := k)
      have e40 : (2 : Nat) ^ 40 = 1099511627776 := by decide
      have e : (2 : Int) ^ k = ((2 ^ k : Nat) : Int) := by simp
      omega
    obtain ⟨hp1, hp2⟩ := hp
    clear N1 N2 N3 N4 N5 MN0
    go_wp2_with fail
    refine (kGrayOf _ _ (n - 1) (by omega) HN1.out).mono ?_
    rintro e w' ⟨rfl, rfl⟩
    go_wp2_with fail
    refine (kGrayOf _ _ n (by omega) HN2.out).mono ?_
    rintro e w' ⟨rfl, rfl⟩
    go_wp2_with fail
    refine (kFlip _ _ n (by omega) (HT.out _ T1) n1 n2 HN3.out).mono ?_
    rintro e w' ⟨rfl, rfl⟩
    have q1 : (0 : Int) ≤ k := by omega
    have q2 : ¬ (40 : Int) < k := by omega
    go_wp2_with fail
    refine (kFrom _ b HN5.out).mono ?_
    rintro e w' ⟨rfl, rfl⟩
    have q3 : ((n : Int) != 1 + X) = false := by simp; omega
    clear hx hp1 hp2 HN1 HN2 HN3 HN5
    go_wp2_with fail
    clear q1 q2 q3 k40
    refine (MR.out _ T1).mono ?_
    rintro e w2 ⟨A2, c2, rs, rfl, hR, O2, B2⟩
    have T2 := T1.trans (B2.mono T1.size)
    have FR : Few rs := few_rad hR
    have HFR := Lib.hid FR
    have HR := Lib.hid hR
    have hP := radB_parts hR
    have hP2 : 2 ≤ prodI rs := by
      obtain ⟨p1, p2, p3, _, _⟩ := hP
      cases rs with
      | nil => simp at p1
      | cons r rs' =>
        have hr := p3 r (by simp)
        have hq := prodI_pos (xs := rs') fun x hx => by have := p3 x (by simp [hx]); omega
        have : r * 1 ≤ r * prodI rs' := Int.mul_le_mul_of_nonneg_left hq (by omega)
        simp only [prodI]; omega
    have hP3 := hP.2.2.2.2
    obtain ⟨P, hPe⟩ : ∃ P, prodI rs = P := ⟨_, rfl⟩
    have HPe := Lib.hid hPe
    rw [hPe] at hP2 hP3
    have HO2 := Lib.hid O2
    have K2 := Below.refl w2.heap.size w2
    clear B2 T1 hR FR hP hPe O2 MR
    go_wp2_with fail
    refine (sRangeOf_c _ _ rs _ HO2.out.rd HR.out).mono ?_
    rintro e w' ⟨rfl, rfl⟩
    rw [HPe.out]
    go_wp2_with fail
    refine (MN24.out _ T2).mono ?_
    rintro e w3 ⟨Y, rfl, Y0, Y1, B3⟩
    have T3 := T2.trans (B3.mono T2.size)
    have K3 := K2.trans (B3.mono K2.size)
    clear B3 T2 K2 MN24
    have p0 : ((P - 1) == 0) = false := by simp; omega
    have m0 := Int.emod_nonneg Y (show P - 1 ≠ 0 by omega)
    have m1 := Int.emod_lt_of_pos Y (show 0 < P - 1 by omega)
    have p1 : ¬ P - 1 = 0 := by omega
    have p2 : Y.tmod (P - 1) = Y % (P - 1) := Int.tmod_eq_emod_of_nonneg Y0
    have p3 : (0 : Int) ≤ P - 1 := by omega
    go_wp2_with fail
    obtain ⟨m, hm⟩ : ∃ m, Y % (P - 1) = m := ⟨_, rfl⟩
    rw [hm] at m0 m1 p2 ⊢
    clear hm p0 p1 p2 p3 Y0 Y1
    obtain ⟨G1, G2, G3, G4, G5, G6⟩ := gray_law HR.out m0 (by rw [HPe.out]; omega)
    have FX := few_gray HR.out m0 (by rw [HPe.out]; omega)
    have FY := few_gray HR.out (show 0 ≤ m + 1 by omega) (by rw [HPe.out]; omega)
    obtain ⟨xs, hxs⟩ : ∃ l, grayDR m rs = l := ⟨_, rfl⟩
    obtain ⟨ys, hys⟩ : ∃ l, grayDR (m + 1) rs = l := ⟨_, rfl⟩
    rw [hxs] at G1 G3 G4 G6 FX
    rw [hys] at G2 G3 G5 G6 FY
    have HX := Lib.hid hxs
    have HY := Lib.hid hys
    have HG1 := Lib.hid G1
    have HG2 := Lib.hid G2
    have HG3 := Lib.hid G3
    have HG4 := Lib.hid G4
    have HG5 := Lib.hid G5
    have HG6 := Lib.hid G6
    have HFX := Lib.hid FX
    have HFY := Lib.hid FY
    clear hxs hys G1 G2 G3 G4 G5 G6 FX FY
    refine (kGray _ m ⟨by omega, by omega⟩ _ _ rs (HO2.out.below' K3).rd HFR.out HX.out).mono ?_
    rintro e w4 ⟨A4, c4, rfl, O4, B4⟩
    have K4 := K3.trans (B4.mono K3.size)
    have T4 := T3.trans (B4.mono T3.size)
    clear B4
    go_wp2_with fail
    refine (kGray _ (m + 1) ⟨by omega, by omega⟩ _ _ rs (HO2.out.below' K4).rd HFR.out HY.out).mono ?_
    rintro e w5 ⟨A5, c5, rfl, O5, B5⟩
    have K5 := K4.trans (B5.mono K4.size)
    have HO4 := Lib.hid (O4.below' B5)
    have HO5 := Lib.hid O5
    have HO2' := Lib.hid (HO2.out.below' K5)
    have T5 := T4.trans (B5.mono T4.size)
    have J5 := Below.refl w5.heap.size w5
    clear B5 K3 K4 K5 O4 O5 HO2 T3 T4
    go_wp2_with fail
    have g1 : ((xs.length : Int) != rs.length) = false := by have := HG1.out; simp; omega
    have g2 : ((ys.length : Int) != rs.length) = false := by have := HG2.out; simp; omega
    refine (kCount _ _ _ xs _ _ ys (HO4.out.below' J5).rd (HO5.out.below' J5).rd HFX.out HFY.out HG3.out).mono ?_
    rintro e w6 ⟨rfl, B6⟩
    have J6 := J5.trans (B6.mono J5.size)
    clear B6 J5
    go_wp2_with fail
    refine (kFromD _ _ _ xs (HO4.out.below' J6).rd HFX.out _ _ rs (HO2'.out.below' J6).rd HFR.out HG4.out).mono ?_
    rintro e w7 ⟨rfl, B7⟩
    have J7 := J6.trans (B7.mono J6.size)
    clear B7 J6
    go_wp2_with fail
    refine (kFromD _ _ _ ys (HO5.out.below' J7).rd HFY.out _ _ rs (HO2'.out.below' J7).rd HFR.out HG5.out).mono ?_
    rintro e w8 ⟨rfl, B8⟩
    have J8 := J7.trans (B8.mono J7.size)
    have T8 := T5.trans (J8.mono T5.size)
    have RX := Lib.hid (HO4.out.below' J8).rd
    have RY := Lib.hid (HO5.out.below' J8).rd
    clear B8 J7 J8 T5
    go_wp2
    clear g1 g2
    go_loopw [110] (fun i wr => ∃ j q : Nat, j ≤ xs.length ∧ i = .int .i64 j ∧ wr = w8.drewN q) (fun i _ => xs.length - (intOf i).toNat)
    case atStart => exact ⟨0, 0, Nat.zero_le _, rfl, rfl⟩
    case round =>
      obtain ⟨j, q, hj, rfl, rfl⟩ := hrel
      by_cases hlt : j < xs.length
      · obtain ⟨ad1, x, rfl, hx, hc1⟩ := RX.out.at_ hlt
        obtain ⟨ad2, y, rfl, hy, hc2⟩ := RY.out.at_ (k := j) (by have := HG1.out; have := HG2.out; omega)
        obtain ⟨b1, b2⟩ := HG6.out j x y hx.out hy.out
        have v1 := HFX.out.val x (List.mem_of_getElem? hx.out)
        have v2 := HFY.out.val y (List.mem_of_getElem? hy.out)
        have t1 : (j : Int) < xs.length := by omega
        have t2 : (j : Int) < ys.length := by have := HG1.out; have := HG2.out; omega
        have t3 : (0 : Int) ≤ j := by omega
        have hxl := HFX.out.len
        have t4 : IntKind.i64.wrap (x - y) = x - y := IntWalk.i64_in _ (by omega)
        have t5 : IntKind.i64.wrap (y - x) = y - x := IntWalk.i64_in _ (by omega)
        have t6 : ¬ (1 : Int) < x - y := by omega
        have t7 : ¬ (1 : Int) < y - x := by omega
        clear hx hy
        go_wp2
        go_quiet (fail)
        go_wp2
        go_roundw
        case rel => exact ⟨j + 1, _, by omega, by go_num, by first | rfl | exact drewN_twice _ _ _⟩
        case measure => simp [intOf]; omega
      · have hjl : j = xs.length := by omega
        subst hjl
        have T9 := below_drewN T8 q
        clear RX RY T8 HG1 HG2 HG3 HG4 HG5 HG6 HFX HFY HX HY HO4 HO5 HO2' HR HFR HPe
        go_wp2_with fail
        refine (MN28.out _ T9).mono ?_
        rintro e w10 ⟨Z, rfl, Z0, Z1, B10⟩
        have T10 := T9.trans (B10.mono T9.size)
        clear B10 T9 MN28
        obtain ⟨Q, hQ⟩ : ∃ Q : Nat, Z % 6 = (Q : Int) := ⟨(Z % 6).toNat, by omega⟩
        have Q6 : Q < 6 := by omega
        obtain ⟨C1, C2⟩ := cycle_law Q6
        have FC := few_cycle Q6
        have hQ1 : 1 + Z % 6 = (Q : Int) + 1 := by omega
        obtain ⟨cy, hcy⟩ : ∃ l, cycleR ((Q : Int) + 1) = l := ⟨_, rfl⟩
        rw [hcy] at C1 C2 FC
        have HC1 := Lib.hid C1
        have HC2 := Lib.hid C2
        have HFC := Lib.hid FC
        have HCY := Lib.hid hcy
        clear hcy C1 C2 FC
        go_wp2_with fail
        rw [Int.add_comm 1 (Q : Int)]
        clear hQ hQ1 Z0 Z1
        refine (kCycle _ _ ⟨by omega, by omega⟩ HCY.out).mono ?_
        rintro e w11 ⟨A11, c11, rfl, O11, B11⟩
        have T11 := T10.trans (B11.mono T10.size)
        have HO11 := Lib.hid O11
        have K11 := Below.refl w11.heap.size w11
        clear B11 T10 O11
        go_wp2_with fail
        refine (MN30.out _ T11).mono ?_
        rintro e w12 ⟨V, rfl, V0, V1, B12⟩
        have T12 := T11.trans (B12.mono T11.size)
        have K12 := K11.trans (B12.mono K11.size)
        clear B12 T11 K11 MN30
        obtain ⟨s, hs⟩ : ∃ s : Nat, V % 1024 = (s : Int) := ⟨(V % 1024).toNat, by omega⟩
        have s1 : s < 1024 := by omega
        obtain ⟨now, up, R1, R2, R3, R4, R5, R6⟩ := ring_law s1
        have HR1 := Lib.hid R1
        have HR2 := Lib.hid R2
        clear R1 R2
        go_wp2_with fail
        try rw [hs]
        clear hs V0 V1
        refine (kRing _ _ HR2.out).mono ?_
        rintro e w' ⟨rfl, rfl⟩
        go_wp2_with fail
        refine (kRing _ _ HR1.out).mono ?_
        rintro e w' ⟨rfl, rfl⟩
        go_wp2_with fail
        refine (kIsCycle _ _ _ cy (HO11.out.below' K12).rd HO11.out.cap.1 HFC.out _ ⟨by omega, by omega⟩ HC1.out).mono ?_
        rintro e w13 ⟨rfl, B13⟩
        have T13 := T12.trans (B13.mono T12.size)
        have hpw : (2 : Int) ^ (Q + 1) ≤ 64 ∧ 1 ≤ (2 : Int) ^ (Q + 1) := by
          have h1 : 2 ^ (Q + 1) ≤ 2 ^ 6 := Nat.pow_le_pow_right (by omega) (by omega)
          have h2 := Nat.one_le_two_pow (n := Q + 1)
          have e : (2 : Int) ^ (Q + 1) = ((2 ^ (Q + 1) : Nat) : Int) := by simp
          omega
        obtain ⟨hpw1, hpw2⟩ := hpw
        have hlen2 : (cy.length : Int) = (2 : Int) ^ (Q + 1) := by rw [HC2.out]; simp
        have htn : ((Q : Int) + 1).toNat = Q + 1 := by omega
        have hq0 : (0 : Int) ≤ (Q : Int) + 1 := by omega
        have u1 : (0 : Int) ≤ now := by omega
        have u2 : IntKind.i64.wrap ((now : Int) + 1) = now + 1 := IntWalk.i64_in _ (by omega)
        have u3 : IntKind.i64.wrap ((now : Int) - 1) = now - 1 := IntWalk.i64_in _ (by omega)
        clear B13 T12 K12
        rcases R3 with h | h
        · have e1 : (up : Int) = now + 1 := by omega
          rw [e1]
          clear h e1
          go_wp2_with fail
          refine (kRing _ 0 ring_0).mono ?_
          rintro e w' ⟨rfl, rfl⟩
          go_wp2_with fail
          refine (kRing _ 512 ring_512).mono ?_
          rintro e w' ⟨rfl, rfl⟩
          go_wp2
          go_ret
          exact ⟨rfl, T13⟩
        · have e1 : (up : Int) = now - 1 := by omega
          have e2 : ¬ ((now : Int) - 1 = now + 1) := by omega
          have e3 : (((now : Int) - 1) == now + 1) = false := by simp; omega
          rw [e1]
          clear h e1
          go_wp2_with fail
          refine (kRing _ 0 ring_0).mono ?_
          rintro e w' ⟨rfl, rfl⟩
          go_wp2_with fail
          refine (kRing _ 512 ring_512).mono ?_
          rintro e w' ⟨rfl, rfl⟩
          go_wp2
          go_ret
          exact ⟨rfl, T13⟩
  · go_enter Tryd.func4, Tryd.ntmps4
    go_wp2
    go_ret
    exact ⟨rfl, Below.refl _ _⟩
end Go.Proofs.YthnpobbpmgjhjaaDoor
