/-
  WALK of FnFibonacci: a number has one sparse and one dense list of digits, and only one list if both are the same. No condition.
-/
import Derived.Test.YtlimphfkagdjiaaF10
namespace Go.Proofs.Ytlimphfkagdjiaa
open Go.RowKit

theorem kSparse (w : World) (N : Int) (hN : I64 N) {S : List Int} (hS : spR N = S) :
    Calls Try.prog 33 #[.int .i64 N] w fun e w' => ∃ A c, e = .returned (.slice A S.length c) ∧ Ow w' w.heap.size (.slice A S.length c) S ∧ Below w.heap.size w w' := by
  subst hS; exact iSparseFib_c w N hN
theorem kDense (w : World) (N : Int) (hN : I64 N) {S : List Int} (hS : dnR N = S) :
    Calls Try.prog 37 #[.int .i64 N] w fun e w' => ∃ A c, e = .returned (.slice A S.length c) ∧ Ow w' w.heap.size (.slice A S.length c) S ∧ Below w.heap.size w w' := by
  subst hS; exact iDenseFib_c w N hN
/-- Digits: few, and each one 0 or 1. -/
structure Dg (xs : List Int) : Prop where
  bits : Bits xs
  len : xs.length ≤ 58
theorem Dg.i64 {xs : List Int} (h : Dg xs) : AllI64 xs := fun x hx => by have := h.bits x hx; omega
theorem Dg.small {xs : List Int} (h : Dg xs) : ∀ x ∈ xs, (0 : Int) ≤ x ∧ x ≤ 1000000 := fun x hx => by have := h.bits x hx; omega
theorem dg_of {xs : List Int} (h : fibOkB xs = true) : Dg xs := ⟨bits_of h, (fibOk_parts h).1⟩
theorem kValue (w : World) (A : Option Addr) (c : Nat) (xs : List Int) (hr : Rd w A xs) (h : Dg xs) {v : Int} (h1 : fibValB xs = true) (h2 : fibValR xs = v) :
    Calls Try.prog 29 #[.slice A xs.length c] w fun e w' => e = .returned (.tuple #[.int .i64 v, .bool true]) ∧ Below w.heap.size w w' := by
  have := iFibValue_c w A c xs hr (by have := h.len; omega) h.i64
  rwa [h1, h2] at this
theorem kIsSparse (w : World) (A : Option Addr) (c : Nat) (xs : List Int) (hr : Rd w A xs) (h : Dg xs) {b : Bool} (h1 : isSparseFibB xs = b) :
    Calls Try.prog 25 #[.slice A xs.length c] w fun e w' => e = .returned (.bool b) ∧ Below w.heap.size w w' := by
  subst h1; exact iIsSparseFib_c w A c xs hr (by have := h.len; omega) h.i64
theorem kIsDense (w : World) (A : Option Addr) (c : Nat) (xs : List Int) (hr : Rd w A xs) (h : Dg xs) {b : Bool} (h1 : isDenseFibB xs = b) :
    Calls Try.prog 23 #[.slice A xs.length c] w fun e w' => e = .returned (.bool b) ∧ Below w.heap.size w w' := by
  subst h1; exact iIsDenseFib_c w A c xs hr (by have := h.len; omega) h.i64
theorem kFibOk (w : World) (A : Option Addr) (c : Nat) (xs : List Int) (hr : Rd w A xs) (h : Dg xs) (h1 : fibOkB xs = true) :
    Calls Try.prog 20 #[.slice A xs.length c] w fun e w' => e = .returned (.bool true) ∧ Below w.heap.size w w' := by
  have := iFibOk_c w A c xs hr (by have := h.len; omega) h.i64
  rwa [h1] at this
theorem kSame (w : World) (A : Option Addr) (c : Nat) (xs : List Int) (B : Option Addr) (d : Nat) (ys : List Int) (ha : Rd w A xs) (hb : Rd w B ys) (h : Dg xs) {b : Bool} (h1 : (xs == ys) = b) :
    Calls Try.prog 43 #[.slice A xs.length c, .slice B ys.length d] w fun e w' => e = .returned (.bool b) ∧ Below w.heap.size w w' := by
  subst h1; exact lsame_any A c xs B d ys w ha hb (by have := h.len; omega)
theorem kSum (w : World) (A : Option Addr) (c : Nat) (xs : List Int) (ha : Rd w A xs) (h : Dg xs) {v : Int} (h1 : lsm xs = v) :
    Calls Try.prog 45 #[.slice A xs.length c] w fun e w' => e = .returned (.int .i64 v) ∧ w = w' := by
  have := lsum_any A c xs w ha (by have := h.len; omega) h.small
  rwa [lsm_sumQ, h1] at this
theorem kCount (w : World) (N : Int) (hN : I64 N) {v : Int} (h1 : countR N = v) :
    Calls Try.prog 27 #[.int .i64 N] w fun e w' => e = .returned (.int .i64 v) ∧ Below w.heap.size w w' := by
  subst h1; exact iCountFib_c w N hN
theorem kPlace (w : World) (e0 : Int) (j : Nat) (hj : j ≤ 58) (he : e0 = j) {v : Int} (h1 : (fibN j : Int) = v) :
    Calls Try.prog 17 #[.int .i64 e0] w fun e w' => e = .returned (.int .i64 v) ∧ w = w' := by
  subst he h1
  have := iFibPlace_any (j : Int) w
  rwa [fibPlaceR_of hj] at this
theorem kShift (w : World) (N : Int) {v : Int} (h1 : shiftR N = v) :
    Calls Try.prog 41 #[.int .i64 N] w fun e w' => e = .returned (.int .i64 v) ∧ Below w.heap.size w w' := by
  subst h1; exact iShiftFib_any N w

set_option maxRecDepth 100000 in
set_option maxHeartbeats 12800000 in
theorem lFnFibonacci_law (w : World) (A0 : Option Addr) (c0 : Nat) (xs0 : List Int) (r0 : Rd8 w A0 xs0) (_m0 : xs0.length ≤ maxLen) (b0 : ∀ x ∈ xs0, 0 ≤ x ∧ x ≤ 255) :
    Calls Try.prog 14 #[.slice A0 xs0.length c0] w fun e w' => e = .returned (.bool true) ∧ Below w.heap.size w w' := by
  unfold maxLen at _m0
  by_cases hlen : xs0.length ≤ 1048576
  · have hA : 0 < xs0.length → ∀ ad, A0 = some ad → ad.block < w.heap.size := fun hn ad e => by
      obtain ⟨ad', e', hc⟩ := r0 hn
      rw [e] at e'
      obtain rfl := Option.some.inj e'
      have := cell_lt (hc 0 hn)
      rwa [block_add] at this
    have MN0 := Lib.hid (makeNum_c 0 (by omega) A0 c0 xs0 w r0 hA b0 (by omega))
    have MF := Lib.hid (fun (u : World) (B : Below w.heap.size w u) => makeFib_c 10 (by omega) A0 c0 xs0 u (r0.far hA B) (fun hn ad e => Nat.lt_of_lt_of_le (hA hn ad e) B.size) b0 (by omega))
    have MN40 := Lib.hid (fun (u : World) (B : Below w.heap.size w u) => makeNum_c 40 (by omega) A0 c0 xs0 u (r0.far hA B) (fun hn ad e => Nat.lt_of_lt_of_le (hA hn ad e) B.size) b0 (by omega))
    rw [show ((0 : Nat) : Int) = 0 from rfl] at MN0
    rw [show ((10 : Nat) : Int) = 10 from rfl] at MF
    rw [show ((40 : Nat) : Int) = 40 from rfl] at MN40
    clear hA r0 b0
    go_enter Try.func14, Try.ntmps14
    go_wp2_with fail
    refine (MN0.out).mono ?_
    rintro e w1 ⟨X, rfl, X0, X1, B1⟩
    have x0 := Int.emod_nonneg X (show (3000 : Int) ≠ 0 by omega)
    have x1 := Int.emod_lt_of_pos X (show (0 : Int) < 3000 by omega)
    go_wp2_with fail
    obtain ⟨n, hn⟩ : ∃ n, X % 3000 = n := ⟨_, rfl⟩
    rw [hn] at x0 x1 ⊢
    clear hn X0 X1 MN0
    obtain ⟨S, hS⟩ : ∃ S, spR n = S := ⟨_, rfl⟩
    obtain ⟨D, hD⟩ : ∃ D, dnR n = D := ⟨_, rfl⟩
    obtain ⟨C, hC⟩ : ∃ C, countR n = C := ⟨_, rfl⟩
    have DS : Dg S := by rw [← hS]; exact dg_of (sp_ok n)
    have DD : Dg D := by rw [← hD]; exact dg_of (dn_ok n)
    have VS := sp_value x0 (show n ≤ 500000000000 by omega)
    have VD := dn_val x0 (show n ≤ 500000000000 by omega)
    have FN := fib_number x0 (show n ≤ 100000 by omega)
    rw [hS] at VS FN
    rw [hD] at VD FN
    rw [hC] at FN
    obtain ⟨F1, F2, F3, F4, F5⟩ := FN
    have HS := Lib.hid hS
    have HD := Lib.hid hD
    have HC := Lib.hid hC
    have HVS := Lib.hid VS
    have HVD := Lib.hid VD
    have HF4 := Lib.hid F4
    have HF5 := Lib.hid F5
    have HDS := Lib.hid DS
    have HDD := Lib.hid DD
    obtain ⟨b, hb⟩ : ∃ b, (S == D) = b := ⟨_, rfl⟩
    rw [hb] at F2
    have HB := Lib.hid hb
    have hn64 : I64 n := ⟨by omega, by omega⟩
    clear hS hD hC VS VD F4 F5 DS DD hb
    refine (kSparse _ n hn64 HS.out).mono ?_
    rintro e w2 ⟨A2, c2, rfl, O2, B2⟩
    go_wp2_with fail
    refine (kDense _ n hn64 HD.out).mono ?_
    rintro e w3 ⟨A3, c3, rfl, O3, B3⟩
    have T3 : Below w.heap.size w w3 := B1.trans ((B2.mono B1.size).trans (B3.mono (Nat.le_trans B1.size B2.size)))
    have O2' := Lib.hid (O2.below' B3)
    have O3' := Lib.hid O3
    clear B1 B2 B3 O2 O3
    have K3 := Below.refl w3.heap.size w3
    go_wp2_with fail
    refine (kValue _ _ _ S (O2'.out.below' K3).rd HDS.out HVS.out.1 HVS.out.2).mono ?_
    rintro e w4 ⟨rfl, B4⟩
    have K4 := K3.trans (B4.mono K3.size)
    clear B4 K3
    go_wp2_with fail
    refine (kValue _ _ _ D (O3'.out.below' K4).rd HDD.out HVD.out.1 HVD.out.2).mono ?_
    rintro e w5 ⟨rfl, B5⟩
    have K5 := K4.trans (B5.mono K4.size)
    clear B5 K4
    go_wp2_with fail
    refine (kCount _ n hn64 HC.out).mono ?_
    rintro e w6 ⟨rfl, B6⟩
    have K6 := K5.trans (B6.mono K5.size)
    clear B6 K5
    go_wp2_with fail
    refine (kIsSparse _ _ _ S (O2'.out.below' K6).rd HDS.out HF4.out).mono ?_
    rintro e w7 ⟨rfl, B7⟩
    have K7 := K6.trans (B7.mono K6.size)
    clear B7 K6
    go_wp2_with fail
    refine (kIsDense _ _ _ D (O3'.out.below' K7).rd HDD.out HF5.out).mono ?_
    rintro e w8 ⟨rfl, B8⟩
    have K8 := K7.trans (B8.mono K7.size)
    clear B8 K7
    have c1 : ¬ C < 1 := by omega
    have c2_ : (C == 1) = b := by rw [← F2]; rfl
    have c3_ : ((D.length : Int) > S.length) = False := by simp; omega
    go_wp2_with fail
    refine (kSame _ _ _ S _ _ D (O2'.out.below' K8).rd (O3'.out.below' K8).rd HDS.out HB.out).mono ?_
    rintro e w9 ⟨rfl, B9⟩
    have K9 := K8.trans (B9.mono K8.size)
    clear B9 K8
    have T9 := T3.trans (K9.mono T3.size)
    clear O2' O3' T3 K9
    go_wp2_with fail
    clear c1 c2_ c3_ HB F1 F2 F3 HDS HDD HS HD HC HVS HVD HF4 HF5
    refine (MF.out _ T9).mono ?_
    rintro e w10 ⟨A10, c10, L, rfl, hL, l13, O10, B10⟩
    have T10 := T9.trans (B10.mono T9.size)
    clear B10 T9
    obtain ⟨v0, v1, L1, L2, L3, L4, L5, L6, L7⟩ := fib_list hL l13
    have DL : Dg L := dg_of hL
    obtain ⟨v, hv⟩ : ∃ v, sf L 0 = v := ⟨_, rfl⟩
    rw [hv] at v0 v1 L2 L3 L4 L5 L6 L7
    obtain ⟨S, hS⟩ : ∃ S, spR v = S := ⟨_, rfl⟩
    obtain ⟨D, hD⟩ : ∃ D, dnR v = D := ⟨_, rfl⟩
    obtain ⟨C, hC⟩ : ∃ C, countR v = C := ⟨_, rfl⟩
    have DS : Dg S := by rw [← hS]; exact dg_of (sp_ok v)
    have DD : Dg D := by rw [← hD]; exact dg_of (dn_ok v)
    rw [hS] at L3 L6
    rw [hD] at L4 L7
    rw [hC] at L5
    obtain ⟨bs, hbs⟩ : ∃ b, (L == S) = b := ⟨_, rfl⟩
    obtain ⟨bd, hbd⟩ : ∃ b, (L == D) = b := ⟨_, rfl⟩
    rw [hbs] at L3
    rw [hbd] at L4
    obtain ⟨sl, hsl⟩ : ∃ s, lsm L = s := ⟨_, rfl⟩
    obtain ⟨ss, hss⟩ : ∃ s, lsm S = s := ⟨_, rfl⟩
    obtain ⟨sd, hsd⟩ : ∃ s, lsm D = s := ⟨_, rfl⟩
    rw [hsl, hss] at L6
    rw [hsl, hsd] at L7
    have HS := Lib.hid hS
    have HD := Lib.hid hD
    have HC := Lib.hid hC
    have HL := Lib.hid hL
    have HL1 := Lib.hid L1
    have HL2 := Lib.hid L2
    have HL3 := Lib.hid L3
    have HL4 := Lib.hid L4
    have HBS := Lib.hid hbs
    have HBD := Lib.hid hbd
    have HSL := Lib.hid hsl
    have HSS := Lib.hid hss
    have HSD := Lib.hid hsd
    have HDL := Lib.hid DL
    have HDS := Lib.hid DS
    have HDD := Lib.hid DD
    have hv64 : I64 v := ⟨by omega, by omega⟩
    have OL := Lib.hid O10
    have K10 := Below.refl w10.heap.size w10
    clear hv hS hD hC hbs hbd hsl hss hsd DL DS DD hL L1 L2 L3 L4 O10 l13
    go_wp2_with fail
    refine (kValue _ _ _ L (OL.out.below' K10).rd HDL.out HL1.out HL2.out).mono ?_
    rintro e w11 ⟨rfl, B11⟩
    have K11 := K10.trans (B11.mono K10.size)
    clear B11 K10
    go_wp2_with fail
    refine (kFibOk _ _ _ L (OL.out.below' K11).rd HDL.out HL.out).mono ?_
    rintro e w12 ⟨rfl, B12⟩
    have K12 := K11.trans (B12.mono K11.size)
    clear B12 K11
    go_wp2_with fail
    refine (kIsSparse _ _ _ L (OL.out.below' K12).rd HDL.out HL3.out).mono ?_
    rintro e w13 ⟨rfl, B13⟩
    have K13 := K12.trans (B13.mono K12.size)
    clear B13 K12
    go_wp2_with fail
    refine (kSparse _ v hv64 HS.out).mono ?_
    rintro e w14 ⟨A14, c14, rfl, O14, B14⟩
    have K14 := K13.trans (B14.mono K13.size)
    clear B14 K13
    go_wp2_with fail
    refine (kSame _ _ _ L _ _ S (OL.out.below' K14).rd O14.rd HDL.out HBS.out).mono ?_
    rintro e w15 ⟨rfl, B15⟩
    have K15 := K14.trans (B15.mono K14.size)
    clear B15 K14 O14
    go_wp2_with fail
    refine (kIsDense _ _ _ L (OL.out.below' K15).rd HDL.out HL4.out).mono ?_
    rintro e w16 ⟨rfl, B16⟩
    have K16 := K15.trans (B16.mono K15.size)
    clear B16 K15
    go_wp2_with fail
    refine (kDense _ v hv64 HD.out).mono ?_
    rintro e w17 ⟨A17, c17, rfl, O17, B17⟩
    have K17 := K16.trans (B17.mono K16.size)
    clear B17 K16
    go_wp2_with fail
    refine (kSame _ _ _ L _ _ D (OL.out.below' K17).rd O17.rd HDL.out HBD.out).mono ?_
    rintro e w18 ⟨rfl, B18⟩
    have K18 := K17.trans (B18.mono K17.size)
    clear B18 K17 O17
    go_wp2_with fail
    refine (kCount _ v hv64 HC.out).mono ?_
    rintro e w19 ⟨rfl, B19⟩
    have K19 := K18.trans (B19.mono K18.size)
    clear B19 K18
    have d1 : ¬ C < 1 := by omega
    have d2 : ¬ sl < ss := by omega
    have d3 : ¬ sd < sl := by omega
    clear L5 L6 L7
    go_wp2_with fail
    refine (kSum _ _ _ L (OL.out.below' K19).rd HDL.out HSL.out).mono ?_
    rintro e w' ⟨rfl, rfl⟩
    go_wp2_with fail
    refine (kSparse _ v hv64 HS.out).mono ?_
    rintro e w20 ⟨A20, c20, rfl, O20, B20⟩
    have K20 := K19.trans (B20.mono K19.size)
    clear B20 K19
    go_wp2_with fail
    refine (kSum _ _ _ S O20.rd HDS.out HSS.out).mono ?_
    rintro e w' ⟨rfl, rfl⟩
    clear O20
    go_wp2_with fail
    refine (kSum _ _ _ L (OL.out.below' K20).rd HDL.out HSL.out).mono ?_
    rintro e w' ⟨rfl, rfl⟩
    go_wp2_with fail
    refine (kDense _ v hv64 HD.out).mono ?_
    rintro e w21 ⟨A21, c21, rfl, O21, B21⟩
    have K21 := K20.trans (B21.mono K20.size)
    clear B21 K20
    go_wp2_with fail
    refine (kSum _ _ _ D O21.rd HDD.out HSD.out).mono ?_
    rintro e w' ⟨rfl, rfl⟩
    have T21 := T10.trans (K21.mono T10.size)
    clear O21 K21 T10 OL HS HD HC HL HL1 HL2 HL3 HL4 HBS HBD HSL HSS HSD HDL HDS HDD hv64
    go_wp2_with fail
    clear d1 d2 d3
    refine (MN40.out _ T21).mono ?_
    rintro e w22 ⟨Y, rfl, Y0, Y1, B22⟩
    have T22 := T21.trans (B22.mono T21.size)
    clear B22 T21 MN40 MF
    have y0 := Int.emod_nonneg Y (show (56 : Int) ≠ 0 by omega)
    have y1 := Int.emod_lt_of_pos Y (show (0 : Int) < 56 by omega)
    go_wp2_with fail
    obtain ⟨K, hK⟩ : ∃ K : Nat, Y % 56 = (K : Int) := ⟨(Y % 56).toNat, by omega⟩
    rw [hK] at y0 y1 ⊢
    clear hK Y0 Y1
    obtain ⟨J, hJ⟩ : ∃ J : Nat, (K : Int) % 30 = (J : Int) := ⟨((K : Int) % 30).toNat, by omega⟩
    have J30 : J < 30 := by omega
    have HJ := Lib.hid hJ
    clear hJ
    obtain ⟨P0, hP0⟩ : ∃ p : Int, (fibN K : Int) = p := ⟨_, rfl⟩
    obtain ⟨P1, hP1⟩ : ∃ p : Int, (fibN (K + 1) : Int) = p := ⟨_, rfl⟩
    obtain ⟨Q0, hQ0⟩ : ∃ p : Int, (fibN J : Int) = p := ⟨_, rfl⟩
    obtain ⟨Q1, hQ1⟩ : ∃ p : Int, (fibN (J + 1) : Int) = p := ⟨_, rfl⟩
    have hP2 : (fibN (K + 2) : Int) = P0 + P1 := by rw [fibN_add, ← hP0, ← hP1]; omega
    have hQs : shiftR Q0 = Q1 := by rw [← hQ0, ← hQ1]; exact shift_place (by omega)
    obtain ⟨s, hs⟩ : ∃ s, shiftR n = s := ⟨_, rfl⟩
    have hs2 : shiftR s = s + n := by rw [← hs]; exact shift_twice x0 (by omega)
    have sb := shiftR_bound x0 (show n ≤ 1000000 by omega)
    rw [hs] at sb
    have p0 := fibN_le (n := K) (by omega)
    have p1 := fibN_le (n := K + 1) (by omega)
    have p2 : 0 ≤ P0 ∧ P0 ≤ 4052739537881 := by omega
    have p3 : 0 ≤ P1 ∧ P1 ≤ 4052739537881 := by omega
    have HP0 := Lib.hid hP0
    have HP1 := Lib.hid hP1
    have HP2 := Lib.hid hP2
    have HQ0 := Lib.hid hQ0
    have HQ1 := Lib.hid hQ1
    have HQs := Lib.hid hQs
    have HSh := Lib.hid hs
    have HS2 := Lib.hid hs2
    clear hP0 hP1 hP2 hQ0 hQ1 hQs hs hs2 p0 p1
    refine (kPlace _ _ (K + 2) (by omega) (by omega) HP2.out).mono ?_
    rintro e w' ⟨rfl, rfl⟩
    go_wp2_with fail
    refine (kPlace _ _ K (by omega) (by omega) HP0.out).mono ?_
    rintro e w' ⟨rfl, rfl⟩
    go_wp2_with fail
    refine (kPlace _ _ (K + 1) (by omega) (by omega) HP1.out).mono ?_
    rintro e w' ⟨rfl, rfl⟩
    go_wp2_with fail
    refine (kPlace _ _ J (by omega) HJ.out HQ0.out).mono ?_
    rintro e w' ⟨rfl, rfl⟩
    go_wp2_with fail
    refine (kShift _ _ HQs.out).mono ?_
    rintro e w23 ⟨rfl, B23⟩
    have T23 := T22.trans (B23.mono T22.size)
    clear B23 T22
    go_wp2_with fail
    refine (kPlace _ _ (J + 1) (by omega) (by have := HJ.out; omega) HQ1.out).mono ?_
    rintro e w' ⟨rfl, rfl⟩
    go_wp2_with fail
    refine (kShift _ _ HSh.out).mono ?_
    rintro e w24 ⟨rfl, B24⟩
    have T24 := T23.trans (B24.mono T23.size)
    clear B24 T23
    go_wp2_with fail
    refine (kShift _ _ HSh.out).mono ?_
    rintro e w25 ⟨rfl, B25⟩
    have T25 := T24.trans (B25.mono T24.size)
    clear B25 T24
    go_wp2_with fail
    refine (kShift _ _ HS2.out).mono ?_
    rintro e w26 ⟨rfl, B26⟩
    have T26 := T25.trans (B26.mono T25.size)
    clear B26 T25
    go_wp2
    go_ret
    exact ⟨rfl, T26⟩
  · go_enter Try.func14, Try.ntmps14
    go_wp2
    go_ret
    exact ⟨rfl, Below.refl _ _⟩
end Go.Proofs.Ytlimphfkagdjiaa
