/-
  WALK of FnSubsets: subsets are numbered by binomial coefficients, each one with its own number. No condition.
-/
import Derived.Test.YtepjmlcleggnnaaS7
namespace Go.Proofs.Ytepjmlcleggnnaa
open Go.RowKit

/-- Numbers below 20 in order, or nothing. -/
structure Sm (xs : List Int) : Prop where
  len : xs.length ≤ 20
  val : ∀ x ∈ xs, (0 : Int) ≤ x ∧ x ≤ 19
theorem Sm.i64 {xs : List Int} (h : Sm xs) : AllI64 xs := fun x hx => by have := h.val x hx; omega
theorem sm_of {xs : List Int} (h : subB xs 20 = true) : Sm xs := by
  obtain ⟨h0, h1, hS⟩ := subB_parts h
  refine ⟨by have := sub_len h0 hS; omega, fun x hx => ?_⟩
  obtain ⟨i, hi⟩ := List.mem_iff_getElem?.1 hx
  have := sub_at hS i x hi
  omega
theorem kSubOk (w : World) (A : Option Addr) (c : Nat) (xs : List Int) (hr : Rd w A xs) (h : Sm xs) (h1 : subB xs 20 = true) :
    Calls Try.prog 36 #[.slice A xs.length c, .int .i64 20] w fun e w' => e = .returned (.bool true) ∧ w = w' := by
  have := iSubsetOk_any A c xs 20 w hr (by have := h.len; omega) ⟨by omega, by omega⟩
  rwa [h1] at this
theorem kRank (w : World) (A : Option Addr) (c : Nat) (xs : List Int) (hr : Rd w A xs) (h : Sm xs) {v : Int} (h1 : rankR xs = v) :
    Calls Try.prog 28 #[.slice A xs.length c] w fun e w' => e = .returned (.int .i64 v) ∧ w = w' := by
  subst h1; exact iSubsetRank_any A c xs w hr (by have := h.len; omega)
theorem kMask (w : World) (A : Option Addr) (c : Nat) (xs : List Int) (hr : Rd w A xs) (h : Sm xs) {v : Int} (h1 : maskR xs = v) :
    Calls Try.prog 16 #[.slice A xs.length c] w fun e w' => e = .returned (.int .i64 v) ∧ w = w' := by
  subst h1; exact iMaskOf_any A c xs w hr (by have := h.len; omega)
theorem kAt (w : World) (N K : Int) (hN : I64 N) (hK : I64 K) {L : List Int} (h1 : subsetAtB N K = true) (h2 : subsetAtL N K = L) :
    Calls Try.prog 30 #[.int .i64 N, .int .i64 K] w fun e w' => ∃ A c, e = .returned (.tuple #[.slice A L.length c, .bool true]) ∧ Ow w' w.heap.size (.slice A L.length c) L ∧ Below w.heap.size w w' := by
  have := iSubsetAt_any N K w hN hK
  rwa [h1, h2] at this
theorem kNext (w : World) (A : Option Addr) (c : Nat) (xs : List Int) (hr : Rd w A xs) (h : Sm xs) {Y : List Int} {b : Bool} (h1 : nextL xs = Y) (h2 : nextB xs = b) :
    Calls Try.prog 34 #[.slice A xs.length c] w fun e w' => ∃ A c, e = .returned (.tuple #[.slice A Y.length c, .bool b]) ∧ Ow w' w.heap.size (.slice A Y.length c) Y ∧ Below w.heap.size w w' := by
  subst h1 h2; exact iNextSubset_c w A c xs hr (by have := h.len; omega) h.i64
theorem kOther (w : World) (A : Option Addr) (c : Nat) (xs : List Int) (hr : Rd w A xs) (h : Sm xs) {O : List Int} (h1 : otherL xs 20 = O) (h2 : subB xs 20 = true) :
    Calls Try.prog 32 #[.slice A xs.length c, .int .i64 20] w fun e w' => ∃ A c, e = .returned (.tuple #[.slice A O.length c, .bool true]) ∧ Ow w' w.heap.size (.slice A O.length c) O ∧ Below w.heap.size w w' := by
  have := iOtherSubset_c w A c xs hr (by have := h.len; omega) h.i64 20 ⟨by omega, by omega⟩
  rw [show otherB xs 20 = true from h2, h1] at this
  exact this
theorem kBin (w : World) (e1 e2 : Int) (n k : Nat) (hn : n ≤ 30) (hk : k ≤ 30) (h1 : e1 = n) (h2 : e2 = k) {v : Int} (hv : (bN n k : Int) = v) :
    Calls Try.prog 37 #[.int .i64 e1, .int .i64 e2] w fun e w' => e = .returned (.int .i64 v) ∧ w = w' := by
  subst h1 h2 hv; exact iBinomial_in n k w hn hk
theorem kSame (w : World) (A : Option Addr) (c : Nat) (xs : List Int) (B : Option Addr) (d : Nat) (ha : Rd w A xs) (hb : Rd w B xs) (h : Sm xs) :
    Calls Try.prog 38 #[.slice A xs.length c, .slice B xs.length d] w fun e w' => e = .returned (.bool true) ∧ Below w.heap.size w w' := by
  have := lsame_any A c xs B d xs w ha hb (by have := h.len; omega)
  rwa [beq_self_eq_true] at this
theorem kSubOf (w : World) (e0 : Int) (M : Nat) (he : e0 = M) (hM : M < 1048576) {L : List Int} (hL : lp (fun x => M.testBit x) 20 = L) :
    Calls Try.prog 40 #[.int .i64 e0] w fun e w' => ∃ A c, e = .returned (.slice A L.length c) ∧ Ow w' w.heap.size (.slice A L.length c) L ∧ Below w.heap.size w w' := by
  subst he; exact iSubsetOf_in M hM L hL w
theorem kDig (w : World) (e0 : Int) (M : Nat) (he : e0 = M) (hM : M < 1048576) {v : Nat} (hv : ones 20 M = v) :
    Calls Try.prog 41 #[.int .i64 e0, .int .i64 2] w fun e w' => e = .returned (.int .i64 (v : Int)) ∧ Below w.heap.size w w' := by
  subst he hv; exact digitSum_two M hM w
theorem bN_le {n k : Nat} (hn : n ≤ 30) (hk : k ≤ 30) : (bN n k : Int) ≤ 300540195 := by
  have := bN_table n (by omega) k (by omega)
  omega

set_option maxRecDepth 100000 in
set_option maxHeartbeats 12800000 in
theorem lFnSubsets_law (w : World) (A0 : Option Addr) (c0 : Nat) (xs0 : List Int) (r0 : Rd8 w A0 xs0) (_m0 : xs0.length ≤ maxLen) (b0 : ∀ x ∈ xs0, 0 ≤ x ∧ x ≤ 255) :
    Calls Try.prog 11 #[.slice A0 xs0.length c0] w fun e w' => e = .returned (.bool true) ∧ Below w.heap.size w w' := by
  unfold maxLen at _m0
  by_cases hlen : xs0.length ≤ 1048576
  · have hA : 0 < xs0.length → ∀ ad, A0 = some ad → ad.block < w.heap.size := fun hn ad e => by
      obtain ⟨ad', e', hc⟩ := r0 hn
      rw [e] at e'
      obtain rfl := Option.some.inj e'
      have := cell_lt (hc 0 hn)
      rwa [block_add] at this
    have MS := Lib.hid (makeSubset_c 0 (by omega) A0 c0 xs0 w r0 hA b0 (by omega))
    have MN20 := Lib.hid (fun (u : World) (B : Below w.heap.size w u) => makeNum_c 20 (by omega) A0 c0 xs0 u (r0.far hA B) (fun hn ad e => Nat.lt_of_lt_of_le (hA hn ad e) B.size) b0 (by omega))
    have MN22 := Lib.hid (fun (u : World) (B : Below w.heap.size w u) => makeNum_c 22 (by omega) A0 c0 xs0 u (r0.far hA B) (fun hn ad e => Nat.lt_of_lt_of_le (hA hn ad e) B.size) b0 (by omega))
    rw [show ((0 : Nat) : Int) = 0 from rfl] at MS
    rw [show ((20 : Nat) : Int) = 20 from rfl] at MN20
    rw [show ((22 : Nat) : Int) = 22 from rfl] at MN22
    clear hA r0 b0
    go_enter Try.func11, Try.ntmps11
    go_wp2_with fail
    refine (MS.out).mono ?_
    rintro e w1 ⟨A1, c1, L, rfl, hL, l5, O1, T1⟩
    obtain ⟨a1, a2⟩ := at_rank hL (by omega)
    obtain ⟨r0, r1⟩ := rank_range hL
    obtain ⟨n1, n2⟩ := next_law hL (by omega)
    obtain ⟨o1, o2, o3, o4, o5, o6, o7, o8, o9⟩ := other_law hL
    obtain ⟨N, hN⟩ : ∃ N, rankR L = N := ⟨_, rfl⟩
    obtain ⟨M, hM⟩ : ∃ M, maskR L = M := ⟨_, rfl⟩
    obtain ⟨Y, hY⟩ : ∃ Y, nextL L = Y := ⟨_, rfl⟩
    obtain ⟨O, hO⟩ : ∃ O, otherL L 20 = O := ⟨_, rfl⟩
    obtain ⟨MO, hMO⟩ : ∃ M, maskR O = M := ⟨_, rfl⟩
    obtain ⟨b, hb⟩ : ∃ b, nextB L = b := ⟨_, rfl⟩
    obtain ⟨Bk, hBk⟩ : ∃ b : Int, (bN 20 L.length : Int) = b := ⟨_, rfl⟩
    have bk := bN_le (n := 20) (k := L.length) (by omega) (by omega)
    have hMe := maskR_of hL
    rw [hM] at hMe
    rw [hN] at a1 a2 r0 r1 n1 n2
    rw [hM] at n2 o4 o5 o6
    rw [hO] at o1 o2 o3 o4 o9
    rw [hMO] at o4 o9
    rw [hY] at n2
    rw [hb] at n1 n2
    rw [hBk] at r1 n1 bk
    have SL : Sm L := sm_of hL
    have SO : Sm O := sm_of o1
    have HL := Lib.hid hL
    have HSL := Lib.hid SL
    have HSO := Lib.hid SO
    have HA1 := Lib.hid a1
    have HA2 := Lib.hid a2
    have HN2 := Lib.hid n2
    have HO1 := Lib.hid o1
    have HO2 := Lib.hid o2
    have HO7 := Lib.hid o7
    have HO8 := Lib.hid o8
    have HN := Lib.hid hN
    have HM := Lib.hid hM
    have HMe := Lib.hid hMe
    have HY := Lib.hid hY
    have HO := Lib.hid hO
    have HMO := Lib.hid hMO
    have HB := Lib.hid hb
    have HBk := Lib.hid hBk
    have hm6 : maskUp L L.length < 1048576 := by omega
    have Hm6 := Lib.hid hm6
    have OL := Lib.hid O1
    have K1 := Below.refl w1.heap.size w1
    clear hL SL SO a1 a2 n2 o1 o2 o7 o8 hN hM hMe hY hO hMO hb hBk hm6 O1 MS
    go_wp2_with fail
    refine (kRank _ _ _ L OL.out.rd HSL.out HN.out).mono ?_
    rintro e w' ⟨rfl, rfl⟩
    go_wp2_with fail
    refine (kAt _ N L.length ⟨by omega, by omega⟩ ⟨by omega, by omega⟩ HA1.out HA2.out).mono ?_
    rintro e w2 ⟨A2, c2, rfl, OX, B2⟩
    have K2 := K1.trans (B2.mono K1.size)
    clear B2 K1
    go_wp2_with fail
    refine (kNext _ _ _ L (OL.out.below' K2).rd HSL.out HY.out HB.out).mono ?_
    rintro e w3 ⟨A3, c3, rfl, OY, B3⟩
    have K3 := K2.trans (B3.mono K2.size)
    have OX3 := OX.below' B3
    clear B3 K2 OX
    go_wp2_with fail
    refine (kOther _ _ _ L (OL.out.below' K3).rd HSL.out HO.out HL.out).mono ?_
    rintro e w4 ⟨A4, c4, rfl, OO, B4⟩
    have K4 := K3.trans (B4.mono K3.size)
    have OX4 := OX3.below' B4
    have OY4 := OY.below' B4
    clear B4 K3 OX3 OY
    go_wp2_with fail
    refine (kOther _ _ _ O OO.rd HSO.out HO2.out HO1.out).mono ?_
    rintro e w5 ⟨A5, c5, rfl, OP, B5⟩
    have K5 := K4.trans (B5.mono K4.size)
    have HOX := Lib.hid (OX4.below' B5)
    have HOY := Lib.hid (OY4.below' B5)
    have HOO := Lib.hid (OO.below' B5)
    have HOP := Lib.hid OP
    have HOL := Lib.hid (OL.out.below' K5)
    have T5 := T1.trans (K5.mono T1.size)
    have J5 := Below.refl w5.heap.size w5
    clear B5 K4 OX4 OY4 OO OP K5 T1 OL
    go_wp2_with fail
    refine (kSubOk _ _ _ L (HOL.out.below' J5).rd HSL.out HL.out).mono ?_
    rintro e w' ⟨rfl, rfl⟩
    go_wp2_with fail
    refine (kBin _ _ _ 20 L.length (by omega) (by omega) rfl rfl HBk.out).mono ?_
    rintro e w' ⟨rfl, rfl⟩
    go_wp2_with fail
    refine (kSame _ _ _ L _ _ (HOX.out.below' J5).rd (HOL.out.below' J5).rd HSL.out).mono ?_
    rintro e w6 ⟨rfl, B6⟩
    have J6 := J5.trans (B6.mono J5.size)
    clear B6 J5
    go_wp2_with fail
    refine (kSame _ _ _ L _ _ (HOP.out.below' J6).rd (HOL.out.below' J6).rd HSL.out).mono ?_
    rintro e w7 ⟨rfl, B7⟩
    have J7 := J6.trans (B7.mono J6.size)
    clear B7 J6
    have c9 : ((O.length : Int) != 20 - (L.length : Int)) = false := by simp; omega
    have c10 : IntKind.i64.wrap (20 - (L.length : Int)) = 20 - (L.length : Int) := IntWalk.i64_in _ (by omega)
    go_wp2_with fail
    refine (kBin _ _ _ 20 L.length (by omega) (by omega) rfl rfl HBk.out).mono ?_
    rintro e w' ⟨rfl, rfl⟩
    cases b
    · have n1' : ¬ N + 1 < Bk := of_decide_eq_false n1.symm
      clear HN2 n1
      clear c9 c10 bk HA1 HA2 HO1 HO2 HN HY HO HB HBk HOX HOY HOP
      have T8 := T5.trans (J7.mono T5.size)
      go_wp2_with fail
      refine (MN20.out _ T8).mono ?_
      rintro e w8 ⟨X, rfl, X0, X1, B8⟩
      have J8 := J7.trans (B8.mono J7.size)
      have T9 := T8.trans (B8.mono T8.size)
      clear B8 T8 MN20 J7
      have x0 := Int.emod_nonneg X (show (30 : Int) ≠ 0 by omega)
      have x1 := Int.emod_lt_of_pos X (show (0 : Int) < 30 by omega)
      go_wp2_with fail
      obtain ⟨a, ha⟩ : ∃ a : Nat, X % 30 = (a : Int) := ⟨(X % 30).toNat, by omega⟩
      rw [ha] at x0 x1 ⊢
      clear ha X0 X1
      refine (MN22.out _ T9).mono ?_
      rintro e w9 ⟨Z, rfl, Z0, Z1, B9⟩
      have J9 := J8.trans (B9.mono J8.size)
      clear B9 T9 MN22 J8
      have y0 := Int.emod_nonneg Z (show (29 : Int) ≠ 0 by omega)
      have y1 := Int.emod_lt_of_pos Z (show (0 : Int) < 29 by omega)
      go_wp2_with fail
      obtain ⟨b, hb⟩ : ∃ b : Nat, Z % 29 = (b : Int) := ⟨(Z % 29).toNat, by omega⟩
      rw [hb] at y0 y1 ⊢
      clear hb Z0 Z1
      have hdiff := bN_diff a (by omega) b (by omega)
      have q1 := bN_le (n := a) (k := b) (by omega) (by omega)
      have q2 := bN_le (n := a) (k := b + 1) (by omega) (by omega)
      obtain ⟨p1, hp1⟩ : ∃ p : Int, (bN a b : Int) = p := ⟨_, rfl⟩
      obtain ⟨p2, hp2⟩ : ∃ p : Int, (bN a (b + 1) : Int) = p := ⟨_, rfl⟩
      have hp3 : (bN (a + 1) (b + 1) : Int) = p1 + p2 := by omega
      have q3 : 0 ≤ p1 := by omega
      have q4 : 0 ≤ p2 := by omega
      rw [hp1] at q1
      rw [hp2] at q2
      have HSy : Hid (b ≤ a → (bN a (a - b) : Int) = p1) := fun h => by rw [← hp1, bN_sym a (by omega) b h]
      have HP1 := Lib.hid hp1
      have HP2 := Lib.hid hp2
      have HP3 := Lib.hid hp3
      clear hp1 hp2 hp3 hdiff
      refine (kMask _ _ _ L (HOL.out.below' J9).rd HSL.out HM.out).mono ?_
      rintro e w' ⟨rfl, rfl⟩
      go_wp2_with fail
      refine (kSubOf _ M (maskUp L L.length) HMe.out Hm6.out HO7.out).mono ?_
      rintro e w10 ⟨A10, c10, rfl, O10, B10⟩
      have J10 := J9.trans (B10.mono J9.size)
      clear B10 J9
      go_wp2_with fail
      refine (kSame _ _ _ L _ _ O10.rd (HOL.out.below' J10).rd HSL.out).mono ?_
      rintro e w11 ⟨rfl, B11⟩
      have J11 := J10.trans (B11.mono J10.size)
      clear B11 J10 O10
      go_wp2_with fail
      refine (kMask _ _ _ O (HOO.out.below' J11).rd HSO.out HMO.out).mono ?_
      rintro e w' ⟨rfl, rfl⟩
      have o4' : M + MO = 1048575 := o4
      go_wp2_with fail
      refine (kDig _ M (maskUp L L.length) HMe.out Hm6.out HO8.out).mono ?_
      rintro e w12 ⟨rfl, B12⟩
      have J12 := J11.trans (B12.mono J11.size)
      have T12 := T5.trans (J12.mono T5.size)
      clear B12 J11 J12 HOL HOO HSL HSO HM HMe HMO HO7 HO8 HL Hm6
      go_wp2_with fail
      refine (kBin _ _ _ (a + 1) (b + 1) (by omega) (by omega) (by omega) (by omega) HP3.out).mono ?_
      rintro e w' ⟨rfl, rfl⟩
      go_wp2_with fail
      refine (kBin _ _ _ a b (by omega) (by omega) rfl rfl HP1.out).mono ?_
      rintro e w' ⟨rfl, rfl⟩
      go_wp2_with fail
      refine (kBin _ _ _ a (b + 1) (by omega) (by omega) rfl (by omega) HP2.out).mono ?_
      rintro e w' ⟨rfl, rfl⟩
      have hw : IntKind.i64.wrap (p1 + p2) = p1 + p2 := IntWalk.i64_in _ (by omega)
      by_cases hba : (a : Int) < b
      · go_wp2
        go_ret
        exact ⟨rfl, T12⟩
      · go_wp2_with fail
        refine (kBin _ _ _ a b (by omega) (by omega) rfl rfl HP1.out).mono ?_
        rintro e w' ⟨rfl, rfl⟩
        have hw2 : IntKind.i64.wrap ((a : Int) - b) = (a : Int) - b := IntWalk.i64_in _ (by omega)
        go_wp2_with fail
        refine (kBin _ _ _ a (a - b) (by omega) (by omega) rfl (by omega) (HSy.out (by omega))).mono ?_
        rintro e w' ⟨rfl, rfl⟩
        go_wp2
        go_ret
        exact ⟨rfl, T12⟩
    · have n1' : N + 1 < Bk := of_decide_eq_true n1.symm
      obtain ⟨y1_, y2_, y3_, y4_⟩ := HN2.out rfl
      obtain ⟨MY, hMY⟩ : ∃ M, maskR Y = M := ⟨_, rfl⟩
      rw [hMY] at y3_
      have HSY := Lib.hid (sm_of y1_)
      have HY2 := Lib.hid y2_
      have HMY := Lib.hid hMY
      have HOY2 := Lib.hid (HOY.out.below' J7)
      clear HN2 y1_ y2_ y4_ hMY n1
      go_wp2_with fail
      refine (kRank _ _ _ Y HOY2.out.rd HSY.out HY2.out).mono ?_
      rintro e w' ⟨rfl, rfl⟩
      go_wp2_with fail
      refine (kMask _ _ _ Y HOY2.out.rd HSY.out HMY.out).mono ?_
      rintro e w' ⟨rfl, rfl⟩
      go_wp2_with fail
      refine (kMask _ _ _ L (HOL.out.below' J7).rd HSL.out HM.out).mono ?_
      rintro e w' ⟨rfl, rfl⟩
      clear HSY HY2 HMY HOY2
      clear c9 c10 bk HA1 HA2 HO1 HO2 HN HY HO HB HBk HOX HOY HOP
      have T8 := T5.trans (J7.mono T5.size)
      go_wp2_with fail
      refine (MN20.out _ T8).mono ?_
      rintro e w8 ⟨X, rfl, X0, X1, B8⟩
      have J8 := J7.trans (B8.mono J7.size)
      have T9 := T8.trans (B8.mono T8.size)
      clear B8 T8 MN20 J7
      have x0 := Int.emod_nonneg X (show (30 : Int) ≠ 0 by omega)
      have x1 := Int.emod_lt_of_pos X (show (0 : Int) < 30 by omega)
      go_wp2_with fail
      obtain ⟨a, ha⟩ : ∃ a : Nat, X % 30 = (a : Int) := ⟨(X % 30).toNat, by omega⟩
      rw [ha] at x0 x1 ⊢
      clear ha X0 X1
      refine (MN22.out _ T9).mono ?_
      rintro e w9 ⟨Z, rfl, Z0, Z1, B9⟩
      have J9 := J8.trans (B9.mono J8.size)
      clear B9 T9 MN22 J8
      have y0 := Int.emod_nonneg Z (show (29 : Int) ≠ 0 by omega)
      have y1 := Int.emod_lt_of_pos Z (show (0 : Int) < 29 by omega)
      go_wp2_with fail
      obtain ⟨b, hb⟩ : ∃ b : Nat, Z % 29 = (b : Int) := ⟨(Z % 29).toNat, by omega⟩
      rw [hb] at y0 y1 ⊢
      clear hb Z0 Z1
      have hdiff := bN_diff a (by omega) b (by omega)
      have q1 := bN_le (n := a) (k := b) (by omega) (by omega)
      have q2 := bN_le (n := a) (k := b + 1) (by omega) (by omega)
      obtain ⟨p1, hp1⟩ : ∃ p : Int, (bN a b : Int) = p := ⟨_, rfl⟩
      obtain ⟨p2, hp2⟩ : ∃ p : Int, (bN a (b + 1) : Int) = p := ⟨_, rfl⟩
      have hp3 : (bN (a + 1) (b + 1) : Int) = p1 + p2 := by omega
      have q3 : 0 ≤ p1 := by omega
      have q4 : 0 ≤ p2 := by omega
      rw [hp1] at q1
      rw [hp2] at q2
      have HSy : Hid (b ≤ a → (bN a (a - b) : Int) = p1) := fun h => by rw [← hp1, bN_sym a (by omega) b h]
      have HP1 := Lib.hid hp1
      have HP2 := Lib.hid hp2
      have HP3 := Lib.hid hp3
      clear hp1 hp2 hp3 hdiff
      refine (kMask _ _ _ L (HOL.out.below' J9).rd HSL.out HM.out).mono ?_
      rintro e w' ⟨rfl, rfl⟩
      go_wp2_with fail
      refine (kSubOf _ M (maskUp L L.length) HMe.out Hm6.out HO7.out).mono ?_
      rintro e w10 ⟨A10, c10, rfl, O10, B10⟩
      have J10 := J9.trans (B10.mono J9.size)
      clear B10 J9
      go_wp2_with fail
      refine (kSame _ _ _ L _ _ O10.rd (HOL.out.below' J10).rd HSL.out).mono ?_
      rintro e w11 ⟨rfl, B11⟩
      have J11 := J10.trans (B11.mono J10.size)
      clear B11 J10 O10
      go_wp2_with fail
      refine (kMask _ _ _ O (HOO.out.below' J11).rd HSO.out HMO.out).mono ?_
      rintro e w' ⟨rfl, rfl⟩
      have o4' : M + MO = 1048575 := o4
      go_wp2_with fail
      refine (kDig _ M (maskUp L L.length) HMe.out Hm6.out HO8.out).mono ?_
      rintro e w12 ⟨rfl, B12⟩
      have J12 := J11.trans (B12.mono J11.size)
      have T12 := T5.trans (J12.mono T5.size)
      clear B12 J11 J12 HOL HOO HSL HSO HM HMe HMO HO7 HO8 HL Hm6
      go_wp2_with fail
      refine (kBin _ _ _ (a + 1) (b + 1) (by omega) (by omega) (by omega) (by omega) HP3.out).mono ?_
      rintro e w' ⟨rfl, rfl⟩
      go_wp2_with fail
      refine (kBin _ _ _ a b (by omega) (by omega) rfl rfl HP1.out).mono ?_
      rintro e w' ⟨rfl, rfl⟩
      go_wp2_with fail
      refine (kBin _ _ _ a (b + 1) (by omega) (by omega) rfl (by omega) HP2.out).mono ?_
      rintro e w' ⟨rfl, rfl⟩
      have hw : IntKind.i64.wrap (p1 + p2) = p1 + p2 := IntWalk.i64_in _ (by omega)
      by_cases hba : (a : Int) < b
      · go_wp2
        go_ret
        exact ⟨rfl, T12⟩
      · go_wp2_with fail
        refine (kBin _ _ _ a b (by omega) (by omega) rfl rfl HP1.out).mono ?_
        rintro e w' ⟨rfl, rfl⟩
        have hw2 : IntKind.i64.wrap ((a : Int) - b) = (a : Int) - b := IntWalk.i64_in _ (by omega)
        go_wp2_with fail
        refine (kBin _ _ _ a (a - b) (by omega) (by omega) rfl (by omega) (HSy.out (by omega))).mono ?_
        rintro e w' ⟨rfl, rfl⟩
        go_wp2
        go_ret
        exact ⟨rfl, T12⟩
  · go_enter Try.func11, Try.ntmps11
    go_wp2
    go_ret
    exact ⟨rfl, Below.refl _ _⟩
end Go.Proofs.Ytepjmlcleggnnaa
