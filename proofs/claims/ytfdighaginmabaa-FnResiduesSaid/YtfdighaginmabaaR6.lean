/-
  WALKS: garner, l13Garner. No statement of the seat is proved here.
-/
import Derived.Test.YtfdighaginmabaaR5
namespace Go.Proofs.Ytfdighaginmabaa
open Go.RowKit

set_option maxHeartbeats 3200000 in
theorem garner_any (A B : Option Addr) (c c' : Nat) (xs ms : List Int) (w : World) (ha : Rd w A xs) (hb : Rd w B ms) (h : residuesB xs ms = true) :
    Calls Try.prog 66 #[.slice A xs.length c, .slice B ms.length c'] w fun e w' => ∃ A c, e = .returned (.slice A ms.length c) ∧ Ow w' w.heap.size (.slice A ms.length c) (garL xs ms) ∧ Below w.heap.size w w' := by
  obtain ⟨q1, q2, q3⟩ := residuesB_parts h
  have HL1 := Lib.hid q2
  have HI1 := Lib.hid q3
  have HA := Lib.hid ha
  have HB := Lib.hid hb
  have HM := Lib.hid q1
  have hl6 := (moduliB_parts q1).2.1
  clear q1 q2 q3 ha hb h
  go_enter Try.func66, Try.ntmps66
  go_wp2
  go_loopw [5, 6, 7, 13] (fun v n p i wr => ∃ k : Nat, k ≤ ms.length ∧ i = .int .i64 k ∧ n = .int .i64 (mvL (garUp xs ms k) ms) ∧ p = .int .i64 (prodUp ms k) ∧ Ap wr w.heap.size v (garUp xs ms k) ∧ Below w.heap.size w wr) (fun _ _ _ i _ => ms.length - (intOf i).toNat)
  case atStart => exact ⟨0, Nat.zero_le _, rfl, by rw [garUp_zero, mvL_nil], by simp [prodUp, prodI], Ap.nil_ _ _, Below.refl _ _⟩
  case round =>
    obtain ⟨k, hk, rfl, rfl, rfl, hO, hB⟩ := hrel
    have hs := hB.size
    by_cases hlt : k < ms.length
    · obtain ⟨bd, m, rfl, hm, hcm⟩ := (HB.out.below hB).at_ hlt
      obtain ⟨ad, x, rfl, hx, hcx⟩ := (HA.out.below hB).at_ (k := k) (by have := HL1.out; omega)
      have bx := HI1.out k x m hx.out hm.out
      obtain ⟨n, p, g, v, e1, e2, e3, e4, n0, n1, p0, p1, m0, m1, v0, v1, g0, g1, gp0, gp1, ng, pm, pm0, E1, E2, E3, a0, a1, r0, r1, s0, s1, u0, u1, eg, _⟩ := gar_round HM.out hx.out hm.out bx.1 bx.2
      have hL : (garUp xs ms k).length < 1099511627776 := by rw [garUp_length]; omega
      have HE1 := Lib.hid E1
      have HE2 := Lib.hid E2
      have HE3 := Lib.hid E3
      have HV := Lib.hid e3
      have d0 : (0 : Int) ≤ k := by omega
      have d1 : (k : Int) < ms.length := by omega
      have d2 : (k : Int) < xs.length := by have := HL1.out; omega
      have hz0 : m ≠ 0 := by omega
      have f1 : n.tmod m = n % m := Int.tmod_eq_emod_of_nonneg n0
      have f2 : IntKind.i64.wrap (x - n % m) = x - n % m := IntWalk.i64_in _ (by omega)
      have f3 : IntKind.i64.wrap (x - n % m + m) = x - n % m + m := IntWalk.i64_in _ (by omega)
      have f4 : (x - n % m + m).tmod m = (x - n % m + m) % m := Int.tmod_eq_emod_of_nonneg (by omega)
      have f5 : p.tmod m = p % m := Int.tmod_eq_emod_of_nonneg (by omega)
      have f6 : IntKind.i64.wrap ((x - n) % m * v) = (x - n) % m * v := IntWalk.i64_in _ (by omega)
      have f7 : ((x - n) % m * v).tmod m = (x - n) % m * v % m := Int.tmod_eq_emod_of_nonneg (by omega)
      have E0 : k = 0 → n = 0 ∧ p = 1 ∧ g = x := fun hk0 => by
        have E0 : n = 0 := by rw [← e1, hk0, garUp_zero, mvL_nil]
        have P0 : p = 1 := by rw [← e2, hk0]; simp [prodUp, prodI]
        exact ⟨E0, P0, by rw [← e4, E0, P0]; exact garDig_first m0 bx.1 bx.2⟩
      have HE0 := Lib.hid E0
      have HEG := Lib.hid eg
      rw [e1, e2]
      have HX0 := Lib.hid hx.out
      clear E1 E2 E3 e1 e2 e4 hx hm E0 eg
      go_wp2_with fail
      go_region_held3 (fun w' => w'.cell? (ad.add k) = some (.int .i64 x)) (first | go_keep | exact hcx)
        ((go_at_call 50; refine (inverse_any _ _ _ s0 (by omega) m0 (by omega)).mono ?_; rintro e w' ⟨rfl, q, rfl⟩))
      try simp only [HV.out, f6, f7]
      rw [← HEG.out]
      clear f1 f2 f3 f4 f5 f6 f7
      have hO1 := fun z => hO.drewN z
      have hs1 : ∀ z, w.heap.size ≤ (wr.drewN z).heap.size := fun _ => hs
      have hB1 := fun z => below_drewN hB z
      by_cases hk0 : k = 0
      · obtain ⟨N0, P0, G0⟩ := HE0.out hk0
        subst hk0
        subst N0 P0
        have hcx0 : ∀ z, (wr.drewN z).cell? ad = some (.int .i64 x) := fun z => by
          have h := (HA.out.below hB).at2 HX0.out rfl
          rw [show ad.add 0 = ad by cases ad; simp [Addr.add]; try (split <;> simp_all)] at h
          exact h
        have eL0 : (0 : Int) < xs.length := by omega
        go_wp2_with (at_builtin; refine wpList_app1 (hO1 _) hL (hs1 _) rfl _ _ 24 rfl rfl rfl rfl ?_; intro v' w' O' B')
        go_roundw
        case rel => exact ⟨1, by omega, by go_num, by rw [HE1.out, G0]; go_num, by rw [HE2.out]; go_num, by rw [HE3.out, G0]; exact O', (hB1 _).trans B'⟩
        case measure => simp [intOf]; omega
      · have t0 : ((k : Int) == 0) = false := by simp; omega
        go_wp2_with (at_builtin; refine wpList_app1 (hO1 _) hL (hs1 _) rfl _ _ 24 rfl rfl rfl rfl ?_; intro v' w' O' B')
        go_roundw
        case rel => exact ⟨k + 1, by omega, by go_num, by rw [HE1.out], by rw [HE2.out], by rw [HE3.out]; exact O', (hB1 _).trans B'⟩
        case measure => simp [intOf]; omega
    · have hkl : k = ms.length := by omega
      subst hkl
      obtain ⟨A', c', rfl⟩ := hO.form
      have hw := hO.ow
      rw [garUp_length] at hw ⊢
      go_wp2
      go_ret
      exact ⟨A', c', rfl, hw, hB⟩

theorem gar_inner {ds ms : List Int} {q : Nat} {d mq m : Int} (hd : ds[q]? = some d) (hmq : ms[q]? = some mq) : (mvL (ds.take q) ms % m + d * (prodUp ms q % m)) % m = mvL (ds.take (q + 1)) ms % m ∧ prodUp ms q % m * mq % m = prodUp ms (q + 1) % m := by
  have hl := (List.getElem?_eq_some_iff.1 hd).1
  have hl2 := (List.getElem?_eq_some_iff.1 hmq).1
  constructor
  · rw [List.take_add_one, hd, Option.toList_some, mvL_snoc _ _ _ (by rw [List.length_take]; omega), List.length_take, Nat.min_eq_left (by omega)]
    rw [Int.add_emod, Int.emod_emod, Int.mul_emod, Int.emod_emod, ← Int.mul_emod, ← Int.add_emod]
  · rw [prodUp_succ hmq, Int.mul_emod, Int.emod_emod, ← Int.mul_emod]

set_option maxHeartbeats 3200000 in
theorem l13Garner_any (A B : Option Addr) (c c' : Nat) (xs ms : List Int) (w : World) (ha : Rd w A xs) (hb : Rd w B ms) (h : residuesB xs ms = true) :
    Calls Try.prog 64 #[.slice A xs.length c, .slice B ms.length c'] w fun e w' => ∃ A c, e = .returned (.slice A ms.length c) ∧ Ow w' w.heap.size (.slice A ms.length c) (garL xs ms) ∧ Below w.heap.size w w' := by
  obtain ⟨q1, q2, q3⟩ := residuesB_parts h
  have HL1 := Lib.hid q2
  have HI1 := Lib.hid q3
  have HA := Lib.hid ha
  have HB := Lib.hid hb
  have HM := Lib.hid q1
  have hl6 := (moduliB_parts q1).2.1
  have HX := Lib.hid (moduliB_parts q1).2.2.1
  clear q1 q2 q3 ha hb h
  go_enter Try.func64, Try.ntmps64
  go_wp2
  go_loopw [5, 16] (fun v i wr => ∃ k : Nat, k ≤ ms.length ∧ i = .int .i64 k ∧ Ap wr w.heap.size v (garUp xs ms k) ∧ Below w.heap.size w wr) (fun _ i _ => ms.length - (intOf i).toNat)
  case atStart => exact ⟨0, Nat.zero_le _, rfl, Ap.empty _ _ (Nat.le_refl _), (Below.refl _ _).alloc (Nat.le_refl _) _⟩
  case round =>
    obtain ⟨k, hk, rfl, hO, hB⟩ := hrel
    have hs := hB.size
    obtain ⟨AO, cO, rfl⟩ := hO.form
    by_cases hlt : k < ms.length
    · obtain ⟨bd, m, rfl, hm, hcm⟩ := (HB.out.below hB).at_ hlt
      obtain ⟨ad, x, rfl, hx, hcx⟩ := (HA.out.below hB).at_ (k := k) (by have := HL1.out; omega)
      have bx := HI1.out k x m hx.out hm.out
      obtain ⟨n, p, g, v, e1, e2, e3, e4, n0, n1, p0, p1, m0, m1, v0, v1, g0, g1, gp0, gp1, ng, pm, pm0, E1, E2, E3, a0, a1, r0, r1, s0, s1, u0, u1, eg, _⟩ := gar_round HM.out hx.out hm.out bx.1 bx.2
      have eLen := garUp_length xs ms k
      have HLen := Lib.hid eLen
      have hL : (garUp xs ms k).length < 1099511627776 := by omega
      have HE3 := Lib.hid E3
      have HV := Lib.hid e3
      have H1 := Lib.hid e1
      have H2 := Lib.hid e2
      have HG : Hid (∀ (q : Nat) (d : Int), (garUp xs ms k)[q]? = some d → 0 ≤ d ∧ d < 1000) := fun q d hd => by
        obtain ⟨hq, _⟩ := List.getElem?_eq_some_iff.1 hd
        have := garUp_digit HM.out (by omega) hd
        omega
      have RO := Lib.hid hO.ow.rd
      have d0 : (0 : Int) ≤ k := by omega
      have d1 : (k : Int) < ms.length := by omega
      have d2 : (k : Int) < xs.length := by have := HL1.out; omega
      clear E1 E2 E3 e1 e2 e3 e4 hx
      have z1 : (1 : Int) % m = 1 := Int.emod_eq_of_lt (by omega) (by omega)
      have Z1 := Lib.hid z1
      clear z1
      rw [eLen]
      go_wp2
      go_loop [8, 9, 23] (fun nn pp j => ∃ q : Nat, q ≤ k ∧ j = .int .i64 q ∧ nn = .int .i64 (mvL ((garUp xs ms k).take q) ms % m) ∧ pp = .int .i64 (prodUp ms q % m)) (fun _ _ j => k - (intOf j).toNat)
      case atStart => exact ⟨0, Nat.zero_le _, rfl, by rw [List.take_zero, mvL_nil, Int.zero_emod], by simp only [prodUp, List.take_zero, prodI]; rw [Z1.out]⟩
      case round =>
        obtain ⟨q, hq, rfl, rfl, rfl⟩ := hrel
        by_cases hlt2 : q < k
        · obtain ⟨od, d, rfl, hd, hcd⟩ := RO.out.at_ (k := q) (by have := HLen.out; omega)
          have hmq : ms[q]? = some ms[q] := List.getElem?_eq_getElem (by omega)
          obtain ⟨mq, hmq'⟩ : ∃ mq, ms[q]? = some mq := ⟨_, hmq⟩
          have hcq := (HB.out.below hB).at2 hmq' rfl
          have bmq := HX.out mq (List.mem_of_getElem? hmq')
          have bd := HG.out q d hd.out
          obtain ⟨I1, I2⟩ := gar_inner (m := m) hd.out hmq'
          have J1 := Lib.hid I1
          have J2 := Lib.hid I2
          have f0 := Int.emod_nonneg (mvL ((garUp xs ms k).take q) ms) (show m ≠ 0 by omega)
          have f1 := Int.emod_lt_of_pos (mvL ((garUp xs ms k).take q) ms) (show 0 < m by omega)
          have f2 := Int.emod_nonneg (prodUp ms q) (show m ≠ 0 by omega)
          have f3 := Int.emod_lt_of_pos (prodUp ms q) (show 0 < m by omega)
          obtain ⟨N, hN⟩ : ∃ N, mvL ((garUp xs ms k).take q) ms % m = N := ⟨_, rfl⟩
          obtain ⟨P, hP⟩ : ∃ P, prodUp ms q % m = P := ⟨_, rfl⟩
          rw [hN] at f0 f1 J1
          rw [hP] at f2 f3 J1 J2
          rw [hN, hP]
          have b1 := small_mul (x := d) (y := P) (by omega) (by omega)
          have b2 := small_mul (x := P) (y := mq) (by omega) (by omega)
          have k0 := Int.emod_nonneg (N + d * P) (show m ≠ 0 by omega)
          have k1 := Int.emod_lt_of_pos (N + d * P) (show 0 < m by omega)
          have c3 : (0 : Int) ≤ q := by omega
          have c4 : (q : Int) < k := by omega
          have c5 : (q : Int) < ms.length := by omega
          clear I1 I2 hN hP hmq hmq' hd
          go_wp2
          go_round
          case rel => exact ⟨q + 1, by omega, by go_num, by rw [← J1.out], by rw [← J2.out]⟩
          case measure => simp [intOf]; omega
        · have hqk : q = k := by omega
          subst hqk
          have T1 : Hid (mvL ((garUp xs ms q).take q) ms % m = n % m) := by
            unfold Hid
            rw [List.take_of_length_le (by have := HLen.out; omega), H1.out]
          rw [T1.out, H2.out]
          clear T1 H1 H2
          subst eg
          go_wp2_with fail
          refine (l13Inverse_any _ _ _ s0 (by omega) m0 (by omega)).mono ?_
          rintro e w' ⟨rfl, z, rfl⟩
          rw [HV.out]
          have hO1 := hO.drewN z
          have hs1 : w.heap.size ≤ (wr.drewN z).heap.size := hs
          have hB1 := below_drewN hB z
          rw [eLen] at hO1
          clear HV
          go_wp2_with (at_builtin; refine wpList_app1 hO1 hL hs1 rfl _ _ 24 rfl rfl rfl rfl ?_; intro v' w' O' B')
          go_roundw
          case rel => exact ⟨q + 1, by omega, by go_num, by rw [HE3.out]; exact O', hB1.trans B'⟩
          case measure => simp [intOf]; omega
    · have hkl : k = ms.length := by omega
      subst hkl
      have hw := hO.ow
      rw [garUp_length] at hw ⊢
      go_wp2
      go_ret
      exact ⟨AO, cO, rfl, hw, hB⟩

end Go.Proofs.Ytfdighaginmabaa
