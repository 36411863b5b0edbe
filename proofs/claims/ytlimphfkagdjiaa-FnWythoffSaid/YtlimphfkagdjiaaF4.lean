/-
  WALKS: the reference's SparseFib; slices.Grow and slices.Concat at two slices; ShiftFib (both packages); the laws over SparseFib and ShiftFib.
-/
import Derived.Test.YtlimphfkagdjiaaF3
import Derived.Laws.AppendOwnNone
import Derived.Lib.AppendZeros
namespace Go.Proofs.Ytlimphfkagdjiaa
open Go.RowKit

theorem sparse_top {N : Int} (h1 : N ≤ 500000000000) : trimL (dg usedS 58 N) = trimL (dg usedS 57 N) :=
  trimL_dg_high (by omega) fun j hj => by
    have h2 := fibN_mono hj
    have h3 := fibN_57
    unfold usedS
    apply decide_eq_false
    omega

set_option maxHeartbeats 1600000 in
theorem l10Sparse_any (N : Int) (w : World) (h0 : 0 ≤ N) (h1 : N ≤ 500000000000) :
    Calls Try.prog 54 #[.int .i64 N] w fun e w' => ∃ A c, e = .returned (.slice A (trimL (dg usedS 57 N)).length c) ∧ Ow w' w.heap.size (.slice A (trimL (dg usedS 57 N)).length c) (trimL (dg usedS 57 N)) ∧ Below w.heap.size w w' := by
  have HTop := Lib.hid (sparse_top h1)
  go_enter Try.func54, Try.ntmps54
  go_wp2
  go_loopw [0, 3, 4] (fun v u i wr => ∃ (k : Nat) (m : Int) (T : List Int), k ≤ 58 ∧ i = .int .i64 ((k : Int) - 1) ∧ v = .int .i64 m ∧ 0 ≤ m ∧ m ≤ 500000000000 ∧ T.length = 58 - k ∧ Hid (dg usedS 58 N = dg usedS k m ++ T) ∧ Ap wr w.heap.size u T.reverse ∧ Below w.heap.size w wr) (fun _ _ i _ => (intOf i + 1).toNat)
  case atStart => exact ⟨58, N, [], Nat.le_refl _, rfl, rfl, h0, h1, rfl, (by simp : dg usedS 58 N = dg usedS 58 N ++ []), Ap.empty _ _ (Nat.le_refl _), (Below.refl _ _).alloc (Nat.le_refl _) _⟩
  case round =>
    obtain ⟨k, m, T, hk, rfl, rfl, m0, m1, hT, hD, hO, hB⟩ := hrel
    have hs := hB.size
    by_cases hlt : 0 < k
    · obtain ⟨q, rfl⟩ : ∃ q, k = q + 1 := ⟨k - 1, by omega⟩
      have ej : ((q + 1 : Nat) : Int) - 1 = (q : Int) := by omega
      rw [ej]
      clear ej
      have HF := Lib.hid (fibPlaceR_of (k := q) (by omega))
      have hL : T.reverse.length < 1099511627776 := by rw [List.length_reverse]; omega
      have HT := Lib.hid hT
      have c0 : (0 : Int) ≤ q := by omega
      have c1 : (q : Int) < 58 := by omega
      have bf := fibN_le (n := q) (by omega)
      clear hT
      rcases Bool.eq_false_or_eq_true (usedS q m) with hu | hu
      · have hdn := downS q m hu
        have HG := Lib.hid (dg_use hu)
        clear hu
        obtain ⟨f, hf2⟩ : ∃ f, fibN q = f := ⟨_, rfl⟩
        rw [hf2] at hdn HF HG bf
        clear hf2
        go_wp2_with fail
        refine (sFibPlace_any _ _).mono ?_
        rintro e w' ⟨rfl, rfl⟩
        rw [HF.out]
        go_wp2_with (at_builtin; refine wpList_app1 hO hL hs rfl _ _ 24 rfl rfl rfl rfl ?_; intro v' w' O' B')
        go_roundw
        case rel =>
          refine ⟨q, m - f, 1 :: T, by omega, by go_num, by go_num, by omega, by omega, by simp [HT.out]; omega, ?_, by rw [List.reverse_cons]; exact O', hB.trans B'⟩
          unfold Hid
          rw [hD.out, HG.out, List.append_assoc]
          rfl
        case measure => simp [intOf]
      · have hdn : m < (fibN q : Int) := by
          have := of_decide_eq_false hu
          omega
        have HG := Lib.hid (dg_top hu)
        clear hu
        obtain ⟨f, hf2⟩ : ∃ f, fibN q = f := ⟨_, rfl⟩
        rw [hf2] at hdn HF bf
        clear hf2
        go_wp2_with fail
        refine (sFibPlace_any _ _).mono ?_
        rintro e w' ⟨rfl, rfl⟩
        rw [HF.out]
        go_wp2_with (at_builtin; refine wpList_app1 hO hL hs rfl _ _ 24 rfl rfl rfl rfl ?_; intro v' w' O' B')
        go_roundw
        case rel =>
          refine ⟨q, m, 0 :: T, by omega, by go_num, rfl, m0, m1, by simp [HT.out]; omega, ?_, by rw [List.reverse_cons]; exact O', hB.trans B'⟩
          unfold Hid
          rw [hD.out, HG.out, List.append_assoc]
          rfl
        case measure => simp [intOf]
    · obtain rfl : k = 0 := by omega
      have HE : Hid (dg usedS 58 N = T) := by have := hD.out; rwa [dg_zero, List.nil_append] at this
      obtain ⟨A, c, rfl⟩ := hO.form
      have OO := hO.ow
      have HT := Lib.hid hT
      clear hO hT
      go_wp2_with fail
      refine (l02Turn_any _ _ _ _ _ OO.rd List.length_reverse (by rw [HT.out]; omega)).mono ?_
      rintro e w1 ⟨A1, c1, rfl, O1, B1⟩
      rw [List.reverse_reverse] at O1
      go_wp2_with fail
      refine (l03Trim_any _ _ _ _ _ _ O1 (by rw [HT.out]; omega)).mono ?_
      rintro e w2 ⟨A2, rfl, O2, rfl⟩
      go_wp2
      go_ret
      rw [← HTop.out, HE.out]
      exact ⟨A2, c1, rfl, O2.more hB.size, hB.trans (B1.mono hB.size)⟩

theorem sSparseFib_c (w : World) (N : Int) (_hN : I64 N) :
    Calls Try.prog 32 #[.int .i64 N] w fun e w' => ∃ A c, e = .returned (.slice A (spR N).length c) ∧ Ow w' w.heap.size (.slice A (spR N).length c) (spR N) ∧ Below w.heap.size w w' := by
  rcases Bool.eq_false_or_eq_true (inB N 0 500000000000) with h | h
  · have hb := inB_true h
    have HE := Lib.hid (spR_of h)
    go_enter Try.func32, Try.ntmps32
    go_wp2_with fail
    refine (l01In_any _ _ _ _).mono ?_
    rintro e w' ⟨rfl, rfl⟩
    go_wp2_with fail
    refine (l10Sparse_any _ _ hb.1 hb.2).mono ?_
    rintro e w1 ⟨A, c, rfl, O1, B1⟩
    go_wp2
    go_ret
    rw [HE.out]
    exact ⟨A, c, rfl, O1, B1⟩
  · have HE : Hid (spR N = []) := by unfold Hid; simp [spR, h]
    go_enter Try.func32, Try.ntmps32
    go_wp2_with fail
    refine (l01In_any _ _ _ _).mono ?_
    rintro e w' ⟨rfl, rfl⟩
    go_wp2
    go_ret
    rw [HE.out]
    exact ⟨none, 0, rfl, Ow.nil_ _ _, Below.refl _ _⟩

set_option maxRecDepth 100000 in
set_option maxHeartbeats 1600000 in
theorem lSparseFib_law (w : World) (n0 : Int) (b0 : -9223372036854775808 ≤ n0 ∧ n0 ≤ 9223372036854775807) :
    Calls Try.prog 10 #[.int .i64 n0] w fun e w' => e = .returned (.bool true) ∧ Below w.heap.size w w' := by
  have BA0 : I64 n0 := b0
  clear b0
  go_enter Try.func10, Try.ntmps10
  go_wp2_with fail
  refine (sSparseFib_c _ _ BA0).mono ?_
  rintro e w1 ⟨A_W0, c_W0, rfl, W0_0, B1⟩
  have L_W0 := fun k hk => (W0_0.lt k hk).1
  have C2 := (Below.refl w.heap.size w).trans (B1.mono (Below.refl w.heap.size w).size)
  go_wp2_with fail
  refine (iSparseFib_c _ _ BA0).mono ?_
  rintro e w3 ⟨A_G0, c_G0, rfl, G0_0, B3⟩
  have U_W0_G0 := fun k hk => (W0_0.lt k hk).2
  have L_G0 := fun k hk => (G0_0.lt k hk).1
  have C4 := C2.trans (B3.mono C2.size)
  have W0_4 := W0_0.below' B3
  go_wp2_with fail
  refine (eqIntS_same _ _ _ _ _ _ G0_0.rd W0_4.rd ((spR_len n0))).mono ?_
  rintro e w5 ⟨rfl, n5_, rfl⟩
  have C6 := below_drewN C4 n5_
  have W0_6 := W0_4.drewN n5_
  have G0_6 := G0_0.drewN n5_
  go_wp2_with fail
  refine (markIntS_any _ _ _ _ _ _ G0_6 ((spR_len n0)) (by omega) (by omega)).mono ?_
  rintro e w7 ⟨rfl, G0_7, G7⟩
  have W0_7 := W0_6.kept G7 (own_ne U_W0_G0 L_G0)
  have C8 := C6.grown G7 C6.size (fun k hk => Nat.le_trans C2.size (L_G0 k hk))
  go_wp2_with fail
  refine (heldIntS_any _ _ _ _ _ (by have h := G0_7.rd' (marks_length _ _); exact h) ((spR_len n0)) (by omega) (by omega)).mono ?_
  rintro e w9 ⟨rfl, rfl⟩
  go_wp2_with fail
  refine (iSparseFib_c _ _ BA0).mono ?_
  rintro e w10 ⟨A_H0, c_H0, rfl, H0_0, B10⟩
  have U_W0_H0 := fun k hk => (W0_7.lt k hk).2
  have U_G0_H0 := fun k hk => (G0_7.lt k hk).2
  have L_H0 := fun k hk => (H0_0.lt k hk).1
  have C11 := C8.trans (B10.mono C8.size)
  have W0_11 := W0_7.below' B10
  have G0_11 := G0_7.below' B10
  go_wp2_with fail
  refine (eqIntS_same _ _ _ _ _ _ H0_0.rd W0_11.rd ((spR_len n0))).mono ?_
  rintro e w12 ⟨rfl, n12_, rfl⟩
  have C13 := below_drewN C11 n12_
  have W0_13 := W0_11.drewN n12_
  have G0_13 := G0_11.drewN n12_
  have H0_13 := H0_0.drewN n12_
  go_wp2_with fail
  refine (heldIntS_any _ _ _ _ _ (by have h := G0_13.rd' (marks_length _ _); exact h) ((spR_len n0)) (by omega) (by omega)).mono ?_
  rintro e w14 ⟨rfl, rfl⟩
  go_wp2
  go_ret
  exact ⟨rfl, C13⟩


theorem wpList_appAny {ops : Array Oper} {rest : List Oper} {o : Oper} {a : Act} {Q : Exit → Act → World → Prop} {w : World} {base b2 : Nat} {v : Value} {xs ys : List Int} {A : Option Addr} {m c : Nat}
    (hown : Ap w base v xs) (hr : Ow w b2 (.slice A m c) ys) (hl : xs.length + ys.length ≤ 1099511627776) (hbase : base ≤ w.heap.size) (hgd : o.guard = none) (s x : Operand) (t : TypeId)
    (ho : o.op = .call { callee := .builtin .append, args := #[s, x], argTypes := #[t, t] }) (ht : t = 24)
    (hs : a.eval s = v) (hx : a.eval x = .slice A m c)
    (h : ∀ v' w', Ap w' base v' (xs ++ ys) → Below base w w' → wpList Try.prog ops Q rest (a.put o.dst v') w') :
    wpList Try.prog ops Q (o :: rest) a w := by
  have hm := hr.len
  rcases A with _ | ad
  · obtain ⟨i0, hi, hz0, hz1, hz2⟩ := info_parts info3
    rcases hr with ⟨hv, hn⟩ | ⟨g, cap, cur, hv, _⟩
    · injection hv with _ e2 e3
      subst e2 e3 hn ht
      refine wpList_append_own_none hgd s x 24 ho base 3 i0 1 Try.underlying24 hi v _ _ hs hown hx ?_
      exact h v w (by simpa using hown) (Below.refl _ _)
    · injection hv with e1 _ _
      cases e1
  · exact wpList_appN hown hr.rd hm.symm hl hbase hgd s x t ho ht hs hx h

/-- 'slices.Grow(nil, n)', n at least 1: room for n, nothing in it. -/
theorem grow_any (n : Nat) (w : World) (h0 : 0 < n) (hn : n ≤ 1048576) :
    Calls Try.prog 72 #[.slice none 0 0, .int .i64 (n : Int)] w fun e w' => ∃ g c, e = .returned (.slice (some ⟨g, 0, none⟩) 0 c) ∧ Ap w' w.heap.size (.slice (some ⟨g, 0, none⟩) 0 c) [] ∧ Below w.heap.size w w' := by
  obtain ⟨i0, hi, hz0, hz1, hz2⟩ := info_parts info3
  have hr := Lib.run_append_nil_zeros (P := Try.prog) w 24 3 24 3 i0 (.int .i64 0) .i64 .i64 Try.underlying24 Try.underlying3 hi hz0 n h0 (by omega) (by omega) (by rw [hz2]; omega)
  have hc1 := grownCap_ge w n 0 3
  have hc2 := grownCap_le_maxLen w n 0 3 (by unfold maxLen; omega)
  have hsz : (Builtin.zeroCells (Value.int .i64 0).cells n ++ Builtin.zeroCells (Value.int .i64 0).cells (grownCap w n 0 3 - n)).size = grownCap w n 0 3 := by
    rw [Array.size_append, size_zeroCells, size_zeroCells]
    show n * 1 + (grownCap w n 0 3 - n) * 1 = _
    omega
  obtain ⟨Z, hZ⟩ : ∃ Z, Builtin.zeroCells (Value.int .i64 0).cells n ++ Builtin.zeroCells (Value.int .i64 0).cells (grownCap w n 0 3 - n) = Z := ⟨_, rfl⟩
  obtain ⟨C, hC⟩ : ∃ C, grownCap w n 0 3 = C := ⟨_, rfl⟩
  rw [hZ] at hr hsz
  rw [hC] at hr hsz hc1 hc2
  clear hZ hC
  have hA : Ap (w.drew.alloc (.cells Z 3)) w.heap.size (.slice (some ⟨w.heap.size, 0, none⟩) 0 C) [] := World.ownsRow_made (w := w.drew) Z C (Nat.le_refl _) hc2 (by rw [hsz]; omega)
  have hB : Below w.heap.size w (w.drew.alloc (.cells Z 3)) := ((Below.refl _ _).drew).alloc (Nat.le_refl _) _
  have HR := Lib.hid hr
  have hp : (0 : Int) < n := by omega
  have hq : (n : Int) ≤ 1048576 := by omega
  have hCp : ¬ C = 0 := by omega
  clear hr hi hz0
  go_enter Try.func72, Try.ntmps72
  go_wp2_with (at_builtin; refine Lib.wpList_append_run _ rfl _ _ _ _ rfl _ _ rfl rfl _ _ HR.out ?_)
  go_ret
  exact ⟨_, _, rfl, hA, hB⟩
end Go.Proofs.Ytlimphfkagdjiaa
