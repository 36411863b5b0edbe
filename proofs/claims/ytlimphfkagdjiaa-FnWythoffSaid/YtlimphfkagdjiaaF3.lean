/-
  WALKS: trimmed, slices.Clip, l03Trim; SparseFib (both packages) and the law over it.
-/
import Derived.Test.YtlimphfkagdjiaaF2
import Derived.Test.YtlimphfkagdjiaaTurn
import Derived.Test.YtlimphfkagdjiaaMath2
namespace Go.Proofs.Ytlimphfkagdjiaa
open Go.RowKit

set_option maxHeartbeats 1600000 in
theorem l03Trim_any (A : Option Addr) (c n base : Nat) (xs : List Int) (w : World) (ho : Ow w base (.slice A n c) xs) (hl : n ≤ 1048576) :
    Calls Try.prog 61 #[.slice A n c] w fun e w' => ∃ A', e = .returned (.slice A' (trimL xs).length c) ∧ Ow w base (.slice A' (trimL xs).length c) (trimL xs) ∧ w = w' := by
  have hn := ho.len
  subst hn
  have hcap := ho.cap.1
  have HR := Lib.hid ho.rd
  have HT : Hid (∀ k, k ≤ xs.length → Ow w base (.slice A k c) (xs.take k)) := fun k hk => ho.take hk
  have HL := Lib.hid (trimL_length xs)
  have HE : Hid (trimL xs = xs.take (trimK xs xs.length)) := trimL_eq xs
  clear ho
  go_enter Try.func61, Try.ntmps61
  go_wp2
  go_loop [3] (fun i => ∃ k : Nat, k ≤ xs.length ∧ i = .int .i64 k ∧ Hid (trimK xs xs.length = trimK xs k)) (fun i => (intOf i).toNat)
  case atStart => exact ⟨xs.length, Nat.le_refl _, rfl, rfl⟩
  case round =>
    obtain ⟨k, hk, rfl, hK⟩ := hrel
    by_cases hlt : 0 < k
    · obtain ⟨q, rfl⟩ : ∃ q, k = q + 1 := ⟨k - 1, by omega⟩
      obtain ⟨ad, x, rfl, hx, hc⟩ := HR.out.at_ (k := q) (by omega)
      have ej : ((q + 1 : Nat) : Int) = (q : Int) + 1 := by omega
      rw [ej]
      have c0 : (0 : Int) ≤ q := by omega
      have c1 : (q : Int) < xs.length := by omega
      by_cases h0 : x = 0
      · subst h0
        have HN : Hid (trimK xs xs.length = trimK xs q) := by unfold Hid; rw [hK.out, trimK_zero hx.out]
        clear ej
        go_wp2
        go_round
        case rel => exact ⟨q, by omega, by go_num, HN⟩
        case measure => simp [intOf]
      · have t1 : (x == 0) = false := by simp [h0]
        have HN : Hid (trimK xs xs.length = q + 1) := by unfold Hid; rw [hK.out, trimK_stop hx.out h0]
        have HO := HT.out (q + 1) (by omega)
        have hc0 : ¬ c = 0 := by omega
        clear ej h0
        go_wp2
        go_ret
        refine ⟨some ad, by rw [HL.out, HN.out]; rfl, ?_, rfl⟩
        rw [HL.out, HE.out, HN.out]
        exact HO
    · obtain rfl : k = 0 := by omega
      have HN : Hid (trimK xs xs.length = 0) := hK.out
      have HO := HT.out 0 (by omega)
      go_wp2
      all_goals go_ret
      all_goals
        refine ⟨_, by rw [HL.out, HN.out]; rfl, ?_, rfl⟩
        rw [HL.out, HE.out, HN.out]
      all_goals first | exact HO | (simpa using HO)

theorem some_block {a b : Nat} (h : (some (⟨a, 0, none⟩ : Addr)) = some ⟨b, 0, none⟩) : b = a := by cases h; rfl
theorem clip_any (A : Option Addr) (c n base : Nat) (xs : List Int) (w : World) (ho : Ow w base (.slice A n c) xs) (hl : n ≤ 1048576) :
    Calls Try.prog 76 #[.slice A n c] w fun e w' => ∃ A', e = .returned (.slice A' n n) ∧ Ow w base (.slice A' n n) xs ∧ w = w' := by
  have hn := ho.len
  subst hn
  have hcap := ho.cap.1
  have HC := ho.clip
  by_cases h0 : xs = []
  · subst h0
    go_enter Try.func76, Try.ntmps76
    go_wp2
    go_ret
    exact ⟨A, rfl, HC, rfl⟩
  · have hp : 0 < xs.length := List.length_pos_iff.2 h0
    obtain ⟨g, rfl⟩ := ho.addr hp
    have hc0 : ¬ xs.length = 0 := by omega
    clear h0 ho
    go_enter Try.func76, Try.ntmps76
    go_wp2
    go_ret
    exact ⟨some ⟨g, 0, none⟩, rfl, HC, rfl⟩

set_option maxHeartbeats 1600000 in
theorem trimmed_any (A : Option Addr) (c n base : Nat) (xs : List Int) (w : World) (ho : Ow w base (.slice A n c) xs) (hl : n ≤ 1048576) :
    Calls Try.prog 71 #[.slice A n c] w fun e w' => ∃ A', e = .returned (.slice A' (trimL xs).length (trimL xs).length) ∧ Ow w base (.slice A' (trimL xs).length (trimL xs).length) (trimL xs) ∧ w = w' := by
  have hn := ho.len
  subst hn
  have hcap := ho.cap.1
  have HR := Lib.hid ho.rd
  have HT : Hid (∀ k, k ≤ xs.length → Ow w base (.slice A k c) (xs.take k)) := fun k hk => ho.take hk
  have HL := Lib.hid (trimL_length xs)
  have HE : Hid (trimL xs = xs.take (trimK xs xs.length)) := trimL_eq xs
  clear ho
  go_enter Try.func71, Try.ntmps71
  go_wp2
  go_loop [0] (fun v => ∃ k : Nat, k ≤ xs.length ∧ v = .slice A k c ∧ Hid (trimK xs xs.length = trimK xs k)) (fun v => match v with | .slice _ k _ => k | _ => 0)
  case atStart => exact ⟨xs.length, Nat.le_refl _, rfl, rfl⟩
  case round =>
    obtain ⟨k, hk, rfl, hK⟩ := hrel
    by_cases hlt : 0 < k
    · obtain ⟨q, rfl⟩ : ∃ q, k = q + 1 := ⟨k - 1, by omega⟩
      obtain ⟨ad, x, rfl, hx, hc⟩ := HR.out.at_ (k := q) (by omega)
      have c0 : (0 : Int) ≤ q := by omega
      have c1 : (q : Int) < xs.length := by omega
      have hc0 : ¬ c = 0 := by omega
      by_cases h0 : x = 0
      · subst h0
        have HN : Hid (trimK xs xs.length = trimK xs q) := by unfold Hid; rw [hK.out, trimK_zero hx.out]
        go_wp2
        go_round
        case rel => exact ⟨q, by omega, rfl, HN⟩
        case measure => simp
      · have t1 : (x == 0) = false := by simp [h0]
        have HN : Hid (trimK xs xs.length = q + 1) := by unfold Hid; rw [hK.out, trimK_stop hx.out h0]
        have HO := HT.out (q + 1) (by omega)
        clear h0
        go_wp2_with fail
        refine (clip_any _ _ _ _ _ _ HO (by omega)).mono ?_
        rintro e w' ⟨A', rfl, HO', rfl⟩
        go_wp2
        go_ret
        refine ⟨A', by rw [HL.out, HN.out]; rfl, ?_, rfl⟩
        rw [HL.out, HE.out, HN.out]
        exact HO'
    · obtain rfl : k = 0 := by omega
      have HN : Hid (trimK xs xs.length = 0) := hK.out
      have HO := HT.out 0 (by omega)
      go_wp2_with fail
      refine (clip_any _ _ _ _ _ _ HO (by omega)).mono ?_
      rintro e w' ⟨A', rfl, HO', rfl⟩
      go_wp2
      go_ret
      refine ⟨A', by rw [HL.out, HN.out]; rfl, ?_, rfl⟩
      rw [HL.out, HE.out, HN.out]
      exact HO'

theorem sClos_any (n : Int) (k : Nat) (w : World) (hk : k ≤ 57) :
    Calls Try.prog 60 #[.int .i64 n, .int .i64 (k : Int)] w fun e w' => e = .returned (.bool (usedS k n)) ∧ w = w' := by
  have HF := Lib.hid (fibPlaceR_of (k := k) (by omega))
  go_enter Try.func60, Try.ntmps60
  go_wp2_with fail
  refine (iFibPlace_any _ _).mono ?_
  rintro e w' ⟨rfl, rfl⟩
  rw [HF.out]
  go_wp2
  go_ret
  exact ⟨ret_bool (by simp [usedS]), rfl⟩
theorem dClos_any (n : Int) (k : Nat) (w : World) (hk : k ≤ 57) :
    Calls Try.prog 63 #[.int .i64 n, .int .i64 (k : Int)] w fun e w' => e = .returned (.bool (usedD k n)) ∧ w = w' := by
  have HF := Lib.hid (fibPlaceR_of (k := k + 1) (by omega))
  have bf := fibN_le (n := k + 1) (by omega)
  go_enter Try.func63, Try.ntmps63
  go_wp2_with fail
  refine (iFibPlace_any _ _).mono ?_
  rintro e w' ⟨rfl, rfl⟩
  rw [show ((k : Int) + 1) = ((k + 1 : Nat) : Int) by omega, HF.out]
  go_wp2
  go_ret
  exact ⟨ret_bool (by simp [usedD]), rfl⟩


set_option maxHeartbeats 1600000 in
theorem fibDigitsS_any (N : Int) (w : World) (h0 : 0 ≤ N) (h1 : N ≤ 500000000000) :
    Calls Try.prog 59 #[.int .i64 N, .func (.func 60) #[] #[]] w fun e w' => ∃ A c, e = .returned (.slice A (trimL (dg usedS 57 N)).length c) ∧ Ow w' w.heap.size (.slice A (trimL (dg usedS 57 N)).length c) (trimL (dg usedS 57 N)) ∧ Below w.heap.size w w' := by
  obtain ⟨i0, hi, hz0, hz1, hz2⟩ := info_parts info3
  have hmk : ∀ u : World, (Instr.makeSlice 24 (.int .i64 57) (.int .i64 57)).run Try.prog u =
      .ok (.slice (some ⟨u.heap.size, 0, none⟩) 57 57) (u.alloc (.cells (List.replicate 57 (Value.int .i64 0)).toArray 3)) := fun u => by
    have h := run_make (P := Try.prog) u 24 3 i0 (.int .i64 0) Try.underlying24 hi hz0 .i64 .i64 57 57 (by omega) (Int.le_refl _) (by rw [hz2]; omega) (by omega)
    have e : (madeCells #[Value.int .i64 0] 57) = (List.replicate 57 (Value.int .i64 0)).toArray := by
      apply Array.ext'
      rw [toList_madeCells_one]
    rw [← e]
    simpa [hz1, Value.cells] using h
  have hst : Ow (w.alloc (.cells (List.replicate 57 (Value.int .i64 0)).toArray 3)) w.heap.size (.slice (some ⟨w.heap.size, 0, none⟩) 57 57) (List.replicate 57 0) := by
    refine .inr ⟨w.heap.size, 57, _, by rw [List.length_replicate], Nat.le_refl _, heap_alloc_new w _, by rw [List.length_replicate]; exact Nat.le_refl _, by unfold maxLen; omega, by simp, by simp⟩
  obtain ⟨Z, hZ⟩ : ∃ Z, (List.replicate 57 (Value.int .i64 0)).toArray = Z := ⟨_, rfl⟩
  rw [hZ] at hmk hst
  clear hZ
  have hb0 : Below w.heap.size w (w.alloc (.cells Z 3)) := (Below.refl _ _).alloc (Nat.le_refl _) _
  go_enter Try.func59, Try.ntmps59
  go_wp2
  go_loopw [0, 6] (fun v i wr => ∃ (k : Nat) (m : Int) (T : List Int), k ≤ 57 ∧ i = .int .i64 ((k : Int) - 1) ∧ v = .int .i64 m ∧ 0 ≤ m ∧ m ≤ 500000000000 ∧ T.length = 57 - k ∧ Hid (dg usedS 57 N = dg usedS k m ++ T) ∧ Ow wr w.heap.size (.slice (some ⟨w.heap.size, 0, none⟩) 57 57) (List.replicate k 0 ++ T) ∧ Below w.heap.size w wr) (fun _ i _ => (intOf i + 1).toNat)
  case atStart => exact ⟨57, N, [], Nat.le_refl _, rfl, rfl, h0, h1, rfl, (by simp : dg usedS 57 N = dg usedS 57 N ++ []), by rw [List.append_nil]; exact hst, hb0⟩
  case round =>
    obtain ⟨k, m, T, hk, rfl, rfl, m0, m1, hT, hD, hO, hB⟩ := hrel
    clear hmk hst hb0
    by_cases hlt : 0 < k
    · obtain ⟨q, rfl⟩ : ∃ q, k = q + 1 := ⟨k - 1, by omega⟩
      have ej : ((q + 1 : Nat) : Int) - 1 = (q : Int) := by omega
      rw [ej]
      clear ej
      obtain ⟨g, x, eg, hx, hc, hf, hst⟩ := hO.at_ (k := q) (by rw [List.length_append, List.length_replicate]; omega)
      have eg2 : g = w.heap.size := some_block eg
      subst eg2
      have hq57 : q < 57 := by omega
      have HF := Lib.hid (fibPlaceR_of (k := q) (by omega))
      have HT := Lib.hid hT
      have c0 : (0 : Int) ≤ q := by omega
      have c1 : (q : Int) < 57 := by omega
      have HRep : Hid (List.replicate (q + 1) (0 : Int) ++ T = List.replicate q 0 ++ 0 :: T) := by unfold Hid; rw [List.replicate_succ', List.append_assoc]; rfl
      have HSet : Hid ((List.replicate (q + 1) (0 : Int) ++ T).set q 1 = List.replicate q 0 ++ 1 :: T) := by
        unfold Hid
        rw [List.replicate_succ', List.append_assoc, List.set_append_right _ _ (by simp), List.length_replicate, Nat.sub_self]
        rfl
      clear eg hT hx
      rcases Bool.eq_false_or_eq_true (usedS q m) with hu | hu
      · have hdn := downS q m hu
        have HG := Lib.hid (dg_use hu)
        have HU := Lib.hid hu
        have HST := Lib.hid (hst 1)
        clear hst hO hu
        obtain ⟨f, hf2⟩ : ∃ f, fibN q = f := ⟨_, rfl⟩
        rw [hf2] at hdn HF HG
        clear hf2
        go_wp2_with fail
        refine (sClos_any _ _ _ (by omega)).mono ?_
        rintro e w' ⟨rfl, rfl⟩
        rw [HU.out]
        go_wp2_with fail
        refine (iFibPlace_any _ _).mono ?_
        rintro e w' ⟨rfl, rfl⟩
        rw [HF.out]
        go_wp2
        go_roundw
        case rel =>
          have h2 := HST.out.1
          rw [HSet.out] at h2
          refine ⟨q, m - f, 1 :: T, by omega, by go_num, by go_num, by omega, by omega, by simp [HT.out]; omega, ?_, h2, hB.trans (grown_below HST.out.2 hB.size (fun k hk => by simp at hk; omega))⟩
          unfold Hid
          rw [hD.out, HG.out, List.append_assoc]
          rfl
        case measure => simp [intOf]
      · have HG := Lib.hid (dg_top hu)
        have HU := Lib.hid hu
        have HOw := Lib.hid hO
        clear hst hO hu
        go_wp2_with fail
        refine (sClos_any _ _ _ (by omega)).mono ?_
        rintro e w' ⟨rfl, rfl⟩
        rw [HU.out]
        go_wp2
        go_roundw
        case rel =>
          have h2 := HOw.out
          rw [HRep.out] at h2
          refine ⟨q, m, 0 :: T, by omega, by go_num, rfl, m0, m1, by simp [HT.out]; omega, ?_, h2, hB⟩
          unfold Hid
          rw [hD.out, HG.out, List.append_assoc]
          rfl
        case measure => simp [intOf]
    · obtain rfl : k = 0 := by omega
      have HE : Hid (dg usedS 57 N = T) := by have := hD.out; rwa [dg_zero, List.nil_append] at this
      have hO2 : Ow wr w.heap.size (.slice (some ⟨w.heap.size, 0, none⟩) 57 57) T := hO
      clear hO hT
      go_wp2_with fail
      refine (trimmed_any _ _ _ _ _ _ hO2 (by omega)).mono ?_
      rintro e w' ⟨A', rfl, HO', rfl⟩
      go_wp2
      go_ret
      rw [HE.out]
      exact ⟨A', _, rfl, HO', hB⟩


set_option maxHeartbeats 1600000 in
theorem fibDigitsD_any (N : Int) (w : World) (h0 : 0 ≤ N) (h1 : N ≤ 500000000000) :
    Calls Try.prog 59 #[.int .i64 N, .func (.func 63) #[] #[]] w fun e w' => ∃ A c, e = .returned (.slice A (trimL (dg usedD 57 N)).length c) ∧ Ow w' w.heap.size (.slice A (trimL (dg usedD 57 N)).length c) (trimL (dg usedD 57 N)) ∧ Below w.heap.size w w' := by
  obtain ⟨i0, hi, hz0, hz1, hz2⟩ := info_parts info3
  have hmk : ∀ u : World, (Instr.makeSlice 24 (.int .i64 57) (.int .i64 57)).run Try.prog u =
      .ok (.slice (some ⟨u.heap.size, 0, none⟩) 57 57) (u.alloc (.cells (List.replicate 57 (Value.int .i64 0)).toArray 3)) := fun u => by
    have h := run_make (P := Try.prog) u 24 3 i0 (.int .i64 0) Try.underlying24 hi hz0 .i64 .i64 57 57 (by omega) (Int.le_refl _) (by rw [hz2]; omega) (by omega)
    have e : (madeCells #[Value.int .i64 0] 57) = (List.replicate 57 (Value.int .i64 0)).toArray := by
      apply Array.ext'
      rw [toList_madeCells_one]
    rw [← e]
    simpa [hz1, Value.cells] using h
  have hst : Ow (w.alloc (.cells (List.replicate 57 (Value.int .i64 0)).toArray 3)) w.heap.size (.slice (some ⟨w.heap.size, 0, none⟩) 57 57) (List.replicate 57 0) := by
    refine .inr ⟨w.heap.size, 57, _, by rw [List.length_replicate], Nat.le_refl _, heap_alloc_new w _, by rw [List.length_replicate]; exact Nat.le_refl _, by unfold maxLen; omega, by simp, by simp⟩
  obtain ⟨Z, hZ⟩ : ∃ Z, (List.replicate 57 (Value.int .i64 0)).toArray = Z := ⟨_, rfl⟩
  rw [hZ] at hmk hst
  clear hZ
  have hb0 : Below w.heap.size w (w.alloc (.cells Z 3)) := (Below.refl _ _).alloc (Nat.le_refl _) _
  go_enter Try.func59, Try.ntmps59
  go_wp2
  go_loopw [0, 6] (fun v i wr => ∃ (k : Nat) (m : Int) (T : List Int), k ≤ 57 ∧ i = .int .i64 ((k : Int) - 1) ∧ v = .int .i64 m ∧ 0 ≤ m ∧ m ≤ 500000000000 ∧ T.length = 57 - k ∧ Hid (dg usedD 57 N = dg usedD k m ++ T) ∧ Ow wr w.heap.size (.slice (some ⟨w.heap.size, 0, none⟩) 57 57) (List.replicate k 0 ++ T) ∧ Below w.heap.size w wr) (fun _ i _ => (intOf i + 1).toNat)
  case atStart => exact ⟨57, N, [], Nat.le_refl _, rfl, rfl, h0, h1, rfl, (by simp : dg usedD 57 N = dg usedD 57 N ++ []), by rw [List.append_nil]; exact hst, hb0⟩
  case round =>
    obtain ⟨k, m, T, hk, rfl, rfl, m0, m1, hT, hD, hO, hB⟩ := hrel
    clear hmk hst hb0
    by_cases hlt : 0 < k
    · obtain ⟨q, rfl⟩ : ∃ q, k = q + 1 := ⟨k - 1, by omega⟩
      have ej : ((q + 1 : Nat) : Int) - 1 = (q : Int) := by omega
      rw [ej]
      clear ej
      obtain ⟨g, x, eg, hx, hc, hf, hst⟩ := hO.at_ (k := q) (by rw [List.length_append, List.length_replicate]; omega)
      have eg2 : g = w.heap.size := some_block eg
      subst eg2
      have hq57 : q < 57 := by omega
      have HF := Lib.hid (fibPlaceR_of (k := q) (by omega))
      have HT := Lib.hid hT
      have c0 : (0 : Int) ≤ q := by omega
      have c1 : (q : Int) < 57 := by omega
      have HRep : Hid (List.replicate (q + 1) (0 : Int) ++ T = List.replicate q 0 ++ 0 :: T) := by unfold Hid; rw [List.replicate_succ', List.append_assoc]; rfl
      have HSet : Hid ((List.replicate (q + 1) (0 : Int) ++ T).set q 1 = List.replicate q 0 ++ 1 :: T) := by
        unfold Hid
        rw [List.replicate_succ', List.append_assoc, List.set_append_right _ _ (by simp), List.length_replicate, Nat.sub_self]
        rfl
      clear eg hT hx
      rcases Bool.eq_false_or_eq_true (usedD q m) with hu | hu
      · have hdn := downD q m hu
        have HG := Lib.hid (dg_use hu)
        have HU := Lib.hid hu
        have HST := Lib.hid (hst 1)
        clear hst hO hu
        obtain ⟨f, hf2⟩ : ∃ f, fibN q = f := ⟨_, rfl⟩
        rw [hf2] at hdn HF HG
        clear hf2
        go_wp2_with fail
        refine (dClos_any _ _ _ (by omega)).mono ?_
        rintro e w' ⟨rfl, rfl⟩
        rw [HU.out]
        go_wp2_with fail
        refine (iFibPlace_any _ _).mono ?_
        rintro e w' ⟨rfl, rfl⟩
        rw [HF.out]
        go_wp2
        go_roundw
        case rel =>
          have h2 := HST.out.1
          rw [HSet.out] at h2
          refine ⟨q, m - f, 1 :: T, by omega, by go_num, by go_num, by omega, by omega, by simp [HT.out]; omega, ?_, h2, hB.trans (grown_below HST.out.2 hB.size (fun k hk => by simp at hk; omega))⟩
          unfold Hid
          rw [hD.out, HG.out, List.append_assoc]
          rfl
        case measure => simp [intOf]
      · have HG := Lib.hid (dg_top hu)
        have HU := Lib.hid hu
        have HOw := Lib.hid hO
        clear hst hO hu
        go_wp2_with fail
        refine (dClos_any _ _ _ (by omega)).mono ?_
        rintro e w' ⟨rfl, rfl⟩
        rw [HU.out]
        go_wp2
        go_roundw
        case rel =>
          have h2 := HOw.out
          rw [HRep.out] at h2
          refine ⟨q, m, 0 :: T, by omega, by go_num, rfl, m0, m1, by simp [HT.out]; omega, ?_, h2, hB⟩
          unfold Hid
          rw [hD.out, HG.out, List.append_assoc]
          rfl
        case measure => simp [intOf]
    · obtain rfl : k = 0 := by omega
      have HE : Hid (dg usedD 57 N = T) := by have := hD.out; rwa [dg_zero, List.nil_append] at this
      have hO2 : Ow wr w.heap.size (.slice (some ⟨w.heap.size, 0, none⟩) 57 57) T := hO
      clear hO hT
      go_wp2_with fail
      refine (trimmed_any _ _ _ _ _ _ hO2 (by omega)).mono ?_
      rintro e w' ⟨A', rfl, HO', rfl⟩
      go_wp2
      go_ret
      rw [HE.out]
      exact ⟨A', _, rfl, HO', hB⟩


def spR (n : Int) : List Int := if inB n 0 500000000000 then trimL (dg usedS 57 n) else []
theorem spR_len57 (n : Int) : (spR n).length ≤ 57 := by
  unfold spR
  split
  · have := trimL_le (dg usedS 57 n)
    rw [dg_len] at this
    exact this
  · simp
theorem spR_len (n : Int) : (spR n).length ≤ 1099511627776 := by
  have := spR_len57 n
  omega
theorem spR_of {n : Int} (h : inB n 0 500000000000 = true) : spR n = trimL (dg usedS 57 n) := by simp [spR, h]
theorem spR_mem (n : Int) : ∀ x ∈ spR n, (0 : Int) ≤ x ∧ x ≤ 1 := by
  intro x hx
  unfold spR at hx
  split at hx
  · exact dg_mem _ _ _ x (trimL_mem hx)
  · simp at hx
theorem iSparseFib_c (w : World) (N : Int) (_hN : I64 N) :
    Calls Try.prog 33 #[.int .i64 N] w fun e w' => ∃ A c, e = .returned (.slice A (spR N).length c) ∧ Ow w' w.heap.size (.slice A (spR N).length c) (spR N) ∧ Below w.heap.size w w' := by
  rcases Bool.eq_false_or_eq_true (inB N 0 500000000000) with h | h
  · have hb := inB_true h
    have HE := Lib.hid (spR_of h)
    go_enter Try.func33, Try.ntmps33
    go_wp2_with fail
    refine (within_any _ _ _ _).mono ?_
    rintro e w' ⟨rfl, rfl⟩
    go_wp2_with fail
    refine (fibDigitsS_any _ _ hb.1 hb.2).mono ?_
    rintro e w1 ⟨A, c, rfl, O1, B1⟩
    go_wp2
    go_ret
    rw [HE.out]
    exact ⟨A, c, rfl, O1, B1⟩
  · have HE : Hid (spR N = []) := by unfold Hid; simp [spR, h]
    go_enter Try.func33, Try.ntmps33
    go_wp2_with fail
    refine (within_any _ _ _ _).mono ?_
    rintro e w' ⟨rfl, rfl⟩
    go_wp2
    go_ret
    rw [HE.out]
    exact ⟨none, 0, rfl, Ow.nil_ _ _, Below.refl _ _⟩


def dnR (n : Int) : List Int := if inB n 0 500000000000 then trimL (dg usedD 57 n) else []
theorem dnR_len57 (n : Int) : (dnR n).length ≤ 57 := by
  unfold dnR
  split
  · have := trimL_le (dg usedD 57 n)
    rw [dg_len] at this
    exact this
  · simp
theorem dnR_len (n : Int) : (dnR n).length ≤ 1099511627776 := by
  have := dnR_len57 n
  omega
theorem dnR_of {n : Int} (h : inB n 0 500000000000 = true) : dnR n = trimL (dg usedD 57 n) := by simp [dnR, h]
theorem dnR_mem (n : Int) : ∀ x ∈ dnR n, (0 : Int) ≤ x ∧ x ≤ 1 := by
  intro x hx
  unfold dnR at hx
  split at hx
  · exact dg_mem _ _ _ x (trimL_mem hx)
  · simp at hx
theorem iDenseFib_c (w : World) (N : Int) (_hN : I64 N) :
    Calls Try.prog 37 #[.int .i64 N] w fun e w' => ∃ A c, e = .returned (.slice A (dnR N).length c) ∧ Ow w' w.heap.size (.slice A (dnR N).length c) (dnR N) ∧ Below w.heap.size w w' := by
  rcases Bool.eq_false_or_eq_true (inB N 0 500000000000) with h | h
  · have hb := inB_true h
    have HE := Lib.hid (dnR_of h)
    go_enter Try.func37, Try.ntmps37
    go_wp2_with fail
    refine (within_any _ _ _ _).mono ?_
    rintro e w' ⟨rfl, rfl⟩
    go_wp2_with fail
    refine (fibDigitsD_any _ _ hb.1 hb.2).mono ?_
    rintro e w1 ⟨A, c, rfl, O1, B1⟩
    go_wp2
    go_ret
    rw [HE.out]
    exact ⟨A, c, rfl, O1, B1⟩
  · have HE : Hid (dnR N = []) := by unfold Hid; simp [dnR, h]
    go_enter Try.func37, Try.ntmps37
    go_wp2_with fail
    refine (within_any _ _ _ _).mono ?_
    rintro e w' ⟨rfl, rfl⟩
    go_wp2
    go_ret
    rw [HE.out]
    exact ⟨none, 0, rfl, Ow.nil_ _ _, Below.refl _ _⟩

end Go.Proofs.Ytlimphfkagdjiaa
