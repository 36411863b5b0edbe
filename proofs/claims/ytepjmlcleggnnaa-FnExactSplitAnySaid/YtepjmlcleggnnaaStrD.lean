/-
  WALKS OF strings.IndexByte, eqStringS, markStringS, heldStringS. No statement of the seat is proved here.
-/
import Derived.Test.YtepjmlcleggnnaaStrC
import Derived.Test.YtepjmlcleggnnaaReg
namespace Go.Proofs.Ytepjmlcleggnnaa
open Go.RowKit

set_option maxHeartbeats 800000 in
theorem slIndexByte (s : ByteArray) (c : Int) (w : World) :
    Calls Try.prog 63 #[.string s, .int .u8 c] w fun e w' => e = .returned (.int .i64 (Lib.indexByte s.data.toList c.toNat.toUInt8)) ∧ w' = w := by
  go_enter Try.func63, Try.ntmps63
  go_wp2
  rw [run_callFunc_extern Try.func66 (by kernel_rfl) (by kernel_rfl) (by kernel_rfl) (e := Extern.BytealgIndexByte.indexByte) (by kernel_rfl), Lib.run_indexByteString]
  simp only [Result.andThen]
  rw [Oper.upon_value]
  go_wp2
  go_ret
  exact ⟨rfl, rfl⟩

set_option maxHeartbeats 800000 in
theorem strIndexByte (s : ByteArray) (c : Int) (w : World) :
    Calls Try.prog 51 #[.string s, .int .u8 c] w fun e w' => e = .returned (.int .i64 (Lib.indexByte s.data.toList c.toNat.toUInt8)) ∧ w' = w := by
  go_enter Try.func51, Try.ntmps51
  go_wp2_with fail
  refine (slIndexByte _ _ _).mono ?_
  rintro e w' ⟨rfl, rfl⟩
  go_wp2
  go_ret
  exact ⟨rfl, rfl⟩

set_option maxHeartbeats 800000 in
theorem eqStringS_same (A B : Option Addr) (c c' : Nat) (xs : List ByteArray) (w : World) (ha : RdS w A xs) (hb : RdS w B xs) (hl : xs.length ≤ 1099511627776) :
    Calls Try.prog 24 #[.slice A xs.length c, .slice B xs.length c'] w fun e w' => e = .returned (.bool true) ∧ ∃ n, w' = w.drewN n := by
  have HA := Lib.hid ha
  have HB := Lib.hid hb
  clear ha hb
  go_enter Try.func24, Try.ntmps24
  go_wp2
  go_loopw [5] (fun i wr => ∃ k n : Nat, k ≤ xs.length ∧ i = .int .i64 k ∧ wr = w.drewN n) (fun i _ => xs.length - (intOf i).toNat)
  case atStart => exact ⟨0, 0, Nat.zero_le _, rfl, rfl⟩
  case round =>
    obtain ⟨k, n, hk, rfl, rfl⟩ := hrel
    by_cases hlt : k < xs.length
    · obtain ⟨ad, x, rfl, hx, hc⟩ := HA.out.at_ hlt
      obtain ⟨bd, y, rfl, hy, hd⟩ := HB.out.at_ hlt
      have e : y = x := by have h1 := hx.out; have h2 := hy.out; rw [h1] at h2; exact (Option.some.inj h2).symm
      subst e
      have b1 : (0 : Int) ≤ k := by omega
      have b2 : (k : Int) < xs.length := by omega
      go_wp2
      go_quiet (fail)
      go_wp2
      go_roundw
      case rel => exact ⟨k + 1, _, by omega, by go_num, rfl⟩
      case measure => simp [intOf]; omega
    · have hkl : k = xs.length := by omega
      subst hkl
      go_wp2
      go_ret
      exact ⟨rfl, n, rfl⟩

/-- The texts of the marks k, k+1, ... -/
def marksT (k n : Nat) : List ByteArray := (List.range n).map fun i => mkT (k + i)
theorem marksT_length (k n : Nat) : (marksT k n).length = n := by simp [marksT]
theorem marksT_at (k n i : Nat) (h : i < n) : (marksT k n)[i]? = some (mkT (k + i)) := by simp [marksT, h]
theorem marksT_succ (k n : Nat) : marksT k (n + 1) = marksT k n ++ [mkT (k + n)] := by simp [marksT, List.range_succ]

set_option maxRecDepth 100000 in
set_option maxHeartbeats 1600000 in
theorem markStringS_any (A : Option Addr) (c base : Nat) (k : Nat) (xs : List ByteArray) (w : World) (ho : OwS w base (.slice A xs.length c) xs) (hbase : base ≤ w.heap.size) (hl : xs.length ≤ 1099511627776) (hk0 : 0 < k) (hk1 : k ≤ 1099511627776) :
    Calls Try.prog 25 #[.slice A xs.length c, .int .i64 k] w fun e w' => e = .returned (.int .i64 (k + xs.length)) ∧ OwS w' base (.slice A xs.length c) (marksT k xs.length) ∧ Below base w w' ∧ w.heap.size ≤ w'.heap.size := by
  go_enter Try.func25, Try.ntmps25
  go_wp2
  go_loopw [1, 5] (fun q i wr => ∃ j : Nat, j ≤ xs.length ∧ q = .int .i64 (k + j) ∧ i = .int .i64 j ∧ OwS wr base (.slice A xs.length c) (marksT k j ++ xs.drop j) ∧ Below base w wr ∧ w.heap.size ≤ wr.heap.size) (fun _ i _ => xs.length - (intOf i).toNat)
  case atStart => exact ⟨0, Nat.zero_le _, by simp, rfl, by simpa [marksT] using ho, Below.refl _ _, Nat.le_refl _⟩
  case round =>
    obtain ⟨j, hj, rfl, rfl, hO, hg, hsz⟩ := hrel
    have hlen : (marksT k j ++ xs.drop j).length = xs.length := by simp [marksT_length]; omega
    by_cases hlt : j < xs.length
    · obtain ⟨m, hm⟩ : ∃ m : Nat, k + j = m := ⟨_, rfl⟩
      have ek : (k : Int) + (j : Int) = (m : Int) := by omega
      have m0 : 0 < m := by omega
      have m1 : m ≤ 4398046511104 := by omega
      have EK := Lib.hid ek
      have HM := Lib.hid hm
      rw [ek]
      clear ek hm
      go_wp2_with fail
      refine (markText_any m _ m0 m1).mono ?_
      rintro e w2 ⟨rfl, hB2⟩
      have hO2 := hO.below' hB2
      have hg2 := hg.trans (hB2.mono (Nat.le_trans hbase hg.size))
      have hz2 := hB2.size
      obtain ⟨g, x, rfl, _, hc, hf, hst⟩ := hO2.at_ (k := j) (by rw [hlen]; exact hlt)
      have hgb : base ≤ g := (hO2.lt g (by rfl)).1
      have H1 := Lib.hid (hst (mkT m)).1
      have H2 := Lib.hid (hst (mkT m)).2
      have HG := Lib.hid hg2
      have hz3 : base ≤ w2.heap.size := Nat.le_trans hbase hg2.size
      clear hst hO hO2 ho hlen hg hg2 hB2
      go_wp2
      go_roundw
      case rel =>
        refine ⟨j + 1, by omega, by have := EK.out; go_num, by go_num, ?_, ?_, ?_⟩
        · have h := H1.out
          have e : (marksT k j ++ xs.drop j).set j (mkT m) = marksT k (j + 1) ++ xs.drop (j + 1) := by
            rw [← HM.out, List.set_append_right _ _ (by simp [marksT_length]), marksT_length, Nat.sub_self, marksT_succ, List.append_assoc, List.drop_eq_getElem_cons hlt]
            rfl
          rw [e] at h
          exact h
        · exact HG.out.grown H2.out hz3 (fun k hk => by cases hk; exact hgb)
        · have := H2.out.size
          omega
      case measure => simp [intOf]; omega
    · have hkl : j = xs.length := by omega
      subst hkl
      go_wp2
      go_ret
      refine ⟨rfl, ?_, hg, hsz⟩
      simpa using hO

set_option maxHeartbeats 1600000 in
theorem heldStringS_any (A : Option Addr) (c n : Nat) (k : Nat) (w : World) (hr : RdS w A (marksT k n)) (hl : n ≤ 1099511627776) (hk0 : 0 < k) (hk1 : k ≤ 1099511627776) :
    Calls Try.prog 26 #[.slice A n c, .int .i64 k] w fun e w' => e = .returned (.int .i64 (k + n)) ∧ Below w.heap.size w w' := by
  have HR := Lib.hid hr
  clear hr
  go_enter Try.func26, Try.ntmps26
  go_wp2
  go_loopw [1, 5] (fun q i wr => ∃ j : Nat, j ≤ n ∧ q = .int .i64 (k + j) ∧ i = .int .i64 j ∧ Below w.heap.size w wr) (fun _ i _ => n - (intOf i).toNat)
  case atStart => exact ⟨0, Nat.zero_le _, by simp, rfl, Below.refl _ _⟩
  case round =>
    obtain ⟨j, hj, rfl, rfl, hB⟩ := hrel
    by_cases hlt : j < n
    · have HB := Lib.hid hB
      obtain ⟨ad, x, rfl, hx, hc⟩ := (HR.out.below hB).at_ (k := j) (by rw [marksT_length]; exact hlt)
      have e : x = mkT (k + j) := by have h1 := hx.out; rw [marksT_at _ _ _ hlt] at h1; exact (Option.some.inj h1).symm
      subst e
      have b1 : (0 : Int) ≤ j := by omega
      have b2 : (j : Int) < n := by omega
      obtain ⟨m, hm⟩ : ∃ m : Nat, k + j = m := ⟨_, rfl⟩
      have ek : (k : Int) + (j : Int) = (m : Int) := by omega
      have m0 : 0 < m := by omega
      have m1 : m ≤ 4398046511104 := by omega
      have EK := Lib.hid ek
      have HM := Lib.hid hm
      rw [hm] at hc
      rw [ek]
      clear hx hB ek hm
      go_wp2_with fail
      have LG := cell_lt hc
      go_region_held3 (fun w' => w'.cell? (ad.add j) = some (.string (mkT m))) (first | go_keep | (rw [hB2.cell LG]; exact hc)) ((go_at_call 52; refine (markText_any m (wr.drewN 1) m0 m1).mono ?_; rintro e w2 ⟨rfl, hB2⟩))
      have hB3 := (below_drewN HB.out 1).trans (hB2.mono HB.out.size)
      go_wp2
      go_roundw
      case rel => exact ⟨j + 1, by omega, by have := EK.out; go_num, by go_num, hB3⟩
      case measure => simp [intOf]; omega
    · have hkl : j = n := by omega
      subst hkl
      go_wp2
      go_ret
      exact ⟨rfl, hB⟩
end Go.Proofs.Ytepjmlcleggnnaa
