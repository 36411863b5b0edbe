/-
  WALKS OF eqIntS, markIntS, heldIntS: what every statement on slices goes through. No statement of the seat is proved here.
-/
import Derived.Test.YtfdighaginmabaaW1
namespace Go.Proofs.Ytfdighaginmabaa
open Go.RowKit

set_option maxHeartbeats 800000 in
theorem eqIntS_same (A B : Option Addr) (c c' : Nat) (xs : List Int) (w : World) (ha : Rd w A xs) (hb : Rd w B xs) (hl : xs.length ≤ 1099511627776) :
    Calls Try.prog 22 #[.slice A xs.length c, .slice B xs.length c'] w fun e w' => e = .returned (.bool true) ∧ ∃ n, w' = w.drewN n := by
  have HA := Lib.hid ha
  have HB := Lib.hid hb
  clear ha hb
  go_enter Try.func22, Try.ntmps22
  go_wp2
  go_loopw [5] (fun i wr => ∃ k n : Nat, k ≤ xs.length ∧ i = .int .i64 k ∧ wr = w.drewN n) (fun i _ => xs.length - (intOf i).toNat)
  case atStart => exact ⟨0, 0, Nat.zero_le _, rfl, rfl⟩
  case round =>
    obtain ⟨k, n, hk, rfl, rfl⟩ := hrel
    by_cases hlt : k < xs.length
    · obtain ⟨ad, x, rfl, hx, hc⟩ := HA.out.at_ hlt
      obtain ⟨bd, y, rfl, hy, hd⟩ := HB.out.at_ hlt
      have e : y = x := by have h1 := hx.out; have h2 := hy.out; rw [h1] at h2; exact (Option.some.inj h2).symm
      subst e
      have b1 : (0 : Int) ≤ k := by omega
      have b2 : (k : Int) < xs.length := by omega
      go_wp2
      go_quiet (fail)
      go_wp2
      go_roundw
      case rel => exact ⟨k + 1, _, by omega, by go_num, rfl⟩
      case measure => simp [intOf]; omega
    · have hkl : k = xs.length := by omega
      subst hkl
      go_wp2
      go_ret
      exact ⟨rfl, n, rfl⟩

set_option maxHeartbeats 800000 in
theorem markIntS_any (A : Option Addr) (c base : Nat) (k : Int) (xs : List Int) (w : World) (ho : Ow w base (.slice A xs.length c) xs) (hl : xs.length ≤ 1099511627776) (hk0 : 0 ≤ k) (hk1 : k ≤ 1099511627776) :
    Calls Try.prog 27 #[.slice A xs.length c, .int .i64 k] w fun e w' => e = .returned (.int .i64 (k + xs.length)) ∧ Ow w' base (.slice A xs.length c) (marks k xs.length) ∧ w.grownBy w' (Value.slice A xs.length c).ownBlock := by
  go_enter Try.func27, Try.ntmps27
  go_wp2
  go_loopw [1, 5] (fun q i wr => ∃ j : Nat, j ≤ xs.length ∧ q = .int .i64 (k + j) ∧ i = .int .i64 j ∧ Ow wr base (.slice A xs.length c) (marks k j ++ xs.drop j) ∧ w.grownBy wr (Value.slice A xs.length c).ownBlock) (fun _ i _ => xs.length - (intOf i).toNat)
  case atStart => exact ⟨0, Nat.zero_le _, by simp, rfl, by simpa [marks] using ho, World.grownBy.refl _ _⟩
  case round =>
    obtain ⟨j, hj, rfl, rfl, hO, hg⟩ := hrel
    have hlen : (marks k j ++ xs.drop j).length = xs.length := by simp [marks_length]; omega
    by_cases hlt : j < xs.length
    · obtain ⟨g, x, rfl, _, hc, hf, hst⟩ := hO.at_ (k := j) (by rw [hlen]; exact hlt)
      have H1 := Lib.hid (hst (k + j)).1
      have H2 := Lib.hid (hst (k + j)).2
      have HG := Lib.hid hg
      clear hst hO ho hlen hg
      go_wp2
      go_roundw
      case rel =>
        refine ⟨j + 1, by omega, by go_num, by go_num, ?_, ?_⟩
        · have h := H1.out
          have e : (marks k j ++ xs.drop j).set j (k + j) = marks k (j + 1) ++ xs.drop (j + 1) := by
            rw [List.set_append_right _ _ (by simp [marks_length]), marks_length, Nat.sub_self, marks_succ, List.append_assoc, List.drop_eq_getElem_cons hlt]
            rfl
          rw [e] at h
          exact h
        · exact grown_trans HG.out H2.out
      case measure => simp [intOf]; omega
    · have hkl : j = xs.length := by omega
      subst hkl
      go_wp2
      go_ret
      refine ⟨rfl, ?_, hg⟩
      simpa using hO

set_option maxHeartbeats 800000 in
theorem heldIntS_any (A : Option Addr) (c n : Nat) (k : Int) (w : World) (hr : Rd w A (marks k n)) (hl : n ≤ 1099511627776) (hk0 : 0 ≤ k) (hk1 : k ≤ 1099511627776) :
    Calls Try.prog 28 #[.slice A n c, .int .i64 k] w fun e w' => e = .returned (.int .i64 (k + n)) ∧ w = w' := by
  have HR := Lib.hid hr
  clear hr
  go_enter Try.func28, Try.ntmps28
  go_wp2
  go_loop [1, 5] (fun q i => ∃ j : Nat, j ≤ n ∧ q = .int .i64 (k + j) ∧ i = .int .i64 j) (fun _ i => n - (intOf i).toNat)
  case atStart => exact ⟨0, Nat.zero_le _, by simp, rfl⟩
  case round =>
    obtain ⟨j, hj, rfl, rfl⟩ := hrel
    by_cases hlt : j < n
    · obtain ⟨ad, x, rfl, hx, hc⟩ := HR.out.at_ (k := j) (by rw [marks_length]; exact hlt)
      have e : x = k + j := by have h1 := hx.out; rw [marks_at _ _ _ hlt] at h1; exact (Option.some.inj h1).symm
      clear hx
      subst e
      go_wp2
      go_round
      case rel => exact ⟨j + 1, by omega, by go_num, by go_num⟩
      case measure => simp [intOf]; omega
    · have hkl : j = n := by omega
      subst hkl
      go_wp2
      go_ret
      exact ⟨rfl, rfl⟩
end Go.Proofs.Ytfdighaginmabaa
