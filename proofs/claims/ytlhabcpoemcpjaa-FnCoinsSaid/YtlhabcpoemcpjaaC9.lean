/-
  WALKS: l11Fewest, FewestCoins (both packages) and the law over it.
-/
import Derived.Test.YtlhabcpoemcpjaaC8
namespace Go.Proofs.Ytlhabcpoemcpjaa
open Go.RowKit

theorem Ap.zero1 (w : World) : Ap (w.alloc (.cells #[.int .i64 0] 3)) w.heap.size (.slice (some ⟨w.heap.size, 0, none⟩) 1 1) [0] :=
  World.ownsRow_lit w #[.int .i64 0] 1 (Nat.le_refl _) (by unfold maxLen; omega) rfl
set_option maxHeartbeats 3200000 in
theorem l11Fewest_any (B : Option Addr) (cb n : Nat) (cs : List Int) (w : World) (hb : Rd w B cs) (h : coinsB cs = true) (hn : n ≤ 400) :
    Calls Try.prog 43 #[.int .i64 n, .slice B cs.length cb] w fun e w' => ∃ A c, e = .returned (.slice A (n + 1) c) ∧ Ow w' w.heap.size (.slice A (n + 1) c) (fewT cs n) ∧ Below w.heap.size w w' := by
  obtain ⟨p1, p2, p3, _, _⟩ := coinsB_parts h
  have n0 : (0 : Int) ≤ n := by omega
  have n1 : (n : Int) ≤ 400 := by omega
  have HX := Lib.hid p3
  have HB := Lib.hid hb
  have PZ := Lib.hid (Ap.zero1 w)
  have hB0 : Below w.heap.size w (w.alloc (.cells #[.int .i64 0] 3)) := (Below.refl _ _).alloc (Nat.le_refl _) _
  clear p3 hb h
  go_enter Try.func43, Try.ntmps43
  go_wp2
  go_loopw [5, 6] (fun u i wr => ∃ x : Nat, x ≤ n ∧ i = .int .i64 ((x : Int) + 1) ∧ Ap wr w.heap.size u (fewT cs x) ∧ Below w.heap.size w wr) (fun _ i _ => n + 1 - (intOf i).toNat)
  case atStart => exact ⟨0, Nat.zero_le _, rfl, by rw [fewT_zero]; exact PZ.out, hB0⟩
  case round =>
    clear PZ hB0
    obtain ⟨x, hx, rfl, hO, hB⟩ := hrel
    have hs := hB.size
    by_cases hlt : x < n
    · have hlen := fewT_len cs x
      have hbd := Lib.hid (fewT_bounds cs x)
      have HO := Lib.hid hO
      obtain ⟨A, c, rfl⟩ := hO.form
      have RO := Lib.hid hO.ow.rd
      have hL : (fewT cs x).length < 1099511627776 := by omega
      clear hO
      go_wp2
      go_loop [7, 19] (fun v i => ∃ j : Nat, j ≤ cs.length ∧ i = .int .i64 j ∧ v = .int .i64 (bestTo (fewT cs x) cs (x + 1) j)) (fun _ i => cs.length - (intOf i).toNat)
      case atStart => exact ⟨0, Nat.zero_le _, rfl, by rw [bestTo_zero]; go_num⟩
      case round =>
        obtain ⟨j, hj, rfl, rfl⟩ := hrel
        obtain ⟨t, ht⟩ : ∃ t, bestTo (fewT cs x) cs (x + 1) j = t := ⟨_, rfl⟩
        have tb := bestTo_bounds (cs := cs) (x := x + 1) (fun v hv => (fewT_bounds cs x v hv).1) j
        rw [ht] at tb
        obtain ⟨tb0, tb1⟩ := tb
        by_cases hlt2 : j < cs.length
        · obtain ⟨ad, q, rfl, hq, hc⟩ := (HB.out.below hB).at_ hlt2
          have bq := HX.out q (List.mem_of_getElem? hq.out)
          obtain ⟨d, rfl⟩ : ∃ d : Nat, q = d := ⟨q.toNat, by omega⟩
          have bq1 := bq.1
          by_cases hle : d ≤ x + 1
          · obtain ⟨ao, a, rfl, ha, hca⟩ := RO.out.at_ (k := x + 1 - d) (by omega)
            have ba := hbd.out a (List.mem_of_getElem? ha.out)
            obtain ⟨a0, a1⟩ := ba
            have c1 : (d : Int) ≤ x + 1 := by omega
            have c2 : (0 : Int) ≤ x := by omega
            have HS := Lib.hid (bestTo_yes hq.out hle ha.out)
            rw [ht] at HS
            rw [ht]
            clear hq ha ht
            go_wp2
            all_goals go_round
            all_goals first
              | exact ⟨j + 1, by omega, by go_num, by rw [HS.out]; congr 1; omega⟩
              | (simp [intOf]; omega)
          · have HS := Lib.hid (bestTo_no (T := fewT cs x) hq.out hle)
            rw [ht] at HS
            rw [ht]
            have c1 : (x : Int) + 1 < d := by omega
            clear hq ht
            go_wp2
            go_round
            case rel => exact ⟨j + 1, by omega, by go_num, by rw [HS.out]⟩
            case measure => simp [intOf]; omega
        · have hjl : j = cs.length := by omega
          subst hjl
          have HF := Lib.hid (fewT_succ cs x)
          rw [ht] at HF
          rw [ht]
          clear ht
          go_wp2_with (at_builtin; refine wpList_app1k HO.out hL hs rfl _ _ 22 rfl rfl rfl rfl ?_; intro v' w' O' B' K')
          go_roundw
          case rel => exact ⟨x + 1, by omega, by go_num, by rw [HF.out]; exact O', hB.trans B'⟩
          case measure => simp [intOf]; omega
    · obtain rfl : x = n := by omega
      obtain ⟨A, c, rfl⟩ := hO.form
      have OO := Lib.hid hO.ow
      have hlen := fewT_len cs x
      rw [hlen] at OO
      clear hO
      go_wp2
      go_ret
      exact ⟨A, c, by rw [← hlen]; rfl, OO.out, hB⟩
end Go.Proofs.Ytlhabcpoemcpjaa
