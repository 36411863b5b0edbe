/-
  WALKS: fewest.
-/
import Derived.Test.YtlhabcpoemcpjaaC6
import Derived.Test.YtlhabcpoemcpjaaC7
namespace Go.Proofs.Ytlhabcpoemcpjaa
open Go.RowKit

set_option maxHeartbeats 3200000 in
theorem fewest_any (B : Option Addr) (cb n : Nat) (cs : List Int) (w : World) (hb : Rd w B cs) (h : coinsB cs = true) (hn : n ≤ 400) :
    Calls Try.prog 44 #[.slice B cs.length cb, .int .i64 n] w fun e w' => ∃ A c, e = .returned (.slice A (n + 1) c) ∧ Ow w' w.heap.size (.slice A (n + 1) c) (fewT cs n) ∧ Below w.heap.size w w' := by
  obtain ⟨p1, p2, p3, p4, _⟩ := coinsB_parts h
  have n0 : (0 : Int) ≤ n := by omega
  have n1 : (n : Int) ≤ 400 := by omega
  have RP := repeat_any w.heap.size (-1) (n + 1) (w.alloc (.cells #[.int .i64 (-1)] 3)) (by omega) (by omega) (by rw [World.cell?_alloc_at _ _ _ _ rfl]; rfl)
  rw [show ((n + 1 : Nat) : Int) = (n : Int) + 1 by omega] at RP
  have RP2 := Lib.hid RP
  have HX := Lib.hid p3
  have H0 := Lib.hid p4
  have HB := Lib.hid hb
  clear RP p3 p4 hb h
  go_enter Try.func44, Try.ntmps44
  go_wp2_with fail
  refine (RP2.out).mono ?_
  rintro e w1 ⟨A, c, rfl, O1, B1⟩
  clear RP2
  have C1 := ((Below.refl w.heap.size w).alloc (Nat.le_refl _) (.cells #[.int .i64 (-1)] 3)).trans (B1.mono (by simp))
  have O2 := O1.more (base' := w.heap.size) (by simp)
  obtain ⟨g, y0, rfl, _, z1, f1, k0⟩ := O2.at_ (k := 0) (by simp)
  have hgb : w.heap.size ≤ g := (O2.lt g rfl).1
  have HK := Lib.hid (k0 0)
  clear k0 O1 O2 B1
  go_wp2
  go_loopw [17] (fun i wr => ∃ x : Nat, x ≤ n + 1 ∧ i = .int .i64 x ∧ Hid (x ≤ n → Ow wr w.heap.size (.slice (some ⟨g, 0, none⟩) (n + 1) c) (tabI cs n x 0)) ∧ Hid (x = n + 1 → Ow wr w.heap.size (.slice (some ⟨g, 0, none⟩) (n + 1) c) (fewT cs n)) ∧ Below w.heap.size w wr) (fun i _ => n + 1 - (intOf i).toNat)
  case atStart =>
    refine ⟨0, Nat.zero_le _, rfl, fun _ => ?_, fun hh => by omega, C1.trans (grown_below HK.out.2 C1.size (fun k hk => by simp at hk; omega))⟩
    have hh := HK.out.1
    rw [List.replicate_succ, List.set_cons_zero] at hh
    rw [tabI_start]
    exact hh
  case round =>
    obtain ⟨x, hx, rfl, hO, hE, hB⟩ := hrel
    by_cases hlt : x ≤ n
    · have c0 : (x : Int) < n + 1 := by omega
      have hO1 := hO.out hlt
      clear hO hE
      go_wp2
      go_loopw [22] (fun i wq => ∃ j : Nat, j ≤ cs.length ∧ i = .int .i64 j ∧ Ow wq w.heap.size (.slice (some ⟨g, 0, none⟩) (n + 1) c) (tabI cs n x j) ∧ Below w.heap.size w wq) (fun i _ => cs.length - (intOf i).toNat)
      case atStart => exact ⟨0, Nat.zero_le _, rfl, hO1, hB⟩
      case round =>
        clear hO1
        obtain ⟨j, hj, rfl, hO2, hB2⟩ := hrel
        by_cases hlt2 : j < cs.length
        · obtain ⟨ad, q, rfl, hq, hc⟩ := (HB.out.below hB2).at_ hlt2
          have bq := HX.out q (List.mem_of_getElem? hq.out)
          obtain ⟨d, rfl⟩ : ∃ d : Nat, q = d := ⟨q.toNat, by omega⟩
          have bq1 := bq.1
          have hlen := tabI_len cs j hlt
          by_cases hle : d ≤ x
          · obtain ⟨g1, a, eg1, ha, hca, _, _⟩ := hO2.at_ (k := x - d) (by omega)
            obtain rfl : g = g1 := by cases eg1; rfl
            obtain ⟨g2, b, eg2, hb', hcb, hfb, hst⟩ := hO2.at_ (k := x) (by omega)
            obtain rfl : g = g2 := by cases eg2; rfl
            obtain ⟨_, a0, a1⟩ := tabI_low hlt (by omega) hle ha.out
            have c1 : (d : Int) ≤ x := by omega
            have c2 : (0 : Int) ≤ x := by omega
            by_cases hab : b < 0 ∨ a + 1 < b
            · have HS := Lib.hid (tabI_set hlt H0.out hq.out (by omega) hle ha.out hb'.out hab)
              have HST := Lib.hid (hst (a + 1))
              clear hst hq hlen hO2 eg1 eg2 ha hb'
              by_cases hb0 : b < 0
              · clear hab
                go_wp2
                go_quiet (fail)
                go_wp2
                go_roundw
                case rel =>
                  have hs := HST.out
                  rw [← HS.out] at hs
                  exact ⟨j + 1, by omega, by go_num, hs.1, hB2.trans (below_drewN (grown_below hs.2 hB2.size (fun k hk => by simp at hk; omega)) nq)⟩
                case measure => simp [intOf]; omega
              · have hab2 : a + 1 < b := by omega
                have t1 : IntKind.i64.wrap (a + 1) = a + 1 := IntWalk.i64_in _ (by omega)
                have t0 : IntKind.i64.wrap ((x : Int) - d) = (x : Int) - d := IntWalk.i64_in _ (by omega)
                have t3 : ((x : Int) - d).toNat = x - d := by omega
                have t4 : (0 : Int) ≤ (x : Int) - d := by omega
                have t5 : (x : Int) - d < n + 1 := by omega
                clear hab
                go_wp2
                go_quiet (fail)
                go_wp2
                go_roundw
                case rel =>
                  have hs := HST.out
                  rw [← HS.out] at hs
                  exact ⟨j + 1, by omega, by go_num, hs.1, hB2.trans (below_drewN (grown_below hs.2 hB2.size (fun k hk => by simp at hk; omega)) nq)⟩
                case measure => simp [intOf]; omega
            · have HS := Lib.hid (tabI_keep hlt hq.out (by omega) hle ha.out hb'.out (by omega) (by omega))
              have hb0 : ¬ b < 0 := by omega
              have hab2 : ¬ a + 1 < b := by omega
              have t1 : IntKind.i64.wrap (a + 1) = a + 1 := IntWalk.i64_in _ (by omega)
              have t0 : IntKind.i64.wrap ((x : Int) - d) = (x : Int) - d := IntWalk.i64_in _ (by omega)
              have t3 : ((x : Int) - d).toNat = x - d := by omega
              have t4 : (0 : Int) ≤ (x : Int) - d := by omega
              have t5 : (x : Int) - d < n + 1 := by omega
              have HO := Lib.hid hO2
              clear hst hq hlen hO2 eg1 eg2 ha hb' hab
              go_wp2
              go_quiet (fail)
              go_wp2
              go_roundw
              case rel => exact ⟨j + 1, by omega, by go_num, by rw [HS.out]; exact HO.out, below_drewN hB2 nq⟩
              case measure => simp [intOf]; omega
          · have HS := Lib.hid (tabI_skip (n := n) H0.out hq.out hle)
            have c1 : (x : Int) < d := by omega
            have HO := Lib.hid hO2
            clear hq hlen hO2
            go_wp2
            go_quiet (fail)
            go_wp2
            go_roundw
            case rel => exact ⟨j + 1, by omega, by go_num, by rw [HS.out]; exact HO.out, below_drewN hB2 nq⟩
            case measure => simp [intOf]; omega
        · have hjl : j = cs.length := by omega
          subst hjl
          have HO := Lib.hid hO2
          clear hO2
          go_wp2
          go_roundw
          case rel => exact ⟨x + 1, by omega, by go_num, fun hh => by rw [← tabI_next (by omega) (by omega)]; exact HO.out, fun hh => by (have hxe : x = n := by omega); subst hxe; rw [← tabI_end (by omega)]; exact HO.out, hB2⟩
          case measure => simp [intOf]; omega
    · have hxn : x = n + 1 := by omega
      subst hxn
      have HO := Lib.hid (hE.out rfl)
      clear hO hE
      go_wp2
      go_ret
      exact ⟨_, _, rfl, HO.out, hB⟩
end Go.Proofs.Ytlhabcpoemcpjaa
