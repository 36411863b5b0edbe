/-
  WALKS: fewest for whatever coins; reaches. No statement of the seat is closed here.
-/
import Derived.Test.YtlhabcpoemcpjaaC13
namespace Go.Proofs.Ytlhabcpoemcpjaa
open Go.RowKit

set_option maxHeartbeats 3200000 in
theorem fewestG_any (B : Option Addr) (cb n : Nat) (cs : List Int) (w : World) (hb : Rd w B cs) (hcs : ∀ x ∈ cs, (1 : Int) ≤ x ∧ x ≤ 1000) (hne : 0 < cs.length) (hl : cs.length ≤ 1000) (hn : n ≤ 400) :
    Calls Try.prog 44 #[.slice B cs.length cb, .int .i64 n] w fun e w' => ∃ A c, e = .returned (.slice A (n + 1) c) ∧ Ow w' w.heap.size (.slice A (n + 1) c) (genT cs (n + 1)) ∧ Below w.heap.size w w' := by
  have n0 : (0 : Int) ≤ n := by omega
  have n1 : (n : Int) ≤ 400 := by omega
  have RP := repeat_any w.heap.size (-1) (n + 1) (w.alloc (.cells #[.int .i64 (-1)] 3)) (by omega) (by omega) (by rw [World.cell?_alloc_at _ _ _ _ rfl]; rfl)
  rw [show ((n + 1 : Nat) : Int) = (n : Int) + 1 by omega] at RP
  have RP2 := Lib.hid RP
  have HX := Lib.hid hcs
  have HX1 : Hid (∀ x ∈ cs, (1 : Int) ≤ x) := fun x hx => (hcs x hx).1
  have HB := Lib.hid hb
  clear RP hcs hb
  go_enter Try.func44, Try.ntmps44
  go_wp2_with fail
  refine (RP2.out).mono ?_
  rintro e w1 ⟨A, c, rfl, O1, B1⟩
  clear RP2
  have C1 := ((Below.refl w.heap.size w).alloc (Nat.le_refl _) (.cells #[.int .i64 (-1)] 3)).trans (B1.mono (by simp))
  have O2 := O1.more (base' := w.heap.size) (by simp)
  obtain ⟨g, y0, rfl, _, z1, f1, k0⟩ := O2.at_ (k := 0) (by simp)
  have hgb : w.heap.size ≤ g := (O2.lt g rfl).1
  have HK := Lib.hid (k0 0)
  clear k0 O1 O2 B1
  go_wp2
  go_loopw [17] (fun i wr => ∃ x : Nat, x ≤ n + 1 ∧ i = .int .i64 x ∧ Hid (x ≤ n → Ow wr w.heap.size (.slice (some ⟨g, 0, none⟩) (n + 1) c) (tabG cs n x 0)) ∧ Hid (x = n + 1 → Ow wr w.heap.size (.slice (some ⟨g, 0, none⟩) (n + 1) c) (genT cs (n + 1))) ∧ Below w.heap.size w wr) (fun i _ => n + 1 - (intOf i).toNat)
  case atStart =>
    refine ⟨0, Nat.zero_le _, rfl, fun _ => ?_, fun hh => by omega, C1.trans (grown_below HK.out.2 C1.size (fun k hk => by simp at hk; omega))⟩
    have hh := HK.out.1
    rw [List.replicate_succ, List.set_cons_zero] at hh
    rw [tabG_start]
    exact hh
  case round =>
    obtain ⟨x, hx, rfl, hO, hE, hB⟩ := hrel
    by_cases hlt : x ≤ n
    · have c0 : (x : Int) < n + 1 := by omega
      have hO1 := hO.out hlt
      clear hO hE
      go_wp2
      go_loopw [22] (fun i wq => ∃ j : Nat, j ≤ cs.length ∧ i = .int .i64 j ∧ Ow wq w.heap.size (.slice (some ⟨g, 0, none⟩) (n + 1) c) (tabG cs n x j) ∧ Below w.heap.size w wq) (fun i _ => cs.length - (intOf i).toNat)
      case atStart => exact ⟨0, Nat.zero_le _, rfl, hO1, hB⟩
      case round =>
        clear hO1
        obtain ⟨j, hj, rfl, hO2, hB2⟩ := hrel
        by_cases hlt2 : j < cs.length
        · obtain ⟨ad, q, rfl, hq, hc⟩ := (HB.out.below hB2).at_ hlt2
          have bq := HX.out q (List.mem_of_getElem? hq.out)
          obtain ⟨d, rfl⟩ : ∃ d : Nat, q = d := ⟨q.toNat, by omega⟩
          have bq1 := bq.1
          have hlen := tabG_len cs j hlt
          by_cases hle : d ≤ x
          · obtain ⟨g1, a, eg1, ha, hca, _, _⟩ := hO2.at_ (k := x - d) (by omega)
            obtain rfl : g = g1 := by cases eg1; rfl
            obtain ⟨g2, b, eg2, hb', hcb, hfb, hst⟩ := hO2.at_ (k := x) (by omega)
            obtain rfl : g = g2 := by cases eg2; rfl
            have hag := tabG_low (by omega) hle ha.out
            have hbg := tabG_cur hb'.out
            obtain ⟨a0, a1⟩ := genT_bound HX1.out hag
            have c1 : (d : Int) ≤ x := by omega
            have c2 : (0 : Int) ≤ x := by omega
            have t0 : IntKind.i64.wrap ((x : Int) - d) = (x : Int) - d := IntWalk.i64_in _ (by omega)
            have t3 : ((x : Int) - d).toNat = x - d := by omega
            have t4 : (0 : Int) ≤ (x : Int) - d := by omega
            have t5 : (x : Int) - d < n + 1 := by omega
            by_cases ha0 : 0 ≤ a
            · by_cases hab : b < 0 ∨ a + 1 < b
              · have HS := Lib.hid (tabG_set (n := n) (bestG_set hq.out hle hag ha0 (by rw [← hbg]; exact hab)))
                have HST := Lib.hid (hst (a + 1))
                clear hst hq hlen hO2 eg1 eg2 ha hb' hag hbg
                by_cases hb0 : b < 0
                · clear hab
                  go_wp2
                  go_quiet (fail)
                  go_wp2
                  go_roundw
                  case rel =>
                    have hs := HST.out
                    rw [← HS.out] at hs
                    exact ⟨j + 1, by omega, by go_num, hs.1, hB2.trans (below_drewN (grown_below hs.2 hB2.size (fun k hk => by simp at hk; omega)) nq)⟩
                  case measure => simp [intOf]; omega
                · have hab2 : a + 1 < b := by omega
                  have t1 : IntKind.i64.wrap (a + 1) = a + 1 := IntWalk.i64_in _ (by omega)
                  clear hab
                  go_wp2
                  go_quiet (fail)
                  go_wp2
                  go_roundw
                  case rel =>
                    have hs := HST.out
                    rw [← HS.out] at hs
                    exact ⟨j + 1, by omega, by go_num, hs.1, hB2.trans (below_drewN (grown_below hs.2 hB2.size (fun k hk => by simp at hk; omega)) nq)⟩
                  case measure => simp [intOf]; omega
              · have HS := Lib.hid (tabG_same (n := n) (bestG_keep hq.out hag (by rw [← hbg]; exact fun hh => hab hh.2)))
                have hb0 : ¬ b < 0 := by omega
                have hab2 : ¬ a + 1 < b := by omega
                have t1 : IntKind.i64.wrap (a + 1) = a + 1 := IntWalk.i64_in _ (by omega)
                have HO := Lib.hid hO2
                clear hst hq hlen hO2 eg1 eg2 ha hb' hab hag hbg
                go_wp2
                go_quiet (fail)
                go_wp2
                go_roundw
                case rel => exact ⟨j + 1, by omega, by go_num, by rw [HS.out]; exact HO.out, below_drewN hB2 nq⟩
                case measure => simp [intOf]; omega
            · have HS := Lib.hid (tabG_same (n := n) (bestG_keep hq.out hag (fun hh => ha0 hh.1)))
              have HO := Lib.hid hO2
              obtain rfl : a = -1 := by omega
              clear hst hq hlen hO2 eg1 eg2 ha hb' hag hbg ha0 a0 a1
              go_wp2
              go_quiet (fail)
              go_wp2
              go_roundw
              case rel => exact ⟨j + 1, by omega, by go_num, by rw [HS.out]; exact HO.out, below_drewN hB2 nq⟩
              case measure => simp [intOf]; omega
          · have HS := Lib.hid (tabG_same (n := n) (bestG_skip hq.out hle))
            have c1 : (x : Int) < d := by omega
            have HO := Lib.hid hO2
            clear hq hlen hO2
            go_wp2
            go_quiet (fail)
            go_wp2
            go_roundw
            case rel => exact ⟨j + 1, by omega, by go_num, by rw [HS.out]; exact HO.out, below_drewN hB2 nq⟩
            case measure => simp [intOf]; omega
        · have hjl : j = cs.length := by omega
          subst hjl
          have HO := Lib.hid hO2
          clear hO2
          go_wp2
          go_roundw
          case rel => exact ⟨x + 1, by omega, by go_num, fun hh => by rw [← tabG_next (by omega)]; exact HO.out, fun hh => by (have hxe : x = n := by omega); subst hxe; rw [← tabG_end]; exact HO.out, hB2⟩
          case measure => simp [intOf]; omega
    · have hxn : x = n + 1 := by omega
      subst hxn
      have HO := Lib.hid (hE.out rfl)
      clear hO hE
      go_wp2
      go_ret
      exact ⟨_, _, rfl, HO.out, hB⟩

/-- So many coins, for which fewer ones do not do. -/
theorem reaches_any (B : Option Addr) (cb n s : Nat) (cs : List Int) (w : World) (hb : Rd w B cs) (hcs : ∀ x ∈ cs, (1 : Int) ≤ x ∧ x ≤ 1000) (hne : 0 < cs.length) (hl : cs.length ≤ 1000) (hn : n ≤ 400) (hs : s ≤ 400) :
    Calls Try.prog 50 #[.slice B cs.length cb, .int .i64 (n : Int), .int .i64 (s : Int)] w fun e w' => ∃ v : Int, Fewest cs n v ∧ e = .returned (.bool (v == (s : Int))) ∧ Below w.heap.size w w' := by
  have HLaw := Lib.hid (genT_law (fun x hx => (hcs x hx).1) (n + 1))
  have HF := Lib.hid (fewestG_any B cb n cs w hb hcs hne hl hn)
  have n0 : (0 : Int) ≤ n := by omega
  have s0 : (0 : Int) ≤ s := by omega
  clear hb hcs
  go_enter Try.func50, Try.ntmps50
  go_wp2_with fail
  refine (HF.out).mono ?_
  rintro e w1 ⟨A, c, rfl, O1, B1⟩
  obtain ⟨v, hv, hFe⟩ := HLaw.out n (by omega)
  obtain ⟨g, a, rfl, ha, hca, _, _⟩ := O1.at_ (k := n) (by rw [genT_len]; omega)
  obtain rfl : v = a := by have := ha.out; rw [hv] at this; exact Option.some.inj this
  have HFe := Lib.hid hFe
  have t1 : (n : Int) < n + 1 := by omega
  clear O1 ha hv hFe
  go_wp2
  go_ret
  exact ⟨v, HFe.out, rfl, B1⟩
end Go.Proofs.Ytlhabcpoemcpjaa
