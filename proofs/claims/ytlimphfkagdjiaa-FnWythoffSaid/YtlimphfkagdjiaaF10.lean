/-
  WALKS: the drawn Fibonacci digits: l10Draw, MakeFib. No statement of the seat is proved here.
-/
import Derived.Test.YtlimphfkagdjiaaMath7
import Derived.Test.YtlimphfkagdjiaaCur
import Derived.Test.YtlimphfkagdjiaaSame
namespace Go.Proofs.Ytlimphfkagdjiaa
open Go.RowKit

theorem lsm_sumQ (xs : List Int) : sumQ xs = lsm xs := by
  induction xs with
  | nil => rfl
  | cons x xs ih => simp only [sumQ, lsm, ih]
theorem Ap.kept1 {w w' : World} {base g : Nat} {v : Value} {xs : List Int} (h : Ap w base v xs) (hG : w.grownBy w' (some g)) (hg : g < base) : Ap w' base v xs := by
  refine h.kept hG ?_
  rcases hv : v.ownBlock with _ | k
  · exact .inl rfl
  · right
    have := (h.lt k hv).1
    intro e
    have := Option.some.inj e
    omega

set_option maxHeartbeats 3200000 in
theorem l10Draw_c {base g c : Nat} {A : Option Addr} {xs : List Int} {w : World} (h : CurIn w base g A c xs) (hs : base ≤ w.heap.size) (hA : 0 < xs.length → ∀ ad, A = some ad → ad.block < base) (hb : ∀ x ∈ xs, 0 ≤ x ∧ x ≤ 255) (hl : xs.length ≤ 1099511627776) :
    Calls Try.prog 68 #[.pointer (some ⟨g, 0, none⟩)] w fun e w' => ∃ A' c' ds, e = .returned (.slice A' ds.length c') ∧ fibOkB ds = true ∧ ds.length ≤ 13 ∧ Ow w' base (.slice A' ds.length c') ds ∧ Below base w w' := by
  have hg := h.cur.lt
  have BL := Lib.hid (fun (n : Int) (n0 : 1 ≤ n) (n1 : n ≤ 1000000) (u : World) (hC : CurIn u base g A c xs) (hu : base ≤ u.heap.size) => below_c n n0 n1 hC hu hA hb hl)
  have HC0 : Hid (CurIn (w.alloc (.cells #[] 3)) base g A c xs) := by
    have b1 : Below w.heap.size w (w.alloc (.cells #[] 3)) := (Below.refl _ _).alloc (Nat.le_refl _) _
    exact ⟨h.cur.below b1 hg, h.rd.far (fun hn ad e => Nat.lt_of_lt_of_le (hA hn ad e) hs) b1⟩
  have HA := Lib.hid hA
  have HB0 : Hid (Below base w (w.alloc (.cells #[] 3))) := (Below.refl _ _).alloc hs _
  have HO0 := Lib.hid (Ap.empty w w.heap.size (Nat.le_refl _))
  clear h hA hb
  go_enter Try.func68, Try.ntmps68
  go_wp2_with fail
  refine (BL.out 14 (by omega) (by omega) _ HC0.out (Nat.le_trans hs HB0.out.size)).mono ?_
  rintro e w1 ⟨m, rfl, m0, m1, hC1, hG1, hB1⟩
  obtain ⟨N, rfl⟩ : ∃ N : Nat, m = N := ⟨m.toNat, by omega⟩
  have HO1 := Lib.hid (HO0.out.kept1 hG1 hg)
  have HB1 := Lib.hid (HB0.out.trans hB1)
  have hz1 : w.heap.size ≤ w1.heap.size := Nat.le_trans (by simp) hG1.size
  clear hG1 hB1 HC0 HB0 HO0
  go_wp2
  go_loopw [3, 4] (fun v i wr => ∃ (k : Nat) (l : List Int), k ≤ N ∧ i = .int .i64 ((N : Int) - k) ∧ Hid (l.length = k) ∧ Hid (Bits l) ∧ Ap wr w.heap.size v l ∧ CurIn wr base g A c xs ∧ Below base w wr ∧ w.heap.size ≤ wr.heap.size) (fun _ i _ => (intOf i).toNat)
  case atStart => exact ⟨0, [], Nat.zero_le _, by go_num, rfl, (fun x hx => by cases hx), HO1.out, hC1, HB1.out, hz1⟩
  case round =>
    obtain ⟨k, l, hk, rfl, hll, HBit, hO, hC, hB, hz⟩ := hrel
    have hsr : base ≤ wr.heap.size := by omega
    obtain ⟨A0, c0, rfl⟩ := hO.form
    by_cases hlt : k < N
    · have t1 : (0 : Int) < (N : Int) - k := by omega
      go_wp2_with fail
      refine (BL.out 2 (by omega) (by omega) _ hC hsr).mono ?_
      rintro e w2 ⟨b, rfl, b0, b1, hC2, hG2, hB2⟩
      have hO2 := hO.kept1 hG2 hg
      have hB3 := hB.trans hB2
      have hz2 : w.heap.size ≤ w2.heap.size := Nat.le_trans hz hG2.size
      have hL : l.length < 1099511627776 := by have := hll.out; omega
      go_wp2_with (at_builtin; refine wpList_app1 hO2 hL hz2 rfl _ _ 24 rfl rfl rfl rfl ?_; intro v' w' O' B')
      go_roundw
      case rel =>
        exact ⟨k + 1, l ++ [b], by omega, (by congr 1; omega), (show (l ++ [b]).length = k + 1 by have := hll.out; simp [this]), HBit.out.snoc (by omega), O', ⟨hC2.cur.below B' hg, hC2.rd.far (fun hn ad e => Nat.lt_of_lt_of_le (HA.out hn ad e) hs) B'⟩, hB3.trans (B'.mono hs), Nat.le_trans hz2 B'.size⟩
      case measure => simp [intOf]; omega
    · have hkN : k = N := by omega
      subst hkN
      have t1 : ¬ (0 : Int) < (k : Int) - k := by omega
      have HO := Lib.hid (hO.ow.more hs)
      have HBB := Lib.hid hB
      clear hO hC hB
      go_wp2_with fail
      refine (l03Trim_any _ _ _ _ _ _ HO.out (by have := hll.out; omega)).mono ?_
      rintro e w' ⟨A', rfl, O', rfl⟩
      have hlen := trimL_le l
      have hlk := Lib.hid (show (trimL l).length ≤ 13 by have := hll.out; omega)
      clear hlen
      go_wp2
      go_ret
      exact ⟨A', _, trimL l, rfl, fibOk_of (by have := hlk.out; omega) (trimL_end l) HBit.out.trim, hlk.out, O', HBB.out⟩

theorem makeFib_c (N : Nat) (hN : N ≤ 1000) (A : Option Addr) (c : Nat) (xs : List Int) (w : World) (hr : Rd8 w A xs) (hA : 0 < xs.length → ∀ ad, A = some ad → ad.block < w.heap.size) (hb : ∀ x ∈ xs, 0 ≤ x ∧ x ≤ 255) (hl : xs.length ≤ 1099511627776) :
    Calls Try.prog 44 #[.slice A xs.length c, .int .i64 (N : Int)] w fun e w' => ∃ A' c' ds, e = .returned (.slice A' ds.length c') ∧ fibOkB ds = true ∧ ds.length ≤ 13 ∧ Ow w' w.heap.size (.slice A' ds.length c') ds ∧ Below w.heap.size w w' := by
  have NC := Lib.hid (newN_c N hN A c xs w w.heap.size (Nat.le_refl _) hr hA hb hl)
  go_enter Try.func44, Try.ntmps44
  go_wp2_with fail
  refine (NC.out).mono ?_
  rintro e w1 ⟨g, rfl, hg, hC, hB⟩
  go_wp2_with fail
  refine (l10Draw_c hC hB.size hA hb hl).mono ?_
  rintro e w2 ⟨A', c', ds, rfl, hM, hl13, hO, hB2⟩
  go_wp2
  go_ret
  exact ⟨A', c', ds, rfl, hM, hl13, hO, hB.trans hB2⟩
end Go.Proofs.Ytlimphfkagdjiaa
