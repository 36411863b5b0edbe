/-
  WALKS: the drawn radices: l07Draw, MakeRadices, RangeOf. No statement of the seat is proved here.
-/
import Derived.Test.YthnpobbpmgjhjaaDoorD1
import Derived.Test.YthnpobbpmgjhjaaDoorCur
namespace Go.Proofs.YthnpobbpmgjhjaaDoor
open Go.RowKit

theorem Ap.kept1 {w w' : World} {base g : Nat} {v : Value} {xs : List Int} (h : Ap w base v xs) (hG : w.grownBy w' (some g)) (hg : g < base) : Ap w' base v xs := by
  refine h.kept hG ?_
  rcases hv : v.ownBlock with _ | k
  · exact .inl rfl
  · right
    have := (h.lt k hv).1
    intro e
    have := Option.some.inj e
    omega
theorem rad_small {l : List Int} (h1 : 1 ≤ l.length) (h4 : l.length ≤ 4) (h : ∀ x ∈ l, (2 : Int) ≤ x ∧ x ≤ 12) : radB l = true := by
  unfold radB
  have hp := prodI_le (xs := l) (M := 12) (fun x hx => by have := h x hx; omega) (by omega)
  have hm := pow_mono (M := 12) (by omega) h4
  have e : (12 : Int) ^ 4 = 20736 := by decide
  have ha : allB l 2 60 = true := by
    unfold allB
    rw [List.all_eq_true]
    exact fun x hx => inB_of (by have := h x hx; omega)
  rw [inB_of ⟨by omega, by omega⟩, ha, decide_eq_true (by omega)]
  rfl

set_option maxHeartbeats 3200000 in
theorem l07Draw_c {base g c : Nat} {A : Option Addr} {xs : List Int} {w : World} (h : CurIn w base g A c xs) (hs : base ≤ w.heap.size) (hA : 0 < xs.length → ∀ ad, A = some ad → ad.block < base) (hb : ∀ x ∈ xs, 0 ≤ x ∧ x ≤ 255) (hl : xs.length ≤ 1099511627776) :
    Calls Tryd.prog 28 #[.pointer (some ⟨g, 0, none⟩)] w fun e w' => ∃ A' c' ds, e = .returned (.slice A' ds.length c') ∧ radB ds = true ∧ Ow w' base (.slice A' ds.length c') ds ∧ Below base w w' := by
  have hg := h.cur.lt
  have BL := Lib.hid (fun (n : Int) (n0 : 1 ≤ n) (n1 : n ≤ 1000000) (u : World) (hC : CurIn u base g A c xs) (hu : base ≤ u.heap.size) => below_c n n0 n1 hC hu hA hb hl)
  have HC0 : Hid (CurIn (w.alloc (.cells #[] 3)) base g A c xs) := by
    have b1 : Below w.heap.size w (w.alloc (.cells #[] 3)) := (Below.refl _ _).alloc (Nat.le_refl _) _
    exact ⟨h.cur.below b1 hg, h.rd.far (fun hn ad e => Nat.lt_of_lt_of_le (hA hn ad e) hs) b1⟩
  have HA := Lib.hid hA
  have HB0 : Hid (Below base w (w.alloc (.cells #[] 3))) := (Below.refl _ _).alloc hs _
  have HO0 := Lib.hid (Ap.empty w w.heap.size (Nat.le_refl _))
  clear h hA hb
  go_enter Tryd.func28, Tryd.ntmps28
  go_wp2_with fail
  refine (BL.out 4 (by omega) (by omega) _ HC0.out (Nat.le_trans hs HB0.out.size)).mono ?_
  rintro e w1 ⟨m, rfl, m0, m1, hC1, hG1, hB1⟩
  obtain ⟨N, hN⟩ : ∃ N : Nat, 1 + m = (N : Int) := ⟨(1 + m).toNat, by omega⟩
  have HO1 := Lib.hid (HO0.out.kept1 hG1 hg)
  have HB1 := Lib.hid (HB0.out.trans hB1)
  have hz1 : w.heap.size ≤ w1.heap.size := Nat.le_trans (by simp) hG1.size
  have N1 : 1 ≤ N := by omega
  have N4 : N ≤ 4 := by omega
  have HN := Lib.hid hN
  clear hG1 hB1 HC0 HB0 HO0
  go_wp2
  clear hN
  go_loopw [3, 4] (fun v i wr => ∃ (k : Nat) (l : List Int), k ≤ N ∧ i = .int .i64 ((N : Int) - k) ∧ Hid (l.length = k) ∧ Hid (∀ x ∈ l, (2 : Int) ≤ x ∧ x ≤ 12) ∧ Ap wr w.heap.size v l ∧ CurIn wr base g A c xs ∧ Below base w wr ∧ w.heap.size ≤ wr.heap.size) (fun _ i _ => (intOf i).toNat)
  case atStart => exact ⟨0, [], Nat.zero_le _, (by congr 1 <;> (have := HN.out; omega)), rfl, (fun x hx => by cases hx), HO1.out, hC1, HB1.out, hz1⟩
  case round =>
    clear HN
    obtain ⟨k, l, hk, rfl, hll, hbit, hO, hC, hB, hz⟩ := hrel
    have hsr : base ≤ wr.heap.size := by omega
    obtain ⟨A0, c0, rfl⟩ := hO.form
    by_cases hlt : k < N
    · have t1 : (0 : Int) < (N : Int) - k := by omega
      go_wp2_with fail
      refine (BL.out 11 (by omega) (by omega) _ hC hsr).mono ?_
      rintro e w2 ⟨b, rfl, b0, b1, hC2, hG2, hB2⟩
      have hO2 := hO.kept1 hG2 hg
      have hB3 := hB.trans hB2
      have hz2 : w.heap.size ≤ w2.heap.size := Nat.le_trans hz hG2.size
      have hL : l.length < 1099511627776 := by have := hll.out; omega
      go_wp2_with (at_builtin; refine wpList_app1 hO2 hL hz2 rfl _ _ 26 rfl rfl rfl rfl ?_; intro v' w' O' B')
      have HX : Hid (∀ x ∈ l ++ [2 + b], (2 : Int) ≤ x ∧ x ≤ 12) := fun x hx => by
        rcases List.mem_append.1 hx with hx | hx
        · exact hbit.out x hx
        · rw [List.mem_singleton.1 hx]; omega
      go_roundw
      case rel =>
        exact ⟨k + 1, l ++ [2 + b], by omega, (by congr 1; omega), (show (l ++ [2 + b]).length = k + 1 by have := hll.out; simp [this]), HX.out, O', ⟨hC2.cur.below B' hg, hC2.rd.far (fun hn ad e => Nat.lt_of_lt_of_le (HA.out hn ad e) hs) B'⟩, hB3.trans (B'.mono hs), Nat.le_trans hz2 B'.size⟩
      case measure => simp [intOf]; omega
    · have hkN : k = N := by omega
      subst hkN
      have t1 : ¬ (0 : Int) < (k : Int) - k := by omega
      have HO := Lib.hid (hO.ow.more hs)
      have HBB := Lib.hid hB
      clear hO hC hB
      go_wp2
      go_ret
      exact ⟨A0, _, l, rfl, rad_small (by have := hll.out; omega) (by have := hll.out; omega) hbit.out, HO.out, HBB.out⟩

theorem makeRadices_c (N : Nat) (hN : N ≤ 1000) (A : Option Addr) (c : Nat) (xs : List Int) (w : World) (hr : Rd8 w A xs) (hA : 0 < xs.length → ∀ ad, A = some ad → ad.block < w.heap.size) (hb : ∀ x ∈ xs, 0 ≤ x ∧ x ≤ 255) (hl : xs.length ≤ 1099511627776) :
    Calls Tryd.prog 10 #[.slice A xs.length c, .int .i64 (N : Int)] w fun e w' => ∃ A' c' ds, e = .returned (.slice A' ds.length c') ∧ radB ds = true ∧ Ow w' w.heap.size (.slice A' ds.length c') ds ∧ Below w.heap.size w w' := by
  have NC := Lib.hid (newN_c N hN A c xs w w.heap.size (Nat.le_refl _) hr hA hb hl)
  go_enter Tryd.func10, Tryd.ntmps10
  go_wp2_with fail
  refine (NC.out).mono ?_
  rintro e w1 ⟨g, rfl, hg, hC, hB⟩
  go_wp2_with fail
  refine (l07Draw_c hC hB.size hA hb hl).mono ?_
  rintro e w2 ⟨A', c', ds, rfl, hM, hO, hB2⟩
  go_wp2
  go_ret
  exact ⟨A', c', ds, rfl, hM, hO, hB.trans hB2⟩
theorem sRangeOf_c (A : Option Addr) (c : Nat) (rs : List Int) (w : World) (hr : Rd w A rs) (h : radB rs = true) :
    Calls Tryd.prog 11 #[.slice A rs.length c] w fun e w' => e = .returned (.int .i64 (prodI rs)) ∧ w = w' := by
  obtain ⟨p1, p2, p3, p4, p5⟩ := radB_parts h
  have HO := sRadicesOk_any A c rs w hr (by omega)
  rw [h] at HO
  have HO2 := Lib.hid HO
  have HRg := Lib.hid (l07Range_any A c rs w hr (by omega) (prodIn_60 p2 p3))
  clear HO
  go_enter Tryd.func11, Tryd.ntmps11
  go_wp2_with fail
  refine (HO2.out).mono ?_
  rintro e w' ⟨rfl, rfl⟩
  go_wp2_with fail
  refine (HRg.out).mono ?_
  rintro e w' ⟨rfl, rfl⟩
  go_wp2
  go_ret
  exact ⟨rfl, rfl⟩
end Go.Proofs.YthnpobbpmgjhjaaDoor
