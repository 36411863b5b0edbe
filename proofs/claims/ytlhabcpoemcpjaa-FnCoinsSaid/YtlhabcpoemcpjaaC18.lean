/-
  WALKS: the drawn coins: l11Draw, MakeCoins. No statement of the seat is proved here.
-/
import Derived.Test.YtlhabcpoemcpjaaC17
import Derived.Test.YtlhabcpoemcpjaaCur
import Derived.Test.YtlhabcpoemcpjaaReg
import Derived.Test.YtlhabcpoemcpjaaSame
import Derived.Deep.RegionLaw
namespace Go.Proofs.Ytlhabcpoemcpjaa
open Go.RowKit

theorem Ap.kept1 {w w' : World} {base g : Nat} {v : Value} {xs : List Int} (h : Ap w base v xs) (hG : w.grownBy w' (some g)) (hg : g < base) : Ap w' base v xs := by
  refine h.kept hG ?_
  rcases hv : v.ownBlock with _ | k
  · exact .inl rfl
  · right
    have := (h.lt k hv).1
    intro e
    have := Option.some.inj e
    omega
/-- What the loop of l11Draw keeps. -/
structure DrawSt (k : Nat) (l : List Int) : Prop where
  len : l.length = k + 1
  one : l[0]? = some 1
  inc : ∀ (i : Nat) (x y : Int), l[i]? = some x → l[i + 1]? = some y → x < y
  top : ∀ x ∈ l, (1 : Int) ≤ x ∧ x ≤ 1 + 9 * k
theorem DrawSt.step {k : Nat} {l : List Int} {x b : Int} (h : DrawSt k l) (hx : l[k]? = some x) (b0 : 0 ≤ b) (b1 : b ≤ 8) : DrawSt (k + 1) (l ++ [x + 1 + b]) := by
  obtain ⟨h1, h2, h3, h4⟩ := h
  have bx := h4 x (List.mem_of_getElem? hx)
  refine ⟨by simp [h1], by rw [List.getElem?_append_left (by omega)]; exact h2, fun i u v hu hv => ?_, fun v hv => ?_⟩
  · by_cases e : i + 1 < l.length
    · rw [List.getElem?_append_left (by omega)] at hu
      rw [List.getElem?_append_left e] at hv
      exact h3 i u v hu hv
    · have hi := (List.getElem?_eq_some_iff.1 hv).1
      simp at hi
      obtain rfl : i = k := by omega
      rw [List.getElem?_append_left (by omega), hx] at hu
      rw [List.getElem?_append_right (by omega), show i + 1 - l.length = 0 by omega] at hv
      have e1 := Option.some.inj hu
      have e2 : x + 1 + b = v := by simpa using hv
      omega
  · rcases List.mem_append.1 hv with hv | hv
    · have := h4 v hv; omega
    · rw [List.mem_singleton.1 hv]; omega
theorem DrawSt.coins {k : Nat} {l : List Int} (h : DrawSt k l) (hk : k ≤ 4) : coinsB l = true := by
  obtain ⟨h1, h2, h3, h4⟩ := h
  have : coinsSoFar l l.length := by
    intro i hi
    have hx : l[i]? = some l[i] := List.getElem?_eq_getElem hi
    have bx := h4 _ (List.mem_of_getElem? hx)
    cases i with
    | zero =>
      rw [coinAt_zero hx, inB_of ⟨bx.1, by omega⟩]
      rw [hx] at h2
      rw [Option.some.inj h2]
      rfl
    | succ i =>
      have hy : l[i]? = some (l[i]'(by omega)) := List.getElem?_eq_getElem _
      rw [coinAt_pos (by omega) hx (y := l[i]'(by omega)) (by rw [Nat.add_sub_cancel]; exact hy), inB_of ⟨bx.1, by omega⟩, Bool.true_and]
      exact decide_eq_true (h3 i _ _ hy hx)
  rw [coinsB_end this]
  exact inB_of ⟨by omega, by omega⟩

set_option maxHeartbeats 3200000 in
theorem l11Draw_c {base g c : Nat} {A : Option Addr} {xs : List Int} {w : World} (h : CurIn w base g A c xs) (hs : base ≤ w.heap.size) (hA : 0 < xs.length → ∀ ad, A = some ad → ad.block < base) (hb : ∀ x ∈ xs, 0 ≤ x ∧ x ≤ 255) (hl : xs.length ≤ 1099511627776) :
    Calls Try.prog 51 #[.pointer (some ⟨g, 0, none⟩)] w fun e w' => ∃ A' c' ds, e = .returned (.slice A' ds.length c') ∧ coinsB ds = true ∧ ds.length ≤ 5 ∧ Ow w' base (.slice A' ds.length c') ds ∧ Below base w w' := by
  have hg := h.cur.lt
  have BL := Lib.hid (fun (n : Int) (n0 : 1 ≤ n) (n1 : n ≤ 1000000) (u : World) (hC : CurIn u base g A c xs) (hu : base ≤ u.heap.size) => below_c n n0 n1 hC hu hA hb hl)
  have HC0 : Hid (CurIn (w.alloc (.cells #[.int .i64 1] 3)) base g A c xs) := by
    have b1 : Below w.heap.size w (w.alloc (.cells #[.int .i64 1] 3)) := (Below.refl _ _).alloc (Nat.le_refl _) _
    exact ⟨h.cur.below b1 hg, h.rd.far (fun hn ad e => Nat.lt_of_lt_of_le (hA hn ad e) hs) b1⟩
  have HA := Lib.hid hA
  have HB0 : Hid (Below base w (w.alloc (.cells #[.int .i64 1] 3))) := (Below.refl _ _).alloc hs _
  have HO0 := Lib.hid (Ap.one2 w 1)
  have HD0 : Hid (DrawSt 0 [1]) := ⟨rfl, rfl, fun i x y _ hy => by simp at hy, fun x hx => by rw [List.mem_singleton.1 hx]; omega⟩
  clear h hA hb
  go_enter Try.func51, Try.ntmps51
  go_wp2_with fail
  refine (BL.out 5 (by omega) (by omega) _ HC0.out (Nat.le_trans hs HB0.out.size)).mono ?_
  rintro e w1 ⟨m, rfl, m0, m1, hC1, hG1, hB1⟩
  obtain ⟨N, rfl⟩ : ∃ N : Nat, m = N := ⟨m.toNat, by omega⟩
  have HO1 := Lib.hid (HO0.out.kept1 hG1 hg)
  have HB1 := Lib.hid (HB0.out.trans hB1)
  have hz1 : w.heap.size ≤ w1.heap.size := Nat.le_trans (by simp) hG1.size
  clear hG1 hB1 HC0 HB0 HO0
  go_wp2
  go_loopw [3, 4] (fun v i wr => ∃ (k : Nat) (l : List Int), k ≤ N ∧ i = .int .i64 ((N : Int) - k) ∧ Hid (DrawSt k l) ∧ Ap wr w.heap.size v l ∧ CurIn wr base g A c xs ∧ Below base w wr ∧ w.heap.size ≤ wr.heap.size) (fun _ i _ => (intOf i).toNat)
  case atStart => exact ⟨0, [1], Nat.zero_le _, by go_num, HD0.out, HO1.out, hC1, HB1.out, hz1⟩
  case round =>
    clear HD0
    obtain ⟨k, l, hk, rfl, hD, hO, hC, hB, hz⟩ := hrel
    have hsr : base ≤ wr.heap.size := by omega
    obtain ⟨A0, c0, rfl⟩ := hO.form
    by_cases hlt : k < N
    · have t1 : (0 : Int) < (N : Int) - k := by omega
      have hL : l.length < 1099511627776 := by have := hD.out.len; omega
      obtain ⟨gl, x, rfl, hx, hcell, hfr, _⟩ := hO.ow.at_ (k := k) (by have := hD.out.len; omega)
      have hgl : w.heap.size ≤ gl ∧ gl < wr.heap.size := hO.lt gl rfl
      have bx := hD.out.top x (List.mem_of_getElem? hx.out)
      obtain ⟨bx0, bx1⟩ := bx
      have hlen := Lib.hid hD.out.len
      have l1 : (l.length : Int) - 1 = k := by have := hD.out.len; omega
      have l2 : IntKind.i64.wrap ((l.length : Int) - 1) = k := by rw [l1]; exact IntWalk.i64_in _ (by omega)
      have l3 : (k : Int) < l.length := by have := hD.out.len; omega
      have l4 : (0 : Int) ≤ k := by omega
      have l5 : IntKind.i64.wrap (x + 1) = x + 1 := IntWalk.i64_in _ (by omega)
      have HX := Lib.hid hx.out
      have hCr : CurIn wr base g A c xs := hC
      have l7 : IntKind.i64.wrap (k : Int) = k := IntWalk.i64_in _ (by omega)
      clear hx hfr
      go_wp2_with fail
      go_region_law
        (first
          | ((refine step_app1 hO2 ⟨rfl, rfl, rfl, rfl⟩ hL hz2 (by rfl) _ _ 22 (by rfl) (by rfl) (by rfl) (by rfl) ?_; intro A' c' w' O' B'))
          | ((go_simp; go_at_call 58; refine (BL.out 9 (by omega) (by omega) wr.drew ⟨hCr.cur, hCr.rd⟩ hsr).mono ?_; rintro e w2 ⟨b, rfl, b0, b1, hC2, hG0, hB0⟩; have hG2 : wr.grownBy w2 (some g) := ⟨hG0.os, hG0.tape, hG0.output, hG0.size, hG0.block⟩; have hB2 : Below base wr w2 := ⟨hB0.os, hB0.tape, hB0.output, hB0.size, hB0.block⟩; have l6 : IntKind.i64.wrap (x + 1 + b) = x + 1 + b := IntWalk.i64_in _ (by omega); have hO2 := hO.kept1 hG2 hg; have hcell2 : w2.cell? ⟨gl, k, none⟩ = some (.int .i64 x) := (World.cell?_of_block (hG2.block gl hgl.2 (by intro e; have := Option.some.inj e; omega))).trans hcell; have hz2 : w.heap.size ≤ w2.heap.size := Nat.le_trans hz hG2.size)))
      all_goals (
        have HD' := Lib.hid (hD.out.step HX.out b0 (by omega))
        have HC' : Hid (CurIn w' base g A c xs) := ⟨hC2.cur.below B' hg, hC2.rd.far (fun hn ad e => Nat.lt_of_lt_of_le (HA.out hn ad e) hs) B'⟩
        have HB' := Lib.hid (hB.trans (hB2.trans (B'.mono hs)))
        have HZ' := Lib.hid (Nat.le_trans hz2 B'.size)
        have HO' : Hid (Ap w' w.heap.size (.slice A' (l ++ [x + 1 + b]).length c') (l ++ [x + 1 + b])) := by
          have e : (l ++ [x + 1 + b]).length = l.length + 1 := by simp
          unfold Hid; rw [e]; exact O'
        have HL' : Hid ((l ++ [x + 1 + b]).length = l.length + 1) := by unfold Hid; simp
        clear hC2 hB2 hG2 hG0 hB0 hO2 hcell2 hC hCr hB hO O' B'
        go_wp2
        go_roundw
        case rel => exact ⟨k + 1, l ++ [x + 1 + b], by omega, (by congr 1; omega), HD'.out, (by have h := HO'.out; rw [HL'.out] at h; exact h), HC'.out, HB'.out, HZ'.out⟩
        case measure => simp [intOf]; omega)
    · have hkN : k = N := by omega
      subst hkN
      have t1 : ¬ (0 : Int) < (k : Int) - k := by omega
      have HO := Lib.hid (hO.ow.more hs)
      have HBB := Lib.hid hB
      clear hO hC hB
      go_wp2
      go_ret
      exact ⟨A0, _, l, rfl, hD.out.coins (by omega), (by have := hD.out.len; omega), HO.out, HBB.out⟩

theorem makeCoins_c (N : Nat) (hN : N ≤ 1000) (A : Option Addr) (c : Nat) (xs : List Int) (w : World) (hr : Rd8 w A xs) (hA : 0 < xs.length → ∀ ad, A = some ad → ad.block < w.heap.size) (hb : ∀ x ∈ xs, 0 ≤ x ∧ x ≤ 255) (hl : xs.length ≤ 1099511627776) :
    Calls Try.prog 35 #[.slice A xs.length c, .int .i64 (N : Int)] w fun e w' => ∃ A' c' ds, e = .returned (.slice A' ds.length c') ∧ coinsB ds = true ∧ ds.length ≤ 5 ∧ Ow w' w.heap.size (.slice A' ds.length c') ds ∧ Below w.heap.size w w' := by
  have NC := Lib.hid (newN_c N hN A c xs w w.heap.size (Nat.le_refl _) hr hA hb hl)
  go_enter Try.func35, Try.ntmps35
  go_wp2_with fail
  refine (NC.out).mono ?_
  rintro e w1 ⟨g, rfl, hg, hC, hB⟩
  go_wp2_with fail
  refine (l11Draw_c hC hB.size hA hb hl).mono ?_
  rintro e w2 ⟨A', c', ds, rfl, hM, hl5, hO, hB2⟩
  go_wp2
  go_ret
  exact ⟨A', c', ds, rfl, hM, hl5, hO, hB.trans hB2⟩
end Go.Proofs.Ytlhabcpoemcpjaa
