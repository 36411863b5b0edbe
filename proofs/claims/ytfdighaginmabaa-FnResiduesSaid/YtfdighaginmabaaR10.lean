/-
  WALKS: the drawn moduli: l13Draw, MakeModuli, MakeProduct. No statement of the seat is proved here.
-/
import Derived.Test.YtfdighaginmabaaR9
namespace Go.Proofs.Ytfdighaginmabaa
open Go.RowKit

theorem Rd.grown1 {w w' : World} {A : Option Addr} {xs : List Int} {g : Nat} (h : Rd w A xs) (hG : w.grownBy w' (some g)) (hne : ∀ ad, A = some ad → ad.block ≠ g) : Rd w' A xs := fun hn => by
  obtain ⟨ad, e, hc⟩ := h hn
  refine ⟨ad, e, fun j hj => ?_⟩
  rw [World.cell?_of_block (hG.block _ (cell_lt (hc j hj)) (by rw [block_add]; intro e2; exact hne ad e (Option.some.inj e2)))]
  exact hc j hj
theorem Ap.kept1 {w w' : World} {base g : Nat} {v : Value} {xs : List Int} (h : Ap w base v xs) (hG : w.grownBy w' (some g)) (hg : g < base) : Ap w' base v xs := by
  refine h.kept hG ?_
  rcases hv : v.ownBlock with _ | k
  · exact .inl rfl
  · right
    have := (h.lt k hv).1
    intro e
    have := Option.some.inj e
    omega
theorem base6_rd (w : World) : Rd ((w.alloc (.cells #[] 3)).alloc (.cells #[.int .i64 7, .int .i64 9, .int .i64 10, .int .i64 11, .int .i64 13, .int .i64 17] 3)) (some ⟨w.heap.size + 1, 0, none⟩) base6 := fun _ => by
  refine ⟨_, rfl, fun j hj => ?_⟩
  have hb : ((w.alloc (.cells #[] 3)).alloc (.cells #[.int .i64 7, .int .i64 9, .int .i64 10, .int .i64 11, .int .i64 13, .int .i64 17] 3)).heap[w.heap.size + 1]? = some (.cells #[.int .i64 7, .int .i64 9, .int .i64 10, .int .i64 11, .int .i64 13, .int .i64 17] 3 (0, 0)) := by
    have := heap_alloc_new (w.alloc (.cells #[] 3)) (.cells #[.int .i64 7, .int .i64 9, .int .i64 10, .int .i64 11, .int .i64 13, .int .i64 17] 3)
    simpa using this
  rw [Addr.add_lit, Nat.zero_add, cell_of_row _ _ _ _ _ _ hb]
  match j, hj with
  | 0, _ => rfl
  | 1, _ => rfl
  | 2, _ => rfl
  | 3, _ => rfl
  | 4, _ => rfl
  | 5, _ => rfl
  | n + 6, hj => exact absurd hj (by simp [base6])
/-- '[]int{x}' -/
theorem Ap.one (w : World) (x : Int) (base : Nat) (hb : base ≤ w.heap.size) : Ap (w.alloc (.cells #[.int .i64 x] 3)) base (.slice (some ⟨w.heap.size, 0, none⟩) 1 1) [x] :=
  World.ownsRow_lit w #[.int .i64 x] 1 hb (by unfold maxLen; omega) rfl

set_option maxHeartbeats 3200000 in
theorem l13Draw_c {base g c : Nat} {A : Option Addr} {xs : List Int} {w : World} (h : CurIn w base g A c xs) (hs : base ≤ w.heap.size) (hA : 0 < xs.length → ∀ ad, A = some ad → ad.block < base) (hb : ∀ x ∈ xs, 0 ≤ x ∧ x ≤ 255) (hl : xs.length ≤ 1099511627776) :
    Calls Try.prog 68 #[.pointer (some ⟨g, 0, none⟩)] w fun e w' => ∃ A' c' ms, e = .returned (.slice A' ms.length c') ∧ moduliB ms = true ∧ Ow w' base (.slice A' ms.length c') ms ∧ Below base w w' := by
  have hg := h.cur.lt
  have ON := Lib.hid (fun (u : World) (hC : CurIn u base g A c xs) (hu : base ≤ u.heap.size) => once_c 2 (by omega) (by omega) hC hu hA hb hl)
  have BL := Lib.hid (fun (u : World) (hC : CurIn u base g A c xs) (hu : base ≤ u.heap.size) => below_c 30 (by omega) (by omega) hC hu hA hb hl)
  have HA := Lib.hid hA
  have HC0 : Hid (CurIn ((w.alloc (.cells #[] 3)).alloc (.cells #[.int .i64 7, .int .i64 9, .int .i64 10, .int .i64 11, .int .i64 13, .int .i64 17] 3)) base g A c xs) := by
    have b1 : Below w.heap.size w ((w.alloc (.cells #[] 3)).alloc (.cells #[.int .i64 7, .int .i64 9, .int .i64 10, .int .i64 11, .int .i64 13, .int .i64 17] 3)) := ((Below.refl _ _).alloc (Nat.le_refl _) _).alloc (by simp) _
    exact ⟨h.cur.below b1 hg, h.rd.far (fun hn ad e => Nat.lt_of_lt_of_le (hA hn ad e) hs) b1⟩
  have HB0 : Hid (Below base w ((w.alloc (.cells #[] 3)).alloc (.cells #[.int .i64 7, .int .i64 9, .int .i64 10, .int .i64 11, .int .i64 13, .int .i64 17] 3))) := ((Below.refl _ _).alloc hs _).alloc (by simp; omega) _
  have HR0 := Lib.hid (base6_rd w)
  have HO0 : Hid (Ap ((w.alloc (.cells #[] 3)).alloc (.cells #[.int .i64 7, .int .i64 9, .int .i64 10, .int .i64 11, .int .i64 13, .int .i64 17] 3)) w.heap.size (.slice (some ⟨w.heap.size, 0, none⟩) 0 0) []) := (Ap.empty w w.heap.size (Nat.le_refl _)).alloc _
  clear h hA hb
  go_enter Try.func68, Try.ntmps68
  go_wp2
  go_loopw [3, 9] (fun v i wr => ∃ (k : Nat) (l : List Int), k ≤ 6 ∧ i = .int .i64 k ∧ l ∈ subs6 k ∧ Ap wr w.heap.size v l ∧ CurIn wr base g A c xs ∧ Rd wr (some ⟨w.heap.size + 1, 0, none⟩) base6 ∧ Off v (some ⟨w.heap.size + 1, 0, none⟩) ∧ Below base w wr ∧ w.heap.size + 2 ≤ wr.heap.size) (fun _ i _ => 6 - (intOf i).toNat)
  case atStart => exact ⟨0, [], by omega, rfl, subs6_zero, HO0.out, HC0.out, HR0.out, (fun ad e => by have := Option.some.inj e; subst this; simp [Value.ownBlock]), HB0.out, by simp⟩
  case round =>
    obtain ⟨k, l, hk, rfl, hl6, hO, hC, hR, hF, hB, hz⟩ := hrel
    have hll := subs6_len k l hl6
    have hsr : base ≤ wr.heap.size := by omega
    obtain ⟨A0, c0, rfl⟩ := hO.form
    by_cases hlt : k < 6
    · obtain ⟨ad, x, e, hx, hc⟩ := hR.at_ (k := k) (by simp [base6]; omega)
      obtain rfl := Option.some.inj e
      rw [Addr.add_lit, Nat.zero_add] at hc
      have HX := Lib.hid hx.out
      have t1 : (k : Int) < 6 := by omega
      have t2 : (0 : Int) ≤ k := by omega
      have HL6 := Lib.hid hl6
      clear e hx hl6
      go_wp2_with fail
      refine (ON.out _ hC hsr).mono ?_
      rintro e w2 ⟨b, rfl, hC2, hG2, hB2⟩
      have hO2 := hO.kept1 hG2 hg
      have hR2 := hR.grown1 hG2 (fun ad e => by have := Option.some.inj e; subst this; simp; omega)
      have hB3 := hB.trans hB2
      have hz2 : w.heap.size + 2 ≤ w2.heap.size := Nat.le_trans hz hG2.size
      cases b
      · go_wp2
        go_roundw
        case rel => exact ⟨k + 1, l, by omega, by go_num, subs6_keep HL6.out, hO2, hC2, hR2, hF, hB3, hz2⟩
        case measure => simp [intOf]; omega
      · have hL : l.length < 1099511627776 := by omega
        have hs3 : w.heap.size ≤ w2.heap.size := by omega
        go_wp2_with (at_builtin; refine wpList_app1k hO2 hL hs3 rfl _ _ 24 rfl rfl rfl rfl ?_; intro v' w' O' B' K')
        go_roundw
        case rel =>
          have hK := K' _ _ hR2 (by simp [base6]) hF
          refine ⟨k + 1, _, by omega, by go_num, subs6_more HL6.out HX.out, O', ⟨hC2.cur.below B' hg, hC2.rd.far (fun hn ad e => Nat.lt_of_lt_of_le (HA.out hn ad e) hs) B'⟩, hK.1, hK.2, hB3.trans (B'.mono hs), Nat.le_trans hz2 B'.size⟩
        case measure => simp [intOf]; omega
    · have hk6 : k = 6 := by omega
      subst hk6
      by_cases hne : l = []
      · subst hne
        have HCC := Lib.hid hC
        have HBB := Lib.hid hB
        clear hC hB hl6
        go_wp2_with fail
        refine (BL.out _ HCC.out hsr).mono ?_
        rintro e w2 ⟨x, rfl, x0, x1, hC2, hG2, hB2⟩
        have HM := Lib.hid (drawn_one x0 (by omega))
        have hb2 := Nat.le_trans hsr hB2.size
        have HO2 := Lib.hid (Ap.one w2 (2 + x) base hb2)
        have HB4 : Hid (Below base w (w2.alloc (.cells #[.int .i64 (2 + x)] 3))) := HBB.out.trans (hB2.trans ((Below.refl _ _).alloc hb2 _))
        go_wp2
        go_ret
        exact ⟨_, _, [2 + x], rfl, HM.out, HO2.out.ow, HB4.out⟩
      · have hp : 0 < l.length := List.length_pos_iff.2 hne
        have t1 : ((l.length : Int) == 0) = false := by simp; omega
        have HM := Lib.hid (drawn_ok hl6 hne)
        have HO2 := Lib.hid (hO.ow.more hs)
        clear hl6 hne hO
        go_wp2
        go_ret
        exact ⟨_, _, l, rfl, HM.out, HO2.out, hB⟩

theorem makeModuli_c (A : Option Addr) (c : Nat) (xs : List Int) (w : World) (hr : Rd8 w A xs) (hA : 0 < xs.length → ∀ ad, A = some ad → ad.block < w.heap.size) (hb : ∀ x ∈ xs, 0 ≤ x ∧ x ≤ 255) (hl : xs.length ≤ 1099511627776) :
    Calls Try.prog 41 #[.slice A xs.length c, .int .i64 0] w fun e w' => ∃ A' c' ms, e = .returned (.slice A' ms.length c') ∧ moduliB ms = true ∧ Ow w' w.heap.size (.slice A' ms.length c') ms ∧ Below w.heap.size w w' := by
  have NC := Lib.hid (newN_c 0 (by omega) A c xs w w.heap.size (Nat.le_refl _) hr hA hb hl)
  go_enter Try.func41, Try.ntmps41
  go_wp2_with fail
  refine (NC.out).mono ?_
  rintro e w1 ⟨g, rfl, hg, hC, hB⟩
  go_wp2_with fail
  refine (l13Draw_c hC hB.size hA hb hl).mono ?_
  rintro e w2 ⟨A', c', ms, rfl, hM, hO, hB2⟩
  go_wp2
  go_ret
  exact ⟨A', c', ms, rfl, hM, hO, hB.trans hB2⟩
theorem makeProduct_c (A : Option Addr) (c : Nat) (ms : List Int) (w : World) (hr : Rd w A ms) (h : moduliB ms = true) :
    Calls Try.prog 42 #[.slice A ms.length c] w fun e w' => e = .returned (.int .i64 (prodI ms)) ∧ w = w' := by
  have hl := (moduliB_parts h).2.1
  go_enter Try.func42, Try.ntmps42
  go_wp2_with fail
  refine (l07Range_any A c ms _ hr (by omega) (moduliB_in h)).mono ?_
  rintro e w' ⟨rfl, rfl⟩
  go_wp2
  go_ret
  exact ⟨rfl, rfl⟩
end Go.Proofs.Ytfdighaginmabaa
