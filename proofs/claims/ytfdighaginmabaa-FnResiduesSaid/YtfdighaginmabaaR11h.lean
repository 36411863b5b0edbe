/-
  WALK of FnResidues: residues are added and multiplied one by one, and their number is found again. No condition.
-/
import Derived.Test.YtfdighaginmabaaR10
namespace Go.Proofs.Ytfdighaginmabaa
open Go.RowKit
section
variable {P : Program} {ops : Array Oper} {Q : Exit → Act → World → Prop} {md : Region.Mode} {S : World → Prop}
theorem at_drop {i : Nat} {oi : Oper} {rest : List Oper} (hi : ops.toList.drop i = oi :: rest) : ops[i]? = some oi := by
  rw [← Array.getElem?_toList]
  have h := congrArg (fun l => l[0]?) hi
  simpa [List.getElem?_drop] using h
/-- Take operation i first: it is wanted and yields v. -/
theorem takeOn {i fuel : Nat} {oi : Oper} {rest : List Oper} {v : Value} {listed : Array Bool} {a : Act} {w : World} (hi : ops.toList.drop i = oi :: rest)
    (hs : Region.noSelect ops = true) (hf : Region.free md ops listed i = true) (hr : (Region.ready md ops listed).contains i = true)
    (hQ : ∀ c a w, Q (.panic c) (a.put oi.dst v) w → Q (.panic c) a w) (hw : Region.wanted oi (yielded ops a.tmps) = true)
    (hy : ∀ w, S w → (execOp a.eval oi).run P w = .ok (.value v) w) (hS : S w)
    (h : wpAnyH P md ops Q S fuel (listed.setIfInBounds i true) (a.put oi.dst v) w) : wpAnyH P md ops Q S (fuel + 1) listed a w :=
  wpAnyH_take (at_drop hi) hs hf hr hQ (Or.inl ⟨hw, hy⟩) hS h
/-- Take operation i first: its guard passes it over. -/
theorem takeOff {i fuel : Nat} {oi : Oper} {rest : List Oper} {listed : Array Bool} {a : Act} {w : World} (hi : ops.toList.drop i = oi :: rest)
    (hs : Region.noSelect ops = true) (hf : Region.free md ops listed i = true) (hr : (Region.ready md ops listed).contains i = true)
    (hQ : ∀ c a w, Q (.panic c) (a.put oi.dst undef) w → Q (.panic c) a w) (hw : Region.wanted oi (yielded ops a.tmps) = false) (hS : S w)
    (h : wpAnyH P md ops Q S fuel (listed.setIfInBounds i true) (a.put oi.dst undef) w) : wpAnyH P md ops Q S (fuel + 1) listed a w :=
  wpAnyH_take (at_drop hi) hs hf hr hQ (Or.inr ⟨hw, rfl⟩) hS h
/-- Only operation i may come up. -/
theorem loneOn {i fuel : Nat} {o : Oper} {rest : List Oper} {listed : Array Bool} {a : Act} {w : World} (hi : ops.toList.drop i = o :: rest)
    (hr : Region.ready md ops listed = [i]) (hw : Region.wanted o (yielded ops a.tmps) = true)
    (h : ∀ K' : Act → World → Prop, Shut (∀ a w, S w → (S w → wpAnyH P md ops Q S fuel (listed.setIfInBounds i true) a w) → K' a w) → Oper.wp P o a w K' Q) : wpAnyH P md ops Q S (fuel + 1) listed a w :=
  wpAnyH_ready hr (by simp) (AllReadyH.cons (at_drop hi) (fun K' hK => by rw [if_pos hw]; exact h K' hK) AllReadyH.nil)
end


/-- What the walk holds on to: the moduli and the residues of two numbers. -/
structure St (w u : World) (A1 : Option Addr) (c1 : Nat) (ms : List Int) (A2 : Option Addr) (c2 : Nat) (a : List Int) (A3 : Option Addr) (c3 : Nat) (b : List Int) : Prop where
  below : Below w.heap.size w u
  m : Ow u w.heap.size (.slice A1 ms.length c1) ms
  a : Ow u w.heap.size (.slice A2 a.length c2) a
  b : Ow u w.heap.size (.slice A3 b.length c3) b
theorem St.next {w u u' : World} {A1 A2 A3 : Option Addr} {c1 c2 c3 : Nat} {ms a b : List Int} (h : St w u A1 c1 ms A2 c2 a A3 c3 b) (B : Below u.heap.size u u') : St w u' A1 c1 ms A2 c2 a A3 c3 b :=
  ⟨h.below.trans (B.mono h.below.size), h.m.below' B, h.a.below' B, h.b.below' B⟩
theorem St.drewN {w u : World} {A1 A2 A3 : Option Addr} {c1 c2 c3 : Nat} {ms a b : List Int} (h : St w u A1 c1 ms A2 c2 a A3 c3 b) (n : Nat) : St w (u.drewN n) A1 c1 ms A2 c2 a A3 c3 b :=
  ⟨below_drewN h.below n, h.m.drewN n, h.a.drewN n, h.b.drewN n⟩
theorem St.drewN' {w u u' : World} {A1 A2 A3 : Option Addr} {c1 c2 c3 : Nat} {ms a b : List Int} (h : St w u A1 c1 ms A2 c2 a A3 c3 b) (n : Nat) (B : Below (u.drewN n).heap.size (u.drewN n) u') : St w u' A1 c1 ms A2 c2 a A3 c3 b := (h.drewN n).next B
theorem res_i64 {xs ms : List Int} (h : residuesB xs ms = true) : AllI64 xs ∧ xs.length ≤ 6 ∧ ms.length ≤ 6 ∧ AllI64 ms ∧ moduliB ms = true ∧ xs.length = ms.length := by
  obtain ⟨q1, q2, q3⟩ := residuesB_parts h
  have hm := moduliB_parts q1
  refine ⟨fun x hx => ?_, by omega, hm.2.1, fun x hx => by have := hm.2.2.1 x hx; omega, q1, q2⟩
  obtain ⟨i, hi⟩ := List.mem_iff_getElem?.1 hx
  have hil := (List.getElem?_eq_some_iff.1 hi).1
  have hmi : ms[i]? = some (ms[i]'(by omega)) := List.getElem?_eq_getElem (by omega)
  have := q3 i x _ hi hmi
  have := hm.2.2.1 _ (List.mem_of_getElem? hmi)
  omega
section
variable {w u : World} {A1 A2 A3 : Option Addr} {c1 c2 c3 : Nat} {ms a b : List Int}
theorem kModuli (S : St w u A1 c1 ms A2 c2 a A3 c3 b) (ra : residuesB a ms = true) :
    Calls Try.prog 21 #[.slice A1 ms.length c1] u fun e w' => e = .returned (.bool true) ∧ Below u.heap.size u w' := by
  obtain ⟨_, _, l2, _, hm, _⟩ := res_i64 ra
  have h := iModuliOk_any A1 c1 ms u S.m.rd S.m.cap.1 (by omega)
  rwa [hm] at h
theorem kResOk {A : Option Addr} {c base : Nat} {xs : List Int} (S : St w u A1 c1 ms A2 c2 a A3 c3 b) (O : Ow u base (.slice A xs.length c) xs) (ra : residuesB xs ms = true) :
    Calls Try.prog 24 #[.slice A xs.length c, .slice A1 ms.length c1] u fun e w' => e = .returned (.bool true) ∧ Below u.heap.size u w' := by
  obtain ⟨_, l1, l2, _, _, _⟩ := res_i64 ra
  have h := iResiduesOk_any A A1 c c1 xs ms u O.rd S.m.rd S.m.cap.1 (by omega) (by omega)
  rwa [ra] at h
theorem kFrom {A : Option Addr} {c base : Nat} {xs : List Int} {v : Int} (S : St w u A1 c1 ms A2 c2 a A3 c3 b) (O : Ow u base (.slice A xs.length c) xs) (ra : residuesB xs ms = true) (hv : fromR xs ms = v) :
    Calls Try.prog 34 #[.slice A xs.length c, .slice A1 ms.length c1] u fun e w' => e = .returned (.int .i64 v) ∧ Below u.heap.size u w' := by
  obtain ⟨i1, l1, l2, i2, _, _⟩ := res_i64 ra
  have h := iFromResidues_c u A c xs O.rd O.cap.1 (by omega) i1 A1 c1 ms S.m.rd S.m.cap.1 (by omega) i2
  rwa [hv] at h
theorem kAdd (S : St w u A1 c1 ms A2 c2 a A3 c3 b) (ra : residuesB a ms = true) (rb : residuesB b ms = true) :
    Calls Try.prog 30 #[.slice A2 a.length c2, .slice A3 b.length c3, .slice A1 ms.length c1] u fun e w' => ∃ A c, e = .returned (.slice A (addR a b ms).length c) ∧ Ow w' u.heap.size (.slice A (addR a b ms).length c) (addR a b ms) ∧ Below u.heap.size u w' := by
  obtain ⟨i1, l1, l2, i2, _, _⟩ := res_i64 ra
  obtain ⟨i3, l3, _, _, _, _⟩ := res_i64 rb
  exact iResiduesAdd_c u A2 c2 a S.a.rd S.a.cap.1 (by omega) i1 A3 c3 b S.b.rd S.b.cap.1 (by omega) i3 A1 c1 ms S.m.rd S.m.cap.1 (by omega) i2
theorem kTimes (S : St w u A1 c1 ms A2 c2 a A3 c3 b) (ra : residuesB a ms = true) (rb : residuesB b ms = true) :
    Calls Try.prog 32 #[.slice A2 a.length c2, .slice A3 b.length c3, .slice A1 ms.length c1] u fun e w' => ∃ A c, e = .returned (.slice A (timesR a b ms).length c) ∧ Ow w' u.heap.size (.slice A (timesR a b ms).length c) (timesR a b ms) ∧ Below u.heap.size u w' := by
  obtain ⟨i1, l1, l2, i2, _, _⟩ := res_i64 ra
  obtain ⟨i3, l3, _, _, _, _⟩ := res_i64 rb
  exact iResiduesTimes_c u A2 c2 a S.a.rd S.a.cap.1 (by omega) i1 A3 c3 b S.b.rd S.b.cap.1 (by omega) i3 A1 c1 ms S.m.rd S.m.cap.1 (by omega) i2
theorem kGarner (S : St w u A1 c1 ms A2 c2 a A3 c3 b) (ra : residuesB a ms = true) :
    Calls Try.prog 36 #[.slice A2 a.length c2, .slice A1 ms.length c1] u fun e w' => ∃ A c, e = .returned (.slice A ms.length c) ∧ Ow w' u.heap.size (.slice A ms.length c) (garL a ms) ∧ Below u.heap.size u w' := by
  obtain ⟨i1, l1, l2, i2, _, _⟩ := res_i64 ra
  have h := iGarnerDigits_c u A2 c2 a S.a.rd S.a.cap.1 (by omega) i1 A1 c1 ms S.m.rd S.m.cap.1 (by omega) i2
  rw [garR_of ra, (gar_facts ra).1] at h
  exact h
theorem kCompare {x y : Int} (S : St w u A1 c1 ms A2 c2 a A3 c3 b) (ra : residuesB a ms = true) (rb : residuesB b ms = true) (hc : compareR a b ms = cmpI x y) :
    Calls Try.prog 40 #[.slice A2 a.length c2, .slice A3 b.length c3, .slice A1 ms.length c1] u fun e w' => e = .returned (.int .i64 (cmpI x y)) ∧ Below u.heap.size u w' := by
  obtain ⟨i1, l1, l2, i2, _, _⟩ := res_i64 ra
  obtain ⟨i3, l3, _, _, _, _⟩ := res_i64 rb
  have h := iResiduesCompare_c u A2 c2 a S.a.rd S.a.cap.1 (by omega) i1 A3 c3 b S.b.rd S.b.cap.1 (by omega) i3 A1 c1 ms S.m.rd S.m.cap.1 (by omega) i2
  rwa [hc] at h
theorem kExtend {x q : Int} (S : St w u A1 c1 ms A2 c2 a A3 c3 b) (ra : residuesB a ms = true) (hf : fromR a ms = x) (q0 : 2 ≤ q) (q1 : q ≤ 901) :
    Calls Try.prog 38 #[.slice A2 a.length c2, .slice A1 ms.length c1, .int .i64 q] u fun e w' => e = .returned (.int .i64 (x % q)) ∧ Below u.heap.size u w' := by
  obtain ⟨i1, l1, l2, i2, _, _⟩ := res_i64 ra
  have h := iExtendResidues_c u A2 c2 a S.a.rd S.a.cap.1 (by omega) i1 A1 c1 ms S.m.rd S.m.cap.1 (by omega) i2 q ⟨by omega, by omega⟩
  rw [extendR_of ra (inB_of ⟨q0, by omega⟩), hf] at h
  exact h
theorem kResOf (x : Int) (hx : I64 x) {O : List Int} (hO : resOfR x ms = O) (hr : Rd u A1 ms) (hc : ms.length ≤ c1) (hm : moduliB ms = true) :
    Calls Try.prog 26 #[.int .i64 x, .slice A1 ms.length c1] u fun e w' => ∃ A c, e = .returned (.slice A O.length c) ∧ Ow w' u.heap.size (.slice A O.length c) O ∧ Below u.heap.size u w' := by
  have hp := moduliB_parts hm
  have h := iResiduesOf_c u x hx A1 c1 ms hr hc (by omega) (fun x hx => by have := hp.2.2.1 x hx; omega)
  rwa [hO] at h
end

set_option maxRecDepth 100000 in
set_option maxHeartbeats 60000000 in
theorem lFnResidues_law (w : World) (A0 : Option Addr) (c0 : Nat) (xs0 : List Int) (r0 : Rd8 w A0 xs0) (_m0 : xs0.length ≤ maxLen) (b0 : ∀ x ∈ xs0, 0 ≤ x ∧ x ≤ 255) :
    Calls Try.prog 14 #[.slice A0 xs0.length c0] w fun e w' => e = .returned (.bool true) ∧ Below w.heap.size w w' := by
  unfold maxLen at _m0
  by_cases hlen : xs0.length ≤ 1048576
  · have hA : 0 < xs0.length → ∀ ad, A0 = some ad → ad.block < w.heap.size := fun hn ad e => by
      obtain ⟨ad', e', hc⟩ := r0 hn
      rw [e] at e'
      obtain rfl := Option.some.inj e'
      have := cell_lt (hc 0 hn)
      rwa [block_add] at this
    have MM := Lib.hid (makeModuli_c A0 c0 xs0 w r0 hA b0 (by omega))
    have MN40 := Lib.hid (fun (u : World) (B : Below w.heap.size w u) => makeNum_c 40 (by omega) A0 c0 xs0 u (r0.far hA B) (fun hn ad e => Nat.lt_of_lt_of_le (hA hn ad e) B.size) b0 (by omega))
    have MN42 := Lib.hid (fun (u : World) (B : Below w.heap.size w u) => makeNum_c 42 (by omega) A0 c0 xs0 u (r0.far hA B) (fun hn ad e => Nat.lt_of_lt_of_le (hA hn ad e) B.size) b0 (by omega))
    have MB20 := Lib.hid (fun (u : World) (B : Below w.heap.size w u) => makeNumber_c 20 (by omega) A0 c0 xs0 u (r0.far hA B) (fun hn ad e => Nat.lt_of_lt_of_le (hA hn ad e) B.size) b0 (by omega))
    have MB30 := Lib.hid (fun (u : World) (B : Below w.heap.size w u) => makeNumber_c 30 (by omega) A0 c0 xs0 u (r0.far hA B) (fun hn ad e => Nat.lt_of_lt_of_le (hA hn ad e) B.size) b0 (by omega))
    rw [show ((40 : Nat) : Int) = 40 from rfl] at MN40
    rw [show ((42 : Nat) : Int) = 42 from rfl] at MN42
    rw [show ((20 : Nat) : Int) = 20 from rfl] at MB20
    rw [show ((30 : Nat) : Int) = 30 from rfl] at MB30
    clear hA r0 b0
    go_enter Try.func14, Try.ntmps14
    go_wp2_with fail
    refine (MM.out).mono ?_
    rintro e w1 ⟨A1, c1, ms, rfl, hM, O1, B1⟩
    go_wp2_with fail
    refine (makeProduct_c _ _ _ _ O1.rd hM).mono ?_
    rintro e w' ⟨rfl, rfl⟩
    obtain ⟨p0, p1⟩ := prod_dec hM
    go_wp2_with fail
    refine (MB20.out _ B1).mono ?_
    rintro e w2 ⟨X, rfl, X0, X1, B2⟩
    have x0 := Int.emod_nonneg X (show prodI ms ≠ 0 by omega)
    have x1 := Int.emod_lt_of_pos X (show 0 < prodI ms by omega)
    have D2 := B1.trans (B2.mono B1.size)
    go_wp2_with fail
    obtain ⟨x, hx⟩ : ∃ x, X % prodI ms = x := ⟨_, rfl⟩
    rw [hx] at x0 x1 ⊢
    clear hx
    refine (MB30.out _ D2).mono ?_
    rintro e w3 ⟨Y, rfl, Y0, Y1, B3⟩
    have y0 := Int.emod_nonneg Y (show prodI ms ≠ 0 by omega)
    have y1 := Int.emod_lt_of_pos Y (show 0 < prodI ms by omega)
    have D3 := D2.trans (B3.mono D2.size)
    have O3 := (O1.below' B2).below' B3
    go_wp2_with fail
    obtain ⟨y, hy⟩ : ∃ y, Y % prodI ms = y := ⟨_, rfl⟩
    rw [hy] at y0 y1 ⊢
    clear hy
    obtain ⟨L1, L2, L3, L4, L5, L6, L7, L8, L9, L10, L11, L12, L13, L14, L15⟩ := residues_law hM x0 x1 y0 y1
    obtain ⟨a, ha⟩ : ∃ a, resUp x ms ms.length = a := ⟨_, rfl⟩
    obtain ⟨b, hb⟩ : ∃ b, resUp y ms ms.length = b := ⟨_, rfl⟩
    rw [ha] at L1 L3 L5 L7 L8 L9 L10 L11 L12 L13 L14 L15
    rw [hb] at L2 L4 L6 L7 L8 L9 L10 L11 L14 L15
    have H3 := Lib.hid L3
    have H4 := Lib.hid L4
    have H5 := Lib.hid L5
    have H8 := Lib.hid L8
    have H9 := Lib.hid L9
    have H11 := Lib.hid L11
    have H13 := Lib.hid L13
    have H14 := Lib.hid L14
    have H15 := Lib.hid L15
    have HM := Lib.hid hM
    clear L3 L4 L5 L6 L7 L8 L9 L10 L11 L12 L13 L14 L15 ha hb
    refine (kResOf x ⟨by omega, by omega⟩ L1 O3.rd O3.cap.1 hM).mono ?_
    rintro e w4 ⟨A2, c2, rfl, O4, B4⟩
    have O3' := O3.below' B4
    have D4 := D3.trans (B4.mono D3.size)
    go_wp2_with fail
    refine (kResOf y ⟨by omega, by omega⟩ L2 O3'.rd O3'.cap.1 hM).mono ?_
    rintro e w5 ⟨A3, c3, rfl, O5, B5⟩
    have S5 : St w w5 A1 c1 ms A2 c2 a A3 c3 b := ⟨D4.trans (B5.mono D4.size), O3'.below' B5, (O4.below' B5).more D3.size, O5.more D4.size⟩
    clear L1 L2 hM O1 O3 O3' O4 O5 B1 B2 B3 B4 B5 D2 D3 D4 MM MB20 MB30 X0 X1 Y0 Y1
    have hl6 := (res_i64 H3.out).2.2.1
    have g1 : IntKind.i64.wrap (x + y) = x + y := IntWalk.i64_in _ (by omega)
    have g2 : (x + y).tmod (prodI ms) = (x + y) % prodI ms := Int.tmod_eq_emod_of_nonneg (by omega)
    have g3 : prodI ms ≠ 0 := by omega
    go_wp2_with fail
    go_region_held3 (fun _ => True) (trivial)
      (first
        | ((go_at_call 34; refine (kFrom S9 O9 H8.out H9.out).mono ?_; rintro e w10 ⟨rfl, B10⟩))
        | ((go_at_call 30; refine (kAdd S8 H3.out H4.out).mono ?_; rintro e w9 ⟨A9, c9, rfl, O9, B9⟩; have S9 := S8.next B9))
        | ((go_at_call 34; refine (kFrom S7 S7.a H3.out H5.out).mono ?_; rintro e w8 ⟨rfl, B8⟩; have S8 := S7.next B8))
        | ((go_at_call 24; refine (kResOk S6 S6.a H3.out).mono ?_; rintro e w7 ⟨rfl, B7⟩; have S7 := S6.next B7))
        | ((go_at_call 21; refine (kModuli (S5.drewN _) H3.out).mono ?_; rintro e w6 ⟨rfl, B6⟩; have S6 := S5.drewN' _ B6)))
    have S10 := S9.next B10
    clear S5 S6 S7 S8 S9 B6 B7 B8 B9 B10 O9 g1 g2 g3
    go_wp2_with fail
    refine (kTimes S10 H3.out H4.out).mono ?_
    rintro e w11 ⟨A11, c11, rfl, O11, B11⟩
    have S11 := S10.next B11
    go_wp2_with fail
    refine (kGarner S11 H3.out).mono ?_
    rintro e w12 ⟨A12, c12, rfl, O12, B12⟩
    have S12 := S11.next B12
    have O11b := O11.below' B12
    go_wp2_with fail
    refine (kResOk S12 O11b H11.out).mono ?_
    rintro e w13 ⟨rfl, B13⟩
    have S13 := S12.next B13
    have RT := Lib.hid (O11b.below' B13).rd
    have RG := Lib.hid (O12.below' B13).rd
    have RM := Lib.hid S13.m.rd
    have HS13 := Lib.hid S13
    have hlt_ := Lib.hid (res_i64 H11.out).2.2.2.2.2
    have hlg_ := Lib.hid (gar_facts H3.out).1
    clear S10 S11 S12 S13 O11 O11b O12 B11 B12 B13
    go_wp2
    go_loopw [11, 12, 91] (fun pl v i wr => ∃ k n : Nat, k ≤ ms.length ∧ i = .int .i64 k ∧ pl = .int .i64 (prodUp ms k) ∧ v = .int .i64 (mvL (garUp a ms k) ms) ∧ wr = w13.drewN n) (fun _ _ i _ => ms.length - (intOf i).toNat)
    case atStart => exact ⟨0, 0, Nat.zero_le _, rfl, by simp [prodUp, prodI], by rw [garUp_zero, mvL_nil], rfl⟩
    case round =>
      obtain ⟨k, n, hk, rfl, rfl, rfl, rfl⟩ := hrel
      by_cases hlt : k < ms.length
      · obtain ⟨ad1, m, rfl, hm, hc1⟩ := RM.out.at_ hlt
        obtain ⟨ad2, t, rfl, ht, hc2⟩ := RT.out.at_ (k := k) (by have := hlt_.out; omega)
        obtain ⟨ad3, g, rfl, hg, hc3⟩ := RG.out.at_ (k := k) (by have := hlg_.out; omega)
        have et := H15.out k t m ht.out hm.out
        obtain ⟨G1, G2, G3, G4, G5, G6, G7, G8, G9, G10, G11, G12⟩ := gar_step HM.out hg.out hm.out
        have bm := (moduliB_parts HM.out).2.2.1 m (List.mem_of_getElem? hm.out)
        have HG1 := Lib.hid G1
        have HG10 := Lib.hid G10
        have ht1 : (k : Int) < (timesR a b ms).length := by have := hlt_.out; omega
        have hg1 : (k : Int) < ms.length := by omega
        have k0 : (0 : Int) ≤ k := by omega
        obtain ⟨P, hP⟩ : ∃ P, prodUp ms k = P := ⟨_, rfl⟩
        obtain ⟨V, hV⟩ : ∃ V, mvL (garUp a ms k) ms = V := ⟨_, rfl⟩
        rw [hP] at G6 G7 G8 G9 G11 G12 HG1 HG10
        rw [hV] at G4 G5 HG1
        rw [hP, hV]
        obtain ⟨X, hX⟩ : ∃ X, x % m = X := ⟨_, rfl⟩
        obtain ⟨Y, hY⟩ : ∃ Y, y % m = Y := ⟨_, rfl⟩
        rw [hX, hY] at et
        have bX0 := Int.emod_nonneg x (show m ≠ 0 by omega)
        have bX1 := Int.emod_lt_of_pos x (show 0 < m by omega)
        have bY0 := Int.emod_nonneg y (show m ≠ 0 by omega)
        have bY1 := Int.emod_lt_of_pos y (show 0 < m by omega)
        rw [hX] at bX0 bX1
        rw [hY] at bY0 bY1
        have bXY := small_mul (x := X) (y := Y) (by omega) (by omega)
        have f1 : x.tmod m = X := by rw [← hX]; exact Int.tmod_eq_emod_of_nonneg x0
        have f2 : y.tmod m = Y := by rw [← hY]; exact Int.tmod_eq_emod_of_nonneg y0
        obtain ⟨Z, hZ⟩ : ∃ Z, X * Y = Z := ⟨_, rfl⟩
        rw [hZ] at bXY et
        have f3 : IntKind.i64.wrap (X * Y) = Z := by rw [hZ]; exact IntWalk.i64_in _ (by omega)
        have f4 : Z.tmod m = t := by rw [et]; exact Int.tmod_eq_emod_of_nonneg bXY.1
        have f5 : m ≠ 0 := by omega
        have f6 : ¬ g < 0 := by omega
        have f7 : ¬ m ≤ g := by omega
        clear hP hV hX hY hZ et G1 G10 hm ht hg bX0 bX1 bY0 bY1 bXY
        go_wp2_with fail
        go_quiet (fail)
        clear f1 f2 f3 f4
        go_wp2
        go_roundw
        case rel => exact ⟨k + 1, _, by omega, by go_num, by rw [HG10.out], by rw [HG1.out], by first | rfl | exact drewN_twice _ _ _⟩
        case measure => simp [intOf]; omega
      · have hkl : k = ms.length := by omega
        subst hkl
        have hV : mvL (garUp a ms ms.length) ms = x := H13.out
        rw [hV]
        have S14 := HS13.out.drewN n
        clear hV RT RG RM
        go_wp2_with fail
        refine (kCompare S14 H3.out H4.out H14.out).mono ?_
        rintro e w15 ⟨rfl, B15⟩
        have S15 := S14.next B15
        go_wp2_with fail
        refine (MN40.out _ S15.below).mono ?_
        rintro e w16 ⟨q1, rfl, q10, q11, B16⟩
        have S16 := S15.next B16
        have q12 := Int.emod_nonneg q1 (show (900 : Int) ≠ 0 by omega)
        have q13 := Int.emod_lt_of_pos q1 (show (0 : Int) < 900 by omega)
        go_wp2_with fail
        obtain ⟨q, hq⟩ : ∃ q, 2 + q1 % 900 = q := ⟨_, rfl⟩
        rw [hq]
        have qa : 2 ≤ q := by omega
        have qb : q ≤ 901 := by omega
        refine (MN42.out _ S16.below).mono ?_
        rintro e w17 ⟨z1, rfl, z10, z11, B17⟩
        have S17 := S16.next B17
        have za := Int.emod_nonneg z1 (show q ≠ 0 by omega)
        have zb := Int.emod_lt_of_pos z1 (show 0 < q by omega)
        go_wp2_with fail
        obtain ⟨z, hz⟩ : ∃ z, z1 % q = z := ⟨_, rfl⟩
        rw [hz] at za zb ⊢
        clear hz hq q12 q13
        obtain ⟨iv, d, I1, I2, d1, d2, i0, i1, I3, I4, I5, I6⟩ := inverse_law qa qb za zb
        refine (iInverseOf_c _ z ⟨by omega, by omega⟩ q ⟨by omega, by omega⟩).mono ?_
        rintro e w18 ⟨rfl, B18⟩
        rw [I1]
        have S18 := S17.next B18
        go_wp2_with fail
        refine (iGcd_c _ z ⟨by omega, by omega⟩ q ⟨by omega, by omega⟩).mono ?_
        rintro e w19 ⟨rfl, B19⟩
        rw [I2]
        have S19 := S18.next B19
        have d0 : (d : Int) ≠ 0 := by omega
        have u1 : q.tmod d = 0 := by rw [Int.tmod_eq_emod_of_nonneg (by omega)]; exact I5
        have u2 : z.tmod d = 0 := by rw [Int.tmod_eq_emod_of_nonneg za]; exact I6
        have u3 : x.tmod q = x % q := Int.tmod_eq_emod_of_nonneg x0
        have u4 : q ≠ 0 := by omega
        have H5b := Lib.hid H5.out
        clear I1 I2 S14 S15 S16 S17 S18 B15 B16 B17 B18 B19 I5 I6 MN40 MN42
        by_cases hi : 0 ≤ iv
        · obtain rfl : d = 1 := I3.1 hi
          have m0 : 0 ≤ iv * z := Int.mul_nonneg hi za
          have m1 : iv * z ≤ 901 * 901 := Int.mul_le_mul (by omega) (by omega) za (by omega)
          have v1 : IntKind.i64.wrap (iv * z) = iv * z := IntWalk.i64_in _ (by omega)
          have v2 : (iv * z).tmod q = 1 := by rw [Int.tmod_eq_emod_of_nonneg m0]; exact I4 hi
          have v3 : (iv < 0) = False := eq_false (by omega)
          clear I3 I4
          obtain ⟨c, hc⟩ : ∃ c, cmpI x y = c := ⟨_, rfl⟩
          have G1 : (decide (x < y) == (c == -1)) = true := by
            rcases Int.lt_trichotomy x y with h | h | h
            · have e := cmpI_lt h; rw [hc] at e; subst e; simp [h]
            · have e := cmpI_eq h; rw [hc] at e; subst e; simp; omega
            · have e := cmpI_gt h; rw [hc] at e; subst e; simp; omega
          have G2 : (decide (y < x) == (c == 1)) = true := by
            rcases Int.lt_trichotomy x y with h | h | h
            · have e := cmpI_lt h; rw [hc] at e; subst e; simp; omega
            · have e := cmpI_eq h; rw [hc] at e; subst e; simp; omega
            · have e := cmpI_gt h; rw [hc] at e; subst e; simp [h]
          rw [hc]
          clear hc
          go_wp2_with fail
          go_region_held3 (fun _ => True) (trivial) ((go_at_call 38; refine (kExtend (S19.drewN _) H3.out H5b.out qa qb).mono ?_; rintro e w20 ⟨rfl, B20⟩))
          have S20 := S19.drewN' _ B20
          go_wp2
          go_ret
          exact ⟨rfl, S20.below⟩
        · have hd1 : ¬ (d : Int) = 1 := fun e => hi (I3.2 (by omega))
          have v3 : (iv < 0) = True := eq_true (by omega)
          have v4 : (0 ≤ iv) = False := eq_false hi
          obtain ⟨D, hD⟩ : ∃ D : Int, (d : Int) = D := ⟨_, rfl⟩
          rw [hD] at d0 d2 u1 u2 hd1 ⊢
          have v5 : (D == 1) = false := by simpa using hd1
          have v6 : (D = 0) = False := eq_false d0
          have v7 : (D == 0) = false := by simpa using d0
          have v8 : 1 ≤ D := by omega
          clear I3 I4 hi hd1 hD
          obtain ⟨c, hc⟩ : ∃ c, cmpI x y = c := ⟨_, rfl⟩
          have G1 : (decide (x < y) == (c == -1)) = true := by
            rcases Int.lt_trichotomy x y with h | h | h
            · have e := cmpI_lt h; rw [hc] at e; subst e; simp [h]
            · have e := cmpI_eq h; rw [hc] at e; subst e; simp; omega
            · have e := cmpI_gt h; rw [hc] at e; subst e; simp; omega
          have G2 : (decide (y < x) == (c == 1)) = true := by
            rcases Int.lt_trichotomy x y with h | h | h
            · have e := cmpI_lt h; rw [hc] at e; subst e; simp; omega
            · have e := cmpI_eq h; rw [hc] at e; subst e; simp; omega
            · have e := cmpI_gt h; rw [hc] at e; subst e; simp [h]
          rw [hc]
          clear hc
          go_wp2_with fail
          refine wp_region_held_drew (S := fun _ => True) (by kernel_rfl) trivial (fun _ => ?_)
          refine takeOn (i := 0) (v := ?_) rfl (by kernel_rfl) (by kernel_rfl) (by kernel_rfl) (fun _ _ _ h => h) (by rfl) ?_ trivial ?_
          rotate_left 1
          · intro w _; go_simp <;> with_reducible rfl
          try simp only [Act.put, List.setIfInBounds_toArray, List.set_cons_zero, List.set_cons_succ]
          refine takeOn (i := 1) (v := ?_) rfl (by kernel_rfl) (by kernel_rfl) (by kernel_rfl) (fun _ _ _ h => h) (by rfl) ?_ trivial ?_
          rotate_left 1
          · intro w _; go_simp <;> with_reducible rfl
          try simp only [Act.put, List.setIfInBounds_toArray, List.set_cons_zero, List.set_cons_succ]
          refine takeOn (i := 2) (v := ?_) rfl (by kernel_rfl) (by kernel_rfl) (by kernel_rfl) (fun _ _ _ h => h) (by rfl) ?_ trivial ?_
          rotate_left 1
          · intro w _; go_simp <;> with_reducible rfl
          try simp only [Act.put, List.setIfInBounds_toArray, List.set_cons_zero, List.set_cons_succ]
          refine takeOn (i := 3) (v := ?_) rfl (by kernel_rfl) (by kernel_rfl) (by kernel_rfl) (fun _ _ _ h => h) (by rfl) ?_ trivial ?_
          rotate_left 1
          · intro w _; go_simp <;> with_reducible rfl
          try simp only [Act.put, List.setIfInBounds_toArray, List.set_cons_zero, List.set_cons_succ]
          refine takeOn (i := 4) (v := ?_) rfl (by kernel_rfl) (by kernel_rfl) (by kernel_rfl) (fun _ _ _ h => h) (by rfl) ?_ trivial ?_
          rotate_left 1
          · intro w _; go_simp <;> with_reducible rfl
          try simp only [Act.put, List.setIfInBounds_toArray, List.set_cons_zero, List.set_cons_succ]
          refine takeOn (i := 5) (v := ?_) rfl (by kernel_rfl) (by kernel_rfl) (by kernel_rfl) (fun _ _ _ h => h) (by rfl) ?_ trivial ?_
          rotate_left 1
          · intro w _; go_simp <;> with_reducible rfl
          try simp only [Act.put, List.setIfInBounds_toArray, List.set_cons_zero, List.set_cons_succ]
          refine takeOn (i := 6) (v := ?_) rfl (by kernel_rfl) (by kernel_rfl) (by kernel_rfl) (fun _ _ _ h => h) (by rfl) ?_ trivial ?_
          rotate_left 1
          · intro w _; go_simp <;> with_reducible rfl
          try simp only [Act.put, List.setIfInBounds_toArray, List.set_cons_zero, List.set_cons_succ]
          refine takeOn (i := 7) (v := ?_) rfl (by kernel_rfl) (by kernel_rfl) (by kernel_rfl) (fun _ _ _ h => h) (by rfl) ?_ trivial ?_
          rotate_left 1
          · intro w _; go_simp <;> with_reducible rfl
          try simp only [Act.put, List.setIfInBounds_toArray, List.set_cons_zero, List.set_cons_succ]
          refine takeOn (i := 8) (v := ?_) rfl (by kernel_rfl) (by kernel_rfl) (by kernel_rfl) (fun _ _ _ h => h) (by rfl) ?_ trivial ?_
          rotate_left 1
          · intro w _; go_simp <;> with_reducible rfl
          try simp only [Act.put, List.setIfInBounds_toArray, List.set_cons_zero, List.set_cons_succ]
          refine takeOn (i := 9) (v := ?_) rfl (by kernel_rfl) (by kernel_rfl) (by kernel_rfl) (fun _ _ _ h => h) (by rfl) ?_ trivial ?_
          rotate_left 1
          · intro w _; go_simp <;> with_reducible rfl
          try simp only [Act.put, List.setIfInBounds_toArray, List.set_cons_zero, List.set_cons_succ]
          refine takeOn (i := 10) (v := ?_) rfl (by kernel_rfl) (by kernel_rfl) (by kernel_rfl) (fun _ _ _ h => h) (by rfl) ?_ trivial ?_
          rotate_left 1
          · intro w _; go_simp <;> with_reducible rfl
          try simp only [Act.put, List.setIfInBounds_toArray, List.set_cons_zero, List.set_cons_succ]
          refine takeOn (i := 11) (v := ?_) rfl (by kernel_rfl) (by kernel_rfl) (by kernel_rfl) (fun _ _ _ h => h) (by rfl) ?_ trivial ?_
          rotate_left 1
          · intro w _; go_simp <;> with_reducible rfl
          try simp only [Act.put, List.setIfInBounds_toArray, List.set_cons_zero, List.set_cons_succ]
          refine takeOn (i := 12) (v := ?_) rfl (by kernel_rfl) (by kernel_rfl) (by kernel_rfl) (fun _ _ _ h => h) (by rfl) ?_ trivial ?_
          rotate_left 1
          · intro w _; go_simp <;> with_reducible rfl
          try simp only [Act.put, List.setIfInBounds_toArray, List.set_cons_zero, List.set_cons_succ]
          refine takeOn (i := 13) (v := ?_) rfl (by kernel_rfl) (by kernel_rfl) (by kernel_rfl) (fun _ _ _ h => h) (by rfl) ?_ trivial ?_
          rotate_left 1
          · intro w _; go_simp <;> with_reducible rfl
          try simp only [Act.put, List.setIfInBounds_toArray, List.set_cons_zero, List.set_cons_succ]
          refine takeOn (i := 14) (v := ?_) rfl (by kernel_rfl) (by kernel_rfl) (by kernel_rfl) (fun _ _ _ h => h) (by rfl) ?_ trivial ?_
          rotate_left 1
          · intro w _; go_simp <;> with_reducible rfl
          try simp only [Act.put, List.setIfInBounds_toArray, List.set_cons_zero, List.set_cons_succ]
          refine takeOn (i := 15) (v := ?_) rfl (by kernel_rfl) (by kernel_rfl) (by kernel_rfl) (fun _ _ _ h => h) (by rfl) ?_ trivial ?_
          rotate_left 1
          · intro w _; go_simp <;> with_reducible rfl
          try simp only [Act.put, List.setIfInBounds_toArray, List.set_cons_zero, List.set_cons_succ]
          refine takeOn (i := 16) (v := ?_) rfl (by kernel_rfl) (by kernel_rfl) (by kernel_rfl) (fun _ _ _ h => h) (by rfl) ?_ trivial ?_
          rotate_left 1
          · intro w _; go_simp <;> with_reducible rfl
          try simp only [Act.put, List.setIfInBounds_toArray, List.set_cons_zero, List.set_cons_succ]
          refine takeOn (i := 17) (v := ?_) rfl (by kernel_rfl) (by kernel_rfl) (by kernel_rfl) (fun _ _ _ h => h) (by rfl) ?_ trivial ?_
          rotate_left 1
          · intro w _; go_simp <;> with_reducible rfl
          try simp only [Act.put, List.setIfInBounds_toArray, List.set_cons_zero, List.set_cons_succ]
          refine takeOn (i := 18) (v := ?_) rfl (by kernel_rfl) (by kernel_rfl) (by kernel_rfl) (fun _ _ _ h => h) (by rfl) ?_ trivial ?_
          rotate_left 1
          · intro w _; go_simp <;> with_reducible rfl
          try simp only [Act.put, List.setIfInBounds_toArray, List.set_cons_zero, List.set_cons_succ]
          refine takeOn (i := 19) (v := ?_) rfl (by kernel_rfl) (by kernel_rfl) (by kernel_rfl) (fun _ _ _ h => h) (by rfl) ?_ trivial ?_
          rotate_left 1
          · intro w _; go_simp <;> with_reducible rfl
          try simp only [Act.put, List.setIfInBounds_toArray, List.set_cons_zero, List.set_cons_succ]
          refine takeOn (i := 20) (v := ?_) rfl (by kernel_rfl) (by kernel_rfl) (by kernel_rfl) (fun _ _ _ h => h) (by rfl) ?_ trivial ?_
          rotate_left 1
          · intro w _; go_simp <;> with_reducible rfl
          try simp only [Act.put, List.setIfInBounds_toArray, List.set_cons_zero, List.set_cons_succ]
          refine takeOn (i := 21) (v := ?_) rfl (by kernel_rfl) (by kernel_rfl) (by kernel_rfl) (fun _ _ _ h => h) (by rfl) ?_ trivial ?_
          rotate_left 1
          · intro w _; go_simp <;> with_reducible rfl
          try simp only [Act.put, List.setIfInBounds_toArray, List.set_cons_zero, List.set_cons_succ]
          refine takeOn (i := 22) (v := ?_) rfl (by kernel_rfl) (by kernel_rfl) (by kernel_rfl) (fun _ _ _ h => h) (by rfl) ?_ trivial ?_
          rotate_left 1
          · intro w _; go_simp <;> with_reducible rfl
          try simp only [Act.put, List.setIfInBounds_toArray, List.set_cons_zero, List.set_cons_succ]
          refine takeOn (i := 24) (v := ?_) rfl (by kernel_rfl) (by kernel_rfl) (by kernel_rfl) (fun _ _ _ h => h) (by rfl) ?_ trivial ?_
          rotate_left 1
          · intro w _; go_simp <;> with_reducible rfl
          try simp only [Act.put, List.setIfInBounds_toArray, List.set_cons_zero, List.set_cons_succ]
          refine takeOn (i := 25) (v := ?_) rfl (by kernel_rfl) (by kernel_rfl) (by kernel_rfl) (fun _ _ _ h => h) (by rfl) ?_ trivial ?_
          rotate_left 1
          · intro w _; go_simp <;> with_reducible rfl
          try simp only [Act.put, List.setIfInBounds_toArray, List.set_cons_zero, List.set_cons_succ]
          refine takeOn (i := 26) (v := ?_) rfl (by kernel_rfl) (by kernel_rfl) (by kernel_rfl) (fun _ _ _ h => h) (by rfl) ?_ trivial ?_
          rotate_left 1
          · intro w _; go_simp <;> with_reducible rfl
          try simp only [Act.put, List.setIfInBounds_toArray, List.set_cons_zero, List.set_cons_succ]
          refine loneOn (i := 23) rfl (by kernel_rfl) (by rfl) (fun K hK => ?_)
          go_simp
          go_at_call 38
          refine (kExtend (S19.drewN _) H3.out H5b.out qa qb).mono ?_
          rintro e w20 ⟨rfl, B20⟩
          refine hK.out _ _ trivial (fun _ => ?_)
          clear hK K
          try simp only [Act.put, List.setIfInBounds_toArray, List.set_cons_zero, List.set_cons_succ]
          refine takeOn (i := 27) (v := ?_) rfl (by kernel_rfl) (by kernel_rfl) (by kernel_rfl) (fun _ _ _ h => h) (by rfl) ?_ trivial ?_
          rotate_left 1
          · intro w _; go_simp <;> with_reducible rfl
          try simp only [Act.put, List.setIfInBounds_toArray, List.set_cons_zero, List.set_cons_succ]
          refine takeOn (i := 28) (v := ?_) rfl (by kernel_rfl) (by kernel_rfl) (by kernel_rfl) (fun _ _ _ h => h) (by rfl) ?_ trivial ?_
          rotate_left 1
          · intro w _; go_simp <;> with_reducible rfl
          try simp only [Act.put, List.setIfInBounds_toArray, List.set_cons_zero, List.set_cons_succ]
          refine takeOn (i := 29) (v := ?_) rfl (by kernel_rfl) (by kernel_rfl) (by kernel_rfl) (fun _ _ _ h => h) (by rfl) ?_ trivial ?_
          rotate_left 1
          · intro w _; go_simp <;> with_reducible rfl
          try simp only [Act.put, List.setIfInBounds_toArray, List.set_cons_zero, List.set_cons_succ]
          refine takeOn (i := 30) (v := ?_) rfl (by kernel_rfl) (by kernel_rfl) (by kernel_rfl) (fun _ _ _ h => h) (by rfl) ?_ trivial ?_
          rotate_left 1
          · intro w _; go_simp <;> with_reducible rfl
          try simp only [Act.put, List.setIfInBounds_toArray, List.set_cons_zero, List.set_cons_succ]
          refine takeOn (i := 31) (v := ?_) rfl (by kernel_rfl) (by kernel_rfl) (by kernel_rfl) (fun _ _ _ h => h) (by rfl) ?_ trivial ?_
          rotate_left 1
          · intro w _; go_simp <;> with_reducible rfl
          try simp only [Act.put, List.setIfInBounds_toArray, List.set_cons_zero, List.set_cons_succ]
          refine takeOn (i := 32) (v := ?_) rfl (by kernel_rfl) (by kernel_rfl) (by kernel_rfl) (fun _ _ _ h => h) (by rfl) ?_ trivial ?_
          rotate_left 1
          · intro w _; go_simp <;> with_reducible rfl
          try simp only [Act.put, List.setIfInBounds_toArray, List.set_cons_zero, List.set_cons_succ]
          refine takeOn (i := 33) (v := ?_) rfl (by kernel_rfl) (by kernel_rfl) (by kernel_rfl) (fun _ _ _ h => h) (by rfl) ?_ trivial ?_
          rotate_left 1
          · intro w _; go_simp <;> with_reducible rfl
          try simp only [Act.put, List.setIfInBounds_toArray, List.set_cons_zero, List.set_cons_succ]
          refine takeOn (i := 34) (v := ?_) rfl (by kernel_rfl) (by kernel_rfl) (by kernel_rfl) (fun _ _ _ h => h) (by rfl) ?_ trivial ?_
          rotate_left 1
          · intro w _; go_simp <;> with_reducible rfl
          try simp only [Act.put, List.setIfInBounds_toArray, List.set_cons_zero, List.set_cons_succ]
          refine takeOn (i := 35) (v := ?_) rfl (by kernel_rfl) (by kernel_rfl) (by kernel_rfl) (fun _ _ _ h => h) (by rfl) ?_ trivial ?_
          rotate_left 1
          · intro w _; go_simp <;> with_reducible rfl
          try simp only [Act.put, List.setIfInBounds_toArray, List.set_cons_zero, List.set_cons_succ]
          refine takeOn (i := 36) (v := ?_) rfl (by kernel_rfl) (by kernel_rfl) (by kernel_rfl) (fun _ _ _ h => h) (by rfl) ?_ trivial ?_
          rotate_left 1
          · intro w _; go_simp <;> with_reducible rfl
          try simp only [Act.put, List.setIfInBounds_toArray, List.set_cons_zero, List.set_cons_succ]
          refine takeOn (i := 37) (v := ?_) rfl (by kernel_rfl) (by kernel_rfl) (by kernel_rfl) (fun _ _ _ h => h) (by rfl) ?_ trivial ?_
          rotate_left 1
          · intro w _; go_simp <;> with_reducible rfl
          try simp only [Act.put, List.setIfInBounds_toArray, List.set_cons_zero, List.set_cons_succ]
          refine takeOn (i := 38) (v := ?_) rfl (by kernel_rfl) (by kernel_rfl) (by kernel_rfl) (fun _ _ _ h => h) (by rfl) ?_ trivial ?_
          rotate_left 1
          · intro w _; go_simp <;> with_reducible rfl
          try simp only [Act.put, List.setIfInBounds_toArray, List.set_cons_zero, List.set_cons_succ]
          refine takeOn (i := 39) (v := ?_) rfl (by kernel_rfl) (by kernel_rfl) (by kernel_rfl) (fun _ _ _ h => h) (by rfl) ?_ trivial ?_
          rotate_left 1
          · intro w _; go_simp <;> with_reducible rfl
          try simp only [Act.put, List.setIfInBounds_toArray, List.set_cons_zero, List.set_cons_succ]
          refine takeOff (i := 40) rfl (by kernel_rfl) (by kernel_rfl) (by kernel_rfl) (fun _ _ _ h => h) (by rfl) trivial ?_
          try simp only [Act.put, List.setIfInBounds_toArray, List.set_cons_zero, List.set_cons_succ]
          refine takeOff (i := 41) rfl (by kernel_rfl) (by kernel_rfl) (by kernel_rfl) (fun _ _ _ h => h) (by rfl) trivial ?_
          try simp only [Act.put, List.setIfInBounds_toArray, List.set_cons_zero, List.set_cons_succ]
          refine takeOff (i := 42) rfl (by kernel_rfl) (by kernel_rfl) (by kernel_rfl) (fun _ _ _ h => h) (by rfl) trivial ?_
          try simp only [Act.put, List.setIfInBounds_toArray, List.set_cons_zero, List.set_cons_succ]
          refine takeOff (i := 43) rfl (by kernel_rfl) (by kernel_rfl) (by kernel_rfl) (fun _ _ _ h => h) (by rfl) trivial ?_
          try simp only [Act.put, List.setIfInBounds_toArray, List.set_cons_zero, List.set_cons_succ]
          refine takeOff (i := 44) rfl (by kernel_rfl) (by kernel_rfl) (by kernel_rfl) (fun _ _ _ h => h) (by rfl) trivial ?_
          try simp only [Act.put, List.setIfInBounds_toArray, List.set_cons_zero, List.set_cons_succ]
          refine takeOff (i := 45) rfl (by kernel_rfl) (by kernel_rfl) (by kernel_rfl) (fun _ _ _ h => h) (by rfl) trivial ?_
          try simp only [Act.put, List.setIfInBounds_toArray, List.set_cons_zero, List.set_cons_succ]
          refine takeOn (i := 46) (v := ?_) rfl (by kernel_rfl) (by kernel_rfl) (by kernel_rfl) (fun _ _ _ h => h) (by rfl) ?_ trivial ?_
          rotate_left 1
          · intro w _; go_simp <;> with_reducible rfl
          try simp only [Act.put, List.setIfInBounds_toArray, List.set_cons_zero, List.set_cons_succ]
          refine takeOn (i := 47) (v := ?_) rfl (by kernel_rfl) (by kernel_rfl) (by kernel_rfl) (fun _ _ _ h => h) (by rfl) ?_ trivial ?_
          rotate_left 1
          · intro w _; go_simp <;> with_reducible rfl
          try simp only [Act.put, List.setIfInBounds_toArray, List.set_cons_zero, List.set_cons_succ]
          refine takeOn (i := 48) (v := ?_) rfl (by kernel_rfl) (by kernel_rfl) (by kernel_rfl) (fun _ _ _ h => h) (by rfl) ?_ trivial ?_
          rotate_left 1
          · intro w _; go_simp <;> with_reducible rfl
          try simp only [Act.put, List.setIfInBounds_toArray, List.set_cons_zero, List.set_cons_succ]
          refine takeOn (i := 49) (v := ?_) rfl (by kernel_rfl) (by kernel_rfl) (by kernel_rfl) (fun _ _ _ h => h) (by rfl) ?_ trivial ?_
          rotate_left 1
          · intro w _; go_simp <;> with_reducible rfl
          try simp only [Act.put, List.setIfInBounds_toArray, List.set_cons_zero, List.set_cons_succ]
          refine takeOn (i := 50) (v := ?_) rfl (by kernel_rfl) (by kernel_rfl) (by kernel_rfl) (fun _ _ _ h => h) (by rfl) ?_ trivial ?_
          rotate_left 1
          · intro w _; go_simp <;> with_reducible rfl
          try simp only [Act.put, List.setIfInBounds_toArray, List.set_cons_zero, List.set_cons_succ]
          refine takeOn (i := 51) (v := ?_) rfl (by kernel_rfl) (by kernel_rfl) (by kernel_rfl) (fun _ _ _ h => h) (by rfl) ?_ trivial ?_
          rotate_left 1
          · intro w _; go_simp <;> with_reducible rfl
          try simp only [Act.put, List.setIfInBounds_toArray, List.set_cons_zero, List.set_cons_succ]
          refine takeOn (i := 52) (v := ?_) rfl (by kernel_rfl) (by kernel_rfl) (by kernel_rfl) (fun _ _ _ h => h) (by rfl) ?_ trivial ?_
          rotate_left 1
          · intro w _; go_simp <;> with_reducible rfl
          try simp only [Act.put, List.setIfInBounds_toArray, List.set_cons_zero, List.set_cons_succ]
          refine takeOn (i := 53) (v := ?_) rfl (by kernel_rfl) (by kernel_rfl) (by kernel_rfl) (fun _ _ _ h => h) (by rfl) ?_ trivial ?_
          rotate_left 1
          · intro w _; go_simp <;> with_reducible rfl
          try simp only [Act.put, List.setIfInBounds_toArray, List.set_cons_zero, List.set_cons_succ]
          refine takeOn (i := 54) (v := ?_) rfl (by kernel_rfl) (by kernel_rfl) (by kernel_rfl) (fun _ _ _ h => h) (by rfl) ?_ trivial ?_
          rotate_left 1
          · intro w _; go_simp <;> with_reducible rfl
          try simp only [Act.put, List.setIfInBounds_toArray, List.set_cons_zero, List.set_cons_succ]
          refine takeOn (i := 55) (v := ?_) rfl (by kernel_rfl) (by kernel_rfl) (by kernel_rfl) (fun _ _ _ h => h) (by rfl) ?_ trivial ?_
          rotate_left 1
          · intro w _; go_simp <;> with_reducible rfl
          try simp only [Act.put, List.setIfInBounds_toArray, List.set_cons_zero, List.set_cons_succ]
          refine takeOn (i := 56) (v := ?_) rfl (by kernel_rfl) (by kernel_rfl) (by kernel_rfl) (fun _ _ _ h => h) (by rfl) ?_ trivial ?_
          rotate_left 1
          · intro w _; go_simp <;> with_reducible rfl
          try simp only [Act.put, List.setIfInBounds_toArray, List.set_cons_zero, List.set_cons_succ]
          refine takeOn (i := 57) (v := ?_) rfl (by kernel_rfl) (by kernel_rfl) (by kernel_rfl) (fun _ _ _ h => h) (by rfl) ?_ trivial ?_
          rotate_left 1
          · intro w _; go_simp <;> with_reducible rfl
          try simp only [Act.put, List.setIfInBounds_toArray, List.set_cons_zero, List.set_cons_succ]
          refine takeOn (i := 58) (v := ?_) rfl (by kernel_rfl) (by kernel_rfl) (by kernel_rfl) (fun _ _ _ h => h) (by rfl) ?_ trivial ?_
          rotate_left 1
          · intro w _; go_simp <;> with_reducible rfl
          try simp only [Act.put, List.setIfInBounds_toArray, List.set_cons_zero, List.set_cons_succ]
          refine takeOn (i := 59) (v := ?_) rfl (by kernel_rfl) (by kernel_rfl) (by kernel_rfl) (fun _ _ _ h => h) (by rfl) ?_ trivial ?_
          rotate_left 1
          · intro w _; go_simp <;> with_reducible rfl
          try simp only [Act.put, List.setIfInBounds_toArray, List.set_cons_zero, List.set_cons_succ]
          refine takeOn (i := 60) (v := ?_) rfl (by kernel_rfl) (by kernel_rfl) (by kernel_rfl) (fun _ _ _ h => h) (by rfl) ?_ trivial ?_
          rotate_left 1
          · intro w _; go_simp <;> with_reducible rfl
          try simp only [Act.put, List.setIfInBounds_toArray, List.set_cons_zero, List.set_cons_succ]
          refine wpAnyH_done (by kernel_rfl) ?_ _
          have S20 := S19.drewN' _ B20
          go_wp2
          go_ret
          exact ⟨rfl, S20.below⟩
  · go_enter Try.func14, Try.ntmps14
    go_wp2
    go_ret
    exact ⟨rfl, Below.refl _ _⟩
end Go.Proofs.Ytfdighaginmabaa
