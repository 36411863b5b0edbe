/-
  WALKS: the cursor that the great laws draw with. No statement of the seat is proved here.
-/
import Derived.Test.YtfdighaginmabaaW3
import Derived.Deep.RegionHeld3
namespace Go.Proofs.Ytfdighaginmabaa
open Go.RowKit

theorem and255 (u : Int) : 0 ≤ bits .and .i64 u 255 ∧ bits .and .i64 u 255 ≤ 255 := by
  have e : bits .and .i64 u 255 = IntKind.i64.wrap ((BitVec.ofInt 64 u &&& BitVec.ofInt 64 255).toNat : Int) := rfl
  have h : (BitVec.ofInt 64 u &&& BitVec.ofInt 64 255).toNat ≤ 255 := by
    rw [BitVec.toNat_and]
    exact Nat.le_trans Nat.and_le_right (by decide)
  rw [e, IntWalk.i64_in _ (by omega)]
  omega
theorem andMask (u : Int) : 0 ≤ bits .and .i64 u 1073741823 ∧ bits .and .i64 u 1073741823 ≤ 1073741823 := by
  have e : bits .and .i64 u 1073741823 = IntKind.i64.wrap ((BitVec.ofInt 64 u &&& BitVec.ofInt 64 1073741823).toNat : Int) := rfl
  have h : (BitVec.ofInt 64 u &&& BitVec.ofInt 64 1073741823).toNat ≤ 1073741823 := by
    rw [BitVec.toNat_and]
    exact Nat.le_trans Nat.and_le_right (by decide)
  rw [e, IntWalk.i64_in _ (by omega)]
  omega
/-- A cursor in block g over the bytes that A leads to. -/
def CurAt (w : World) (base g : Nat) (A : Option Addr) (c n : Nat) : Prop :=
  base ≤ g ∧ ∃ i h : Int, w.heap[g]? = some (.cells #[.slice A n c, .int .i64 i, .int .i64 h] 57 (0, 0)) ∧ 0 ≤ i ∧ i ≤ n
theorem CurAt.lt {w : World} {base g c n : Nat} {A : Option Addr} (h : CurAt w base g A c n) : g < w.heap.size := by
  obtain ⟨_, i, hh, h1, _⟩ := h
  rcases Nat.lt_or_ge g w.heap.size with hlt | hge
  · exact hlt
  · rw [Array.getElem?_eq_none hge] at h1; cases h1
theorem CurAt.below {w w' : World} {base g c n B : Nat} {A : Option Addr} (h : CurAt w base g A c n) (hb : Below B w w') (hB : g < B) : CurAt w' base g A c n := by
  obtain ⟨h0, i, hh, h1, r⟩ := h
  exact ⟨h0, i, hh, by rw [hb.block g hB]; exact h1, r⟩

set_option maxHeartbeats 1600000 in
theorem l01Byte_any (g base : Nat) (A : Option Addr) (c : Nat) (xs : List Int) (w : World) (hC : CurAt w base g A c xs.length) (hr : Rd8 w A xs) (hA : 0 < xs.length → ∀ ad, A = some ad → ad.block < base) (hb : ∀ x ∈ xs, 0 ≤ x ∧ x ≤ 255) (hl : xs.length ≤ 1099511627776) :
    Calls Try.prog 72 #[.pointer (some ⟨g, 0, none⟩)] w fun e w' => ∃ x : Int, e = .returned (.int .i64 x) ∧ 0 ≤ x ∧ x ≤ 255 ∧ CurAt w' base g A c xs.length ∧ w.grownBy w' (some g) := by
  obtain ⟨hbg, i, h, hh, i0, i1⟩ := hC
  have c0 : w.cell? ⟨g, 0, none⟩ = some (.slice A xs.length c) := by rw [cell_of_row w g 0 _ _ _ hh]; rfl
  have c1 : w.cell? ⟨g, 1, none⟩ = some (.int .i64 i) := by rw [cell_of_row w g 1 _ _ _ hh]; rfl
  have c2 : w.cell? ⟨g, 2, none⟩ = some (.int .i64 h) := by rw [cell_of_row w g 2 _ _ _ hh]; rfl
  have f1 : w.frozen? ⟨g, 1, none⟩ = false := frozen_of_row w g 1 _ _ hh
  have f2 : w.frozen? ⟨g, 2, none⟩ = false := frozen_of_row w g 2 _ _ hh
  go_enter Try.func72, Try.ntmps72
  go_wp2_with fail
  obtain ⟨H, hH⟩ : ∃ H, wrap64 (wrap64 (h * 6364136223846793005) + 1442695040888963407) = H := ⟨_, rfl⟩
  rw [hH]
  clear hH
  have hh1 : (w.setCell ⟨g, 2, none⟩ (.int .i64 H)).heap[g]? = some (.cells #[.slice A xs.length c, .int .i64 i, .int .i64 H] 57 (0, 0)) := by
    rw [heap_setCell_same w g 2 _ _ _ hh]
    rfl
  have hG1 : w.grownBy (w.setCell ⟨g, 2, none⟩ (.int .i64 H)) (some g) := ⟨rfl, rfl, rfl, by simp, fun i _ hi => heap_setCell_other w ⟨g, 2, none⟩ i _ (fun e => hi (by simp [e]))⟩
  have hr1 : Rd8 (w.setCell ⟨g, 2, none⟩ (.int .i64 H)) A xs := fun hn => by
    obtain ⟨ad, e, hc⟩ := hr hn
    refine ⟨ad, e, fun j hj => ?_⟩
    have h1 := hA hn ad e
    have hl1 := cell_lt (hc j hj)
    rw [World.cell?_of_block (hG1.block _ hl1 (by rw [block_add]; intro e2; have := Option.some.inj e2; omega))]
    exact hc j hj
  obtain ⟨w1, hw1⟩ : ∃ w1, w.setCell ⟨g, 2, none⟩ (.int .i64 H) = w1 := ⟨_, rfl⟩
  rw [hw1] at hh1 hG1 hr1
  rw [hw1]
  have HR1 := Lib.hid hr1
  have HG1 := Lib.hid hG1
  have HX := Lib.hid hb
  have HH1 := Lib.hid hh1
  clear hw1 c0 c1 c2 f1 f2 hh hr hr1 hG1 hb
  have c0 : w1.cell? ⟨g, 0, none⟩ = some (.slice A xs.length c) := by rw [cell_of_row w1 g 0 _ _ _ hh1]; rfl
  have c1 : w1.cell? ⟨g, 1, none⟩ = some (.int .i64 i) := by rw [cell_of_row w1 g 1 _ _ _ hh1]; rfl
  have c2 : w1.cell? ⟨g, 2, none⟩ = some (.int .i64 H) := by rw [cell_of_row w1 g 2 _ _ _ hh1]; rfl
  have f1 : w1.frozen? ⟨g, 1, none⟩ = false := frozen_of_row w1 g 1 _ _ hh1
  clear hh1
  go_region_held3 (fun w' => w'.cell? ⟨g, 2, none⟩ = some (.int .i64 H)) (go_keep) (fail)
  obtain ⟨u, hu⟩ : ∃ u, bits .xor .i64 (H / 8589934592) (H / 35184372088832) = u := ⟨_, rfl⟩
  rw [hu]
  obtain ⟨x0, x1⟩ := and255 u
  obtain ⟨x, hx⟩ : ∃ x, bits .and .i64 u 255 = x := ⟨_, rfl⟩
  rw [hx] at x0 x1 ⊢
  clear hu hx
  by_cases hlt : i < xs.length
  · obtain ⟨k, rfl⟩ : ∃ k : Nat, i = k := ⟨i.toNat, by omega⟩
    obtain ⟨ad, y, rfl, hy, hcy⟩ := HR1.out.at_ (k := k) (by omega)
    have by_ := HX.out y (List.mem_of_getElem? hy.out)
    have t1 : IntKind.i64.wrap (x + y) = x + y := IntWalk.i64_in _ (by omega)
    have t2 : (k : Int) < xs.length := hlt
    have t3 : (0 : Int) ≤ k := i0
    clear hy
    have h5 : ((w1.drew.drew.drew).setCell ⟨g, 1, none⟩ (.int .i64 ((k : Int) + 1))).heap[g]? = some (.cells #[.slice (some ad) xs.length c, .int .i64 ((k : Int) + 1), .int .i64 H] 57 (0, 0)) := by
      rw [heap_setCell_same w1.drew.drew.drew g 1 _ _ _ HH1.out]
      rfl
    have H5 := Lib.hid h5
    have hG5 : w1.drew.drew.drew.grownBy (w1.drew.drew.drew.setCell ⟨g, 1, none⟩ (.int .i64 ((k : Int) + 1))) (some g) := ⟨rfl, rfl, rfl, by simp, fun i _ hi => heap_setCell_other w1.drew.drew.drew ⟨g, 1, none⟩ i _ (fun e => hi (by simp [e]))⟩
    have HG5 := Lib.hid hG5
    clear h5 hG5
    go_wp2_with fail
    go_region_held3 (fun w' => w'.cell? ⟨g, 0, none⟩ = some (.slice (some ad) xs.length c) ∧ w'.cell? ⟨g, 1, none⟩ = some (.int .i64 k)) (go_keep) (fail)
    go_wp2_with fail
    go_region_held3 (fun w' => w'.cell? ⟨g, 0, none⟩ = some (.slice (some ad) xs.length c) ∧ w'.cell? ⟨g, 1, none⟩ = some (.int .i64 k) ∧ w'.cell? (ad.add k) = some (.int .u8 y)) (go_keep) (fail)
    clear t1
    go_wp2
    go_ret
    refine ⟨_, rfl, (and255 _).1, (and255 _).2, ⟨hbg, _, _, H5.out, by omega, by omega⟩, ?_⟩
    have h3 : w.grownBy w1.drew.drew.drew (some g) := ⟨HG1.out.os, HG1.out.tape, HG1.out.output, HG1.out.size, HG1.out.block⟩
    exact ⟨HG5.out.os.trans h3.os, HG5.out.tape.trans h3.tape, HG5.out.output.trans h3.output, Nat.le_trans h3.size HG5.out.size, fun i hi hn => (HG5.out.block i (Nat.lt_of_lt_of_le hi h3.size) hn).trans (h3.block i hi hn)⟩
  · go_wp2_with fail
    go_region_held3 (fun w' => w'.cell? ⟨g, 0, none⟩ = some (.slice A xs.length c) ∧ w'.cell? ⟨g, 1, none⟩ = some (.int .i64 i)) (go_keep) (fail)
    go_wp2
    go_ret
    exact ⟨_, rfl, x0, x1, ⟨hbg, _, _, HH1.out, i0, i1⟩, ⟨HG1.out.os, HG1.out.tape, HG1.out.output, HG1.out.size, HG1.out.block⟩⟩

/-- What every call with the cursor gives. -/
structure CurIn (w : World) (base g : Nat) (A : Option Addr) (c : Nat) (xs : List Int) : Prop where
  cur : CurAt w base g A c xs.length
  rd : Rd8 w A xs
theorem grown_below1 {base g : Nat} {w w' : World} (hG : w.grownBy w' (some g)) (hg : base ≤ g) (hs : base ≤ w.heap.size) : Below base w w' :=
  (Below.refl base w).grown hG hs fun k hk => by have := Option.some.inj hk; omega
theorem Rd8.far {w w' : World} {A : Option Addr} {xs : List Int} {base : Nat} (h : Rd8 w A xs) (hA : 0 < xs.length → ∀ ad, A = some ad → ad.block < base) (hB : Below base w w') : Rd8 w' A xs := fun hn => by
  obtain ⟨ad, e, hc⟩ := h hn
  exact ⟨ad, e, fun j hj => by rw [hB.cell (by rw [block_add]; exact hA hn ad e)]; exact hc j hj⟩
theorem grown_trans1 {a b d : World} {g : Nat} (h : a.grownBy b (some g)) (k : b.grownBy d (some g)) : a.grownBy d (some g) := grown_trans h k

/-- One byte; everything by blocks: 'base' bounds what lay before the call of the law. -/
theorem byte_c {base g c : Nat} {A : Option Addr} {xs : List Int} {w : World} (h : CurIn w base g A c xs) (hs : base ≤ w.heap.size) (hA : 0 < xs.length → ∀ ad, A = some ad → ad.block < base) (hb : ∀ x ∈ xs, 0 ≤ x ∧ x ≤ 255) (hl : xs.length ≤ 1099511627776) :
    Calls Try.prog 72 #[.pointer (some ⟨g, 0, none⟩)] w fun e w' => ∃ x : Int, e = .returned (.int .i64 x) ∧ 0 ≤ x ∧ x ≤ 255 ∧ CurIn w' base g A c xs ∧ w.grownBy w' (some g) ∧ Below base w w' := by
  refine (l01Byte_any g base A c xs w h.cur h.rd hA hb hl).mono ?_
  rintro e w' ⟨x, rfl, x0, x1, hC, hG⟩
  have hB := grown_below1 hG h.cur.1 hs
  exact ⟨x, rfl, x0, x1, ⟨hC, h.rd.far hA hB⟩, hG, hB⟩

set_option maxHeartbeats 1600000 in
theorem below_c {base g c : Nat} {A : Option Addr} {xs : List Int} {w : World} (n : Int) (n0 : 1 ≤ n) (n1 : n ≤ 1000000) (h : CurIn w base g A c xs) (hs : base ≤ w.heap.size) (hA : 0 < xs.length → ∀ ad, A = some ad → ad.block < base) (hb : ∀ x ∈ xs, 0 ≤ x ∧ x ≤ 255) (hl : xs.length ≤ 1099511627776) :
    Calls Try.prog 70 #[.pointer (some ⟨g, 0, none⟩), .int .i64 n] w fun e w' => ∃ x : Int, e = .returned (.int .i64 x) ∧ 0 ≤ x ∧ x ≤ n - 1 ∧ CurIn w' base g A c xs ∧ w.grownBy w' (some g) ∧ Below base w w' := by
  have HB := Lib.hid (fun (u : World) (hu : CurIn u base g A c xs) (hsu : base ≤ u.heap.size) => byte_c hu hsu hA hb hl)
  by_cases h256 : n ≤ 256
  · go_enter Try.func70, Try.ntmps70
    go_wp2_with fail
    refine (HB.out _ h hs).mono ?_
    rintro e w1 ⟨x, rfl, x0, x1, hC, hG, hB1⟩
    have t0 := Int.emod_nonneg x (show n ≠ 0 by omega)
    have t1 := Int.emod_lt_of_pos x (show 0 < n by omega)
    go_wp2
    go_ret
    exact ⟨_, rfl, t0, by omega, hC, hG, hB1⟩
  · go_enter Try.func70, Try.ntmps70
    go_wp2_with fail
    refine (HB.out _ h hs).mono ?_
    rintro e w1 ⟨x, rfl, x0, x1, hC1, hG1, hB1⟩
    have s1 := Nat.le_trans hs hB1.size
    go_wp2_with fail
    refine (HB.out _ hC1 s1).mono ?_
    rintro e w2 ⟨y, rfl, y0, y1, hC2, hG2, hB2⟩
    have s2 := Nat.le_trans s1 hB2.size
    go_wp2_with fail
    refine (HB.out _ hC2 s2).mono ?_
    rintro e w3 ⟨z, rfl, z0, z1, hC3, hG3, hB3⟩
    have s3 := Nat.le_trans s2 hB3.size
    go_wp2_with fail
    refine (HB.out _ hC3 s3).mono ?_
    rintro e w4 ⟨v, rfl, v0, v1, hC4, hG4, hB4⟩
    have t0 := Int.emod_nonneg (x * 16777216 + y * 65536 + z * 256 + v) (show n ≠ 0 by omega)
    have t1 := Int.emod_lt_of_pos (x * 16777216 + y * 65536 + z * 256 + v) (show 0 < n by omega)
    go_wp2
    go_ret
    exact ⟨_, rfl, t0, by omega, hC4, grown_trans1 hG1 (grown_trans1 hG2 (grown_trans1 hG3 hG4)), hB1.trans (hB2.trans (hB3.trans hB4))⟩

theorem once_c {base g c : Nat} {A : Option Addr} {xs : List Int} {w : World} (n : Int) (n0 : 1 ≤ n) (n1 : n ≤ 1000000) (h : CurIn w base g A c xs) (hs : base ≤ w.heap.size) (hA : 0 < xs.length → ∀ ad, A = some ad → ad.block < base) (hb : ∀ x ∈ xs, 0 ≤ x ∧ x ≤ 255) (hl : xs.length ≤ 1099511627776) :
    Calls Try.prog 71 #[.pointer (some ⟨g, 0, none⟩), .int .i64 n] w fun e w' => ∃ b : Bool, e = .returned (.bool b) ∧ CurIn w' base g A c xs ∧ w.grownBy w' (some g) ∧ Below base w w' := by
  go_enter Try.func71, Try.ntmps71
  go_wp2_with fail
  refine (below_c n n0 n1 h hs hA hb hl).mono ?_
  rintro e w1 ⟨x, rfl, x0, x1, hC, hG, hB1⟩
  go_wp2
  go_ret
  exact ⟨_, rfl, hC, hG, hB1⟩

set_option maxHeartbeats 1600000 in
theorem new_c (A : Option Addr) (c : Nat) (xs : List Int) (w : World) (hr : Rd8 w A xs) (hA : 0 < xs.length → ∀ ad, A = some ad → ad.block < w.heap.size) (hb : ∀ x ∈ xs, 0 ≤ x ∧ x ≤ 255) (hl : xs.length ≤ 1099511627776) :
    Calls Try.prog 76 #[.slice A xs.length c] w fun e w' => ∃ g, e = .returned (.pointer (some ⟨g, 0, none⟩)) ∧ CurIn w' w.heap.size g A c xs ∧ Below w.heap.size w w' := by
  have HR := Lib.hid hr
  have HX := Lib.hid hb
  clear hr hb
  go_enter Try.func76, Try.ntmps76
  go_wp2
  go_loop [3, 4] (fun h i => ∃ (k : Nat) (z : Int), k ≤ xs.length ∧ i = .int .i64 k ∧ h = .int .i64 z ∧ 0 ≤ z ∧ z ≤ 1099511700000) (fun _ i => xs.length - (intOf i).toNat)
  case atStart => exact ⟨0, (2140 : Int) + xs.length, Nat.zero_le _, rfl, rfl, by omega, by omega⟩
  case round =>
    obtain ⟨k, z, hk, rfl, rfl, z0, z1⟩ := hrel
    by_cases hlt : k < xs.length ∧ k < 4000
    · obtain ⟨h1, h2⟩ := hlt
      obtain ⟨ad, y, rfl, hy, hcy⟩ := HR.out.at_ (k := k) h1
      have by_ := HX.out y (List.mem_of_getElem? hy.out)
      have t1 : (k : Int) < xs.length := by omega
      have t2 : (k : Int) < 4000 := by omega
      have t3 : (0 : Int) ≤ k := by omega
      have M := Lib.hid (andMask (z * 151 + y + 7))
      clear hy
      go_wp2
      go_round
      case rel => exact ⟨k + 1, _, by omega, by go_num, rfl, M.out.1, by have := M.out.2; omega⟩
      case measure => simp [intOf]; omega
    · have hE : ∀ z : Int, CurIn (w.alloc (.cells #[.slice A xs.length c, .int .i64 0, .int .i64 z] 57)) w.heap.size w.heap.size A c xs := fun z =>
        ⟨⟨Nat.le_refl _, 0, z, heap_alloc_new w _, by omega, by omega⟩, HR.out.keep fun p hp => World.cell?_alloc_lt w _ p hp⟩
      have HE := Lib.hid (hE z)
      have HBl : Hid (Below w.heap.size w (w.alloc (.cells #[.slice A xs.length c, .int .i64 0, .int .i64 z] 57))) := (Below.refl _ _).alloc (Nat.le_refl _) _
      clear hE
      by_cases h1 : k < xs.length
      · have t1 : (k : Int) < xs.length := by omega
        have t2 : ¬ (k : Int) < 4000 := by omega
        go_wp2
        go_ret
        exact ⟨_, rfl, HE.out, HBl.out⟩
      · have t1 : ¬ (k : Int) < xs.length := by omega
        go_wp2
        go_ret
        exact ⟨_, rfl, HE.out, HBl.out⟩

set_option maxHeartbeats 1600000 in
theorem newN_c (N : Nat) (hN : N ≤ 1000) (A : Option Addr) (c : Nat) (xs : List Int) (w : World) (base : Nat) (hbs : base ≤ w.heap.size) (hr : Rd8 w A xs) (hA : 0 < xs.length → ∀ ad, A = some ad → ad.block < base) (hb : ∀ x ∈ xs, 0 ≤ x ∧ x ≤ 255) (hl : xs.length ≤ 1099511627776) :
    Calls Try.prog 69 #[.slice A xs.length c, .int .i64 (N : Int)] w fun e w' => ∃ g, e = .returned (.pointer (some ⟨g, 0, none⟩)) ∧ w.heap.size ≤ g ∧ CurIn w' base g A c xs ∧ Below w.heap.size w w' := by
  have HX := Lib.hid hb
  have HA := Lib.hid hA
  have NC := Lib.hid (new_c A c xs w hr (fun hn ad e => Nat.lt_of_lt_of_le (hA hn ad e) hbs) hb hl)
  clear hr hb hA
  go_enter Try.func69, Try.ntmps69
  go_wp2_with fail
  refine (NC.out).mono ?_
  rintro e w1 ⟨g, rfl, hC, hB⟩
  have hg := hC.cur.1
  have HC1 : Hid (CurIn w1 base g A c xs) := ⟨⟨Nat.le_trans hbs hg, hC.cur.2⟩, hC.rd⟩
  have hs1 : base ≤ w1.heap.size := Nat.le_trans hbs hB.size
  have hs2 : w.heap.size ≤ w1.heap.size := hB.size
  clear hC
  go_wp2
  go_loopw [6] (fun i wr => ∃ k : Nat, k ≤ N ∧ i = .int .i64 k ∧ CurIn wr base g A c xs ∧ w1.grownBy wr (some g)) (fun i _ => N - (intOf i).toNat)
  case atStart => exact ⟨0, Nat.zero_le _, rfl, HC1.out, World.grownBy.refl _ _⟩
  case round =>
    obtain ⟨k, hk, rfl, hC, hG⟩ := hrel
    have hsr := Nat.le_trans hs1 hG.size
    by_cases hlt : k < N
    · have t1 : (k : Int) < N := by omega
      have BY := Lib.hid (byte_c hC hsr HA.out HX.out hl)
      clear hC
      go_wp2_with fail
      refine (BY.out).mono ?_
      rintro e w2 ⟨x, rfl, x0, x1, hC2, hG2, hB2⟩
      go_wp2
      go_roundw
      case rel => exact ⟨k + 1, by omega, by go_num, hC2, grown_trans1 hG hG2⟩
      case measure => simp [intOf]; omega
    · have hkN : k = N := by omega
      subst hkN
      have HCC := Lib.hid hC
      clear hC
      go_wp2
      go_ret
      exact ⟨g, rfl, hg, HCC.out, hB.grown hG hs2 fun q hq => by have := Option.some.inj hq; omega⟩

theorem makeNum_c (N : Nat) (hN : N ≤ 1000) (A : Option Addr) (c : Nat) (xs : List Int) (w : World) (hr : Rd8 w A xs) (hA : 0 < xs.length → ∀ ad, A = some ad → ad.block < w.heap.size) (hb : ∀ x ∈ xs, 0 ≤ x ∧ x ≤ 255) (hl : xs.length ≤ 1099511627776) :
    Calls Try.prog 44 #[.slice A xs.length c, .int .i64 (N : Int)] w fun e w' => ∃ x : Int, e = .returned (.int .i64 x) ∧ 0 ≤ x ∧ x ≤ 65535 ∧ Below w.heap.size w w' := by
  have NC := Lib.hid (newN_c N hN A c xs w w.heap.size (Nat.le_refl _) hr hA hb hl)
  go_enter Try.func44, Try.ntmps44
  go_wp2_with fail
  refine (NC.out).mono ?_
  rintro e w1 ⟨g, rfl, hg, hC, hB⟩
  go_wp2_with fail
  refine (byte_c hC hB.size hA hb hl).mono ?_
  rintro e w2 ⟨x, rfl, x0, x1, hC2, hG2, hB2⟩
  go_wp2_with fail
  refine (byte_c hC2 (Nat.le_trans hB.size hB2.size) hA hb hl).mono ?_
  rintro e w3 ⟨y, rfl, y0, y1, hC3, hG3, hB3⟩
  go_wp2
  go_ret
  exact ⟨_, rfl, by omega, by omega, hB.trans (hB2.trans hB3)⟩

set_option maxHeartbeats 1600000 in
theorem makeNumber_c (N : Nat) (hN : N ≤ 1000) (A : Option Addr) (c : Nat) (xs : List Int) (w : World) (hr : Rd8 w A xs) (hA : 0 < xs.length → ∀ ad, A = some ad → ad.block < w.heap.size) (hb : ∀ x ∈ xs, 0 ≤ x ∧ x ≤ 255) (hl : xs.length ≤ 1099511627776) :
    Calls Try.prog 43 #[.slice A xs.length c, .int .i64 (N : Int)] w fun e w' => ∃ x : Int, e = .returned (.int .i64 x) ∧ 0 ≤ x ∧ x ≤ 9999999999 ∧ Below w.heap.size w w' := by
  have NC := Lib.hid (newN_c N hN A c xs w w.heap.size (Nat.le_refl _) hr hA hb hl)
  have BL := Lib.hid (fun (n : Int) (n0 : 1 ≤ n) (n1 : n ≤ 1000000) (g : Nat) (u : World) (hC : CurIn u w.heap.size g A c xs) (hu : w.heap.size ≤ u.heap.size) => below_c n n0 n1 hC hu hA hb hl)
  have ON := Lib.hid (fun (n : Int) (n0 : 1 ≤ n) (n1 : n ≤ 1000000) (g : Nat) (u : World) (hC : CurIn u w.heap.size g A c xs) (hu : w.heap.size ≤ u.heap.size) => once_c n n0 n1 hC hu hA hb hl)
  go_enter Try.func43, Try.ntmps43
  go_wp2_with fail
  refine (NC.out).mono ?_
  rintro e w1 ⟨g, rfl, hg, hC, hB⟩
  go_wp2_with fail
  refine (BL.out 100 (by omega) (by omega) g _ hC hB.size).mono ?_
  rintro e w2 ⟨x, rfl, x0, x1, hC2, hG2, hB2⟩
  have s2 := Nat.le_trans hB.size hB2.size
  go_wp2_with fail
  refine (ON.out 2 (by omega) (by omega) g _ hC2 s2).mono ?_
  rintro e w3 ⟨b, rfl, hC3, hG3, hB3⟩
  have s3 := Nat.le_trans s2 hB3.size
  have D3 := hB.trans (hB2.trans hB3)
  cases b
  · go_wp2_with fail
    refine (ON.out 3 (by omega) (by omega) g _ hC3 s3).mono ?_
    rintro e w4 ⟨b, rfl, hC4, hG4, hB4⟩
    have s4 := Nat.le_trans s3 hB4.size
    cases b
    · go_wp2
      go_ret
      exact ⟨_, rfl, by omega, by omega, D3.trans hB4⟩
    · go_wp2_with fail
      refine (BL.out 100000 (by omega) (by omega) g _ hC4 s4).mono ?_
      rintro e w5 ⟨z, rfl, z0, z1, hC5, hG5, hB5⟩
      go_wp2
      go_ret
      exact ⟨_, rfl, by omega, by omega, D3.trans (hB4.trans hB5)⟩
  · go_wp2_with fail
    refine (BL.out 1000 (by omega) (by omega) g _ hC3 s3).mono ?_
    rintro e w3b ⟨y, rfl, y0, y1, hC3b, hG3b, hB3b⟩
    have s3b := Nat.le_trans s3 hB3b.size
    have D3b := D3.trans hB3b
    go_wp2_with fail
    refine (ON.out 3 (by omega) (by omega) g _ hC3b s3b).mono ?_
    rintro e w4 ⟨b, rfl, hC4, hG4, hB4⟩
    have s4 := Nat.le_trans s3b hB4.size
    cases b
    · go_wp2
      go_ret
      exact ⟨_, rfl, by omega, by omega, D3b.trans hB4⟩
    · go_wp2_with fail
      refine (BL.out 100000 (by omega) (by omega) g _ hC4 s4).mono ?_
      rintro e w5 ⟨z, rfl, z0, z1, hC5, hG5, hB5⟩
      go_wp2
      go_ret
      exact ⟨_, rfl, by omega, by omega, D3b.trans (hB4.trans hB5)⟩
end Go.Proofs.Ytfdighaginmabaa
