/-
  WALK OF FnExactSplitAny: for every two strings it returns true, and nothing that lay ahead of the call is changed.
-/
import Derived.Test.YtepjmlcleggnnaaStrF
namespace Go.Proofs.Ytepjmlcleggnnaa
open Go.RowKit

theorem markS1 (A : Option Addr) (c base : Nat) (xs : List ByteArray) (w : World) (ho : OwS w base (.slice A xs.length c) xs) (hbase : base ≤ w.heap.size) (hl : xs.length ≤ 1099511627776) :
    Calls Try.prog 25 #[.slice A xs.length c, .int .i64 1] w fun e w' => e = .returned (.int .i64 (1 + xs.length)) ∧ OwS w' base (.slice A xs.length c) (marksT 1 xs.length) ∧ Below base w w' := by
  refine (markStringS_any A c base 1 xs w ho hbase hl (by omega) (by omega)).mono ?_
  rintro e w' ⟨rfl, h1, h2, _⟩
  exact ⟨rfl, h1, h2⟩
theorem heldS1 (A : Option Addr) (c n : Nat) (w : World) (hr : RdS w A (marksT 1 n)) (hl : n ≤ 1099511627776) :
    Calls Try.prog 26 #[.slice A n c, .int .i64 1] w fun e w' => e = .returned (.int .i64 (1 + n)) ∧ Below w.heap.size w w' := by
  refine (heldStringS_any A c n 1 w hr hl (by omega) (by omega)).mono ?_
  rintro e w' ⟨rfl, h⟩
  exact ⟨rfl, h⟩

set_option maxRecDepth 100000 in
set_option maxHeartbeats 3200000 in
theorem lSplit_law (w : World) (s : ByteArray) (m0 : s.size ≤ maxLen) (b : ByteArray) (m1 : b.size ≤ maxLen) :
    Calls Try.prog 6 #[.string s, .string b] w fun e w' => e = .returned (.bool true) ∧ Below w.heap.size w w' := by
  unfold maxLen at m0 m1
  by_cases h1 : s.size ≤ 1048576
  · by_cases h2 : b.size ≤ 1048576
    · have hl := splitR_len s b h1
      go_enter Try.func6, Try.ntmps6
      go_wp2_with fail
      refine (sSplit_c _ s b h1 h2).mono ?_
      rintro e w1 ⟨A1, c1, rfl, O1, B1⟩
      go_wp2_with fail
      refine (iSplit_c _ s b h1 h2).mono ?_
      rintro e w2 ⟨A2, c2, rfl, O2, B2⟩
      have U1 := fun k hk => (O1.lt k hk).2
      have O1b := O1.below' B2
      have C2 := B1.trans (B2.mono B1.size)
      go_wp2_with fail
      refine (eqStringS_same _ _ _ _ _ _ O2.rd O1b.rd hl).mono ?_
      rintro e w3 ⟨rfl, n3, rfl⟩
      have O1c := O1b.drewN n3
      have O2c := O2.drewN n3
      have C3 := below_drewN C2 n3
      go_wp2_with fail
      refine (markS1 _ _ _ _ _ O2c B2.size hl).mono ?_
      rintro e w4 ⟨rfl, O2d, B4⟩
      have O1d := O1c.below B4 U1
      have C4 := C3.trans (B4.mono B1.size)
      go_wp2_with fail
      refine (heldS1 _ _ _ _ O2d.rd hl).mono ?_
      rintro e w5 ⟨rfl, B5⟩
      have O1e := O1d.below' B5
      have O2e := O2d.below' B5
      have C5 := C4.trans (B5.mono C4.size)
      go_wp2_with fail
      refine (iSplit_c _ s b h1 h2).mono ?_
      rintro e w6 ⟨A3, c3, rfl, O3, B6⟩
      have O1f := O1e.below' B6
      have O2f := O2e.below' B6
      have C6 := C5.trans (B6.mono C5.size)
      go_wp2_with fail
      refine (eqStringS_same _ _ _ _ _ _ O3.rd O1f.rd hl).mono ?_
      rintro e w7 ⟨rfl, n7, rfl⟩
      have O2g := O2f.drewN n7
      have C7 := below_drewN C6 n7
      go_wp2_with fail
      refine (heldS1 _ _ _ _ O2g.rd hl).mono ?_
      rintro e w8 ⟨rfl, B8⟩
      have C8 := C7.trans (B8.mono C7.size)
      go_wp2
      go_ret
      exact ⟨rfl, C8⟩
    · go_enter Try.func6, Try.ntmps6
      go_wp2
      go_ret
      exact ⟨rfl, Below.refl _ _⟩
  · go_enter Try.func6, Try.ntmps6
    go_wp2
    go_ret
    exact ⟨rfl, Below.refl _ _⟩
end Go.Proofs.Ytepjmlcleggnnaa
