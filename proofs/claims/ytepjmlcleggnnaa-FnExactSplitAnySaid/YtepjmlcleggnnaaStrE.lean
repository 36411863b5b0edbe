/-
  WALKS OF SplitAny (both packages): what it hands back, in the words of a fold over the bytes. No statement of the seat is proved here.
-/
import Derived.Test.YtepjmlcleggnnaaStrD
namespace Go.Proofs.Ytepjmlcleggnnaa
open Go.RowKit Go.PlainAid

/-- Byte k of s is one of the bytes of b. -/
def sepAt (s b : ByteArray) (k : Nat) : Bool := decide (0 ≤ Lib.indexByte b.data.toList (bt s k).toNat.toUInt8)
/-- Where the piece begins that is open behind the first k bytes. -/
def splF (s b : ByteArray) : Nat → Nat
  | 0 => 0
  | k + 1 => if sepAt s b k then k + 1 else splF s b k
/-- The pieces that are shut behind the first k bytes. -/
def splO (s b : ByteArray) : Nat → List ByteArray
  | 0 => []
  | k + 1 => if sepAt s b k then splO s b k ++ [s.extract (splF s b k) k] else splO s b k
theorem splF_zero (s b : ByteArray) : splF s b 0 = 0 := by simp [splF]
theorem splO_zero (s b : ByteArray) : splO s b 0 = [] := by simp [splO]
theorem splF_yes {s b : ByteArray} {k : Nat} (h : sepAt s b k = true) : splF s b (k + 1) = k + 1 := by simp [splF, h]
theorem splF_no {s b : ByteArray} {k : Nat} (h : sepAt s b k = false) : splF s b (k + 1) = splF s b k := by simp [splF, h]
theorem splO_yes {s b : ByteArray} {k : Nat} (h : sepAt s b k = true) : splO s b (k + 1) = splO s b k ++ [s.extract (splF s b k) k] := by simp [splO, h]
theorem splO_no {s b : ByteArray} {k : Nat} (h : sepAt s b k = false) : splO s b (k + 1) = splO s b k := by simp [splO, h]
theorem splF_le (s b : ByteArray) (k : Nat) : splF s b k ≤ k := by
  induction k with
  | zero => simp [splF]
  | succ k ih => simp only [splF]; split <;> omega
theorem splO_len (s b : ByteArray) (k : Nat) : (splO s b k).length ≤ k := by
  induction k with
  | zero => simp [splO]
  | succ k ih =>
    simp only [splO]
    split
    · simp; omega
    · omega
attribute [irreducible] splF splO
/-- All pieces. -/
def splitR (s b : ByteArray) : List ByteArray := splO s b s.size ++ [s.extract (splF s b s.size) s.size]
theorem splitR_len (s b : ByteArray) (h : s.size ≤ 1048576) : (splitR s b).length ≤ 1099511627776 := by
  have := splO_len s b s.size
  simp [splitR]
  omega

theorem ApS.empty (w : World) (base : Nat) (hb : base ≤ w.heap.size) : ApS (w.alloc (.cells #[] 9)) base (.slice (some ⟨w.heap.size, 0, none⟩) 0 0) [] :=
  World.ownsRow_lit w #[] 0 hb (by unfold maxLen; omega) rfl

set_option maxHeartbeats 3200000 in
theorem iSplit_c (w : World) (s b : ByteArray) (hs : s.size ≤ 1048576) (hb : b.size ≤ 1048576) :
    Calls Try.prog 23 #[.string s, .string b] w fun e w' => ∃ A c, e = .returned (.slice A (splitR s b).length c) ∧ OwS w' w.heap.size (.slice A (splitR s b).length c) (splitR s b) ∧ Below w.heap.size w w' := by
  have hbt := get_bt s
  go_enter Try.func23, Try.ntmps23
  go_wp2
  go_loopw [5, 6, 10] (fun o f i wr => ∃ k : Nat, k ≤ s.size ∧ i = .int .i64 k ∧ f = .int .i64 (splF s b k) ∧ ApS wr w.heap.size o (splO s b k) ∧ Below w.heap.size w wr) (fun _ _ i _ => s.size - (intOf i).toNat)
  case atStart => exact ⟨0, Nat.zero_le _, rfl, by rw [splF_zero]; rfl, by rw [splO_zero]; exact ApS.nil_ _ _, Below.refl _ _⟩
  case round =>
    obtain ⟨k, hk, rfl, rfl, hO, hB⟩ := hrel
    have hfle := splF_le s b k
    have hol := splO_len s b k
    have hbs := hB.size
    by_cases hlt : k < s.size
    · go_wp2_with fail
      refine (strIndexByte _ _ _).mono ?_
      rintro e w2 ⟨rfl, rfl⟩
      have hge := Lib.indexByte_ge b.data.toList (bt s k).toNat.toUInt8
      rcases Bool.eq_false_or_eq_true (sepAt s b k) with h | h
      · have HO := Lib.hid (splO_yes h)
        have HF := Lib.hid (splF_yes h)
        have h0 : 0 ≤ Lib.indexByte b.data.toList (bt s k).toNat.toUInt8 := by simpa [sepAt] using h
        obtain ⟨p, hp⟩ : ∃ p, Lib.indexByte b.data.toList (bt s k).toNat.toUInt8 = p := ⟨_, rfl⟩
        rw [hp] at h0 ⊢
        clear hp hge h
        have l0 : (splO s b k).length < 1099511627776 := by omega
        obtain ⟨f, hf⟩ : ∃ f, splF s b k = f := ⟨_, rfl⟩
        rw [hf] at hfle ⊢
        have HFF := Lib.hid hf
        clear hf
        go_wp2_with (at_builtin; refine wpList_app1S hO l0 hbs rfl _ _ 32 rfl rfl rfl rfl ?_; intro v' w' O' B')
        go_roundw
        case rel => exact ⟨k + 1, by omega, by go_num, by rw [HF.out]; go_num, by rw [HO.out, HFF.out]; exact O', hB.trans B'⟩
        case measure => simp [intOf]; omega
      · have HO := Lib.hid (splO_no h)
        have HF := Lib.hid (splF_no h)
        have h0 : ¬ 0 ≤ Lib.indexByte b.data.toList (bt s k).toNat.toUInt8 := by simpa [sepAt] using h
        obtain ⟨p, hp⟩ : ∃ p, Lib.indexByte b.data.toList (bt s k).toNat.toUInt8 = p := ⟨_, rfl⟩
        rw [hp] at h0 ⊢
        clear hp hge h
        go_wp2
        go_roundw
        case rel => exact ⟨k + 1, by omega, by go_num, by rw [HF.out], by rw [HO.out]; exact hO, hB⟩
        case measure => simp [intOf]; omega
    · have hkl : k = s.size := by omega
      subst hkl
      have l0 : (splO s b s.size).length < 1099511627776 := by omega
      obtain ⟨f, hf⟩ : ∃ f, splF s b s.size = f := ⟨_, rfl⟩
      rw [hf] at hfle ⊢
      have HR : Hid (splitR s b = splO s b s.size ++ [s.extract f s.size]) := by rw [← hf]; exact rfl
      clear hf
      go_wp2_with (at_builtin; refine wpList_app1S hO l0 hbs rfl _ _ 32 rfl rfl rfl rfl ?_; intro v' w' O' B')
      rw [← HR.out] at O'
      obtain ⟨A, c, rfl⟩ := O'.form
      go_ret
      exact ⟨A, c, rfl, O'.ow, hB.trans B'⟩
end Go.Proofs.Ytepjmlcleggnnaa
