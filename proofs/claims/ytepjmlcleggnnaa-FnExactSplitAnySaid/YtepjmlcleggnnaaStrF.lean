/-
  WALK OF SplitAny of the reference model. No statement of the seat is proved here.
-/
import Derived.Test.YtepjmlcleggnnaaStrE
namespace Go.Proofs.Ytepjmlcleggnnaa
open Go.RowKit Go.PlainAid

theorem bt_at (b : ByteArray) {x : Int} (h0 : 0 ≤ x) (h1 : x ≤ 255) {j : Nat} (hj : j < b.size) : b.data.toList[j]? = some x.toNat.toUInt8 ↔ bt b j = x := by
  have e : b.data.toList[j]? = some (b[j]'hj) := by
    rw [Array.getElem?_toList]
    exact Array.getElem?_eq_getElem hj
  have e2 : bt b j = ((b[j]'hj).toNat : Int) := (get_bt b j hj).symm
  have e3 : (x.toNat.toUInt8).toNat = x.toNat := by
    rw [Nat.toUInt8_eq, UInt8.toNat_ofNat']
    omega
  rw [e, e2]
  constructor
  · intro h
    rw [Option.some.inj h, e3]
    omega
  · intro h
    congr 1
    apply UInt8.toNat_inj.1
    rw [e3]
    omega
theorem sep_yes {s b : ByteArray} {k : Nat} (h : sepAt s b k = true) : ∃ o, o < b.size ∧ bt b o = bt s k ∧ ∀ j, j < o → bt b j ≠ bt s k := by
  have h0 : 0 ≤ Lib.indexByte b.data.toList (bt s k).toNat.toUInt8 := by simpa [sepAt] using h
  obtain ⟨o, ho⟩ : ∃ o : Nat, Lib.indexByte b.data.toList (bt s k).toNat.toUInt8 = o := ⟨(Lib.indexByte b.data.toList (bt s k).toNat.toUInt8).toNat, by omega⟩
  obtain ⟨h1, h2⟩ := Lib.indexByte_some ho
  have hlt : o < b.size := by
    have := (List.getElem?_eq_some_iff.1 h1).1
    simpa using this
  exact ⟨o, hlt, (bt_at b (bt_nonneg _ _) (bt_le _ _) hlt).1 h1, fun j hj e => h2 j hj ((bt_at b (bt_nonneg _ _) (bt_le _ _) (by omega)).2 e)⟩
theorem sep_no {s b : ByteArray} {k : Nat} (h : sepAt s b k = false) : ∀ j, j < b.size → bt b j ≠ bt s k := by
  have h0 : ¬ 0 ≤ Lib.indexByte b.data.toList (bt s k).toNat.toUInt8 := by simpa [sepAt] using h
  have hge := Lib.indexByte_ge b.data.toList (bt s k).toNat.toUInt8
  have h1 := Lib.indexByte_none (show Lib.indexByte b.data.toList (bt s k).toNat.toUInt8 = -1 by omega)
  exact fun j hj e => h1 j ((bt_at b (bt_nonneg _ _) (bt_le _ _) hj).2 e)

set_option maxHeartbeats 3200000 in
theorem sSplit_c (w : World) (s b : ByteArray) (hs : s.size ≤ 1048576) (hb : b.size ≤ 1048576) :
    Calls Try.prog 22 #[.string s, .string b] w fun e w' => ∃ A c, e = .returned (.slice A (splitR s b).length c) ∧ OwS w' w.heap.size (.slice A (splitR s b).length c) (splitR s b) ∧ Below w.heap.size w w' := by
  have hbt := get_bt s
  have hbb := get_bt b
  go_enter Try.func22, Try.ntmps22
  go_wp2
  go_loopw [5, 6, 7] (fun o f i wr => ∃ k : Nat, k ≤ s.size ∧ i = .int .i64 k ∧ f = .int .i64 (splF s b k) ∧ ApS wr w.heap.size o (splO s b k) ∧ Below w.heap.size w wr) (fun _ _ i _ => s.size - (intOf i).toNat)
  case atStart => exact ⟨0, Nat.zero_le _, rfl, by rw [splF_zero]; rfl, by rw [splO_zero]; exact ApS.empty _ _ (Nat.le_refl _), (Below.refl _ _).alloc (Nat.le_refl _) _⟩
  case round =>
    obtain ⟨k, hk, rfl, rfl, hO, hB⟩ := hrel
    have hfle := splF_le s b k
    have hol := splO_len s b k
    by_cases hlt : k < s.size
    · have k0 : (0 : Int) ≤ k := by omega
      have k1 : (k : Int) < s.size := by omega
      rcases Bool.eq_false_or_eq_true (sepAt s b k) with h | h
      · have HO := Lib.hid (splO_yes h)
        have HF := Lib.hid (splF_yes h)
        obtain ⟨o, ho, heq, hne⟩ := sep_yes h
        have HNE := Lib.hid hne
        have HEQ := Lib.hid heq
        have l0 : (splO s b k).length < 1099511627776 := by omega
        obtain ⟨f, hf⟩ : ∃ f, splF s b k = f := ⟨_, rfl⟩
        rw [hf] at hfle ⊢
        have HFF := Lib.hid hf
        clear hf hne heq h
        go_wp2
        go_loopw [5, 6, 8] (fun oo ff q wv => ∃ j n : Nat, j ≤ o ∧ oo = u5 ∧ ff = .int .i64 f ∧ q = .int .i64 j ∧ wv = wr.drewN n) (fun _ _ q _ => o - (intOf q).toNat)
        case atStart => exact ⟨0, 0, Nat.zero_le _, rfl, rfl, rfl, rfl⟩
        case round =>
          obtain ⟨j, n, hj, rfl, rfl, rfl, rfl⟩ := hrel
          have j0 : (0 : Int) ≤ j := by omega
          have j1 : (j : Int) < b.size := by omega
          by_cases hjo : j = o
          · subst hjo
            have t : (bt s k == bt b j) = true := by rw [HEQ.out]; simp
            have hO1 := hO.drewN (n + 1)
            have hB1 := below_drewN hB (n + 1)
            have hbs1 := hB1.size
            go_wp2
            go_quiet (fail)
            go_wp2_with (at_builtin; refine wpList_app1S (hO.drewN _) l0 (below_drewN hB _).size rfl _ _ 32 rfl rfl rfl rfl ?_; intro v' w' O' B')
            go_roundw
            case rel => exact ⟨k + 1, by omega, by go_num, by rw [HF.out]; go_num, by rw [HO.out, HFF.out]; exact O', (below_drewN hB _).trans B'⟩
            case measure => simp [intOf]; omega
          · have t : (bt s k == bt b j) = false := by
              have := HNE.out j (by omega)
              simp
              omega
            go_wp2
            go_quiet (fail)
            go_wp2
            go_roundw
            case rel => exact ⟨j + 1, _, by omega, rfl, rfl, by go_num, rfl⟩
            case measure => simp [intOf]; omega
      · have HO := Lib.hid (splO_no h)
        have HF := Lib.hid (splF_no h)
        have HNE := Lib.hid (sep_no h)
        clear h
        go_wp2
        go_loopw [5, 6, 8] (fun oo ff q wv => ∃ j n : Nat, j ≤ b.size ∧ oo = u5 ∧ ff = .int .i64 (splF s b k) ∧ q = .int .i64 j ∧ wv = wr.drewN n) (fun _ _ q _ => b.size - (intOf q).toNat)
        case atStart => exact ⟨0, 0, Nat.zero_le _, rfl, rfl, rfl, rfl⟩
        case round =>
          obtain ⟨j, n, hj, rfl, rfl, rfl, rfl⟩ := hrel
          by_cases hjo : j < b.size
          · have j0 : (0 : Int) ≤ j := by omega
            have j1 : (j : Int) < b.size := by omega
            have t : (bt s k == bt b j) = false := by
              have := HNE.out j (by omega)
              simp
              omega
            go_wp2
            go_quiet (fail)
            go_wp2
            go_roundw
            case rel => exact ⟨j + 1, _, by omega, rfl, rfl, by go_num, rfl⟩
            case measure => simp [intOf]; omega
          · have hjl : j = b.size := by omega
            subst hjl
            go_wp2
            go_roundw
            case rel => exact ⟨k + 1, by omega, by go_num, by rw [HF.out], by rw [HO.out]; exact hO.drewN n, below_drewN hB n⟩
            case measure => simp [intOf]; omega
    · have hkl : k = s.size := by omega
      subst hkl
      have hbs := hB.size
      have l0 : (splO s b s.size).length < 1099511627776 := by omega
      obtain ⟨f, hf⟩ : ∃ f, splF s b s.size = f := ⟨_, rfl⟩
      rw [hf] at hfle ⊢
      have HR : Hid (splitR s b = splO s b s.size ++ [s.extract f s.size]) := by rw [← hf]; exact rfl
      clear hf
      go_wp2_with (at_builtin; refine wpList_app1S hO l0 hbs rfl _ _ 32 rfl rfl rfl rfl ?_; intro v' w' O' B')
      rw [← HR.out] at O'
      obtain ⟨A, c, rfl⟩ := O'.form
      go_ret
      exact ⟨A, c, rfl, O'.ow, hB.trans B'⟩
end Go.Proofs.Ytepjmlcleggnnaa
