/-
  WALKS: flipOdd with another list as the result, slices.Clone, GrayDigits, FromGrayDigits (both packages), and the two laws over them.
-/
import Derived.Test.YthnpobbpmgjhjaaDoorG8
namespace Go.Proofs.YthnpobbpmgjhjaaDoor
open Go.RowKit


set_option maxHeartbeats 3200000 in
theorem flipTo_any (A B D : Option Addr) (c c' c'' m base : Nat) (ds rs : List Int) (w : World) (ho : Ow w base (.slice A ds.length c) ds) (hb : Rd w B rs) (hr : Rd w D ds) (hm : rs.length = m) (hl : ds.length ≤ 1048576) (hlen : ds.length ≤ rs.length) (hd : Digs ds rs)
    (hne : 0 < ds.length → ∀ bd : Addr, B = some bd → some bd.block ≠ (Value.slice A ds.length c).ownBlock) (hne2 : 0 < ds.length → ∀ bd : Addr, D = some bd → some bd.block ≠ (Value.slice A ds.length c).ownBlock) :
    Calls Tryd.prog 33 #[.slice A ds.length c, .slice B m c', .slice D ds.length c''] w fun e w' => e = .returned (.tuple #[]) ∧ Ow w' base (.slice A ds.length c) (fL false ds rs).1 ∧ w.grownBy w' (Value.slice A ds.length c).ownBlock := by
  subst hm
  have HB := Lib.hid hb
  have HN := Lib.hid hne
  have HD := Lib.hid hd
  have HS := Lib.hid (fAt_sum (own := false) hd hl)
  have H0 := Lib.hid (fAt_end false ds rs)
  have HR := Lib.hid hr
  have HN2 := Lib.hid hne2
  clear hb hne hd hr hne2
  go_enter Tryd.func33, Tryd.ntmps33
  go_wp2
  go_loopw [6, 7] (fun s i wr => ∃ j : Nat, j ≤ ds.length ∧ i = .int .i64 ((j : Int) - 1) ∧ s = .int .i64 (fAt false ds rs j).2 ∧ Ow wr base (.slice A ds.length c) (ds.take j ++ (fAt false ds rs j).1) ∧ w.grownBy wr (Value.slice A ds.length c).ownBlock) (fun _ i _ => (intOf i + 1).toNat)
  case atStart => exact ⟨ds.length, Nat.le_refl _, rfl, by rw [H0.out], by rw [H0.out, List.take_length, List.append_nil]; exact ho, World.grownBy.refl _ _⟩
  case round =>
    obtain ⟨k, hk, rfl, rfl, hO, hG⟩ := hrel
    by_cases hlt : 0 < k
    · obtain ⟨q, rfl⟩ : ∃ q, k = q + 1 := ⟨k - 1, by omega⟩
      have ej : ((q + 1 : Nat) : Int) - 1 = (q : Int) := by omega
      rw [ej]
      clear ej
      have RB := HB.out.grown hG (HN.out (by omega))
      have RD := HR.out.grown hG (HN2.out (by omega))
      have hdq : ds[q]? = some (ds[q]'(by omega)) := List.getElem?_eq_getElem _
      obtain ⟨d, hd⟩ : ∃ d, ds[q]? = some d := ⟨_, hdq⟩
      clear hdq
      obtain ⟨g, x, rfl, hx, hc, hf, hst⟩ := hO.at_ (k := q) (by rw [List.length_append, List.length_take]; omega)
      obtain rfl : x = d := by have := hx.out; rw [mem_at hd] at this; exact (Option.some.inj this).symm
      obtain ⟨bd, r, rfl, hr, hcr⟩ := RB.at_ (k := q) (by omega)
      obtain ⟨dd, x', rfl, hx', hcd⟩ := RD.at_ (k := q) (by omega)
      obtain rfl : x' = x := by have := hx'.out; rw [hd] at this; exact (Option.some.inj this).symm
      have hn2 : dd.block ≠ g := fun e => HN2.out (by omega) dd rfl (by simp [Value.ownBlock, e])
      have hD := HD.out q x' r hd hr.out
      have b1 := HS.out (q + 1)
      have HF := Lib.hid (fAt_step (own := false) hd hr.out)
      have HE := Lib.hid hd
      clear hx RB hd RD hx'
      obtain ⟨p, hp⟩ : ∃ p, fAt false ds rs (q + 1) = p := ⟨_, rfl⟩
      rw [hp] at b1 HF hO hst
      rw [hp]
      clear hp
      obtain ⟨T, s⟩ := p
      have c0 : (0 : Int) ≤ q := by omega
      have c1 : (q : Int) < ds.length := by omega
      have c2 : (q : Int) < rs.length := by omega
      simp only at b1 hO hst ⊢
      have HFF := Lib.hid HF.out
      clear HF
      by_cases hodd : s % 2 = 1
      · have t1 : (s % 2 == 1) = true := by simp [hodd]
        have HU := Lib.hid (hst (r - 1 - x'))
        have hcd2 : (wr.setCell ⟨g, q, none⟩ (.int .i64 (r - 1 - x'))).cell? (dd.add q) = some (.int .i64 x') := by
          rw [World.cell?_setCell_other _ _ _ _ (fun e => hn2 (by have := congrArg Addr.block e; rw [block_add] at this; simpa using this.symm))]
          exact hcd
        have HO := Lib.hid hodd
        clear hst hO hodd
        go_wp2
        go_region
        go_wp2
        go_roundw
        case rel =>
          have e := HFF.out
          rw [if_pos HO.out] at e
          have hu := HU.out
          rw [set_at HE.out] at hu
          refine ⟨q, by omega, by go_num, by rw [e]; rfl, ?_, ?_⟩
          · rw [e]
            exact hu.1
          · exact only_drew (grown_trans hG hu.2)
        case measure => simp [intOf]
      · have t1 : (s % 2 == 1) = false := by simp [hodd]
        have HOw := Lib.hid hO
        have HO := Lib.hid hodd
        clear hst hO hodd
        go_wp2
        go_roundw
        case rel =>
          have e := HFF.out
          rw [if_neg HO.out] at e
          refine ⟨q, by omega, by go_num, by rw [e]; rfl, ?_, hG⟩
          rw [e]
          have := HOw.out
          rw [keep_at HE.out] at this
          exact this
        case measure => simp [intOf]
    · obtain rfl : k = 0 := by omega
      go_wp2
      go_end0
      exact ⟨rfl, by simpa [fAt] using hO, hG⟩


theorem clone_any (A : Option Addr) (c : Nat) (xs : List Int) (w : World) (hr : Rd w A xs) (hl : xs.length ≤ 1048576) (hp : 0 < xs.length) :
    Calls Tryd.prog 35 #[.slice A xs.length c] w fun e w' => ∃ A' c', e = .returned (.slice A' xs.length c') ∧ Ow w' w.heap.size (.slice A' xs.length c') xs ∧ Below w.heap.size w w' := by
  obtain ⟨ad, x, rfl, _, hc⟩ := hr.at_ (k := 0) hp
  have hq := fun n c n' c' (w : World) => Lib.run_eql_slice_nil (P := Tryd.prog) w 26 3 (some ad) n c n' c' Tryd.underlying26
  have R1 := hr.alloc (.cells #[] 3)
  have O1 := Ap.empty w w.heap.size (Nat.le_refl _)
  have hL : ([] : List Int).length + xs.length ≤ 1099511627776 := by simp; omega
  have hs : w.heap.size ≤ (w.alloc (.cells #[] 3)).heap.size := by simp
  go_enter Tryd.func35, Tryd.ntmps35
  go_wp2_with (at_builtin; refine wpList_appN O1 R1 rfl hL hs rfl _ _ 26 rfl rfl rfl rfl ?_; intro v' w' O' B')
  rw [List.nil_append] at O'
  obtain ⟨A', c', rfl⟩ := O'.form
  go_ret
  exact ⟨A', c', rfl, O'.ow, ((Below.refl _ _).alloc (Nat.le_refl _) _).trans B'⟩

theorem mdL_digs : ∀ (rs : List Int) (N : Int), (∀ x ∈ rs, (2 : Int) ≤ x ∧ x ≤ 60) → Digs (mdL N rs) rs
  | [], _, _ => fun i d r hd _ => by simp [mdL] at hd
  | r :: rs, N, h => fun i d r' hd hr => by
    have h0 := h r (by simp)
    cases i with
    | zero =>
      simp only [mdL, List.getElem?_cons_zero, Option.some.injEq] at hd hr
      subst hd hr
      have q0 : 0 ≤ N % r := Int.emod_nonneg _ (by omega)
      have q1 : N % r < r := Int.emod_lt_of_pos _ (by omega)
      omega
    | succ i =>
      simp only [mdL, List.getElem?_cons_succ] at hd hr
      exact mdL_digs rs (N / r) (fun x hx => h x (by simp [hx])) i d r' hd hr
theorem mixDR_digs (N : Int) (rs : List Int) : Digs (mixDR N rs) rs := by
  unfold mixDR
  rcases Bool.eq_false_or_eq_true (radB rs && inB N 0 (prodI rs - 1)) with h | h
  · rw [if_pos h]
    rw [Bool.and_eq_true] at h
    exact mdL_digs rs N (radB_parts h.1).2.2.1
  · rw [h]
    exact fun i d r hd _ => by simp at hd
theorem mixDR_le (N : Int) (rs : List Int) : (mixDR N rs).length ≤ rs.length := by
  unfold mixDR
  rcases Bool.eq_false_or_eq_true (radB rs && inB N 0 (prodI rs - 1)) with h | h
  · rw [if_pos h, mdL_len]; exact Nat.le_refl _
  · rw [h]; simp
theorem digs_of {ds rs : List Int} (h : mixOkB ds rs = true) : ds.length = rs.length ∧ Digs ds rs ∧ 1 ≤ rs.length ∧ rs.length ≤ 10 ∧ prodI rs ≤ 1000000000000 := by
  simp only [mixOkB, Bool.and_eq_true] at h
  obtain ⟨r1, r2, r3, r4, r5⟩ := radB_parts h.1
  obtain ⟨m1, m2⟩ := isMixB_parts h.2
  refine ⟨m1, fun i d r hd hr => ?_, r1, r2, r5⟩
  have a := m2 i d r hd hr
  have b := r3 r (List.mem_of_getElem? hr)
  omega
theorem fL_digs {own : Bool} : ∀ {ds rs : List Int}, Digs ds rs → Digs (fL own ds rs).1 rs
  | [], [], _ => fun i d r hd _ => by simp [fL] at hd
  | [], _ :: _, _ => fun i d r hd _ => by simp [fL] at hd
  | d :: ds, [], _ => fun i d' r hd _ => by simp [fL] at hd
  | d :: ds, r :: rs, h => fun i d' r' hd hr => by
    have h0 := h 0 d r rfl rfl
    cases i with
    | zero =>
      simp only [fL, List.getElem?_cons_zero, Option.some.injEq] at hd hr
      subst hd hr
      split <;> omega
    | succ i =>
      simp only [fL, List.getElem?_cons_succ] at hd hr
      exact fL_digs (own := own) (ds := ds) (rs := rs) (fun i a b ha hb => h (i + 1) a b (by simpa using ha) (by simpa using hb)) i d' r' hd hr

/-- The Gray digits of a number. -/
def grayDR (n : Int) (rs : List Int) : List Int := (fL true (mixDR n rs) rs).1
theorem grayDR_len (n : Int) (rs : List Int) : (grayDR n rs).length ≤ 1099511627776 := by
  unfold grayDR
  rw [fL_len (mixDR_le n rs)]
  have := mixDR_len n rs
  omega
theorem grayDR_len' (n : Int) (rs : List Int) : (grayDR n rs).length = (mixDR n rs).length := by
  unfold grayDR
  rw [fL_len (mixDR_le n rs)]
theorem own_sep {w : World} {B : Option Addr} {rs : List Int} {v : Value} (hr : Rd w B rs) (hp : 0 < rs.length) (hv : ∀ k, v.ownBlock = some k → w.heap.size ≤ k) : ∀ bd : Addr, B = some bd → some bd.block ≠ v.ownBlock := by
  intro bd e he
  have h1 := hr.lt e hp
  have h2 := hv _ he.symm
  omega

theorem iGrayDigits_c (w : World) (N : Int) (_hN : I64 N) (B : Option Addr) (c' : Nat) (rs : List Int) (hb : Rd w B rs) (hl' : rs.length ≤ 1048576) (_hb : AllI64 rs) :
    Calls Tryd.prog 13 #[.int .i64 N, .slice B rs.length c'] w fun e w' => ∃ A c, e = .returned (.slice A (grayDR N rs).length c) ∧ Ow w' w.heap.size (.slice A (grayDR N rs).length c) (grayDR N rs) ∧ Below w.heap.size w w' := by
  have HL := Lib.hid (grayDR_len' N rs)
  have hm := mixDR_len N rs
  go_enter Tryd.func13, Tryd.ntmps13
  go_wp2_with fail
  refine (iMixedDigits_any _ _ _ _ _ hb hl').mono ?_
  rintro e w1 ⟨A, c, rfl, O1, B1⟩
  have R1 := hb.below B1
  go_wp2_with fail
  refine (flipOwn_any _ _ _ _ _ _ _ _ _ O1 R1 rfl (by omega) (mixDR_le N rs) (mixDR_digs N rs) (fun hp => own_sep hb (by have := mixDR_le N rs; omega) (fun k hk => (O1.lt k hk).1))).mono ?_
  rintro e w2 ⟨rfl, O2, G2⟩
  go_wp2
  go_ret
  refine ⟨A, c, by rw [HL.out]; rfl, by rw [HL.out]; exact O2, B1.grown G2 B1.size (fun k hk => (O1.lt k hk).1)⟩

def fromGR (ds rs : List Int) : Int := if mixOkB ds rs then mvL (fL false ds rs).1 rs else -1
theorem iFromGrayDigits_c (w : World) (D : Option Addr) (c : Nat) (ds : List Int) (hd : Rd w D ds) (hl : ds.length ≤ 1048576) (_hd : AllI64 ds) (B : Option Addr) (c' : Nat) (rs : List Int) (hb : Rd w B rs) (hl' : rs.length ≤ 1048576) (_hb : AllI64 rs) :
    Calls Tryd.prog 15 #[.slice D ds.length c, .slice B rs.length c'] w fun e w' => e = .returned (.int .i64 (fromGR ds rs)) ∧ Below w.heap.size w w' := by
  rcases Bool.eq_false_or_eq_true (mixOkB ds rs) with h | h
  · obtain ⟨d1, d2, d3, d4, d5⟩ := digs_of h
    have HM : Hid (fromGR ds rs = mvL (fL false ds rs).1 rs) := by unfold Hid; simp [fromGR, h]
    have hlen : (fL false ds rs).1.length = ds.length := fL_len (by omega)
    have HLn := Lib.hid hlen
    have HD1 := Lib.hid d1
    clear hlen d1
    go_enter Tryd.func15, Tryd.ntmps15
    go_wp2_with fail
    refine (iMixedOk_any _ _ _ _ _ _ _ hd hb (by omega) (by omega)).mono ?_
    rintro e w1 ⟨rfl, B1⟩
    have R1 := hd.below B1
    have R2 := hb.below B1
    go_wp2_with fail
    refine (clone_any _ _ _ _ R1 hl (by have := HD1.out; omega)).mono ?_
    rintro e w2 ⟨A, ca, rfl, O2, B2⟩
    have R3 := R1.below B2
    have R4 := R2.below B2
    have L2 := fun k hk => (O2.lt k hk).1
    go_wp2_with fail
    refine (flipTo_any _ _ _ _ _ _ _ _ _ _ _ O2 R4 R3 rfl (by omega) (by have := HD1.out; omega) d2 (fun hp => own_sep R2 (by have := HD1.out; omega) L2) (fun hp => own_sep R1 hp L2)).mono ?_
    rintro e w3 ⟨rfl, O3, G3⟩
    have R5 := R4.grown G3 (own_sep R2 (by have := HD1.out; omega) L2)
    have C2 := B1.trans (B2.mono B1.size)
    have C3 := C2.grown G3 C2.size (fun k hk => Nat.le_trans B1.size (L2 k hk))
    go_wp2_with fail
    refine (mixedValue_any _ _ _ _ _ _ _ _ O3.rd R5 HLn.out (by omega) (by rw [HLn.out, HD1.out]) (fun i d r hd hr => by have := fL_digs (own := false) d2 i d r hd hr; omega) (by omega)).mono ?_
    rintro e w4 ⟨rfl, n4, rfl⟩
    go_wp2
    go_ret
    exact ⟨ret_int HM.out.symm, below_drewN C3 n4⟩
  · have HM : Hid (fromGR ds rs = -1) := by unfold Hid; simp [fromGR, h]
    go_enter Tryd.func15, Tryd.ntmps15
    go_wp2_with fail
    refine (iMixedOk_any _ _ _ _ _ _ _ hd hb (by omega) (by omega)).mono ?_
    rintro e w1 ⟨rfl, B1⟩
    go_wp2
    go_ret
    exact ⟨ret_int HM.out.symm, B1⟩

end Go.Proofs.YthnpobbpmgjhjaaDoor
