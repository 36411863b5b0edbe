/-
  WALKS: l11Least; LeastDigits of the reference.
-/
import Derived.Test.YtlhabcpoemcpjaaC14
import Derived.Laws.AppendOwnNone
import Derived.Lib.AppendZeros
namespace Go.Proofs.Ytlhabcpoemcpjaa
open Go.RowKit

theorem ret_two {A : Option Addr} {n m c : Nat} {b d : Bool} (h : n = m) (k : b = d) : Ending.returned (.tuple #[.slice A n c, .bool b]) = .returned (.tuple #[.slice A m c, .bool d]) := by rw [h, k]
theorem wpList_appAny {ops : Array Oper} {rest : List Oper} {o : Oper} {a : Act} {Q : Exit → Act → World → Prop} {w : World} {base b2 : Nat} {v : Value} {xs ys : List Int} {A : Option Addr} {m c : Nat}
    (hown : Ap w base v xs) (hr : Ow w b2 (.slice A m c) ys) (hl : xs.length + ys.length ≤ 1099511627776) (hbase : base ≤ w.heap.size) (hgd : o.guard = none) (s x : Operand) (t : TypeId)
    (ho : o.op = .call { callee := .builtin .append, args := #[s, x], argTypes := #[t, t] }) (ht : t = 22)
    (hs : a.eval s = v) (hx : a.eval x = .slice A m c)
    (h : ∀ v' w', Ap w' base v' (xs ++ ys) → Below base w w' → wpList Try.prog ops Q rest (a.put o.dst v') w') :
    wpList Try.prog ops Q (o :: rest) a w := by
  have hm := hr.len
  rcases A with _ | ad
  · obtain ⟨i0, hi, hz0, hz1, hz2⟩ := info_parts info3
    rcases hr with ⟨hv, hn⟩ | ⟨g, cap, cur, hv, _⟩
    · injection hv with _ e2 e3
      subst e2 e3 hn ht
      refine wpList_append_own_none hgd s x 22 ho base 3 i0 1 Try.underlying22 hi v _ _ hs hown hx ?_
      exact h v w (by simpa using hown) (Below.refl _ _)
    · injection hv with e1 _ _
      cases e1
  · exact wpList_appN hown hr.rd hm.symm hl hbase hgd s x t ho ht hs hx h
theorem Ap.one2 (w : World) (x : Int) : Ap (w.alloc (.cells #[.int .i64 x] 3)) w.heap.size (.slice (some ⟨w.heap.size, 0, none⟩) 1 1) [x] :=
  World.ownsRow_lit w #[.int .i64 x] 1 (Nat.le_refl _) (by unfold maxLen; omega) rfl
theorem drop_cons {cs : List Int} {i : Nat} {c : Int} (h : cs[i]? = some c) : cs.drop i = c :: cs.drop (i + 1) := by
  obtain ⟨hi, rfl⟩ := List.getElem?_eq_some_iff.1 h
  exact List.drop_eq_getElem_cons hi
theorem inc_le {cs : List Int} (h : ∀ i x y, cs[i]? = some x → cs[i + 1]? = some y → x < y) : ∀ (d i : Nat) (x y : Int), cs[i]? = some x → cs[i + d]? = some y → x ≤ y := by
  intro d
  induction d with
  | zero => intro i x y hx hy; rw [Nat.add_zero, hx] at hy; have := Option.some.inj hy; omega
  | succ d ih =>
    intro i x y hx hy
    have hi := (List.getElem?_eq_some_iff.1 hy).1
    have hz : cs[i + d]? = some (cs[i + d]'(by omega)) := List.getElem?_eq_getElem (by omega)
    have a := ih i x _ hx hz
    have b := h (i + d) _ y hz (by rw [show i + d + 1 = i + (d + 1) by omega]; exact hy)
    omega
/-- Coins from place i on lie between the one at i and the last. -/
theorem drop_between {cs : List Int} (h : ∀ i x y, cs[i]? = some x → cs[i + 1]? = some y → x < y) {i : Nat} {lo hi : Int} (hlo : cs[i]? = some lo) (hhi : cs[cs.length - 1]? = some hi) : ∀ c ∈ cs.drop i, lo ≤ c ∧ c ≤ hi := by
  intro c hc
  obtain ⟨j, hj⟩ := List.mem_iff_getElem?.1 hc
  rw [List.getElem?_drop] at hj
  have hl := (List.getElem?_eq_some_iff.1 hj).1
  exact ⟨inc_le h j i lo c hlo hj, inc_le h (cs.length - 1 - (i + j)) (i + j) c hi hj (by rw [show i + j + (cs.length - 1 - (i + j)) = cs.length - 1 by omega]; exact hhi)⟩
theorem lst_not {cs : List Int} {n : Int} {s : Nat} (h : ¬ Rep cs n s) : lst cs n s = none := by
  unfold Rep at h
  rcases hl : lst cs n s with _ | l
  · rfl
  · rw [hl] at h; exact absurd rfl h
theorem lst_below {cs : List Int} (hcs : ∀ c ∈ cs, (1 : Int) ≤ c) {n : Int} {s : Nat} (h : n < 0) : lst cs n s = none := lst_not fun hr => by
  have := hr.pos hcs
  omega
theorem lst_len {cs : List Int} {n : Int} {s : Nat} : ((lst cs n s).getD []).length ≤ cs.length := by
  rcases h : lst cs n s with _ | l
  · simp
  · have := (lst_facts _ _ _ _ h).1
    simp only [Option.getD_some]; omega

set_option maxRecDepth 100000 in
set_option maxHeartbeats 6400000 in
theorem l11Least_any (B : Option Addr) (cb : Nat) (cs : List Int) (hcoin : coinsB cs = true) : ∀ (k i : Nat), cs.length - i = k → i ≤ cs.length → ∀ (n s : Nat), n ≤ 400 → s ≤ 400 → ∀ (w : World), Rd w B cs →
    Calls Try.prog 49 #[.int .i64 (n : Int), .slice B cs.length cb, .int .i64 (i : Int), .int .i64 (s : Int)] w fun e w' => ∃ A c, e = .returned (.tuple #[.slice A ((lst (cs.drop i) n s).getD []).length c, .bool (lst (cs.drop i) n s).isSome]) ∧ Ow w' w.heap.size (.slice A ((lst (cs.drop i) n s).getD []).length c) ((lst (cs.drop i) n s).getD []) ∧ Below w.heap.size w w' := by
  obtain ⟨p1, p2, p3, p4, p5⟩ := coinsB_parts hcoin
  have HP3 := Lib.hid p3
  have HP5 := Lib.hid p5
  clear p3 p4 p5 hcoin
  intro k
  induction k with
  | zero =>
    intro i hk hi n s hn hs w hr
    have hil : i = cs.length := by omega
    subst hil
    have hd : cs.drop cs.length = [] := List.drop_length
    rw [hd]
    have HE := Lib.hid (Ap.empty w w.heap.size (Nat.le_refl _))
    have hB0 : Below w.heap.size w (w.alloc (.cells #[] 3)) := (Below.refl _ _).alloc (Nat.le_refl _) _
    have HL := Lib.hid (lst_nil (n : Int) s)
    clear hd
    by_cases h0 : (n : Int) = 0
    · by_cases h1 : (s : Int) = 0
      · have HL2 : Hid (lst [] (n : Int) s = some []) := by unfold Hid; rw [HL.out, if_pos ⟨h0, by omega⟩]
        go_enter Try.func49, Try.ntmps49
        go_wp2
        go_ret2
        exact ⟨_, _, by rw [HL2.out]; rfl, by rw [HL2.out]; exact HE.out.ow, hB0⟩
      · have HL2 : Hid (lst [] (n : Int) s = none) := by unfold Hid; rw [HL.out, if_neg (by omega)]
        have t1 : ((s : Int) == 0) = false := by simp; omega
        go_enter Try.func49, Try.ntmps49
        go_wp2
        go_ret2
        exact ⟨_, _, by rw [HL2.out]; rfl, by rw [HL2.out]; exact HE.out.ow, hB0⟩
    · have HL2 : Hid (lst [] (n : Int) s = none) := by unfold Hid; rw [HL.out, if_neg (by omega)]
      have t1 : ((n : Int) == 0) = false := by simp; omega
      go_enter Try.func49, Try.ntmps49
      go_wp2
      go_ret2
      exact ⟨_, _, by rw [HL2.out]; rfl, by rw [HL2.out]; exact HE.out.ow, hB0⟩
  | succ k ih =>
    intro i hk hi n s hn hs w hr
    have IH := Lib.hid ih
    have HR := Lib.hid hr
    have hlt : i < cs.length := by omega
    clear ih hr
    obtain ⟨ad0, c, hB0, hci, _⟩ := HR.out.at_ hlt
    subst hB0
    have bc := HP3.out c (List.mem_of_getElem? hci.out)
    obtain ⟨bc0, bc1⟩ := bc
    have hdc := drop_cons hci.out
    rw [hdc, lst_cons]
    obtain ⟨f, hf⟩ : ∃ f, (fun d : Nat => (lst (cs.drop (i + 1)) ((n : Int) - d * c) (s - d)).map fun l => (d : Int) :: l) = f := ⟨_, rfl⟩
    have HF : Hid (∀ d : Nat, f d = (lst (cs.drop (i + 1)) ((n : Int) - d * c) (s - d)).map fun l => (d : Int) :: l) := fun d => by rw [← hf]
    rw [hf]
    have HD1 : Hid (∀ x ∈ cs.drop (i + 1), (1 : Int) ≤ x) := fun x hx => (HP3.out x (List.mem_of_mem_drop hx)).1
    have HLast : Hid (cs[cs.length - 1]? = some (cs[cs.length - 1]'(by omega))) := List.getElem?_eq_getElem (by omega)
    obtain ⟨hi_, hhi⟩ : ∃ x : Int, cs[cs.length - 1]'(by omega) = x := ⟨_, rfl⟩
    rw [hhi] at HLast
    have bh := HP3.out hi_ (List.mem_of_getElem? HLast.out)
    obtain ⟨bh0, bh1⟩ := bh
    have i0 : (0 : Int) ≤ i := by omega
    have i1 : (i : Int) < cs.length := by omega
    have i2 : ((i : Int) == cs.length) = false := by simp; omega
    have i3 : ¬ (i : Int) = cs.length := by omega
    clear hdc hf hhi
    go_enter Try.func49, Try.ntmps49
    go_wp2
    go_loopw [10] (fun dv wr => ∃ j : Nat, j ≤ s + 1 ∧ dv = .int .i64 j ∧ Hid (srch f (s + 1) 0 = srch f (s + 1 - j) j) ∧ Below w.heap.size w wr) (fun dv _ => s + 1 - (intOf dv).toNat)
    case atStart => exact ⟨0, Nat.zero_le _, rfl, rfl, Below.refl _ _⟩
    case round =>
      obtain ⟨j, hj, rfl, hS, hB⟩ := hrel
      obtain ⟨ad1, c1, e1, hc1, hcell⟩ := (HR.out.below hB).at_ hlt
      obtain rfl := Option.some.inj e1
      obtain rfl : c = c1 := by have := hc1.out; rw [hci.out] at this; exact Option.some.inj this
      clear e1 hc1
      by_cases hjs : j ≤ s
      · have t1 : (j : Int) ≤ s := by omega
        have m0 : 0 ≤ (j : Int) * c := Int.mul_nonneg (by omega) (by omega)
        have m1 : (j : Int) * c ≤ 400 * 1000 := Int.mul_le_mul (by omega) (by omega) (by omega) (by omega)
        have hsub : s + 1 - j = (s - j) + 1 := by omega
        obtain ⟨P, hP⟩ : ∃ P, (j : Int) * c = P := ⟨_, rfl⟩
        have HPj := Lib.hid hP
        rw [hP] at m0 m1
        have w1 : IntKind.i64.wrap ((j : Int) * c) = P := by rw [hP]; exact IntWalk.i64_in _ (by omega)
        by_cases hjn : P ≤ n
        · obtain ⟨R, hR⟩ : ∃ R : Nat, (n : Int) - P = R := ⟨((n : Int) - P).toNat, by omega⟩
          have HRe := Lib.hid hR
          have hfj : Hid (f j = (lst (cs.drop (i + 1)) (R : Int) (s - j)).map fun l => (j : Int) :: l) := by unfold Hid; rw [HF.out j, HPj.out, HRe.out]
          have r0 : R ≤ 400 := by omega
          have sj : ((s : Int) - j) = ((s - j : Nat) : Int) := by omega
          clear hP
          by_cases hlast : i + 1 < cs.length
          · obtain ⟨ad2, lo, e2, hlo, hlc⟩ := (HR.out.below hB).at_ (k := i + 1) hlast
            obtain rfl := Option.some.inj e2
            obtain ⟨ad3, h3, e3, hh3, hhc⟩ := (HR.out.below hB).at_ (k := cs.length - 1) (by omega)
            obtain rfl := Option.some.inj e3
            obtain rfl : hi_ = h3 := by have := hh3.out; rw [HLast.out] at this; exact Option.some.inj this
            have bl := HP3.out lo (List.mem_of_getElem? hlo.out)
            have hbet := Lib.hid (drop_between HP5.out hlo.out HLast.out)
            obtain ⟨bl0, bl1⟩ := bl
            have u1 : (i : Int) + 1 < cs.length := by omega
            have u2 : IntKind.i64.wrap ((n : Int) - P) = R := by rw [hR]; exact IntWalk.i64_in _ (by omega)
            have u3 : ((i : Int) + 1).toNat = i + 1 := by omega
            have u4 : ((cs.length : Int) - 1).toNat = cs.length - 1 := by omega
            have u5 : (0 : Int) ≤ (cs.length : Int) - 1 := by omega
            have q0 : 0 ≤ ((s : Int) - j) * hi_ := Int.mul_nonneg (by omega) (by omega)
            have q1 : ((s : Int) - j) * hi_ ≤ 400 * 1000 := Int.mul_le_mul (by omega) (by omega) (by omega) (by omega)
            have q2 : 0 ≤ ((s : Int) - j) * lo := Int.mul_nonneg (by omega) (by omega)
            have q3 : ((s : Int) - j) * lo ≤ 400 * 1000 := Int.mul_le_mul (by omega) (by omega) (by omega) (by omega)
            obtain ⟨Hh, hHh⟩ : ∃ v, ((s : Int) - j) * hi_ = v := ⟨_, rfl⟩
            obtain ⟨Hl, hHl⟩ : ∃ v, ((s : Int) - j) * lo = v := ⟨_, rfl⟩
            have HHh := Lib.hid hHh
            have HHl := Lib.hid hHl
            rw [hHh] at q0 q1
            rw [hHl] at q2 q3
            have v1 : IntKind.i64.wrap (((s : Int) - j) * hi_) = Hh := by rw [hHh]; exact IntWalk.i64_in _ (by omega)
            have v2 : IntKind.i64.wrap (((s : Int) - j) * lo) = Hl := by rw [hHl]; exact IntWalk.i64_in _ (by omega)
            have v3 : IntKind.i64.wrap ((s : Int) - j) = (s : Int) - j := IntWalk.i64_in _ (by omega)
            have hlc2 : wr.cell? { block := ad0.block, off := ad0.off + (i + 1) } = some (.int .i64 lo) := hlc
            clear e2 e3 hh3 hlo hR hHh hHl hlc
            by_cases hpr : Hh < R ∨ (R : Int) < Hl
            · have HN : Hid (f j = none) := by
                unfold Hid
                rw [hfj.out, lst_not (fun hrep => by
                  have := Rep.bounds _ hbet.out _ _ hrep
                  have e := HHh.out
                  have e' := HHl.out
                  rw [sj] at e e'
                  omega)]
                rfl
              have HS2 : Hid (srch f (s + 1) 0 = srch f (s + 1 - (j + 1)) (j + 1)) := by
                unfold Hid
                rw [hS.out, hsub, srch_none HN.out]
                congr 1; omega
              clear hS hfj hsub sj
              by_cases hp1 : Hh < R
              · clear hpr
                go_wp2
                go_roundw
                case rel => exact ⟨j + 1, by omega, by go_num, HS2.out, hB⟩
                case measure => simp [intOf]; omega
              · have hp2 : (R : Int) < Hl := by omega
                clear hpr
                go_wp2
                go_roundw
                case rel => exact ⟨j + 1, by omega, by go_num, HS2.out, hB⟩
                case measure => simp [intOf]; omega
            · have hp1 : ¬ Hh < R := by omega
              have hp2 : ¬ (R : Int) < Hl := by omega
              clear hpr
              rcases hres : lst (cs.drop (i + 1)) (R : Int) (s - j) with _ | l
              · have CALL := Lib.hid (fun u (hu : Rd u (some ad0) cs) => IH.out (i + 1) (by omega) (by omega) R (s - j) r0 (by omega) u hu)
                rw [hres, show ((i + 1 : Nat) : Int) = (i : Int) + 1 by omega, ← sj] at CALL
                simp only [Option.getD_none, Option.isSome_none] at CALL
                have HN : Hid (f j = none) := by unfold Hid; rw [hfj.out, hres]; rfl
                have HS2 : Hid (srch f (s + 1) 0 = srch f (s + 1 - (j + 1)) (j + 1)) := by
                  unfold Hid
                  rw [hS.out, hsub, srch_none HN.out]
                  congr 1; omega
                clear hS hfj hsub hres HN sj
                go_wp2_with fail
                refine (CALL.out _ (HR.out.below hB)).mono ?_
                rintro e w2 ⟨A2, c2, rfl, O2, B2⟩
                have hB2 := hB.trans (B2.mono hB.size)
                clear O2 B2
                go_wp2
                go_roundw
                case rel => exact ⟨j + 1, by omega, by go_num, HS2.out, hB2⟩
                case measure => simp [intOf]; omega
              · have CALL := Lib.hid (fun u (hu : Rd u (some ad0) cs) => IH.out (i + 1) (by omega) (by omega) R (s - j) r0 (by omega) u hu)
                rw [hres, show ((i + 1 : Nat) : Int) = (i : Int) + 1 by omega, ← sj] at CALL
                simp only [Option.getD_some, Option.isSome_some] at CALL
                have hl10 : l.length ≤ 10 := by
                  have := (lst_facts _ _ _ _ hres).1
                  rw [List.length_drop] at this
                  omega
                have HS2 : Hid (srch f (s + 1) 0 = some ((j : Int) :: l)) := by
                  unfold Hid
                  have hfs : f j = some ((j : Int) :: l) := by rw [hfj.out, hres]; rfl
                  rw [hS.out, hsub, srch_some hfs]
                clear hS hfj hsub hres sj
                go_wp2_with fail
                refine (CALL.out _ (HR.out.below hB)).mono ?_
                rintro e w2 ⟨A2, c2, rfl, O2, B2⟩
                have hB2 := hB.trans (B2.mono hB.size)
                have O1 := Ap.one2 w2 (j : Int)
                have O2' := O2.alloc (.cells #[.int .i64 (j : Int)] 3)
                have hB3 : Below w.heap.size w (w2.alloc (.cells #[.int .i64 (j : Int)] 3)) := hB2.alloc hB2.size _
                have z1 : w2.heap.size ≤ (w2.alloc (.cells #[.int .i64 (j : Int)] 3)).heap.size := by simp
                have l2 : ([(j : Int)] : List Int).length + l.length ≤ 1099511627776 := by simp; omega
                clear O2 B2
                go_wp2_with (at_builtin; refine wpList_appAny O1 O2' l2 z1 rfl _ _ 22 rfl rfl rfl rfl ?_; intro v3 w3 O3 B3; rw [show ([(j : Int)] : List Int) ++ l = (j : Int) :: l from rfl] at O3; obtain ⟨A3, c3, rfl⟩ := O3.form)
                have HO3 := Lib.hid (O3.ow.more hB2.size)
                have HB4 := Lib.hid (hB3.trans (B3.mono hB2.size))
                clear O3 B3 O1 O2' hB3
                go_ret2
                exact ⟨A3, c3, ret_two (by rw [HS2.out]; rfl) (by rw [HS2.out]; rfl), by rw [HS2.out]; exact HO3.out, HB4.out⟩
          · have hil : i + 1 = cs.length := by omega
            have u1 : ¬ (i : Int) + 1 < cs.length := by omega
            have u2 : IntKind.i64.wrap ((n : Int) - P) = R := by rw [hR]; exact IntWalk.i64_in _ (by omega)
            have v3 : IntKind.i64.wrap ((s : Int) - j) = (s : Int) - j := IntWalk.i64_in _ (by omega)
            clear hR
            rcases hres : lst (cs.drop (i + 1)) (R : Int) (s - j) with _ | l
            · have CALL := Lib.hid (fun u (hu : Rd u (some ad0) cs) => IH.out (i + 1) (by omega) (by omega) R (s - j) r0 (by omega) u hu)
              rw [hres, show ((i + 1 : Nat) : Int) = (i : Int) + 1 by omega, ← sj] at CALL
              simp only [Option.getD_none, Option.isSome_none] at CALL
              have HN : Hid (f j = none) := by unfold Hid; rw [hfj.out, hres]; rfl
              have HS2 : Hid (srch f (s + 1) 0 = srch f (s + 1 - (j + 1)) (j + 1)) := by
                unfold Hid
                rw [hS.out, hsub, srch_none HN.out]
                congr 1; omega
              clear hS hfj hsub hres HN sj
              go_wp2_with fail
              refine (CALL.out _ (HR.out.below hB)).mono ?_
              rintro e w2 ⟨A2, c2, rfl, O2, B2⟩
              have hB2 := hB.trans (B2.mono hB.size)
              clear O2 B2
              go_wp2
              go_roundw
              case rel => exact ⟨j + 1, by omega, by go_num, HS2.out, hB2⟩
              case measure => simp [intOf]; omega
            · have CALL := Lib.hid (fun u (hu : Rd u (some ad0) cs) => IH.out (i + 1) (by omega) (by omega) R (s - j) r0 (by omega) u hu)
              rw [hres, show ((i + 1 : Nat) : Int) = (i : Int) + 1 by omega, ← sj] at CALL
              simp only [Option.getD_some, Option.isSome_some] at CALL
              have hl10 : l.length ≤ 10 := by
                have := (lst_facts _ _ _ _ hres).1
                rw [List.length_drop] at this
                omega
              have HS2 : Hid (srch f (s + 1) 0 = some ((j : Int) :: l)) := by
                unfold Hid
                have hfs : f j = some ((j : Int) :: l) := by rw [hfj.out, hres]; rfl
                rw [hS.out, hsub, srch_some hfs]
              clear hS hfj hsub hres sj
              go_wp2_with fail
              refine (CALL.out _ (HR.out.below hB)).mono ?_
              rintro e w2 ⟨A2, c2, rfl, O2, B2⟩
              have hB2 := hB.trans (B2.mono hB.size)
              have O1 := Ap.one2 w2 (j : Int)
              have O2' := O2.alloc (.cells #[.int .i64 (j : Int)] 3)
              have hB3 : Below w.heap.size w (w2.alloc (.cells #[.int .i64 (j : Int)] 3)) := hB2.alloc hB2.size _
              have z1 : w2.heap.size ≤ (w2.alloc (.cells #[.int .i64 (j : Int)] 3)).heap.size := by simp
              have l2 : ([(j : Int)] : List Int).length + l.length ≤ 1099511627776 := by simp; omega
              clear O2 B2
              go_wp2_with (at_builtin; refine wpList_appAny O1 O2' l2 z1 rfl _ _ 22 rfl rfl rfl rfl ?_; intro v3 w3 O3 B3; rw [show ([(j : Int)] : List Int) ++ l = (j : Int) :: l from rfl] at O3; obtain ⟨A3, c3, rfl⟩ := O3.form)
              have HO3 := Lib.hid (O3.ow.more hB2.size)
              have HB4 := Lib.hid (hB3.trans (B3.mono hB2.size))
              clear O3 B3 O1 O2' hB3
              go_ret2
              exact ⟨A3, c3, ret_two (by rw [HS2.out]; rfl) (by rw [HS2.out]; rfl), by rw [HS2.out]; exact HO3.out, HB4.out⟩
        · have OUT : Hid (∀ d : Nat, j ≤ d → f d = none) := fun d hd => by
            rw [HF.out d, lst_below HD1.out]
            · rfl
            · have h1 : (j : Int) * c ≤ d * c := Int.mul_le_mul_of_nonneg_right (by omega) (by omega)
              have h2 := HPj.out
              omega
          have hjn2 : ¬ P ≤ (n : Int) := hjn
          clear hP
          have HS2 : Hid (srch f (s + 1) 0 = none) := by
            unfold Hid
            rw [hS.out]
            exact srch_out _ _ fun d hd => OUT.out d hd
          clear hS OUT
          go_wp2
          go_ret2
          exact ⟨none, 0, by rw [HS2.out]; rfl, by rw [HS2.out]; exact Ow.nil_ _ _, hB⟩
      · have hjs2 : j = s + 1 := by omega
        have t1 : ¬ (j : Int) ≤ s := by omega
        have HS2 : Hid (srch f (s + 1) 0 = none) := by
          unfold Hid
          rw [hS.out, hjs2, Nat.sub_self, srch_zero]
        clear hS
        go_wp2
        go_ret2
        exact ⟨none, 0, by rw [HS2.out]; rfl, by rw [HS2.out]; exact Ow.nil_ _ _, hB⟩

theorem sLeastDigits_c (w : World) (N : Int) (hN : I64 N) (B : Option Addr) (c' : Nat) (cs : List Int) (hb : Rd w B cs) (hl : cs.length ≤ 1048576) (hab : AllI64 cs) :
    Calls Try.prog 33 #[.int .i64 N, .slice B cs.length c'] w fun e w' => ∃ A c, e = .returned (.slice A (leastL N cs).length c) ∧ Ow w' w.heap.size (.slice A (leastL N cs).length c) (leastL N cs) ∧ Below w.heap.size w w' := by
  have FC := Lib.hid (sFewestCoins_c w N hN B c' cs hb hl hab)
  have HB := Lib.hid hb
  clear hb
  rcases Bool.eq_false_or_eq_true (coinsB cs) with h | h
  · rcases Bool.eq_false_or_eq_true (inB N 0 400) with h2 | h2
    · obtain ⟨n0, n1⟩ := inB_true h2
      obtain ⟨n, rfl⟩ : ∃ n : Nat, N = n := ⟨N.toNat, by omega⟩
      obtain ⟨s, e1, s1, e2, _⟩ := leastL_of h h2
      rw [e1] at FC
      have HE := Lib.hid e2
      have HC := Lib.hid h
      have s0 : (0 : Int) ≤ s := by omega
      clear e1 e2 h h2
      go_enter Try.func33, Try.ntmps33
      go_wp2_with fail
      refine (FC.out).mono ?_
      rintro e w1 ⟨rfl, B1⟩
      have LC := l11Least_any B c' cs HC.out (cs.length - 0) 0 rfl (Nat.zero_le _) n s (by omega) s1 w1 (HB.out.below B1)
      rw [List.drop_zero, HE.out] at LC
      simp only [Option.getD_some, Option.isSome_some] at LC
      have LC2 := Lib.hid LC
      rw [show ((0 : Nat) : Int) = 0 from rfl] at LC2
      clear LC
      go_wp2_with fail
      refine (LC2.out).mono ?_
      rintro e w2 ⟨A, c, rfl, O2, B2⟩
      go_wp2
      go_ret
      exact ⟨A, c, rfl, O2.more B1.size, B1.trans (B2.mono B1.size)⟩
    · have HL := Lib.hid (leastL_no2 (cs := cs) h2)
      rw [fewestR_no2 h2] at FC
      clear h2
      go_enter Try.func33, Try.ntmps33
      go_wp2_with fail
      refine (FC.out).mono ?_
      rintro e w1 ⟨rfl, B1⟩
      go_wp2
      go_ret
      exact ⟨none, 0, by rw [HL.out]; rfl, by rw [HL.out]; exact Ow.nil_ _ _, B1⟩
  · have HL := Lib.hid (leastL_no1 (N := N) h)
    rw [fewestR_no1 h] at FC
    clear h
    go_enter Try.func33, Try.ntmps33
    go_wp2_with fail
    refine (FC.out).mono ?_
    rintro e w1 ⟨rfl, B1⟩
    go_wp2
    go_ret
    exact ⟨none, 0, by rw [HL.out]; rfl, by rw [HL.out]; exact Ow.nil_ _ _, B1⟩
end Go.Proofs.Ytlhabcpoemcpjaa
