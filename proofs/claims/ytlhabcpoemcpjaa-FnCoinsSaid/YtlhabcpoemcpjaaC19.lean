/-
  WALK of FnCoins: greedy digits have the right value, and are the fewest up to the first failure. No condition.
-/
import Derived.Test.YtlhabcpoemcpjaaC18
namespace Go.Proofs.Ytlhabcpoemcpjaa
open Go.RowKit

theorem sumQ_sumP (xs : List Int) : sumQ xs = sumP xs := by
  induction xs with
  | nil => rfl
  | cons x xs ih => simp only [sumQ, sumP, ih]
/-- A few small numbers. -/
structure Few (xs : List Int) : Prop where
  len : xs.length ≤ 10
  val : ∀ x ∈ xs, (0 : Int) ≤ x ∧ x ≤ 100000
theorem Few.i64 {xs : List Int} (h : Few xs) : AllI64 xs := fun x hx => by have := h.val x hx; omega
theorem few_coins {cs : List Int} (h : coinsB cs = true) : Few cs := by
  obtain ⟨p1, p2, p3, _, _⟩ := coinsB_parts h
  exact ⟨p2, fun x hx => by have := p3 x hx; omega⟩
theorem kCoinsOk (w : World) (A : Option Addr) (c : Nat) (cs : List Int) (hr : Rd w A cs) (hf : Few cs) (h : coinsB cs = true) :
    Calls Try.prog 15 #[.slice A cs.length c] w fun e w' => e = .returned (.bool true) ∧ w = w' := by
  have := iCoinsOk_any A c cs w hr (by have := hf.len; omega)
  rwa [h] at this
theorem kGreedy (w : World) (N : Int) (hN : I64 N) (A : Option Addr) (c : Nat) (cs : List Int) (hr : Rd w A cs) (hf : Few cs) {G : List Int} (h : greedyR N cs = G) :
    Calls Try.prog 26 #[.int .i64 N, .slice A cs.length c] w fun e w' => ∃ A c, e = .returned (.slice A G.length c) ∧ Ow w' w.heap.size (.slice A G.length c) G ∧ Below w.heap.size w w' := by
  subst h; exact iGreedyCoins_c w N hN A c cs hr (by have := hf.len; omega) hf.i64
theorem kFew (w : World) (N : Int) (hN : I64 N) (A : Option Addr) (c : Nat) (cs : List Int) (hr : Rd w A cs) (hf : Few cs) {v : Int} (h : fewestR N cs = v) :
    Calls Try.prog 28 #[.int .i64 N, .slice A cs.length c] w fun e w' => e = .returned (.int .i64 v) ∧ Below w.heap.size w w' := by
  subst h; exact iFewestCoins_c w N hN A c cs hr (by have := hf.len; omega) hf.i64
theorem kFirst (w : World) (M : Int) (hM : I64 M) (A : Option Addr) (c m : Nat) (cs : List Int) (hr : Rd w A cs) (hm : cs.length = m) (hf : Few cs) {v : Int} (h : firstR cs M = v) :
    Calls Try.prog 32 #[.slice A m c, .int .i64 M] w fun e w' => e = .returned (.int .i64 v) ∧ Below w.heap.size w w' := by
  subst h hm; exact iFirstUngreedy_c w A c cs hr (by have := hf.len; omega) hf.i64 M hM
theorem kLeast (w : World) (N : Int) (hN : I64 N) (A : Option Addr) (c : Nat) (cs : List Int) (hr : Rd w A cs) (hc : cs.length ≤ c) (hf : Few cs) {L : List Int} (h : leastL N cs = L) :
    Calls Try.prog 34 #[.int .i64 N, .slice A cs.length c] w fun e w' => ∃ A c, e = .returned (.slice A L.length c) ∧ Ow w' w.heap.size (.slice A L.length c) L ∧ Below w.heap.size w w' := by
  subst h; exact iLeastDigits_c w N hN A c cs hr hc (by have := hf.len; omega) hf.i64
theorem kValue (w : World) (D : Option Addr) (d : Nat) (ds : List Int) (hd : Rd w D ds) (hfd : Few ds) (A : Option Addr) (c : Nat) (cs : List Int) (hr : Rd w A cs) (hf : Few cs) {v : Int} (h : coinsValueR ds cs = v) :
    Calls Try.prog 20 #[.slice D ds.length d, .slice A cs.length c] w fun e w' => e = .returned (.int .i64 v) ∧ Below w.heap.size w w' := by
  subst h; exact iCoinsValue_c w D d ds hd (by have := hfd.len; omega) hfd.i64 A c cs hr (by have := hf.len; omega) hf.i64
theorem kIsGreedy (w : World) (D : Option Addr) (d : Nat) (ds : List Int) (hd : Rd w D ds) (hfd : Few ds) (A : Option Addr) (c : Nat) (cs : List Int) (hr : Rd w A cs) (hf : Few cs) (h : isGreedyR ds cs = true) :
    Calls Try.prog 30 #[.slice D ds.length d, .slice A cs.length c] w fun e w' => e = .returned (.bool true) ∧ Below w.heap.size w w' := by
  have := iIsGreedy_c w D d ds hd (by have := hfd.len; omega) hfd.i64 A c cs hr (by have := hf.len; omega) hf.i64
  rwa [h] at this
theorem kSum (w : World) (A : Option Addr) (c : Nat) (xs : List Int) (hr : Rd w A xs) (hf : Few xs) {v : Int} (h : sumP xs = v) :
    Calls Try.prog 37 #[.slice A xs.length c] w fun e w' => e = .returned (.int .i64 v) ∧ w = w' := by
  have := lsum_any A c xs w hr (by have := hf.len; omega) (fun x hx => by have := hf.val x hx; omega)
  rwa [sumQ_sumP, h] at this
theorem kCount (w : World) (N : Int) (hN : I64 N) (A : Option Addr) (c : Nat) (cs : List Int) (hr : Rd w A cs) (hf : Few cs) {v : Int} (h : countR N cs = v) :
    Calls Try.prog 18 #[.int .i64 N, .slice A cs.length c] w fun e w' => e = .returned (.int .i64 v) ∧ Below w.heap.size w w' := by
  subst h; exact iCountCoins_c w N hN A c cs hr (by have := hf.len; omega) hf.i64
theorem kRec (w : World) : Calls Try.prog 22 #[.int .i64 1, .int .i64 1, .int .i64 7] w fun e w' => ∃ A c, e = .returned (.tuple #[.slice A fibC.length c, .bool true]) ∧ Ow w' w.heap.size (.slice A fibC.length c) fibC ∧ Below w.heap.size w w' := by
  have := iRecurrentCoins_c w 1 ⟨by omega, by omega⟩ 1 ⟨by omega, by omega⟩ 7 ⟨by omega, by omega⟩
  rwa [rec_fib.1, rec_fib.2] at this
theorem kSame (w : World) (A : Option Addr) (c m m2 : Nat) (xs : List Int) (B : Option Addr) (d : Nat) (ha : Rd w A xs) (hb : Rd w B xs) (hm : xs.length = m) (hm2 : xs.length = m2) (h : Few xs) :
    Calls Try.prog 38 #[.slice A m c, .slice B m2 d] w fun e w' => e = .returned (.bool true) ∧ Below w.heap.size w w' := by
  subst hm hm2
  have := lsame_any A c xs B d xs w ha hb (by have := h.len; omega)
  rwa [beq_self_eq_true] at this
theorem lit_fib (w : World) : Rd (w.alloc (.cells #[.int .i64 1, .int .i64 2, .int .i64 3, .int .i64 5, .int .i64 8, .int .i64 13, .int .i64 21] 3)) (some ⟨w.heap.size, 0, none⟩) fibC := by
  have h : Ap (w.alloc (.cells #[.int .i64 1, .int .i64 2, .int .i64 3, .int .i64 5, .int .i64 8, .int .i64 13, .int .i64 21] 3)) w.heap.size (.slice (some ⟨w.heap.size, 0, none⟩) 7 7) fibC :=
    World.ownsRow_lit w #[.int .i64 1, .int .i64 2, .int .i64 3, .int .i64 5, .int .i64 8, .int .i64 13, .int .i64 21] 7 (Nat.le_refl _) (by unfold maxLen; omega) rfl
  exact Ow.rd h.ow
theorem lit_odd (w : World) : Rd (w.alloc (.cells #[.int .i64 1, .int .i64 3, .int .i64 4] 3)) (some ⟨w.heap.size, 0, none⟩) oddC := by
  have h : Ap (w.alloc (.cells #[.int .i64 1, .int .i64 3, .int .i64 4] 3)) w.heap.size (.slice (some ⟨w.heap.size, 0, none⟩) 3 3) oddC :=
    World.ownsRow_lit w #[.int .i64 1, .int .i64 3, .int .i64 4] 3 (Nat.le_refl _) (by unfold maxLen; omega) rfl
  exact Ow.rd h.ow
theorem few_fib : Few fibC := ⟨by decide, by decide⟩
theorem few_odd : Few oddC := ⟨by decide, by decide⟩

set_option maxRecDepth 100000 in
set_option maxHeartbeats 12800000 in
theorem lFnCoins_law (w : World) (A0 : Option Addr) (c0 : Nat) (xs0 : List Int) (r0 : Rd8 w A0 xs0) (_m0 : xs0.length ≤ maxLen) (b0 : ∀ x ∈ xs0, 0 ≤ x ∧ x ≤ 255) :
    Calls Try.prog 12 #[.slice A0 xs0.length c0] w fun e w' => e = .returned (.bool true) ∧ Below w.heap.size w w' := by
  unfold maxLen at _m0
  by_cases hlen : xs0.length ≤ 1048576
  · have hA : 0 < xs0.length → ∀ ad, A0 = some ad → ad.block < w.heap.size := fun hn ad e => by
      obtain ⟨ad', e', hc⟩ := r0 hn
      rw [e] at e'
      obtain rfl := Option.some.inj e'
      have := cell_lt (hc 0 hn)
      rwa [block_add] at this
    have MC := Lib.hid (makeCoins_c 0 (by omega) A0 c0 xs0 w r0 hA b0 (by omega))
    have MN20 := Lib.hid (fun (u : World) (B : Below w.heap.size w u) => makeNum_c 20 (by omega) A0 c0 xs0 u (r0.far hA B) (fun hn ad e => Nat.lt_of_lt_of_le (hA hn ad e) B.size) b0 (by omega))
    rw [show ((0 : Nat) : Int) = 0 from rfl] at MC
    rw [show ((20 : Nat) : Int) = 20 from rfl] at MN20
    clear hA r0 b0
    go_enter Try.func12, Try.ntmps12
    go_wp2_with fail
    refine (MC.out).mono ?_
    rintro e w1 ⟨A1, c1, cs, rfl, hC, l5, O1, T1⟩
    go_wp2_with fail
    refine (MN20.out _ T1).mono ?_
    rintro e w2 ⟨X, rfl, X0, X1, B2⟩
    have T2 := T1.trans (B2.mono T1.size)
    have HC1 := Lib.hid (O1.below' B2)
    clear B2 T1 O1 MC MN20
    obtain ⟨n, hn⟩ : ∃ n : Nat, X % 90 = (n : Int) := ⟨(X % 90).toNat, by omega⟩
    have n90 : n < 90 := by omega
    have h2 : inB (n : Int) 0 400 = true := inB_of ⟨by omega, by omega⟩
    obtain ⟨g1, g2, g3, g4, g5⟩ := greedy_facts hC (n := (n : Int)) (inB_of ⟨by omega, by omega⟩)
    have fg := fewest_greedy hC h2
    obtain ⟨l1, l2, l3, l4⟩ := least_facts hC h2
    obtain ⟨v, v1, _, _, v4⟩ := fewest_law hC h2
    have FL := first_law hC (M := 90) (by omega)
    rw [show ((90 : Nat) : Int) = 90 from rfl] at FL
    obtain ⟨q1, q2, q3⟩ := count_law hC (n := n) (by omega) l5
    have q0 := count_zero hC
    have HFC := Lib.hid (few_coins hC)
    have HCB := Lib.hid hC
    have p10 := (coinsB_parts hC).2.1
    obtain ⟨G, hG⟩ : ∃ G, greedyR (n : Int) cs = G := ⟨_, rfl⟩
    obtain ⟨L, hL⟩ : ∃ L, leastL (n : Int) cs = L := ⟨_, rfl⟩
    obtain ⟨F, hF⟩ : ∃ F, fewestR (n : Int) cs = F := ⟨_, rfl⟩
    obtain ⟨SG, hSG⟩ : ∃ s, sumP G = s := ⟨_, rfl⟩
    obtain ⟨BD, hBD⟩ : ∃ b, firstR cs 90 = b := ⟨_, rfl⟩
    obtain ⟨W, hW⟩ : ∃ x, countR (n : Int) cs = x := ⟨_, rfl⟩
    rw [hG] at g1 g3 g4 g5 fg
    rw [hSG, hF] at fg
    rw [hL] at l1 l2 l3 l4
    rw [hF] at l2 v1
    rw [hW] at q1 q2 q3
    have FG : Few G := ⟨by omega, g3⟩
    have FLe : Few L := ⟨by omega, fun x hx => by have := l4 x hx; omega⟩
    have hFL : (n < BD ∨ BD < 0) → SG = F := by
      intro h
      rcases FL with ⟨a, b⟩ | ⟨b, a, b1, b2, b3⟩
      · have := b n (by omega)
        rw [hG, hSG, hF] at this
        omega
      · have := b3 n (by omega)
        rw [hG, hSG, hF] at this
        omega
    have hBDc : (BD = -1) ∨ ∃ b : Nat, BD = b ∧ b ≤ 90 ∧ fewestR b cs < sumP (greedyR b cs) := by
      rcases FL with ⟨a, _⟩ | ⟨b, a, b1, b2, _⟩
      · exact .inl (by omega)
      · exact .inr ⟨b, by omega, b1, b2⟩
    have HG := Lib.hid hG
    have HL := Lib.hid hL
    have HF := Lib.hid hF
    have HSG := Lib.hid hSG
    have HBD := Lib.hid hBD
    have HW := Lib.hid hW
    have HG4 := Lib.hid g4
    have HG5 := Lib.hid g5
    have HL2 := Lib.hid l2
    have HL3 := Lib.hid l3
    have HFG := Lib.hid FG
    have HFLe := Lib.hid FLe
    have HQ3 := Lib.hid q3
    have HQ0 := Lib.hid q0
    have HFL := Lib.hid hFL
    have HBDc := Lib.hid hBDc
    have HL1 := Lib.hid l1
    have hn64 : I64 (n : Int) := ⟨by omega, by omega⟩
    have K2 := Below.refl w2.heap.size w2
    have f0 : 0 ≤ F := by omega
    have f1 : F ≤ 90 := by omega
    have n0 : (0 : Int) ≤ n := by omega
    have n9 : (n : Int) < 90 := by omega
    clear hG hL hF hSG hBD hW g1 g2 g3 g4 g5 l1 l2 l3 l4 v1 v4 FL q3 q0 FG FLe hFL hBDc hC h2 n90
    go_wp2_with fail
    try rw [hn]
    clear hn X0 X1
    refine (kGreedy _ _ hn64 _ _ cs (HC1.out.below' K2).rd HFC.out HG.out).mono ?_
    rintro e w3 ⟨A3, c3, rfl, O3, B3⟩
    have K3 := K2.trans (B3.mono K2.size)
    clear B3 K2
    go_wp2_with fail
    refine (kFew _ _ hn64 _ _ cs (HC1.out.below' K3).rd HFC.out HF.out).mono ?_
    rintro e w4 ⟨rfl, B4⟩
    have K4 := K3.trans (B4.mono K3.size)
    have O3b := O3.below' B4
    clear B4 K3 O3
    go_wp2_with fail
    refine (kFirst _ 90 ⟨by omega, by omega⟩ _ _ _ cs (HC1.out.below' K4).rd rfl HFC.out HBD.out).mono ?_
    rintro e w5 ⟨rfl, B5⟩
    have K5 := K4.trans (B5.mono K4.size)
    have O3c := O3b.below' B5
    clear B5 K4 O3b
    go_wp2_with fail
    refine (kLeast _ _ hn64 _ _ cs (HC1.out.below' K5).rd HC1.out.cap.1 HFC.out HL.out).mono ?_
    rintro e w6 ⟨A6, c6, rfl, O6, B6⟩
    have K6 := K5.trans (B6.mono K5.size)
    have HO3 := Lib.hid (O3c.below' B6)
    have HO6 := Lib.hid O6
    have HOC := Lib.hid (HC1.out.below' K6)
    have T6 := T2.trans (K6.mono T2.size)
    have J6 := Below.refl w6.heap.size w6
    clear B6 K5 K6 O3c O6 HC1 T2
    go_wp2_with fail
    refine (kCoinsOk _ _ _ cs (HOC.out.below' J6).rd HFC.out HCB.out).mono ?_
    rintro e w' ⟨rfl, rfl⟩
    go_wp2_with fail
    refine (kValue _ _ _ G (HO3.out.below' J6).rd HFG.out _ _ cs (HOC.out.below' J6).rd HFC.out HG4.out).mono ?_
    rintro e w7 ⟨rfl, B7⟩
    have J7 := J6.trans (B7.mono J6.size)
    clear B7 J6
    go_wp2_with fail
    refine (kIsGreedy _ _ _ G (HO3.out.below' J7).rd HFG.out _ _ cs (HOC.out.below' J7).rd HFC.out HG5.out).mono ?_
    rintro e w8 ⟨rfl, B8⟩
    have J8 := J7.trans (B8.mono J7.size)
    clear B8 J7
    have c1_ : ¬ F < 0 := by omega
    have c2_ : ¬ SG < F := by omega
    go_wp2_with fail
    refine (kSum _ _ _ G (HO3.out.below' J8).rd HFG.out HSG.out).mono ?_
    rintro e w' ⟨rfl, rfl⟩
    go_wp2_with fail
    refine (kValue _ _ _ L (HO6.out.below' J8).rd HFLe.out _ _ cs (HOC.out.below' J8).rd HFC.out HL3.out).mono ?_
    rintro e w9 ⟨rfl, B9⟩
    have J9 := J8.trans (B9.mono J8.size)
    clear B9 J8
    have c3_ : ((L.length : Int) != cs.length) = false := by have := HL1.out; simp; omega
    go_wp2_with fail
    refine (kSum _ _ _ L (HO6.out.below' J9).rd HFLe.out HL2.out).mono ?_
    rintro e w' ⟨rfl, rfl⟩
    have HBC := HBDc.out
    have HFF := HFL.out
    clear HBDc HFL c1_
    rcases HBC with hb1 | ⟨b, hb1, hb2, hb3⟩
    · have hE := HFF (.inr (by omega))
      subst hb1
      clear HFF c2_
      subst hE
      go_wp2_with fail
      refine (kSum _ _ _ G (HO3.out.below' J9).rd HFG.out HSG.out).mono ?_
      rintro e w' ⟨rfl, rfl⟩
      have T9 := T6.trans (J9.mono T6.size)
      have HRC := Lib.hid (HOC.out.below' J9).rd
      clear J9 HOC T6 c3_
      go_wp2
      clear HG HL HF HSG HBD HG4 HG5 HL2 HL3 HFG HFLe HL1 HO3 HO6 hn64 f0 f1 fg
      go_loopw [9, 108] (fun mv i wr => ∃ k q t : Nat, k ≤ cs.length ∧ i = .int .i64 k ∧ mv = .int .i64 q ∧ q ≤ k ∧ Hid (0 < q ↔ ∃ (i : Nat) (c : Int), i < k ∧ cs[i]? = some c ∧ 1 < c ∧ c ≤ n) ∧ wr = w9.drewN t) (fun _ i _ => cs.length - (intOf i).toNat)
      case atStart => exact ⟨0, 0, 0, Nat.zero_le _, rfl, rfl, Nat.le_refl _, (by constructor; (intro h; omega); (rintro ⟨i, c, hi, _⟩; omega)), rfl⟩
      case round =>
        obtain ⟨k, q, t, hk, rfl, rfl, hqk, hQ, rfl⟩ := hrel
        by_cases hlt : k < cs.length
        · obtain ⟨ad, x, rfl, hx, hcx⟩ := HRC.out.at_ hlt
          have bx := HFC.out.val x (List.mem_of_getElem? hx.out)
          have HXX := Lib.hid hx.out
          obtain ⟨bx0, bx1⟩ := bx
          clear hx
          by_cases hg1 : 1 < x
          · by_cases hg2 : x ≤ n
            · have HQ2 : Hid (0 < q + 1 ↔ ∃ (i : Nat) (c : Int), i < k + 1 ∧ cs[i]? = some c ∧ 1 < c ∧ c ≤ n) := ⟨fun _ => ⟨k, x, by omega, HXX.out, hg1, hg2⟩, fun _ => by omega⟩
              clear hQ
              go_wp2
              go_roundw
              case rel => exact ⟨k + 1, q + 1, _, by omega, by go_num, by go_num, by omega, HQ2.out, by first | rfl | exact drewN_twice _ _ _⟩
              case measure => simp [intOf]; omega
            · have HQ2 : Hid (0 < q ↔ ∃ (i : Nat) (c : Int), i < k + 1 ∧ cs[i]? = some c ∧ 1 < c ∧ c ≤ n) := by
                refine hQ.out.trans ⟨fun ⟨i, c, h1, h2⟩ => ⟨i, c, by omega, h2⟩, fun ⟨i, c, h1, h2, h3, h4⟩ => ⟨i, c, ?_, h2, h3, h4⟩⟩
                rcases Nat.lt_or_ge i k with h | h
                · exact h
                · exfalso
                  obtain rfl : i = k := by omega
                  rw [HXX.out] at h2
                  have := Option.some.inj h2
                  omega
              have hg3 : (n : Int) < x := by omega
              clear hQ
              go_wp2
              go_roundw
              case rel => exact ⟨k + 1, q, _, by omega, by go_num, rfl, by omega, HQ2.out, by first | rfl | exact drewN_twice _ _ _⟩
              case measure => simp [intOf]; omega
          · have HQ2 : Hid (0 < q ↔ ∃ (i : Nat) (c : Int), i < k + 1 ∧ cs[i]? = some c ∧ 1 < c ∧ c ≤ n) := by
              refine hQ.out.trans ⟨fun ⟨i, c, h1, h2⟩ => ⟨i, c, by omega, h2⟩, fun ⟨i, c, h1, h2, h3, h4⟩ => ⟨i, c, ?_, h2, h3, h4⟩⟩
              rcases Nat.lt_or_ge i k with h | h
              · exact h
              · exfalso
                obtain rfl : i = k := by omega
                rw [HXX.out] at h2
                have := Option.some.inj h2
                omega
            have hg3 : x ≤ 1 := by omega
            clear hQ
            go_wp2
            go_roundw
            case rel => exact ⟨k + 1, q, _, by omega, by go_num, rfl, by omega, HQ2.out, by first | rfl | exact drewN_twice _ _ _⟩
            case measure => simp [intOf]; omega
        · have hkl : k = cs.length := by omega
          subst hkl
          have hqw : (0 < q ↔ 1 < W) := hQ.out.trans HQ3.out.symm
          have HQW : Hid (((0 : Int) < q) = (1 < W)) := propext ⟨fun h => hqw.1 (by omega), fun h => by have := hqw.2 h; omega⟩
          have HQN : Hid ((0 < q) = (1 < W)) := propext hqw
          have R0 := below_drewN (Below.refl w9.heap.size w9) t
          have HRC2 := Lib.hid (HRC.out.drewN t)
          clear hQ hqw HQ3
          go_wp2_with fail
          refine (kRec _).mono ?_
          rintro e w20 ⟨A20, c20, rfl, O20, B20⟩
          have R1 := R0.trans (B20.mono R0.size)
          have HO20 := Lib.hid O20
          have S20 := Below.refl w20.heap.size w20
          have HRC3 := Lib.hid (HRC2.out.below B20)
          clear B20 R0 O20 HRC2
          go_wp2_with fail
          refine (kCount _ _ ⟨by omega, by omega⟩ _ _ cs HRC3.out HFC.out HW.out).mono ?_
          rintro e w21 ⟨rfl, B21⟩
          have S21 := S20.trans (B21.mono S20.size)
          clear B21 S20
          have e21 := HQN.out
          go_wp2_with fail
          refine (kCount _ 0 ⟨by omega, by omega⟩ _ _ cs (HRC3.out.below S21) HFC.out HQ0.out).mono ?_
          rintro e w22 ⟨rfl, B22⟩
          have S22 := S21.trans (B22.mono S21.size)
          have HL22 := Lib.hid (lit_fib w22)
          have S22b : Hid (Below w20.heap.size w20 (w22.alloc (.cells #[.int .i64 1, .int .i64 2, .int .i64 3, .int .i64 5, .int .i64 8, .int .i64 13, .int .i64 21] 3))) := S22.alloc S22.size _
          clear B22 S21 e21 HQW HQN
          go_wp2_with fail
          refine (kSame _ _ _ _ _ fibC _ _ (HO20.out.below' S22b.out).rd HL22.out rfl rfl few_fib).mono ?_
          rintro e w23 ⟨rfl, B23⟩
          have S23 := S22b.out.trans (B23.mono S22b.out.size)
          clear B23 S22 S22b HL22
          go_wp2_with fail
          refine (kFirst _ 200 ⟨by omega, by omega⟩ _ _ _ fibC (HO20.out.below' S23).rd rfl few_fib first_fib).mono ?_
          rintro e w24 ⟨rfl, B24⟩
          have S24 := S23.trans (B24.mono S23.size)
          have HL24 := Lib.hid (lit_odd w24)
          have S24b : Hid (Below w20.heap.size w20 (w24.alloc (.cells #[.int .i64 1, .int .i64 3, .int .i64 4] 3))) := S24.alloc S24.size _
          clear B24 S23
          go_wp2_with fail
          refine (kFirst _ 50 ⟨by omega, by omega⟩ _ _ _ oddC HL24.out rfl few_odd first_odd).mono ?_
          rintro e w25 ⟨rfl, B25⟩
          have S25 := S24b.out.trans (B25.mono S24b.out.size)
          have TT := T9.trans ((R1.mono T9.size).trans (S25.mono (Nat.le_trans T9.size R1.size)))
          go_wp2
          go_ret
          exact ⟨rfl, TT⟩
    · by_cases hnb0 : n < b
      · have hE := HFF (.inl (by omega))
        subst hb1
        have hnb : (n : Int) < b := by omega
        clear HFF c2_
        subst hE
        go_wp2_with fail
        refine (kSum _ _ _ G (HO3.out.below' J9).rd HFG.out HSG.out).mono ?_
        rintro e w' ⟨rfl, rfl⟩
        have hb64 : I64 (b : Int) := ⟨by omega, by omega⟩
        have b0 : (0 : Int) ≤ b := by omega
        obtain ⟨GB, hGB⟩ : ∃ g, greedyR (b : Int) cs = g := ⟨_, rfl⟩
        obtain ⟨FB, hFB⟩ : ∃ f, fewestR (b : Int) cs = f := ⟨_, rfl⟩
        obtain ⟨SB, hSB⟩ : ∃ s, sumP GB = s := ⟨_, rfl⟩
        rw [hGB, hFB, hSB] at hb3
        have HGB := Lib.hid hGB
        have HFB := Lib.hid hFB
        have HSB := Lib.hid hSB
        have FGB : Hid (Few GB) := by
          have gf := greedy_facts HCB.out (n := (b : Int)) (inB_of ⟨by omega, by omega⟩)
          rw [hGB] at gf
          exact ⟨by rw [gf.1]; exact p10, gf.2.2.1⟩
        have hb4 : ¬ SB ≤ FB := by omega
        clear hGB hFB hSB
        go_wp2_with fail
        refine (kGreedy _ _ hb64 _ _ cs (HOC.out.below' J9).rd HFC.out HGB.out).mono ?_
        rintro e w10 ⟨A10, c10, rfl, O10, B10⟩
        have J10 := J9.trans (B10.mono J9.size)
        clear B10 J9
        go_wp2_with fail
        refine (kSum _ _ _ GB O10.rd FGB.out HSB.out).mono ?_
        rintro e w' ⟨rfl, rfl⟩
        go_wp2_with fail
        refine (kFew _ _ hb64 _ _ cs (HOC.out.below' J10).rd HFC.out HFB.out).mono ?_
        rintro e w9 ⟨rfl, B11⟩
        have J9 := J10.trans (B11.mono J10.size)
        clear B11 J10 O10
        have T9 := T6.trans (J9.mono T6.size)
        have HRC := Lib.hid (HOC.out.below' J9).rd
        clear J9 HOC T6 c3_ HGB HFB HSB FGB hb64
        go_wp2
        clear hb2 hb3 hb4 b0
        clear HG HL HF HSG HBD HG4 HG5 HL2 HL3 HFG HFLe HL1 HO3 HO6 hn64 f0 f1 fg
        go_loopw [9, 108] (fun mv i wr => ∃ k q t : Nat, k ≤ cs.length ∧ i = .int .i64 k ∧ mv = .int .i64 q ∧ q ≤ k ∧ Hid (0 < q ↔ ∃ (i : Nat) (c : Int), i < k ∧ cs[i]? = some c ∧ 1 < c ∧ c ≤ n) ∧ wr = w9.drewN t) (fun _ i _ => cs.length - (intOf i).toNat)
        case atStart => exact ⟨0, 0, 0, Nat.zero_le _, rfl, rfl, Nat.le_refl _, (by constructor; (intro h; omega); (rintro ⟨i, c, hi, _⟩; omega)), rfl⟩
        case round =>
          obtain ⟨k, q, t, hk, rfl, rfl, hqk, hQ, rfl⟩ := hrel
          by_cases hlt : k < cs.length
          · obtain ⟨ad, x, rfl, hx, hcx⟩ := HRC.out.at_ hlt
            have bx := HFC.out.val x (List.mem_of_getElem? hx.out)
            have HXX := Lib.hid hx.out
            obtain ⟨bx0, bx1⟩ := bx
            clear hx
            by_cases hg1 : 1 < x
            · by_cases hg2 : x ≤ n
              · have HQ2 : Hid (0 < q + 1 ↔ ∃ (i : Nat) (c : Int), i < k + 1 ∧ cs[i]? = some c ∧ 1 < c ∧ c ≤ n) := ⟨fun _ => ⟨k, x, by omega, HXX.out, hg1, hg2⟩, fun _ => by omega⟩
                clear hQ
                go_wp2
                go_roundw
                case rel => exact ⟨k + 1, q + 1, _, by omega, by go_num, by go_num, by omega, HQ2.out, by first | rfl | exact drewN_twice _ _ _⟩
                case measure => simp [intOf]; omega
              · have HQ2 : Hid (0 < q ↔ ∃ (i : Nat) (c : Int), i < k + 1 ∧ cs[i]? = some c ∧ 1 < c ∧ c ≤ n) := by
                  refine hQ.out.trans ⟨fun ⟨i, c, h1, h2⟩ => ⟨i, c, by omega, h2⟩, fun ⟨i, c, h1, h2, h3, h4⟩ => ⟨i, c, ?_, h2, h3, h4⟩⟩
                  rcases Nat.lt_or_ge i k with h | h
                  · exact h
                  · exfalso
                    obtain rfl : i = k := by omega
                    rw [HXX.out] at h2
                    have := Option.some.inj h2
                    omega
                have hg3 : (n : Int) < x := by omega
                clear hQ
                go_wp2
                go_roundw
                case rel => exact ⟨k + 1, q, _, by omega, by go_num, rfl, by omega, HQ2.out, by first | rfl | exact drewN_twice _ _ _⟩
                case measure => simp [intOf]; omega
            · have HQ2 : Hid (0 < q ↔ ∃ (i : Nat) (c : Int), i < k + 1 ∧ cs[i]? = some c ∧ 1 < c ∧ c ≤ n) := by
                refine hQ.out.trans ⟨fun ⟨i, c, h1, h2⟩ => ⟨i, c, by omega, h2⟩, fun ⟨i, c, h1, h2, h3, h4⟩ => ⟨i, c, ?_, h2, h3, h4⟩⟩
                rcases Nat.lt_or_ge i k with h | h
                · exact h
                · exfalso
                  obtain rfl : i = k := by omega
                  rw [HXX.out] at h2
                  have := Option.some.inj h2
                  omega
              have hg3 : x ≤ 1 := by omega
              clear hQ
              go_wp2
              go_roundw
              case rel => exact ⟨k + 1, q, _, by omega, by go_num, rfl, by omega, HQ2.out, by first | rfl | exact drewN_twice _ _ _⟩
              case measure => simp [intOf]; omega
          · have hkl : k = cs.length := by omega
            subst hkl
            have hqw : (0 < q ↔ 1 < W) := hQ.out.trans HQ3.out.symm
            have HQW : Hid (((0 : Int) < q) = (1 < W)) := propext ⟨fun h => hqw.1 (by omega), fun h => by have := hqw.2 h; omega⟩
            have HQN : Hid ((0 < q) = (1 < W)) := propext hqw
            have R0 := below_drewN (Below.refl w9.heap.size w9) t
            have HRC2 := Lib.hid (HRC.out.drewN t)
            clear hQ hqw HQ3
            go_wp2_with fail
            refine (kRec _).mono ?_
            rintro e w20 ⟨A20, c20, rfl, O20, B20⟩
            have R1 := R0.trans (B20.mono R0.size)
            have HO20 := Lib.hid O20
            have S20 := Below.refl w20.heap.size w20
            have HRC3 := Lib.hid (HRC2.out.below B20)
            clear B20 R0 O20 HRC2
            go_wp2_with fail
            refine (kCount _ _ ⟨by omega, by omega⟩ _ _ cs HRC3.out HFC.out HW.out).mono ?_
            rintro e w21 ⟨rfl, B21⟩
            have S21 := S20.trans (B21.mono S20.size)
            clear B21 S20
            have e21 := HQN.out
            go_wp2_with fail
            refine (kCount _ 0 ⟨by omega, by omega⟩ _ _ cs (HRC3.out.below S21) HFC.out HQ0.out).mono ?_
            rintro e w22 ⟨rfl, B22⟩
            have S22 := S21.trans (B22.mono S21.size)
            have HL22 := Lib.hid (lit_fib w22)
            have S22b : Hid (Below w20.heap.size w20 (w22.alloc (.cells #[.int .i64 1, .int .i64 2, .int .i64 3, .int .i64 5, .int .i64 8, .int .i64 13, .int .i64 21] 3))) := S22.alloc S22.size _
            clear B22 S21 e21 HQW HQN
            go_wp2_with fail
            refine (kSame _ _ _ _ _ fibC _ _ (HO20.out.below' S22b.out).rd HL22.out rfl rfl few_fib).mono ?_
            rintro e w23 ⟨rfl, B23⟩
            have S23 := S22b.out.trans (B23.mono S22b.out.size)
            clear B23 S22 S22b HL22
            go_wp2_with fail
            refine (kFirst _ 200 ⟨by omega, by omega⟩ _ _ _ fibC (HO20.out.below' S23).rd rfl few_fib first_fib).mono ?_
            rintro e w24 ⟨rfl, B24⟩
            have S24 := S23.trans (B24.mono S23.size)
            have HL24 := Lib.hid (lit_odd w24)
            have S24b : Hid (Below w20.heap.size w20 (w24.alloc (.cells #[.int .i64 1, .int .i64 3, .int .i64 4] 3))) := S24.alloc S24.size _
            clear B24 S23
            go_wp2_with fail
            refine (kFirst _ 50 ⟨by omega, by omega⟩ _ _ _ oddC HL24.out rfl few_odd first_odd).mono ?_
            rintro e w25 ⟨rfl, B25⟩
            have S25 := S24b.out.trans (B25.mono S24b.out.size)
            have TT := T9.trans ((R1.mono T9.size).trans (S25.mono (Nat.le_trans T9.size R1.size)))
            go_wp2
            go_ret
            exact ⟨rfl, TT⟩
      · subst hb1
        have hnb : ¬ (n : Int) < b := by omega
        clear HFF c2_
        have hb64 : I64 (b : Int) := ⟨by omega, by omega⟩
        have b0 : (0 : Int) ≤ b := by omega
        obtain ⟨GB, hGB⟩ : ∃ g, greedyR (b : Int) cs = g := ⟨_, rfl⟩
        obtain ⟨FB, hFB⟩ : ∃ f, fewestR (b : Int) cs = f := ⟨_, rfl⟩
        obtain ⟨SB, hSB⟩ : ∃ s, sumP GB = s := ⟨_, rfl⟩
        rw [hGB, hFB, hSB] at hb3
        have HGB := Lib.hid hGB
        have HFB := Lib.hid hFB
        have HSB := Lib.hid hSB
        have FGB : Hid (Few GB) := by
          have gf := greedy_facts HCB.out (n := (b : Int)) (inB_of ⟨by omega, by omega⟩)
          rw [hGB] at gf
          exact ⟨by rw [gf.1]; exact p10, gf.2.2.1⟩
        have hb4 : ¬ SB ≤ FB := by omega
        clear hGB hFB hSB
        go_wp2_with fail
        refine (kGreedy _ _ hb64 _ _ cs (HOC.out.below' J9).rd HFC.out HGB.out).mono ?_
        rintro e w10 ⟨A10, c10, rfl, O10, B10⟩
        have J10 := J9.trans (B10.mono J9.size)
        clear B10 J9
        go_wp2_with fail
        refine (kSum _ _ _ GB O10.rd FGB.out HSB.out).mono ?_
        rintro e w' ⟨rfl, rfl⟩
        go_wp2_with fail
        refine (kFew _ _ hb64 _ _ cs (HOC.out.below' J10).rd HFC.out HFB.out).mono ?_
        rintro e w9 ⟨rfl, B11⟩
        have J9 := J10.trans (B11.mono J10.size)
        clear B11 J10 O10
        have T9 := T6.trans (J9.mono T6.size)
        have HRC := Lib.hid (HOC.out.below' J9).rd
        clear J9 HOC T6 c3_ HGB HFB HSB FGB hb64
        go_wp2
        clear hb2 hb3 hb4 b0
        clear HG HL HF HSG HBD HG4 HG5 HL2 HL3 HFG HFLe HL1 HO3 HO6 hn64 f0 f1 fg
        go_loopw [9, 108] (fun mv i wr => ∃ k q t : Nat, k ≤ cs.length ∧ i = .int .i64 k ∧ mv = .int .i64 q ∧ q ≤ k ∧ Hid (0 < q ↔ ∃ (i : Nat) (c : Int), i < k ∧ cs[i]? = some c ∧ 1 < c ∧ c ≤ n) ∧ wr = w9.drewN t) (fun _ i _ => cs.length - (intOf i).toNat)
        case atStart => exact ⟨0, 0, 0, Nat.zero_le _, rfl, rfl, Nat.le_refl _, (by constructor; (intro h; omega); (rintro ⟨i, c, hi, _⟩; omega)), rfl⟩
        case round =>
          obtain ⟨k, q, t, hk, rfl, rfl, hqk, hQ, rfl⟩ := hrel
          by_cases hlt : k < cs.length
          · obtain ⟨ad, x, rfl, hx, hcx⟩ := HRC.out.at_ hlt
            have bx := HFC.out.val x (List.mem_of_getElem? hx.out)
            have HXX := Lib.hid hx.out
            obtain ⟨bx0, bx1⟩ := bx
            clear hx
            by_cases hg1 : 1 < x
            · by_cases hg2 : x ≤ n
              · have HQ2 : Hid (0 < q + 1 ↔ ∃ (i : Nat) (c : Int), i < k + 1 ∧ cs[i]? = some c ∧ 1 < c ∧ c ≤ n) := ⟨fun _ => ⟨k, x, by omega, HXX.out, hg1, hg2⟩, fun _ => by omega⟩
                clear hQ
                go_wp2
                go_roundw
                case rel => exact ⟨k + 1, q + 1, _, by omega, by go_num, by go_num, by omega, HQ2.out, by first | rfl | exact drewN_twice _ _ _⟩
                case measure => simp [intOf]; omega
              · have HQ2 : Hid (0 < q ↔ ∃ (i : Nat) (c : Int), i < k + 1 ∧ cs[i]? = some c ∧ 1 < c ∧ c ≤ n) := by
                  refine hQ.out.trans ⟨fun ⟨i, c, h1, h2⟩ => ⟨i, c, by omega, h2⟩, fun ⟨i, c, h1, h2, h3, h4⟩ => ⟨i, c, ?_, h2, h3, h4⟩⟩
                  rcases Nat.lt_or_ge i k with h | h
                  · exact h
                  · exfalso
                    obtain rfl : i = k := by omega
                    rw [HXX.out] at h2
                    have := Option.some.inj h2
                    omega
                have hg3 : (n : Int) < x := by omega
                clear hQ
                go_wp2
                go_roundw
                case rel => exact ⟨k + 1, q, _, by omega, by go_num, rfl, by omega, HQ2.out, by first | rfl | exact drewN_twice _ _ _⟩
                case measure => simp [intOf]; omega
            · have HQ2 : Hid (0 < q ↔ ∃ (i : Nat) (c : Int), i < k + 1 ∧ cs[i]? = some c ∧ 1 < c ∧ c ≤ n) := by
                refine hQ.out.trans ⟨fun ⟨i, c, h1, h2⟩ => ⟨i, c, by omega, h2⟩, fun ⟨i, c, h1, h2, h3, h4⟩ => ⟨i, c, ?_, h2, h3, h4⟩⟩
                rcases Nat.lt_or_ge i k with h | h
                · exact h
                · exfalso
                  obtain rfl : i = k := by omega
                  rw [HXX.out] at h2
                  have := Option.some.inj h2
                  omega
              have hg3 : x ≤ 1 := by omega
              clear hQ
              go_wp2
              go_roundw
              case rel => exact ⟨k + 1, q, _, by omega, by go_num, rfl, by omega, HQ2.out, by first | rfl | exact drewN_twice _ _ _⟩
              case measure => simp [intOf]; omega
          · have hkl : k = cs.length := by omega
            subst hkl
            have hqw : (0 < q ↔ 1 < W) := hQ.out.trans HQ3.out.symm
            have HQW : Hid (((0 : Int) < q) = (1 < W)) := propext ⟨fun h => hqw.1 (by omega), fun h => by have := hqw.2 h; omega⟩
            have HQN : Hid ((0 < q) = (1 < W)) := propext hqw
            have R0 := below_drewN (Below.refl w9.heap.size w9) t
            have HRC2 := Lib.hid (HRC.out.drewN t)
            clear hQ hqw HQ3
            go_wp2_with fail
            refine (kRec _).mono ?_
            rintro e w20 ⟨A20, c20, rfl, O20, B20⟩
            have R1 := R0.trans (B20.mono R0.size)
            have HO20 := Lib.hid O20
            have S20 := Below.refl w20.heap.size w20
            have HRC3 := Lib.hid (HRC2.out.below B20)
            clear B20 R0 O20 HRC2
            go_wp2_with fail
            refine (kCount _ _ ⟨by omega, by omega⟩ _ _ cs HRC3.out HFC.out HW.out).mono ?_
            rintro e w21 ⟨rfl, B21⟩
            have S21 := S20.trans (B21.mono S20.size)
            clear B21 S20
            have e21 := HQN.out
            go_wp2_with fail
            refine (kCount _ 0 ⟨by omega, by omega⟩ _ _ cs (HRC3.out.below S21) HFC.out HQ0.out).mono ?_
            rintro e w22 ⟨rfl, B22⟩
            have S22 := S21.trans (B22.mono S21.size)
            have HL22 := Lib.hid (lit_fib w22)
            have S22b : Hid (Below w20.heap.size w20 (w22.alloc (.cells #[.int .i64 1, .int .i64 2, .int .i64 3, .int .i64 5, .int .i64 8, .int .i64 13, .int .i64 21] 3))) := S22.alloc S22.size _
            clear B22 S21 e21 HQW HQN
            go_wp2_with fail
            refine (kSame _ _ _ _ _ fibC _ _ (HO20.out.below' S22b.out).rd HL22.out rfl rfl few_fib).mono ?_
            rintro e w23 ⟨rfl, B23⟩
            have S23 := S22b.out.trans (B23.mono S22b.out.size)
            clear B23 S22 S22b HL22
            go_wp2_with fail
            refine (kFirst _ 200 ⟨by omega, by omega⟩ _ _ _ fibC (HO20.out.below' S23).rd rfl few_fib first_fib).mono ?_
            rintro e w24 ⟨rfl, B24⟩
            have S24 := S23.trans (B24.mono S23.size)
            have HL24 := Lib.hid (lit_odd w24)
            have S24b : Hid (Below w20.heap.size w20 (w24.alloc (.cells #[.int .i64 1, .int .i64 3, .int .i64 4] 3))) := S24.alloc S24.size _
            clear B24 S23
            go_wp2_with fail
            refine (kFirst _ 50 ⟨by omega, by omega⟩ _ _ _ oddC HL24.out rfl few_odd first_odd).mono ?_
            rintro e w25 ⟨rfl, B25⟩
            have S25 := S24b.out.trans (B25.mono S24b.out.size)
            have TT := T9.trans ((R1.mono T9.size).trans (S25.mono (Nat.le_trans T9.size R1.size)))
            go_wp2
            go_ret
            exact ⟨rfl, TT⟩
  · go_enter Try.func12, Try.ntmps12
    go_wp2
    go_ret
    exact ⟨rfl, Below.refl _ _⟩
end Go.Proofs.Ytlhabcpoemcpjaa
