/- Texts joined for a claim: OctR, OctS, OctT, OctU, HcU, HcV. -/
import Derived.Test.YtgcelfnjijhmkaaGreatJbi
import Derived.Test.YtgcelfnjijhmkaaGreatHcT
import Derived.Test.YtgcelfnjijhmkaaGreatJbd
/-
  The quadratic map: its adjoint, its determinant, and the law of three maps.
-/
namespace Go.Proofs.YtgcelfnjijhmkaaGreat

section
variable {n : Nat} [NeZero n] (g h k : Fin n)
theorem AC_SC (X Y : H3 n) (s : Fin n) : AC g h k (SC X s Y) = SC (SC (AC g h k X) s (XC g h k X Y)) (s * s) (AC g h k Y) := by
  have e1 := odt_comm g h k X.u Y.u
  have e2 := odt_comm g h k X.v Y.v
  have e3 := odt_comm g h k X.t Y.t
  unfold AC SC XC
  simp only [onm_odt, omul_addl, omul_addr, omul_oscl, omul_oscr, odt_addl, odt_addr, odt_oscl, odt_oscr, ocj_oad, ocj_osc]
  apply H3.ext
  · dsimp only; grind
  · dsimp only; grind
  · dsimp only; grind
  · dsimp only [oad, osc, ocj]; apply Oc.ext <;> grind
  · dsimp only [oad, osc, ocj]; apply Oc.ext <;> grind
  · dsimp only [oad, osc, ocj]; apply Oc.ext <;> grind
theorem XC_linl (X Y Z : H3 n) (m : Fin n) : XC g h k (SC Y m Z) X = SC (XC g h k Y X) m (XC g h k Z X) := by
  rw [XC_comm, XC_lin, XC_comm g h k X Y, XC_comm g h k X Z]
theorem XC_smull (X Y : H3 n) (m : Fin n) : XC g h k (MC m Y) X = MC m (XC g h k Y X) := by
  rw [XC_comm, XC_smul, XC_comm]
theorem FC_smull (X Y : H3 n) (m : Fin n) : FC g h k (MC m Y) X = m * FC g h k Y X := by
  rw [FC_comm, FC_smul, FC_comm]
theorem NC_SC (X Y : H3 n) (s : Fin n) : NC g h k (SC X s Y) = NC g h k X + s * FC g h k (AC g h k X) Y + s * s * FC g h k X (AC g h k Y) + s * s * s * NC g h k Y := by
  obtain ⟨a, b, c, u, v, t⟩ := X
  obtain ⟨a', b', c', u', v', t'⟩ := Y
  simp only [NC, SC, FC, AC, onm_odt, ocj_oad, ocj_osc, ocj_mul, omul_addl, omul_addr, omul_oscl, omul_oscr, odt_addl, odt_addr, odt_oscl, odt_oscr]
  have p1 := odt_comm g h k (omul g h k (ocj t) (ocj v)) u'
  have p2 := odt_comm g h k (omul g h k (ocj u) (ocj t)) v'
  have p3 := odt_comm g h k (omul g h k (ocj v) (ocj u)) t'
  have q1 := cyc g h k v' u t
  have q2 := cyc g h k t' v u
  have q3 := cyc g h k v u t'
  have r1 := cyc g h k v u' t'
  have r2 := cyc g h k u' t' v
  have r3 := cyc g h k t v' u'
  have r4 := cyc g h k v' u' t
  have d1 := odt_comm g h k u u'
  have d2 := odt_comm g h k v v'
  have d3 := odt_comm g h k t t'
  grind
theorem AC_XC (iv : Fin n) (hiv : 2 * iv = 1) (X Y : H3 n) : AC g h k (XC g h k X Y) = SC (SC (MC (FC g h k (AC g h k X) Y) Y) (FC g h k X (AC g h k Y)) X) (-1) (XC g h k (AC g h k X) (AC g h k Y)) := by
  have p := AC_AC g h k iv hiv (SC X 1 Y)
  have m := AC_AC g h k iv hiv (SC X (-1) Y)
  have x := AC_AC g h k iv hiv X
  have y := AC_AC g h k iv hiv Y
  rw [AC_SC, AC_SC, AC_SC] at p m
  rw [NC_SC] at p m
  simp only [XC_linl, XC_lin] at p m
  rw [x, y] at p m
  refine cH_ext fun j i => ?_
  have pp := congrArg (cH j i) p
  have mm := congrArg (cH j i) m
  clear p m x y
  simp only [cH_SC, cH_MC] at pp mm ⊢
  have s : 2 * cH j i (AC g h k (XC g h k X Y)) = 2 * (FC g h k (AC g h k X) Y * cH j i Y + FC g h k X (AC g h k Y) * cH j i X + -1 * cH j i (XC g h k (AC g h k X) (AC g h k Y))) := by grind
  generalize cH j i (AC g h k (XC g h k X Y)) = z at *
  generalize FC g h k (AC g h k X) Y * cH j i Y + FC g h k X (AC g h k Y) * cH j i X + -1 * cH j i (XC g h k (AC g h k X) (AC g h k Y)) = y at *
  clear pp mm
  have e : iv * (2 * z) = iv * (2 * y) := by rw [s]
  have e2 : ∀ q : Fin n, iv * (2 * q) = 2 * iv * q := fun q => by grind
  rw [e2, e2, hiv] at e
  grind
end
end Go.Proofs.YtgcelfnjijhmkaaGreat
/-
  The quadratic map: the law of three maps, and the adjoint of its values.
-/
namespace Go.Proofs.YtgcelfnjijhmkaaGreat

section
variable {n : Nat} [NeZero n] (g h k : Fin n)
theorem XC_self (X : H3 n) : XC g h k X X = MC 2 (AC g h k X) := by
  unfold XC AC MC
  simp only [onm_odt]
  apply H3.ext
  · dsimp only; grind
  · dsimp only; grind
  · dsimp only; grind
  · dsimp only [oad, osc, ocj]; apply Oc.ext <;> grind
  · dsimp only [oad, osc, ocj]; apply Oc.ext <;> grind
  · dsimp only [oad, osc, ocj]; apply Oc.ext <;> grind
end
end Go.Proofs.YtgcelfnjijhmkaaGreat
/-
  The determinant of the quadratic map's value; the quadratic map by products.
-/
namespace Go.Proofs.YtgcelfnjijhmkaaGreat

section
variable {n : Nat} [NeZero n] (g h k : Fin n)
def Fld (n : Nat) [NeZero n] : Prop := ∀ a b : Fin n, a * b = 0 → a = 0 ∨ b = 0
end
end Go.Proofs.YtgcelfnjijhmkaaGreat
/-
  Determinants and units over octonions modulo n; fields.
-/
namespace Go.Proofs.YtgcelfnjijhmkaaGreat

section
variable {n : Nat} [NeZero n]
end
theorem fld3 : Fld 3 := by unfold Fld; decide
theorem fld5 : Fld 5 := by unfold Fld; decide
theorem fld7 : Fld 7 := by unfold Fld; decide
theorem fld11 : Fld 11 := by unfold Fld; decide
theorem fld13 : Fld 13 := by unfold Fld; decide
end Go.Proofs.YtgcelfnjijhmkaaGreat
/-
  First places other than 0, rows and matrices of zeros, equality of rows.
-/
namespace Go.Proofs.YtgcelfnjijhmkaaGreat
open Go.RowKit

def leadN : List Int → Nat
  | [] => 0
  | x :: xs => if x = 0 then leadN xs + 1 else 0
theorem leadN_le : ∀ xs : List Int, leadN xs ≤ xs.length
  | [] => Nat.le_refl _
  | x :: xs => by
    unfold leadN
    have := leadN_le xs
    split <;> simp <;> omega
theorem drop_lead {xs : List Int} {k : Nat} (h : k < xs.length) : leadN (xs.drop k) = if xs[k] = 0 then leadN (xs.drop (k + 1)) + 1 else 0 := by
  rw [List.drop_eq_getElem_cons h]; rfl
theorem isZ_lead : ∀ xs : List Int, isZ xs = decide (leadN xs = xs.length)
  | [] => rfl
  | x :: xs => by
    have := isZ_lead xs
    unfold isZ at *
    rw [List.all_cons, this]
    show ((x == 0) && decide (leadN xs = xs.length)) = decide ((if x = 0 then leadN xs + 1 else 0) = xs.length + 1)
    by_cases h : x = 0
    · rw [if_pos h, h]; simp
    · have hb : (x == 0) = false := by simpa using h
      rw [hb, if_neg h]; simp
theorem lead_c {x : Value} {xs : List Int} {w : World} (hx : Sl w x xs) (hm : xs.length ≤ 1000000) :
    Calls Tryz.prog 53 #[x] w fun e w' => e = .returned (.int .i64 (leadN xs)) ∧ w = w' := by
  obtain ⟨a, c, rfl, rfl | ⟨b, off, rfl, hx⟩⟩ := hx
  · go_enter Tryz.func53, Tryz.ntmps53
    go_wp2
    refine wp_loop_rounds 1 ?_; rw [rounds_succ]
    go_wp2
    go_ret
    exact ⟨rfl, rfl⟩
  go_enter Tryz.func53, Tryz.ntmps53
  go_wp2
  go_loop [3] (fun i => ∃ k : Nat, k ≤ xs.length ∧ i = .int .i64 k ∧ leadN xs = k + leadN (xs.drop k)) (fun i => xs.length - (intOf i).toNat)
  case atStart => exact ⟨0, Nat.zero_le _, rfl, by simp⟩
  case round =>
    obtain ⟨k, hk, rfl, hr⟩ := hrel
    by_cases hlt : k < xs.length
    · obtain ⟨u, hu, hcx, htx⟩ := hx.get hlt
      have hd := drop_lead hlt
      have hcx2 := hx.get' hlt
      obtain ⟨q, hq⟩ : ∃ q, q = xs[k] := ⟨_, rfl⟩
      rw [← hq] at hd hcx2
      have HR := Lib.hid hr; have HD := Lib.hid hd
      clear hr hd htx hcx hq hu u
      by_cases h0 : q = 0
      · subst h0
        go_wp2
        go_round
        case rel => exact ⟨k + 1, by omega, by go_num, by rw [HR.out, HD.out, if_pos rfl]; omega⟩
        case measure => simp [intOf]; omega
      · have hne : (q == 0) = false := by simpa using h0
        go_wp2
        go_ret
        exact ⟨by rw [HR.out, HD.out, if_neg h0]; rfl, rfl⟩
    · obtain rfl : k = xs.length := by omega
      rw [List.drop_length] at hr
      have HR := Lib.hid hr; clear hr
      go_wp2
      go_ret
      exact ⟨by rw [HR.out]; rfl, rfl⟩
theorem first_c {x : Value} {xs : List Int} {w : World} (hx : Sl w x xs) (hm : xs.length ≤ 1000000) :
    Calls Tryz.prog 55 #[x] w fun e w' => e = .returned (.int .i64 (leadN xs)) ∧ w = w' := by
  obtain ⟨a, c, rfl, rfl | ⟨b, off, rfl, hx⟩⟩ := hx
  · go_enter Tryz.func55, Tryz.ntmps55
    go_wp2
    refine wp_loop_rounds 1 ?_; rw [rounds_succ]
    go_wp2
    go_ret
    exact ⟨rfl, rfl⟩
  go_enter Tryz.func55, Tryz.ntmps55
  go_wp2
  go_loop [3] (fun i => ∃ k : Nat, k ≤ xs.length ∧ i = .int .i64 k ∧ leadN xs = k + leadN (xs.drop k)) (fun i => xs.length - (intOf i).toNat)
  case atStart => exact ⟨0, Nat.zero_le _, rfl, by simp⟩
  case round =>
    obtain ⟨k, hk, rfl, hr⟩ := hrel
    by_cases hlt : k < xs.length
    · obtain ⟨u, hu, hcx, htx⟩ := hx.get hlt
      have hd := drop_lead hlt
      have hcx2 := hx.get' hlt
      obtain ⟨q, hq⟩ : ∃ q, q = xs[k] := ⟨_, rfl⟩
      rw [← hq] at hd hcx2
      have HR := Lib.hid hr; have HD := Lib.hid hd
      clear hr hd htx hcx hq hu u
      by_cases h0 : q = 0
      · subst h0
        go_wp2
        go_round
        case rel => exact ⟨k + 1, by omega, by go_num, by rw [HR.out, HD.out, if_pos rfl]; omega⟩
        case measure => simp [intOf]; omega
      · have hne : (q == 0) = false := by simpa using h0
        go_wp2
        go_ret
        exact ⟨by rw [HR.out, HD.out, if_neg h0]; rfl, rfl⟩
    · obtain rfl : k = xs.length := by omega
      rw [List.drop_length] at hr
      have HR := Lib.hid hr; clear hr
      go_wp2
      go_ret
      exact ⟨by rw [HR.out]; rfl, rfl⟩
theorem iszero_c {x : Value} {xs : List Int} {w : World} (hx : Sl w x xs) (hm : xs.length ≤ 1000000) :
    Calls Tryz.prog 62 #[x] w fun e w' => e = .returned (.bool (isZ xs)) ∧ w = w' := by
  obtain ⟨a, c, rfl, hx'⟩ := id hx
  have hle := leadN_le xs
  have hz := isZ_lead xs
  have hb : ((leadN xs : Int) == (xs.length : Int)) = decide (leadN xs = xs.length) := by
    by_cases h : leadN xs = xs.length
    · simp [h]
    · have h2 : ((leadN xs : Int) == (xs.length : Int)) = false := by rw [beq_eq_false_iff_ne]; omega
      rw [h2, decide_eq_false h]
  have HZ := Lib.hid (hz.trans hb.symm); clear hz hb
  go_enter Tryz.func62, Tryz.ntmps62
  go_wp2_with (go_at_call 53; refine (lead_c hx hm).mono ?_; rintro e w1 ⟨rfl, rfl⟩)
  go_ret
  exact ⟨by rw [HZ.out]; rfl, rfl⟩
end Go.Proofs.YtgcelfnjijhmkaaGreat
/-
  Equality of matrices, idempotents and ranks.
-/
namespace Go.Proofs.YtgcelfnjijhmkaaGreat
open Go.RowKit

theorem nums_lt {p : Int} {n : Nat} {X : Her} (h : isH p n X = true) (hn : n ≤ 8) : (numsH X).length ≤ 1000 := by rw [nums_len h]; omega
theorem rank_c {p : Int} {s x : Value} {st : List Int} {X : Her} {w : World} (hd : Dok p st) (hs : El w s st) (hx : Hv w x X) (hX : isH p (sz st.length) X = true) :
    Calls Tryz.prog 44 #[.agg #[.int .i64 p, s], x] w fun e w' => e = .returned (.int .i64 (rankH p st X)) ∧ Below w.heap.size w w' := by
  have hp1 := hd.hp.lo
  have hsz := sz_le hd
  have hA := adjH_is (p := p) (by omega) hX
  have l1 := nums_lt hX hsz.2
  have l2 := nums_lt hA hsz.2
  obtain ⟨a0, c0, rfl, _⟩ := id hs.op
  obtain ⟨dv1, uv1, rfl, hd1, hu1⟩ := id hx; obtain ⟨a1, c1, rfl, _⟩ := id hd1.op; obtain ⟨b1, k1, rfl, _⟩ := id hu1
  have hR : rankH p st X = if isZ (numsH X) = true then 0 else if isZ (numsH (adjH p st X)) = true then 1 else if detH p st X = 0 then 2 else 3 := rfl
  cases h0 : isZ (numsH X)
  case' true =>
    rw [if_pos h0] at hR
    have HR := Lib.hid hR; clear hR
    go_enter Tryz.func44, Tryz.ntmps44
    have hb0 : Below w.heap.size w ((w.alloc (.cells #[.int .i64 p, .slice a0 st.length c0] 26)).alloc (.cells #[.slice a1 X.dg.length c1, .slice b1 X.up.length k1] 31)) := (by repeat (first | exact Below.refl _ _ | apply blw_drew | apply blw_alloc | (refine blw_set ?_ (by first | omega | simp <;> omega) _) | refine below_chain ?_ (by assumption)))
    have hs := hs.below hb0; have hx := hx.below hb0
    have d0 : ((w.alloc (.cells #[.int .i64 p, .slice a0 st.length c0] 26)).alloc (.cells #[.slice a1 X.dg.length c1, .slice b1 X.up.length k1] 31)).cell? ⟨w.heap.size, 0, none⟩ = some (.int .i64 p) := by simp [go_sem]
    have d1 : ((w.alloc (.cells #[.int .i64 p, .slice a0 st.length c0] 26)).alloc (.cells #[.slice a1 X.dg.length c1, .slice b1 X.up.length k1] 31)).cell? ⟨w.heap.size, 1, none⟩ = some (.slice a0 st.length c0) := by simp [go_sem]
    have e0 : ((w.alloc (.cells #[.int .i64 p, .slice a0 st.length c0] 26)).alloc (.cells #[.slice a1 X.dg.length c1, .slice b1 X.up.length k1] 31)).cell? ⟨w.heap.size + 1, 0, none⟩ = some (.slice a1 X.dg.length c1) := by simp [go_sem]
    have e1 : ((w.alloc (.cells #[.int .i64 p, .slice a0 st.length c0] 26)).alloc (.cells #[.slice a1 X.dg.length c1, .slice b1 X.up.length k1] 31)).cell? ⟨w.heap.size + 1, 1, none⟩ = some (.slice b1 X.up.length k1) := by simp [go_sem]
    go_wp2_with fail
    refine (nums_c hx hX hsz.1 hsz.2).mono ?_; rintro e w1 ⟨v1, rfl, h1, hb1⟩
    have hs := hs.below hb1; have hx := hx.below hb1; have d0 := kept hb1 d0; have d1 := kept hb1 d1; have e0 := kept hb1 e0; have e1 := kept hb1 e1
    go_wp2_with fail
    refine (iszero_c h1.sl (by omega)).mono ?_; rintro e w2 ⟨rfl, rfl⟩
    go_wp2_with fail
    go_ret
    exact ⟨by rw [HR.out]; rfl, (by repeat (first | exact Below.refl _ _ | apply blw_drew | apply blw_alloc | (refine blw_set ?_ (by first | omega | simp <;> omega) _) | refine below_chain ?_ (by assumption)))⟩
  rw [if_neg (by rw [h0]; decide)] at hR
  cases h1_ : isZ (numsH (adjH p st X))
  case' true =>
    rw [if_pos h1_] at hR
    have HR := Lib.hid hR; clear hR
    go_enter Tryz.func44, Tryz.ntmps44
    have hb0 : Below w.heap.size w ((w.alloc (.cells #[.int .i64 p, .slice a0 st.length c0] 26)).alloc (.cells #[.slice a1 X.dg.length c1, .slice b1 X.up.length k1] 31)) := (by repeat (first | exact Below.refl _ _ | apply blw_drew | apply blw_alloc | (refine blw_set ?_ (by first | omega | simp <;> omega) _) | refine below_chain ?_ (by assumption)))
    have hs := hs.below hb0; have hx := hx.below hb0
    have d0 : ((w.alloc (.cells #[.int .i64 p, .slice a0 st.length c0] 26)).alloc (.cells #[.slice a1 X.dg.length c1, .slice b1 X.up.length k1] 31)).cell? ⟨w.heap.size, 0, none⟩ = some (.int .i64 p) := by simp [go_sem]
    have d1 : ((w.alloc (.cells #[.int .i64 p, .slice a0 st.length c0] 26)).alloc (.cells #[.slice a1 X.dg.length c1, .slice b1 X.up.length k1] 31)).cell? ⟨w.heap.size, 1, none⟩ = some (.slice a0 st.length c0) := by simp [go_sem]
    have e0 : ((w.alloc (.cells #[.int .i64 p, .slice a0 st.length c0] 26)).alloc (.cells #[.slice a1 X.dg.length c1, .slice b1 X.up.length k1] 31)).cell? ⟨w.heap.size + 1, 0, none⟩ = some (.slice a1 X.dg.length c1) := by simp [go_sem]
    have e1 : ((w.alloc (.cells #[.int .i64 p, .slice a0 st.length c0] 26)).alloc (.cells #[.slice a1 X.dg.length c1, .slice b1 X.up.length k1] 31)).cell? ⟨w.heap.size + 1, 1, none⟩ = some (.slice b1 X.up.length k1) := by simp [go_sem]
    go_wp2_with fail
    refine (nums_c hx hX hsz.1 hsz.2).mono ?_; rintro e w1 ⟨v1, rfl, h1, hb1⟩
    have hs := hs.below hb1; have hx := hx.below hb1; have d0 := kept hb1 d0; have d1 := kept hb1 d1; have e0 := kept hb1 e0; have e1 := kept hb1 e1
    go_wp2_with fail
    refine (iszero_c h1.sl (by omega)).mono ?_; rintro e w2 ⟨rfl, rfl⟩
    go_wp2_with fail
    refine (adj_c hd hs hx hX).mono ?_; rintro e w3 ⟨v2, rfl, h2, hb3⟩
    have hs := hs.below hb3; have hx := hx.below hb3; have d0 := kept hb3 d0; have d1 := kept hb3 d1; have e0 := kept hb3 e0; have e1 := kept hb3 e1; have h1 := h1.below hb3
    go_wp2_with fail
    refine (nums_c h2.hv hA hsz.1 hsz.2).mono ?_; rintro e w4 ⟨v3, rfl, h3, hb4⟩
    have hs := hs.below hb4; have hx := hx.below hb4; have d0 := kept hb4 d0; have d1 := kept hb4 d1; have e0 := kept hb4 e0; have e1 := kept hb4 e1; have h1 := h1.below hb4; have h2 := h2.below hb4
    go_wp2_with fail
    refine (iszero_c h3.sl (by omega)).mono ?_; rintro e w5 ⟨rfl, rfl⟩
    go_wp2_with fail
    go_ret
    exact ⟨by rw [HR.out]; rfl, (by repeat (first | exact Below.refl _ _ | apply blw_drew | apply blw_alloc | (refine blw_set ?_ (by first | omega | simp <;> omega) _) | refine below_chain ?_ (by assumption)))⟩
  rw [if_neg (by rw [h1_]; decide)] at hR
  by_cases h2_ : detH p st X = 0
  all_goals
    first | rw [if_pos h2_] at hR | rw [if_neg h2_] at hR
    obtain ⟨q, hq⟩ : ∃ q, q = detH p st X := ⟨_, rfl⟩
    rw [← hq] at h2_
    have HR := Lib.hid hR; have HQ := Lib.hid hq; clear hR hq
    try (have hne : (q == 0) = false := by simpa using h2_)
    go_enter Tryz.func44, Tryz.ntmps44
    have hb0 : Below w.heap.size w ((w.alloc (.cells #[.int .i64 p, .slice a0 st.length c0] 26)).alloc (.cells #[.slice a1 X.dg.length c1, .slice b1 X.up.length k1] 31)) := (by repeat (first | exact Below.refl _ _ | apply blw_drew | apply blw_alloc | (refine blw_set ?_ (by first | omega | simp <;> omega) _) | refine below_chain ?_ (by assumption)))
    have hs := hs.below hb0; have hx := hx.below hb0
    have d0 : ((w.alloc (.cells #[.int .i64 p, .slice a0 st.length c0] 26)).alloc (.cells #[.slice a1 X.dg.length c1, .slice b1 X.up.length k1] 31)).cell? ⟨w.heap.size, 0, none⟩ = some (.int .i64 p) := by simp [go_sem]
    have d1 : ((w.alloc (.cells #[.int .i64 p, .slice a0 st.length c0] 26)).alloc (.cells #[.slice a1 X.dg.length c1, .slice b1 X.up.length k1] 31)).cell? ⟨w.heap.size, 1, none⟩ = some (.slice a0 st.length c0) := by simp [go_sem]
    have e0 : ((w.alloc (.cells #[.int .i64 p, .slice a0 st.length c0] 26)).alloc (.cells #[.slice a1 X.dg.length c1, .slice b1 X.up.length k1] 31)).cell? ⟨w.heap.size + 1, 0, none⟩ = some (.slice a1 X.dg.length c1) := by simp [go_sem]
    have e1 : ((w.alloc (.cells #[.int .i64 p, .slice a0 st.length c0] 26)).alloc (.cells #[.slice a1 X.dg.length c1, .slice b1 X.up.length k1] 31)).cell? ⟨w.heap.size + 1, 1, none⟩ = some (.slice b1 X.up.length k1) := by simp [go_sem]
    go_wp2_with fail
    refine (nums_c hx hX hsz.1 hsz.2).mono ?_; rintro e w1 ⟨v1, rfl, h1, hb1⟩
    have hs := hs.below hb1; have hx := hx.below hb1; have d0 := kept hb1 d0; have d1 := kept hb1 d1; have e0 := kept hb1 e0; have e1 := kept hb1 e1
    go_wp2_with fail
    refine (iszero_c h1.sl (by omega)).mono ?_; rintro e w2 ⟨rfl, rfl⟩
    go_wp2_with fail
    refine (adj_c hd hs hx hX).mono ?_; rintro e w3 ⟨v2, rfl, h2, hb3⟩
    have hs := hs.below hb3; have hx := hx.below hb3; have d0 := kept hb3 d0; have d1 := kept hb3 d1; have e0 := kept hb3 e0; have e1 := kept hb3 e1; have h1 := h1.below hb3
    go_wp2_with fail
    refine (nums_c h2.hv hA hsz.1 hsz.2).mono ?_; rintro e w4 ⟨v3, rfl, h3, hb4⟩
    have hs := hs.below hb4; have hx := hx.below hb4; have d0 := kept hb4 d0; have d1 := kept hb4 d1; have e0 := kept hb4 e0; have e1 := kept hb4 e1; have h1 := h1.below hb4; have h2 := h2.below hb4
    go_wp2_with fail
    refine (iszero_c h3.sl (by omega)).mono ?_; rintro e w5 ⟨rfl, rfl⟩
    go_wp2_with fail
    refine (jdet_c hd hs hx hX).mono ?_; rintro e w6 ⟨rfl, hb6⟩
    have hs := hs.below hb6; have hx := hx.below hb6; have d0 := kept hb6 d0; have d1 := kept hb6 d1; have e0 := kept hb6 e0; have e1 := kept hb6 e1; have h1 := h1.below hb6; have h2 := h2.below hb6; have h3 := h3.below hb6
    rw [← HQ.out]
    go_wp2_with fail
    go_ret
    exact ⟨by rw [HR.out]; rfl, (by repeat (first | exact Below.refl _ _ | apply blw_drew | apply blw_alloc | (refine blw_set ?_ (by first | omega | simp <;> omega) _) | refine below_chain ?_ (by assumption)))⟩
end Go.Proofs.YtgcelfnjijhmkaaGreat
