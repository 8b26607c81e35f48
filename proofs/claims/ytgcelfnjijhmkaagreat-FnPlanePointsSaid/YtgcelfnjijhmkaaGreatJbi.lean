/- Texts joined for a claim: OctI, OctJ, OctM, OctK, OctL, OctN, OctP, OctQ, OctR, OctS, OctT, OctU, HcU. -/
import Derived.Test.YtgcelfnjijhmkaaGreatJbh
import Derived.Test.YtgcelfnjijhmkaaGreatHcT
import Derived.Test.YtgcelfnjijhmkaaGreatJbc
/-
  Adjoints, sums, multiples, traces over octonions modulo n; points and idempotents.
-/
namespace Go.Proofs.YtgcelfnjijhmkaaGreat

section
variable {n : Nat} [NeZero n]
theorem toF_norm {p : Int} {st x : List Int} (hp : p = n) (hp1 : 2 ≤ p) (hst : st.length ≤ 3) (hx : Ev p (sz st.length) x) : toF n (normL p st x) = onm (gam n st 0) (gam n st 1) (gam n st 2) (toO n x) := by
  unfold normL
  rw [getD_toO, toO_mul hp hst hx.1 (hx.conj (by omega)).1, toO_conj hp, omul_re, onm_odt]
theorem isH_rows {p : Int} {m : Nat} {X : Her} (h : isH p m X = true) : Ev p m (X.r 0) ∧ Ev p m (X.r 1) ∧ Ev p m (X.r 2) := by
  obtain ⟨a, b, c, u, v, t, rfl, _, _, _, _, _, _, eu, ev, et⟩ := isH_op h
  exact ⟨eu, ev, et⟩
theorem toH_adj {p : Int} {st : List Int} {X : Her} (hp : p = n) (hp1 : 2 ≤ p) (hst : st.length ≤ 3) (hX : isH p (sz st.length) X = true) :
    toH n (adjH p st X) = AC (gam n st 0) (gam n st 1) (gam n st 2) (toH n X) := by
  obtain ⟨eu, ev, et⟩ := isH_rows hX
  have row : ∀ {x y z : List Int} {c : Int}, Ev p (sz st.length) x → Ev p (sz st.length) y → Ev p (sz st.length) z →
      toO n (plusL p (conjL p (mulL p st x y)) z (-c)) = oad (ocj (omul (gam n st 0) (gam n st 1) (gam n st 2) (toO n x) (toO n y))) (osc (-toF n c) (toO n z)) := fun hx hy hz => by
    have em := mulL_ev (p := p) (by omega) hx hy
    rw [toO_plus hp (by rw [conjL_len, em.1, hz.1]), toO_conj hp, toO_mul hp hst hx.1 hy.1, toF_neg]
  have dia : ∀ {a b : Int} {x : List Int}, Ev p (sz st.length) x → toF n ((a * b - normL p st x) % p) = toF n a * toF n b - onm (gam n st 0) (gam n st 1) (gam n st 2) (toO n x) := fun hx => by
    rw [show ∀ z : Int, toF n (z % p) = toF n z from fun z => by rw [hp]; exact toF_mod n z, toF_sub, toF_mul, toF_norm hp hp1 hst hx]
  unfold AC
  apply H3.ext
  · exact dia eu
  · exact dia ev
  · exact dia et
  · exact row ev et eu
  · exact row et eu ev
  · exact row eu ev et
theorem toH_mult {p k : Int} {m : Nat} {X : Her} (hp : p = n) (hX : isH p m X = true) : toH n (multH p X k) = MC (toF n k) (toH n X) := by
  obtain ⟨a, b, c, u, v, t, rfl, _⟩ := isH_op hX
  have md : ∀ x : Int, toF n (x * k % p) = toF n k * toF n x := fun x => by rw [hp, toF_mod, toF_mul]; grind
  unfold MC
  apply H3.ext
  · exact md a
  · exact md b
  · exact md c
  · exact toO_scale hp
  · exact toO_scale hp
  · exact toO_scale hp
theorem toF_trace {p : Int} {X : Her} (hp : p = n) : toF n (traceH p X) = TC (toH n X) := by
  unfold traceH TC toH
  rw [hp, toF_mod, toF_add, toF_add]
theorem toF_inj {p a b : Int} (hp : p = n) (ha : 0 ≤ a ∧ a < p) (hb : 0 ≤ b ∧ b < p) (h : toF n a = toF n b) : a = b := by
  rw [toF_eq, ← hp, Int.emod_eq_of_lt ha.1 ha.2, Int.emod_eq_of_lt hb.1 hb.2] at h
  exact h
theorem toH_inj {p : Int} {m : Nat} {X Y : Her} (hp : p = n) (hm : m ≤ 8) (hX : isH p m X = true) (hY : isH p m Y = true) (h : toH n X = toH n Y) : X = Y := by
  obtain ⟨a, b, c, u, v, t, rfl, h1, h2, h3, h4, h5, h6, eu, ev, et⟩ := isH_op hX
  obtain ⟨a', b', c', u', v', t', rfl, k1, k2, k3, k4, k5, k6, eu', ev', et'⟩ := isH_op hY
  unfold toH at h
  simp only [H3.mk.injEq] at h
  obtain ⟨g1, g2, g3, g4, g5, g6⟩ := h
  have q1 : a = a' := toF_inj hp ⟨h1, h2⟩ ⟨k1, k2⟩ g1
  have q2 : b = b' := toF_inj hp ⟨h3, h4⟩ ⟨k3, k4⟩ g2
  have q3 : c = c' := toF_inj hp ⟨h5, h6⟩ ⟨k5, k6⟩ g3
  have q4 : u = u' := toO_inj hp hm eu eu' g4
  have q5 : v = v' := toO_inj hp hm ev ev' g5
  have q6 : t = t' := toO_inj hp hm et et' g6
  rw [q1, q2, q3, q4, q5, q6]
def one3 : H3 n := ⟨1, 1, 1, ore 0, ore 0, ore 0⟩
theorem sq_id (g h k iv : Fin n) (hiv : 2 * iv = 1) (X : H3 n) : JC g h k iv X X = SC (SC (AC g h k X) (TC X) X) (-(TC (AC g h k X))) one3 := by
  unfold JC SC AC TC one3 ore
  apply H3.ext
  · unfold odt onm; grind
  · unfold odt onm; grind
  · unfold odt onm; grind
  · unfold oad osc ocj omul; apply Oc.ext <;> grind
  · unfold oad osc ocj omul; apply Oc.ext <;> grind
  · unfold oad osc ocj omul; apply Oc.ext <;> grind
def zero3 : H3 n := ⟨0, 0, 0, ore 0, ore 0, ore 0⟩
theorem isZ_nums {p : Int} {m : Nat} {X : Her} (hp : p = n) (hm : m ≤ 8) (hX : isH p m X = true) : isZ (numsH X) = true ↔ toH n X = zero3 := by
  have hp0 : 0 < p := by rw [hp]; have := Nat.pos_of_neZero n; omega
  have hz : ∀ {xs : List Int}, Ev p m xs → (isZ xs = true ↔ toO n xs = ore 0) := fun {xs} hx => by
    have e0 : toO n (List.replicate m 0) = ore 0 := toO_zeros
    have ev0 : Ev p m (List.replicate m 0) := ⟨List.length_replicate, fun x hx => by have := List.eq_of_mem_replicate hx; omega⟩
    constructor
    · intro h
      unfold isZ at h
      rw [List.all_eq_true] at h
      have : xs = List.replicate m 0 := by
        refine List.eq_replicate_iff.2 ⟨hx.1, fun b hb => by simpa using h b hb⟩
      rw [this, e0]
    · intro h
      rw [toO_inj hp hm hx ev0 (by rw [h, e0])]
      unfold isZ
      simp
  obtain ⟨a, b, c, u, v, t, rfl, h1, h2, h3, h4, h5, h6, eu, ev, et⟩ := isH_op hX
  have zi : ∀ {a : Int}, 0 ≤ a → a < p → (a = 0 ↔ toF n a = 0) := fun {a} ha hb => by
    constructor
    · rintro rfl; exact toF_zero n
    · intro h; exact toF_inj hp ⟨ha, hb⟩ ⟨Int.le_refl 0, hp0⟩ (by rw [h, toF_zero])
  have hs : isZ (numsH ⟨[a, b, c], [u, v, t]⟩) = true ↔ (a = 0 ∧ b = 0 ∧ c = 0) ∧ isZ u = true ∧ isZ v = true ∧ isZ t = true := by
    unfold numsH isZ
    simp [and_assoc]
  rw [hs, zi h1 h2, zi h3 h4, zi h5 h6, hz eu, hz ev, hz et]
  unfold toH zero3
  simp only [H3.mk.injEq]
  exact ⟨fun ⟨⟨x, y, z⟩, q, r, s⟩ => ⟨x, y, z, q, r, s⟩, fun ⟨x, y, z, q, r, s⟩ => ⟨⟨x, y, z⟩, q, r, s⟩⟩
theorem AC_mult (g h k m : Fin n) (X : H3 n) : AC g h k (MC m X) = MC (m * m) (AC g h k X) := by
  unfold AC MC
  apply H3.ext
  · unfold onm osc; grind
  · unfold onm osc; grind
  · unfold onm osc; grind
  · unfold oad osc ocj omul; apply Oc.ext <;> grind
  · unfold oad osc ocj omul; apply Oc.ext <;> grind
  · unfold oad osc ocj omul; apply Oc.ext <;> grind
theorem MC_zero (m : Fin n) : MC m (zero3 : H3 n) = zero3 := by
  unfold MC zero3 osc ore
  apply H3.ext
  · grind
  · grind
  · grind
  · apply Oc.ext <;> grind
  · apply Oc.ext <;> grind
  · apply Oc.ext <;> grind
theorem MC_inv {m m' : Fin n} (hm : m' * m = 1) {X : H3 n} (h : MC m X = zero3) : X = zero3 := by
  have h2 : MC m' (MC m X) = X := by
    unfold MC osc
    apply H3.ext
    · grind
    · grind
    · grind
    · apply Oc.ext <;> grind
    · apply Oc.ext <;> grind
    · apply Oc.ext <;> grind
  rw [← h2, h, MC_zero]
theorem prim_id {g h k iv : Fin n} (hiv : 2 * iv = 1) {X : H3 n} (hA : AC g h k X = zero3) (hT : TC X = 1) : JC g h k iv X X = X := by
  rw [sq_id g h k iv hiv, hA, hT]
  unfold SC TC zero3 one3 oad osc ore
  apply H3.ext
  · grind
  · grind
  · grind
  · apply Oc.ext <;> grind
  · apply Oc.ext <;> grind
  · apply Oc.ext <;> grind
end
end Go.Proofs.YtgcelfnjijhmkaaGreat
/-
  Octonions modulo n: bilinearity, the laws of alternation, Moufang's law, and the cyclic real part.
-/
namespace Go.Proofs.YtgcelfnjijhmkaaGreat

section
variable {n : Nat} [NeZero n] (g h k : Fin n)
theorem ocj_osc (c : Fin n) (x : Oc n) : ocj (osc c x) = osc c (ocj x) := by unfold ocj osc; apply Oc.ext <;> grind
theorem ocj_ocj (x : Oc n) : ocj (ocj x) = x := by unfold ocj; apply Oc.ext <;> grind
theorem odt_cj (x y : Oc n) : odt g h k (ocj x) (ocj y) = odt g h k x y := by unfold odt ocj; grind
theorem alt_r1 (x y : Oc n) : omul g h k (omul g h k x y) (ocj y) = osc (odt g h k y y) x := by unfold odt omul ocj osc; apply Oc.ext <;> grind
theorem alt_l1 (x y : Oc n) : omul g h k (ocj y) (omul g h k y x) = osc (odt g h k y y) x := by unfold odt omul ocj osc; apply Oc.ext <;> grind
end
end Go.Proofs.YtgcelfnjijhmkaaGreat
/-
  Moufang's law of octonions modulo n, and its linear form.
-/
namespace Go.Proofs.YtgcelfnjijhmkaaGreat

section
variable {n : Nat} [NeZero n] (g h k : Fin n)
end
end Go.Proofs.YtgcelfnjijhmkaaGreat
/-
  The cross of matrices over octonions modulo n, and the identities (A), (B) of the adjoint and the cross.
-/
namespace Go.Proofs.YtgcelfnjijhmkaaGreat

section
variable {n : Nat} [NeZero n] (g h k : Fin n)
end
end Go.Proofs.YtgcelfnjijhmkaaGreat
/-
  The identity (B) of the adjoint and the cross; (A) and (B) for whole matrices.
-/
namespace Go.Proofs.YtgcelfnjijhmkaaGreat

section
variable {n : Nat} [NeZero n] (g h k : Fin n)
end
end Go.Proofs.YtgcelfnjijhmkaaGreat
/-
  (A) and (B) for whole matrices; the cross and the form are symmetric.
-/
namespace Go.Proofs.YtgcelfnjijhmkaaGreat

section
variable {n : Nat} [NeZero n] (g h k : Fin n)
end
end Go.Proofs.YtgcelfnjijhmkaaGreat
/-
  The Jordan product by the cross; coordinates of matrices; the Jordan identity.
-/
namespace Go.Proofs.YtgcelfnjijhmkaaGreat

section
variable {n : Nat} [NeZero n]
def cO (i : Nat) (x : Oc n) : Fin n := match i with
  | 0 => x.a0
  | 1 => x.a1
  | 2 => x.a2
  | 3 => x.a3
  | 4 => x.a4
  | 5 => x.a5
  | 6 => x.a6
  | _ => x.a7
def cH (j i : Nat) (X : H3 n) : Fin n := match j with
  | 0 => X.a
  | 1 => X.b
  | 2 => X.c
  | 3 => cO i X.u
  | 4 => cO i X.v
  | _ => cO i X.t
omit [NeZero n] in
theorem cO_ext {x y : Oc n} (h : ∀ i, cO i x = cO i y) : x = y := Oc.ext (h 0) (h 1) (h 2) (h 3) (h 4) (h 5) (h 6) (h 7)
omit [NeZero n] in
theorem cH_ext {X Y : H3 n} (h : ∀ j i, cH j i X = cH j i Y) : X = Y := H3.ext (h 0 0) (h 1 0) (h 2 0) (cO_ext (h 3)) (cO_ext (h 4)) (cO_ext (h 5))
theorem cO_osc (i : Nat) (c : Fin n) (x : Oc n) : cO i (osc c x) = c * cO i x := by have _h : NeZero n := inferInstance; unfold cO; split <;> rfl
theorem cH_MC (j i : Nat) (m : Fin n) (Y : H3 n) : cH j i (MC m Y) = m * cH j i Y := by
  unfold cH MC
  split <;> first | rfl | (dsimp only; rw [cO_osc])
variable (g h k : Fin n)
end
end Go.Proofs.YtgcelfnjijhmkaaGreat
/-
  The Jordan identity, the equation of the characteristic numbers, and the inverse.
-/
namespace Go.Proofs.YtgcelfnjijhmkaaGreat

section
variable {n : Nat} [NeZero n] (g h k : Fin n)
end
end Go.Proofs.YtgcelfnjijhmkaaGreat
/-
  The quadratic map: its adjoint, its determinant, and the law of three maps.
-/
namespace Go.Proofs.YtgcelfnjijhmkaaGreat

section
variable {n : Nat} [NeZero n] (g h k : Fin n)
end
end Go.Proofs.YtgcelfnjijhmkaaGreat
/-
  The quadratic map: the law of three maps, and the adjoint of its values.
-/
namespace Go.Proofs.YtgcelfnjijhmkaaGreat

section
variable {n : Nat} [NeZero n] (g h k : Fin n)
theorem MC_MC (m m' : Fin n) (X : H3 n) : MC m (MC m' X) = MC (m * m') X := by
  refine cH_ext fun j i => ?_
  simp only [cH_MC]; grind
end
end Go.Proofs.YtgcelfnjijhmkaaGreat
/-
  The determinant of the quadratic map's value; the quadratic map by products.
-/
namespace Go.Proofs.YtgcelfnjijhmkaaGreat

section
variable {n : Nat} [NeZero n] (g h k : Fin n)
def Fld (n : Nat) [NeZero n] : Prop := ∀ a b : Fin n, a * b = 0 → a = 0 ∨ b = 0
end
end Go.Proofs.YtgcelfnjijhmkaaGreat
/-
  Determinants and units over octonions modulo n; fields.
-/
namespace Go.Proofs.YtgcelfnjijhmkaaGreat

section
variable {n : Nat} [NeZero n]
end
theorem fld3 : Fld 3 := by unfold Fld; decide
theorem fld5 : Fld 5 := by unfold Fld; decide
theorem fld7 : Fld 7 := by unfold Fld; decide
theorem fld11 : Fld 11 := by unfold Fld; decide
theorem fld13 : Fld 13 := by unfold Fld; decide
end Go.Proofs.YtgcelfnjijhmkaaGreat
/-
  First places other than 0, rows and matrices of zeros, equality of rows.
-/
namespace Go.Proofs.YtgcelfnjijhmkaaGreat
open Go.RowKit

def leadN : List Int → Nat
  | [] => 0
  | x :: xs => if x = 0 then leadN xs + 1 else 0
theorem leadN_le : ∀ xs : List Int, leadN xs ≤ xs.length
  | [] => Nat.le_refl _
  | x :: xs => by
    unfold leadN
    have := leadN_le xs
    split <;> simp <;> omega
theorem drop_lead {xs : List Int} {k : Nat} (h : k < xs.length) : leadN (xs.drop k) = if xs[k] = 0 then leadN (xs.drop (k + 1)) + 1 else 0 := by
  rw [List.drop_eq_getElem_cons h]; rfl
theorem isZ_lead : ∀ xs : List Int, isZ xs = decide (leadN xs = xs.length)
  | [] => rfl
  | x :: xs => by
    have := isZ_lead xs
    unfold isZ at *
    rw [List.all_cons, this]
    show ((x == 0) && decide (leadN xs = xs.length)) = decide ((if x = 0 then leadN xs + 1 else 0) = xs.length + 1)
    by_cases h : x = 0
    · rw [if_pos h, h]; simp
    · have hb : (x == 0) = false := by simpa using h
      rw [hb, if_neg h]; simp
theorem lead_c {x : Value} {xs : List Int} {w : World} (hx : Sl w x xs) (hm : xs.length ≤ 1000000) :
    Calls Tryz.prog 53 #[x] w fun e w' => e = .returned (.int .i64 (leadN xs)) ∧ w = w' := by
  obtain ⟨a, c, rfl, rfl | ⟨b, off, rfl, hx⟩⟩ := hx
  · go_enter Tryz.func53, Tryz.ntmps53
    go_wp2
    refine wp_loop_rounds 1 ?_; rw [rounds_succ]
    go_wp2
    go_ret
    exact ⟨rfl, rfl⟩
  go_enter Tryz.func53, Tryz.ntmps53
  go_wp2
  go_loop [3] (fun i => ∃ k : Nat, k ≤ xs.length ∧ i = .int .i64 k ∧ leadN xs = k + leadN (xs.drop k)) (fun i => xs.length - (intOf i).toNat)
  case atStart => exact ⟨0, Nat.zero_le _, rfl, by simp⟩
  case round =>
    obtain ⟨k, hk, rfl, hr⟩ := hrel
    by_cases hlt : k < xs.length
    · obtain ⟨u, hu, hcx, htx⟩ := hx.get hlt
      have hd := drop_lead hlt
      have hcx2 := hx.get' hlt
      obtain ⟨q, hq⟩ : ∃ q, q = xs[k] := ⟨_, rfl⟩
      rw [← hq] at hd hcx2
      have HR := Lib.hid hr; have HD := Lib.hid hd
      clear hr hd htx hcx hq hu u
      by_cases h0 : q = 0
      · subst h0
        go_wp2
        go_round
        case rel => exact ⟨k + 1, by omega, by go_num, by rw [HR.out, HD.out, if_pos rfl]; omega⟩
        case measure => simp [intOf]; omega
      · have hne : (q == 0) = false := by simpa using h0
        go_wp2
        go_ret
        exact ⟨by rw [HR.out, HD.out, if_neg h0]; rfl, rfl⟩
    · obtain rfl : k = xs.length := by omega
      rw [List.drop_length] at hr
      have HR := Lib.hid hr; clear hr
      go_wp2
      go_ret
      exact ⟨by rw [HR.out]; rfl, rfl⟩
theorem first_c {x : Value} {xs : List Int} {w : World} (hx : Sl w x xs) (hm : xs.length ≤ 1000000) :
    Calls Tryz.prog 55 #[x] w fun e w' => e = .returned (.int .i64 (leadN xs)) ∧ w = w' := by
  obtain ⟨a, c, rfl, rfl | ⟨b, off, rfl, hx⟩⟩ := hx
  · go_enter Tryz.func55, Tryz.ntmps55
    go_wp2
    refine wp_loop_rounds 1 ?_; rw [rounds_succ]
    go_wp2
    go_ret
    exact ⟨rfl, rfl⟩
  go_enter Tryz.func55, Tryz.ntmps55
  go_wp2
  go_loop [3] (fun i => ∃ k : Nat, k ≤ xs.length ∧ i = .int .i64 k ∧ leadN xs = k + leadN (xs.drop k)) (fun i => xs.length - (intOf i).toNat)
  case atStart => exact ⟨0, Nat.zero_le _, rfl, by simp⟩
  case round =>
    obtain ⟨k, hk, rfl, hr⟩ := hrel
    by_cases hlt : k < xs.length
    · obtain ⟨u, hu, hcx, htx⟩ := hx.get hlt
      have hd := drop_lead hlt
      have hcx2 := hx.get' hlt
      obtain ⟨q, hq⟩ : ∃ q, q = xs[k] := ⟨_, rfl⟩
      rw [← hq] at hd hcx2
      have HR := Lib.hid hr; have HD := Lib.hid hd
      clear hr hd htx hcx hq hu u
      by_cases h0 : q = 0
      · subst h0
        go_wp2
        go_round
        case rel => exact ⟨k + 1, by omega, by go_num, by rw [HR.out, HD.out, if_pos rfl]; omega⟩
        case measure => simp [intOf]; omega
      · have hne : (q == 0) = false := by simpa using h0
        go_wp2
        go_ret
        exact ⟨by rw [HR.out, HD.out, if_neg h0]; rfl, rfl⟩
    · obtain rfl : k = xs.length := by omega
      rw [List.drop_length] at hr
      have HR := Lib.hid hr; clear hr
      go_wp2
      go_ret
      exact ⟨by rw [HR.out]; rfl, rfl⟩
theorem iszero_c {x : Value} {xs : List Int} {w : World} (hx : Sl w x xs) (hm : xs.length ≤ 1000000) :
    Calls Tryz.prog 62 #[x] w fun e w' => e = .returned (.bool (isZ xs)) ∧ w = w' := by
  obtain ⟨a, c, rfl, hx'⟩ := id hx
  have hle := leadN_le xs
  have hz := isZ_lead xs
  have hb : ((leadN xs : Int) == (xs.length : Int)) = decide (leadN xs = xs.length) := by
    by_cases h : leadN xs = xs.length
    · simp [h]
    · have h2 : ((leadN xs : Int) == (xs.length : Int)) = false := by rw [beq_eq_false_iff_ne]; omega
      rw [h2, decide_eq_false h]
  have HZ := Lib.hid (hz.trans hb.symm); clear hz hb
  go_enter Tryz.func62, Tryz.ntmps62
  go_wp2_with (go_at_call 53; refine (lead_c hx hm).mono ?_; rintro e w1 ⟨rfl, rfl⟩)
  go_ret
  exact ⟨by rw [HZ.out]; rfl, rfl⟩
theorem equal_c {x y : Value} {xs ys : List Int} {w : World} (hx : Sl w x xs) (hy : Sl w y ys) (hm : xs.length ≤ 1048576) (hm2 : ys.length ≤ 1048576) :
    Calls Tryz.prog 139 #[x, y] w fun e w' => e = .returned (.bool (decide (xs = ys))) ∧ Below w.heap.size w w' := by
  by_cases hl : ys.length = xs.length
  · rcases two_rows hx hy hl with ⟨rfl, rfl, a, c, a2, c2, rfl, rfl⟩ | ⟨b, off, c, b2, off2, c2, rfl, rfl, hx, hy⟩
    · go_enter Tryz.func139, Tryz.ntmps139
      go_wp2
      refine wp_loop_rounds 1 ?_; rw [rounds_succ]
      go_wp2
      go_ret
      exact ⟨rfl, Below.refl _ _⟩
    have HL := Lib.hid hl; clear hl hm2
    go_enter Tryz.func139, Tryz.ntmps139
    go_wp2
    go_loopw [13] (fun i wr => ∃ m : Nat, m ≤ xs.length ∧ i = .int .i64 m ∧ xs.take m = ys.take m ∧ Below w.heap.size w wr)
      (fun i _ => xs.length - (intOf i).toNat)
    case atStart => exact ⟨0, Nat.zero_le _, rfl, rfl, Below.refl _ _⟩
    case round =>
      obtain ⟨m, hm', rfl, heq, hb⟩ := hrel
      by_cases hlt : m < xs.length
      · obtain ⟨u, hxm, hcx, htx⟩ := (hx.below hb).get hlt
        have hlt2 : m < ys.length := by rw [HL.out]; exact hlt
        obtain ⟨z, hym, hcy, hty⟩ := (hy.below hb).get hlt2
        have H := Lib.hid (And.intro htx (And.intro hty heq)); clear htx hty heq
        by_cases huz : u = z
        · subst huz
          go_wp2
          refine region_flow [(false, [(0, 0), (1, 0), (2, 0), (3, 1), (4, 0), (5, 0), (6, 0), (7, 1), (8, 0)])] (by kernel_rfl) ?_
          refine norm_K fun K hK => ?_
          change wpList _ _ _ [_, _, _, _, _, _, _, _, _] _ _
          go_wp2
          first | (refine hK _ _ ⟨rfl, ?_⟩; clear hK K) | refine ⟨rfl, ?_⟩
          go_wp2
          go_roundw
          case rel => exact ⟨m + 1, by omega, by go_num, by rw [H.out.1, H.out.2.1, H.out.2.2], hb.drew⟩
          case measure => simp [intOf]; omega
        · have hd : decide (xs = ys) = false := by
            refine decide_eq_false fun he => huz ?_
            have h1 : xs.take (m + 1) = ys.take (m + 1) := by rw [he]
            rw [H.out.1, H.out.2.1, H.out.2.2] at h1
            have h2 := congrArg List.getLast? (List.append_cancel_left h1)
            simpa using h2
          have hne : (u != z) = true := by simpa using huz
          have HD := Lib.hid hd; clear hd
          go_wp2
          refine region_flow [(false, [(0, 0), (1, 0), (2, 0), (3, 1), (4, 0), (5, 0), (6, 0), (7, 1), (8, 0)])] (by kernel_rfl) ?_
          refine norm_K fun K hK => ?_
          change wpList _ _ _ [_, _, _, _, _, _, _, _, _] _ _
          go_wp2
          first | (refine hK _ _ ⟨rfl, ?_⟩; clear hK K) | refine ⟨rfl, ?_⟩
          go_wp2
          go_ret
          exact ⟨by rw [HD.out]; rfl, hb.drew⟩
      · obtain rfl : m = xs.length := by omega
        rw [take_all (Nat.le_refl _), take_all (by rw [HL.out]; exact Nat.le_refl _)] at heq
        have hd : decide (xs = ys) = true := decide_eq_true heq
        have HD := Lib.hid hd; clear hd heq
        go_wp2
        go_ret
        exact ⟨by rw [HD.out]; rfl, hb⟩
  · obtain ⟨a, c, rfl, _⟩ := hx
    obtain ⟨a2, c2, rfl, _⟩ := hy
    have hd : decide (xs = ys) = false := decide_eq_false fun he => hl (by rw [he])
    have hne : ((xs.length : Int) != (ys.length : Int)) = true := by rw [bne_iff_ne]; omega
    have HD := Lib.hid hd; clear hd
    go_enter Tryz.func139, Tryz.ntmps139
    go_wp2
    go_ret
    exact ⟨by rw [HD.out]; rfl, Below.refl _ _⟩
end Go.Proofs.YtgcelfnjijhmkaaGreat
