/- Texts joined for a claim: OctJ, CtB, CtC. -/
import Derived.Test.YtfcdhdkhfdhjfaaJbj
/-
  Octonions modulo n: bilinearity, the laws of alternation, Moufang's law, and the cyclic real part.
-/
namespace Go.Proofs.Ytfcdhdkhfdhjfaa

section
variable {n : Nat} [NeZero n] (g h k : Fin n)
theorem omul_addl (x y z : Oc n) : omul g h k (oad x y) z = oad (omul g h k x z) (omul g h k y z) := by unfold omul oad; apply Oc.ext <;> grind
theorem omul_addr (x y z : Oc n) : omul g h k z (oad x y) = oad (omul g h k z x) (omul g h k z y) := by unfold omul oad; apply Oc.ext <;> grind
theorem omul_oscl (c : Fin n) (x y : Oc n) : omul g h k (osc c x) y = osc c (omul g h k x y) := by unfold omul osc; apply Oc.ext <;> grind
theorem omul_oscr (c : Fin n) (x y : Oc n) : omul g h k x (osc c y) = osc c (omul g h k x y) := by unfold omul osc; apply Oc.ext <;> grind
theorem ocj_oad (x y : Oc n) : ocj (oad x y) = oad (ocj x) (ocj y) := by unfold ocj oad; apply Oc.ext <;> grind
theorem ocj_osc (c : Fin n) (x : Oc n) : ocj (osc c x) = osc c (ocj x) := by unfold ocj osc; apply Oc.ext <;> grind
theorem ocj_ocj (x : Oc n) : ocj (ocj x) = x := by unfold ocj; apply Oc.ext <;> grind
theorem odt_addl (x y z : Oc n) : odt g h k (oad x y) z = odt g h k x z + odt g h k y z := by unfold odt oad; grind
theorem odt_addr (x y z : Oc n) : odt g h k z (oad x y) = odt g h k z x + odt g h k z y := by unfold odt oad; grind
theorem odt_oscl (c : Fin n) (x y : Oc n) : odt g h k (osc c x) y = c * odt g h k x y := by unfold odt osc; grind
theorem odt_oscr (c : Fin n) (x y : Oc n) : odt g h k x (osc c y) = c * odt g h k x y := by unfold odt osc; grind
theorem odt_comm (x y : Oc n) : odt g h k x y = odt g h k y x := by unfold odt; grind
theorem odt_cj (x y : Oc n) : odt g h k (ocj x) (ocj y) = odt g h k x y := by unfold odt ocj; grind
theorem odt_mulr (x y z : Oc n) : odt g h k (omul g h k x z) (omul g h k y z) = odt g h k z z * odt g h k x y := by unfold odt omul; grind
theorem odt_mull (x y z : Oc n) : odt g h k (omul g h k z x) (omul g h k z y) = odt g h k z z * odt g h k x y := by unfold odt omul; grind
theorem odt_movl (x y z : Oc n) : odt g h k (omul g h k x y) z = odt g h k y (omul g h k (ocj x) z) := by unfold odt omul ocj; grind
theorem odt_movr (x y z : Oc n) : odt g h k (omul g h k x y) z = odt g h k x (omul g h k z (ocj y)) := by unfold odt omul ocj; grind
theorem alt_l (x y z : Oc n) : oad (omul g h k (ocj z) (omul g h k y x)) (omul g h k (ocj y) (omul g h k z x)) = osc (2 * odt g h k y z) x := by unfold odt omul ocj oad osc; apply Oc.ext <;> grind
end
end Go.Proofs.Ytfcdhdkhfdhjfaa
/-
  Local triples of octonions: a skew map has exactly one completion. No program in sight.
-/
namespace Go.Proofs.Ytfcdhdkhfdhjfaa

section
variable {n : Nat} [NeZero n] {g h k : Fin n}
def osm (f : Nat → Oc n) : Nat → Oc n
  | 0 => ⟨0, 0, 0, 0, 0, 0, 0, 0⟩
  | m + 1 => oad (osm f m) (f m)
def fsm (f : Nat → Fin n) : Nat → Fin n
  | 0 => 0
  | m + 1 => fsm f m + f m
theorem omul_osml (f : Nat → Oc n) (y : Oc n) : ∀ m, omul g h k (osm f m) y = osm (fun i => omul g h k (f i) y) m
  | 0 => by unfold osm omul; apply Oc.ext <;> grind
  | m + 1 => by unfold osm; rw [omul_addl, omul_osml]
theorem omul_osmr (f : Nat → Oc n) (y : Oc n) : ∀ m, omul g h k y (osm f m) = osm (fun i => omul g h k y (f i)) m
  | 0 => by unfold osm omul; apply Oc.ext <;> grind
  | m + 1 => by unfold osm; rw [omul_addr, omul_osmr]
theorem odt_osml (f : Nat → Oc n) (y : Oc n) : ∀ m, odt g h k (osm f m) y = fsm (fun i => odt g h k (f i) y) m
  | 0 => by unfold osm fsm odt; grind
  | m + 1 => by unfold osm fsm; rw [odt_addl, odt_osml]
theorem odt_osmr (f : Nat → Oc n) (y : Oc n) (m : Nat) : odt g h k y (osm f m) = fsm (fun i => odt g h k y (f i)) m := by
  rw [odt_comm, odt_osml]; congr 1; funext i; exact odt_comm g h k _ _
theorem fsm_add (f f' : Nat → Fin n) : ∀ m, fsm (fun i => f i + f' i) m = fsm f m + fsm f' m
  | 0 => by unfold fsm; grind
  | m + 1 => by unfold fsm; rw [fsm_add]; grind
theorem fsm_zero {f : Nat → Fin n} : ∀ m, (∀ i, i < m → f i = 0) → fsm f m = 0
  | 0, _ => rfl
  | m + 1, hz => by unfold fsm; rw [fsm_zero m (fun i hi => hz i (by omega)), hz m (by omega)]; grind
theorem fsm_congr {f f' : Nat → Fin n} : ∀ m, (∀ i, i < m → f i = f' i) → fsm f m = fsm f' m
  | 0, _ => rfl
  | m + 1, hz => by unfold fsm; rw [fsm_congr m (fun i hi => hz i (by omega)), hz m (by omega)]
def oT (g h k : Fin n) (x y z : Oc n) : Fin n := odt g h k (omul g h k x y) (ocj z)
def oS (g h k : Fin n) (a b x : Oc n) : Oc n := oad (osc (odt g h k a x) b) (osc (-(odt g h k b x)) a)
theorem S_mul (a b x y : Oc n) : osc 2 (omul g h k (oS g h k a b x) y) = oad (omul g h k b (omul g h k (ocj a) (omul g h k x y))) (osc (-1) (omul g h k x (omul g h k (ocj b) (omul g h k a y)))) := by
  have e1 := congrArg (omul g h k b) (alt_l (g := g) (h := h) (k := k) y x a)
  have e2 := alt_l (g := g) (h := h) (k := k) (omul g h k a y) (ocj x) (ocj b)
  rw [ocj_ocj, ocj_ocj, odt_cj] at e2
  rw [omul_addr, omul_oscr] at e1
  unfold oS
  rw [omul_addl, omul_oscl, omul_oscl, odt_comm g h k a x, odt_comm g h k b x]
  generalize omul g h k b (omul g h k (ocj a) (omul g h k x y)) = A at *
  generalize omul g h k b (omul g h k (ocj x) (omul g h k a y)) = B at *
  generalize omul g h k x (omul g h k (ocj b) (omul g h k a y)) = C at *
  generalize omul g h k b y = P at *
  generalize omul g h k a y = Q at *
  generalize odt g h k x a = s at *
  generalize odt g h k x b = t at *
  unfold oad osc at *
  simp only [Oc.mk.injEq] at e1 e2 ⊢
  grind
theorem S_form (a b x y z : Oc n) : 2 * oT g h k (oS g h k a b x) y z + oT g h k x (omul g h k (ocj b) (omul g h k a y)) z - oT g h k x y (omul g h k (omul g h k z b) (ocj a)) = 0 := by
  have e := congrArg (fun w => odt g h k w (ocj z)) (S_mul (g := g) (h := h) (k := k) a b x y)
  simp only [odt_addl, odt_oscl] at e
  have e1 : odt g h k (omul g h k b (omul g h k (ocj a) (omul g h k x y))) (ocj z) = oT g h k x y (omul g h k (omul g h k z b) (ocj a)) := by
    unfold oT
    rw [odt_movl, odt_movl, ocj_ocj, ocj_mul, ocj_mul, ocj_ocj]
  rw [e1] at e
  unfold oT at *
  grind
theorem odt_pol (z w x y : Oc n) : odt g h k (omul g h k z x) (omul g h k w y) + odt g h k (omul g h k w x) (omul g h k z y) = 2 * odt g h k z w * odt g h k x y := by
  have e := odt_mull (g := g) (h := h) (k := k) x y (oad z w)
  have e1 := odt_mull (g := g) (h := h) (k := k) x y z
  have e2 := odt_mull (g := g) (h := h) (k := k) x y w
  simp only [omul_addl, odt_addl, odt_addr] at e
  rw [odt_comm g h k w z] at e
  grind
theorem odt_polr (z w x y : Oc n) : odt g h k (omul g h k x z) (omul g h k y w) + odt g h k (omul g h k x w) (omul g h k y z) = 2 * odt g h k z w * odt g h k x y := by
  have e := odt_mulr (g := g) (h := h) (k := k) x y (oad z w)
  have e1 := odt_mulr (g := g) (h := h) (k := k) x y z
  have e2 := odt_mulr (g := g) (h := h) (k := k) x y w
  simp only [omul_addr, odt_addl, odt_addr] at e
  rw [odt_comm g h k w z] at e
  grind
def oB (g h k : Fin n) (E b : Nat → Oc n) (c : Nat → Fin n) (y : Oc n) : Oc n := osm (fun m => osc (c m) (omul g h k (ocj (b m)) (omul g h k (E m) y))) 8
def oC (g h k : Fin n) (E b : Nat → Oc n) (c : Nat → Fin n) (z : Oc n) : Oc n := osm (fun m => osc (-(c m)) (omul g h k (omul g h k z (b m)) (ocj (E m)))) 8
def oA (g h k : Fin n) (E b : Nat → Oc n) (c : Nat → Fin n) (x : Oc n) : Oc n := osm (fun m => osc (2 * c m) (oS g h k (E m) (b m) x)) 8
theorem compl_form (E b : Nat → Oc n) (c : Nat → Fin n) (x y z : Oc n) : oT g h k (oA g h k E b c x) y z + oT g h k x (oB g h k E b c y) z + oT g h k x y (oC g h k E b c z) = 0 := by
  have e1 : oT g h k (oA g h k E b c x) y z = fsm (fun m => c m * (2 * oT g h k (oS g h k (E m) (b m) x) y z)) 8 := by
    unfold oT oA
    rw [omul_osml, odt_osml]
    refine fsm_congr 8 fun m _ => ?_
    rw [omul_oscl, odt_oscl]; grind
  have e2 : oT g h k x (oB g h k E b c y) z = fsm (fun m => c m * oT g h k x (omul g h k (ocj (b m)) (omul g h k (E m) y)) z) 8 := by
    unfold oT oB
    rw [omul_osmr, odt_osml]
    refine fsm_congr 8 fun m _ => ?_
    rw [omul_oscr, odt_oscl]
  have cjs : ∀ (f : Nat → Oc n) m, ocj (osm f m) = osm (fun i => ocj (f i)) m := by
    intro f m
    induction m with
    | zero => unfold osm ocj; apply Oc.ext <;> grind
    | succ m ih => unfold osm; rw [ocj_oad, ih]
  have e3 : oT g h k x y (oC g h k E b c z) = fsm (fun m => -(c m) * oT g h k x y (omul g h k (omul g h k z (b m)) (ocj (E m)))) 8 := by
    unfold oT oC
    rw [cjs, odt_osmr]
    refine fsm_congr 8 fun m _ => ?_
    rw [ocj_osc, odt_oscr]
  rw [e1, e2, e3, ← fsm_add, ← fsm_add]
  refine fsm_zero 8 fun m _ => ?_
  have e := S_form (g := g) (h := h) (k := k) (E m) (b m) x y z
  grind
theorem compl_skewB (E b : Nat → Oc n) (c : Nat → Fin n) (hsk : ∀ m, m < 8 → odt g h k (E m) (b m) = 0) (x y : Oc n) : odt g h k (oB g h k E b c x) y + odt g h k x (oB g h k E b c y) = 0 := by
  unfold oB
  rw [odt_osml, odt_osmr, ← fsm_add]
  refine fsm_zero 8 fun m hm => ?_
  rw [odt_oscl, odt_oscr, odt_movl, ocj_ocj, odt_comm g h k x, odt_movl g h k (ocj (b m)), ocj_ocj, odt_comm g h k (omul g h k (E m) y)]
  have e := odt_pol (g := g) (h := h) (k := k) (E m) (b m) x y
  rw [hsk m hm] at e
  grind
theorem compl_skewC (E b : Nat → Oc n) (c : Nat → Fin n) (hsk : ∀ m, m < 8 → odt g h k (E m) (b m) = 0) (x y : Oc n) : odt g h k (oC g h k E b c x) y + odt g h k x (oC g h k E b c y) = 0 := by
  unfold oC
  rw [odt_osml, odt_osmr, ← fsm_add]
  refine fsm_zero 8 fun m hm => ?_
  rw [odt_oscl, odt_oscr, odt_movr, ocj_ocj, odt_comm g h k x, odt_movr g h k (omul g h k y (b m)), ocj_ocj, odt_comm g h k (omul g h k y (b m))]
  have e := odt_polr (g := g) (h := h) (k := k) (b m) (E m) x y
  rw [odt_comm g h k (b m) (E m), hsk m hm] at e
  grind
def oE (n : Nat) [NeZero n] (m : Nat) : Oc n := ⟨if m = 0 then 1 else 0, if m = 1 then 1 else 0, if m = 2 then 1 else 0, if m = 3 then 1 else 0, if m = 4 then 1 else 0, if m = 5 then 1 else 0, if m = 6 then 1 else 0, if m = 7 then 1 else 0⟩
def ocr (x : Oc n) : Nat → Fin n
  | 0 => x.a0 | 1 => x.a1 | 2 => x.a2 | 3 => x.a3 | 4 => x.a4 | 5 => x.a5 | 6 => x.a6 | _ => x.a7
def onu (g h k : Fin n) : Nat → Fin n
  | 0 => 1 | 1 => -g | 2 => -h | 3 => g * h | 4 => -k | 5 => g * k | 6 => h * k | _ => -(g * h * k)
theorem odt_oE (x : Oc n) {m : Nat} (hm : m < 8) : odt g h k x (oE n m) = onu g h k m * ocr x m := by
  rcases (show m = 0 ∨ m = 1 ∨ m = 2 ∨ m = 3 ∨ m = 4 ∨ m = 5 ∨ m = 6 ∨ m = 7 by omega) with rfl | rfl | rfl | rfl | rfl | rfl | rfl | rfl <;> (simp only [odt, oE, onu, ocr]; simp; try grind)
end
end Go.Proofs.Ytfcdhdkhfdhjfaa
/-
  Local triples of octonions: the second and the third part are 0 if the first is. No program in sight.
-/
namespace Go.Proofs.Ytfcdhdkhfdhjfaa

section
variable {n : Nat} [NeZero n] {g h k : Fin n}
def ozr (n : Nat) [NeZero n] : Oc n := ⟨0, 0, 0, 0, 0, 0, 0, 0⟩
theorem onu_ne (hf : ∀ a b : Fin n, a * b = 0 → a = 0 ∨ b = 0) (h1 : (1 : Fin n) ≠ 0) (hg : g ≠ 0) (hh : h ≠ 0) (hk : k ≠ 0) (i : Nat) : onu g h k i ≠ 0 := by
  have hn : ∀ a : Fin n, a ≠ 0 → -a ≠ 0 := fun a ha e => ha (by grind)
  have hm : ∀ a b : Fin n, a ≠ 0 → b ≠ 0 → a * b ≠ 0 := fun a b ha hb e => (hf a b e).elim ha hb
  unfold onu
  split
  · exact h1
  · exact hn _ hg
  · exact hn _ hh
  · exact hm _ _ hg hh
  · exact hn _ hk
  · exact hm _ _ hg hk
  · exact hm _ _ hh hk
  · exact hn _ (hm _ _ (hm _ _ hg hh) hk)
theorem ocr_zero {x : Oc n} (hx : ∀ i, i < 8 → ocr x i = 0) : x = ozr n :=
  Oc.ext (hx 0 (by decide)) (hx 1 (by decide)) (hx 2 (by decide)) (hx 3 (by decide)) (hx 4 (by decide)) (hx 5 (by decide)) (hx 6 (by decide)) (hx 7 (by decide))
theorem odt_nondeg (hf : ∀ a b : Fin n, a * b = 0 → a = 0 ∨ b = 0) (h1 : (1 : Fin n) ≠ 0) (hg : g ≠ 0) (hh : h ≠ 0) (hk : k ≠ 0) {x : Oc n} (hx : ∀ i, i < 8 → odt g h k x (oE n i) = 0) : x = ozr n :=
  ocr_zero fun i hi => by
    have e := hx i hi
    rw [odt_oE x hi] at e
    exact (hf _ _ e).resolve_left (onu_ne hf h1 hg hh hk i)
theorem nucl (hf : ∀ a b : Fin n, a * b = 0 → a = 0 ∨ b = 0) (h2 : (2 : Fin n) ≠ 0) (hg : g ≠ 0) (hh : h ≠ 0) {b : Oc n} (h0 : b.a0 = 0) (ha : ∀ j m, j < 8 → m < 8 → omul g h k (omul g h k (oE n j) b) (oE n m) = omul g h k (oE n j) (omul g h k b (oE n m))) : b = ozr n := by
  have e1 := ha 1 2 (by decide) (by decide)
  have e2 := ha 1 4 (by decide) (by decide)
  have e3 := ha 2 4 (by decide) (by decide)
  have hm : ∀ a b : Fin n, a ≠ 0 → a * b = 0 → b = 0 := fun a b ha e => (hf a b e).resolve_left ha
  have p4 := congrArg Oc.a7 e1; have p5 := congrArg Oc.a6 e1; have p6 := congrArg Oc.a5 e1; have p7 := congrArg Oc.a4 e1
  have p2 := congrArg Oc.a7 e2; have p3 := congrArg Oc.a6 e2; have p1 := congrArg Oc.a7 e3
  clear e1 e2 e3 ha
  simp only [omul, oE] at p1 p2 p3 p4 p5 p6 p7
  simp at p1 p2 p3 p4 p5 p6 p7
  have q1 : 2 * b.a1 = 0 := by grind
  have q2 : 2 * b.a2 = 0 := by grind
  have q3 : 2 * (g * b.a3) = 0 := by grind
  have q4 : 2 * b.a4 = 0 := by grind
  have q5 : 2 * (g * b.a5) = 0 := by grind
  have q6 : 2 * (h * b.a6) = 0 := by grind
  have q7 : 2 * (g * (h * b.a7)) = 0 := by grind
  exact Oc.ext h0 (hm _ _ h2 q1) (hm _ _ h2 q2) (hm _ _ hg (hm _ _ h2 q3)) (hm _ _ h2 q4) (hm _ _ hg (hm _ _ h2 q5)) (hm _ _ hh (hm _ _ h2 q6)) (hm _ _ hh (hm _ _ hg (hm _ _ h2 q7)))
theorem oE_mul (x : Oc n) : omul g h k (oE n 0) x = x := by
  apply Oc.ext <;> (simp only [omul, oE]; simp; try grind)
theorem mul_oE (x : Oc n) : omul g h k x (oE n 0) = x := by
  apply Oc.ext <;> (simp only [omul, oE]; simp; try grind)
theorem oad_zero {x y : Oc n} (e : oad x y = ozr n) : y = osc (-1) x := by
  unfold oad ozr at e
  simp only [Oc.mk.injEq] at e
  unfold osc
  apply Oc.ext <;> (simp only []; grind)
theorem loc_uniq (hf : ∀ a b : Fin n, a * b = 0 → a = 0 ∨ b = 0) (h1 : (1 : Fin n) ≠ 0) (h2 : (2 : Fin n) ≠ 0) (hg : g ≠ 0) (hh : h ≠ 0) (hk : k ≠ 0) {B C : Nat → Oc n} (h0 : (B 0).a0 = 0)
    (hform : ∀ i j m, i < 8 → j < 8 → m < 8 → oT g h k (oE n i) (B j) (oE n m) + oT g h k (oE n i) (oE n j) (C m) = 0) : ∀ j, j < 8 → B j = ozr n ∧ C j = ozr n := by
  have hW : ∀ j m, j < 8 → m < 8 → oad (omul g h k (B j) (oE n m)) (omul g h k (oE n j) (C m)) = ozr n := fun j m hj hm => by
    have hz : ocj (oad (omul g h k (B j) (oE n m)) (omul g h k (oE n j) (C m))) = ozr n := odt_nondeg hf h1 hg hh hk fun i hi => by
      have e := hform i j m hi hj hm
      unfold oT at e
      rw [odt_movr, odt_movr] at e
      rw [ocj_oad, odt_addl, ocj_mul, ocj_mul, odt_comm g h k (omul g h k (ocj (oE n m)) (ocj (B j))), odt_comm g h k (omul g h k (ocj (C m)) (ocj (oE n j)))]
      exact e
    have := congrArg ocj hz
    rw [ocj_ocj] at this
    rw [this]
    unfold ocj ozr
    apply Oc.ext <;> grind
  have hC : ∀ m, m < 8 → C m = osc (-1) (omul g h k (B 0) (oE n m)) := fun m hm => by
    have e := oad_zero (hW 0 m (by decide) hm)
    rw [oE_mul] at e; exact e
  have hB : ∀ j, j < 8 → B j = omul g h k (oE n j) (B 0) := fun j hj => by
    have e := oad_zero (hW j 0 hj (by decide))
    rw [mul_oE, hC 0 (by decide), mul_oE, omul_oscr] at e
    unfold osc at e
    simp only [Oc.mk.injEq] at e
    generalize omul g h k (oE n j) (B 0) = z at *
    generalize B j = y at *
    apply Oc.ext <;> grind
  have hb : B 0 = ozr n := nucl (k := k) hf h2 hg hh h0 fun j m hj hm => by
    have e := hW j m hj hm
    rw [hB j hj, hC m hm, omul_oscr] at e
    generalize omul g h k (omul g h k (oE n j) (B 0)) (oE n m) = z at *
    generalize omul g h k (oE n j) (omul g h k (B 0) (oE n m)) = y at *
    unfold oad osc ozr at e
    simp only [Oc.mk.injEq] at e
    apply Oc.ext <;> grind
  intro j hj
  rw [hB j hj, hC j hj, hb]
  have z1 : ∀ x : Oc n, omul g h k x (ozr n) = ozr n := fun x => by unfold omul ozr; apply Oc.ext <;> (simp only []; grind)
  have z2 : ∀ x : Oc n, omul g h k (ozr n) x = ozr n := fun x => by unfold omul ozr; apply Oc.ext <;> (simp only []; grind)
  rw [z1, z2]
  refine ⟨rfl, ?_⟩
  unfold osc ozr
  apply Oc.ext <;> (simp only []; grind)
omit [NeZero n] in
theorem ocr_oad (x y : Oc n) (m : Nat) : ocr (oad x y) m = ocr x m + ocr y m := by unfold ocr oad; split <;> rfl
omit [NeZero n] in
theorem ocr_osc (c : Fin n) (x : Oc n) (m : Nat) : ocr (osc c x) m = c * ocr x m := by unfold ocr osc; split <;> rfl
theorem ocr_osm (f : Nat → Oc n) (m : Nat) : ∀ N, ocr (osm f N) m = fsm (fun j => ocr (f j) m) N
  | 0 => by unfold osm fsm ocr; split <;> rfl
  | N + 1 => by unfold osm fsm; rw [ocr_oad, ocr_osm]
omit [NeZero n] in
theorem ocr_ext {x y : Oc n} (hx : ∀ m, m < 8 → ocr x m = ocr y m) : x = y :=
  Oc.ext (hx 0 (by decide)) (hx 1 (by decide)) (hx 2 (by decide)) (hx 3 (by decide)) (hx 4 (by decide)) (hx 5 (by decide)) (hx 6 (by decide)) (hx 7 (by decide))
theorem ocr_oE {j m : Nat} (hj : j < 8) (hm : m < 8) : ocr (oE n j) m = if j = m then 1 else 0 := by
  rcases (show j = 0 ∨ j = 1 ∨ j = 2 ∨ j = 3 ∨ j = 4 ∨ j = 5 ∨ j = 6 ∨ j = 7 by omega) with rfl | rfl | rfl | rfl | rfl | rfl | rfl | rfl <;>
  rcases (show m = 0 ∨ m = 1 ∨ m = 2 ∨ m = 3 ∨ m = 4 ∨ m = 5 ∨ m = 6 ∨ m = 7 by omega) with rfl | rfl | rfl | rfl | rfl | rfl | rfl | rfl <;> rfl
theorem fsm_single {i : Nat} (X : Nat → Fin n) : ∀ N, fsm (fun j => if j = i then X j else 0) N = if i < N then X i else 0
  | 0 => by unfold fsm; rw [if_neg (by omega)]
  | N + 1 => by
    unfold fsm
    rw [fsm_single X N]
    by_cases e : N = i
    · subst e; rw [if_neg (by omega), if_pos rfl, if_pos (by omega)]; grind
    · rw [if_neg e]
      by_cases h2 : i < N
      · rw [if_pos h2, if_pos (by omega)]; grind
      · rw [if_neg h2, if_neg (by omega)]; grind
theorem oA_is (c : Nat → Fin n) (b : Nat → Oc n) (hc : ∀ m, m < 8 → 4 * (c m * onu g h k m) = 1) (hsk : ∀ i m, i < 8 → m < 8 → onu g h k m * ocr (b i) m + onu g h k i * ocr (b m) i = 0) {i : Nat} (hi : i < 8) : oA g h k (oE n) b c (oE n i) = b i := by
  refine ocr_ext fun m hm => ?_
  unfold oA
  rw [ocr_osm]
  rw [fsm_congr 8 (f' := fun j => (if j = i then 2 * c j * (onu g h k i * ocr (b j) m) else 0) + (if j = m then -(2 * c j * (onu g h k i * ocr (b j) i)) else 0)) fun j hj => ?_]
  · rw [fsm_add, fsm_single (fun j => 2 * c j * (onu g h k i * ocr (b j) m)), fsm_single (fun j => -(2 * c j * (onu g h k i * ocr (b j) i))), if_pos hi, if_pos hm]
    have e0 := hsk i m hi hm
    have e1 := hc i hi; have e2 := hc m hm
    have e3 : onu g h k i * ocr (b m) i = -(onu g h k m * ocr (b i) m) := by grind
    rw [e3]
    have e6 : 2 * c i * (onu g h k i * ocr (b i) m) = 2 * (c i * onu g h k i) * ocr (b i) m := by grind
    have e7 : -(2 * c m * -(onu g h k m * ocr (b i) m)) = 2 * (c m * onu g h k m) * ocr (b i) m := by grind
    rw [e6, e7]
    clear e0 e3 e6 e7 hc hsk
    generalize c m * onu g h k m = y at *
    generalize c i * onu g h k i = x at *
    generalize ocr (b i) m = t at *
    have e5 : x = y := by
      have a1 : (4 * x) * y = y := by rw [e1]; grind
      have a2 : x * (4 * y) = x := by rw [e2]; grind
      grind
    rw [e5]
    grind
  · rw [ocr_osc]
    unfold oS
    rw [ocr_oad, ocr_osc, ocr_osc, odt_oE _ hi, odt_oE _ hi, ocr_oE hj hi, ocr_oE hj hm]
    split <;> split <;> grind
end
end Go.Proofs.Ytfcdhdkhfdhjfaa
