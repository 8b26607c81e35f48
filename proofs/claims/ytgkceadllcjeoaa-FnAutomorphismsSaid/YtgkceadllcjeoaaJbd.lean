/- Texts joined for a claim: AfA, OctH, OctI, OctJ, AuP. -/
import Derived.Test.YtgkceadllcjeoaaJau
import Derived.Test.YtgkceadllcjeoaaJbb
import Derived.Test.YtgkceadllcjeoaaJbc
import Derived.Test.YtgkceadllcjeoaaJap
/-
  The matrix that images lead to: its columns, as rows of numbers. No program in sight.
-/
namespace Go.Proofs.Ytgkceadllcjeoaa

theorem chk3_posA {p : Int} {st : List Int} {xss : List (List Int)} (h : chk3 p st xss = 0) : Dok p st ∧ ∀ xs ∈ xss, Ev p (sz st.length) xs := by
  unfold chk3 at h
  split at h
  · rename_i h1
    split at h
    · cases h
    · rename_i h2
      split at h
      · rename_i h3
        rw [List.all_eq_true] at h3
        exact ⟨Dok.of h1 h2, fun xs hx => isE_iff.1 (h3 xs hx)⟩
      · cases h
  · cases h
def afI (p : Int) (st : List Int) : List (List Int) → List (List Int) → List (List Int)
  | cols, [] => cols
  | cols, im :: r => afI p st (cols ++ cols.map fun x => mulL p st x im) r
def afC (p : Int) (st : List Int) (ims : List (List Int)) : List (List Int) := afI p st [oneL (sz st.length) 0] ims
def afM (p : Int) (st : List Int) (ims : List (List Int)) : List (List Int) := trL (afC p st ims) (sz st.length)
def RAf1 (p : Int) (st : List Int) (ims : List (List Int)) : Int := if chk3 p st ims = 0 then (if ims.length = st.length then (if autK p st (afM p st ims) = true then 0 else 5) else 2) else chk3 p st ims
def RAf0 (p : Int) (st : List Int) (ims : List (List Int)) : List (List Int) := if RAf1 p st ims = 0 then afM p st ims else []
section
variable {p : Int} {st : List Int}
theorem afI_snoc {im : List Int} : ∀ {ims cols : List (List Int)}, afI p st cols (ims ++ [im]) = afI p st cols ims ++ (afI p st cols ims).map fun x => mulL p st x im
  | [], cols => rfl
  | i :: r, cols => afI_snoc (ims := r)
theorem afI_len : ∀ {ims cols : List (List Int)}, (afI p st cols ims).length = cols.length * 2 ^ ims.length
  | [], cols => by simp [afI]
  | i :: r, cols => by
    show (afI p st _ r).length = _
    rw [afI_len, List.length_append, List.length_map, List.length_cons, Nat.pow_succ, Nat.mul_comm (2 ^ _) 2, ← Nat.mul_assoc]
    congr 1
    omega
theorem afI_ev (hp : 1 ≤ p) : ∀ {ims cols : List (List Int)}, (∀ c ∈ cols, Ev p (sz st.length) c) → (∀ c ∈ ims, Ev p (sz st.length) c) → ∀ c ∈ afI p st cols ims, Ev p (sz st.length) c
  | [], cols, h, _ => h
  | i :: r, cols, h, h2 => by
    show ∀ c ∈ afI p st (cols ++ cols.map fun x => mulL p st x i) r, _
    refine afI_ev hp (fun c hc => ?_) (fun c hc => h2 c (List.mem_cons_of_mem _ hc))
    rcases List.mem_append.1 hc with hc | hc
    · exact h c hc
    · obtain ⟨x, hx, rfl⟩ := List.mem_map.1 hc
      exact mulL_ev hp (h x hx) (h2 i (List.mem_cons_self ..))
theorem afC_len {ims : List (List Int)} : (afC p st ims).length = 2 ^ ims.length := by unfold afC; rw [afI_len]; simp
theorem afC_ev (hp : 2 ≤ p) {ims : List (List Int)} (h : ∀ c ∈ ims, Ev p (sz st.length) c) : ∀ c ∈ afC p st ims, Ev p (sz st.length) c :=
  afI_ev (by omega) (fun c hc => by rw [List.mem_singleton.1 hc]; exact Ev.one hp) h
theorem afC_take {ims : List (List Int)} {im : List Int} {k : Nat} (h : ims.take (k + 1) = ims.take k ++ [im]) : afC p st (ims.take (k + 1)) = afC p st (ims.take k) ++ (afC p st (ims.take k)).map fun x => mulL p st x im := by
  rw [h]; exact afI_snoc
theorem afI_head : ∀ {ims : List (List Int)} {c : List Int} {cs : List (List Int)}, ∃ ds, afI p st (c :: cs) ims = c :: ds
  | [], c, cs => ⟨cs, rfl⟩
  | i :: r, c, cs => afI_head (ims := r) (c := c) (cs := cs ++ ((c :: cs).map fun x => mulL p st x i))
theorem trL_mat {L : List (List Int)} {n : Nat} (hp : 1 ≤ p) (hl : L.length = n) (h : ∀ c ∈ L, Ev p n c) : matB p n (trL L n) = true := by
  have hM : matB p n L = true := matB_iff.2 ⟨hl, h⟩
  refine matB_iff.2 ⟨trL_len, fun r hr => ?_⟩
  obtain ⟨i, _, rfl⟩ := List.mem_map.1 hr
  exact colL_ev hp hM i
theorem IsP.nat (hp : IsP p) {Q : Prop} (h : ∀ (n : Nat) [NeZero n], p = (n : Int) → Q) : Q := by
  rcases hp with rfl | rfl | rfl | rfl | rfl
  · exact h 3 rfl
  · exact h 5 rfl
  · exact h 7 rfl
  · exact h 11 rfl
  · exact h 13 rfl
theorem toO_unit {n m i : Nat} [NeZero n] : toO n (oneL m i) = ⟨if 0 = i ∧ i < m then 1 else 0, if 1 = i ∧ i < m then 1 else 0, if 2 = i ∧ i < m then 1 else 0, if 3 = i ∧ i < m then 1 else 0, if 4 = i ∧ i < m then 1 else 0, if 5 = i ∧ i < m then 1 else 0, if 6 = i ∧ i < m then 1 else 0, if 7 = i ∧ i < m then 1 else 0⟩ := by
  unfold toO
  simp only [one_at, apply_ite (toF n), toF_one, toF_zero]
theorem one_mul (hd : Dok p st) {x : List Int} (hx : Ev p (sz st.length) x) : mulL p st (oneL (sz st.length) 0) x = x := by
  have h2 : 2 ≤ p := by have := hd.hp.lo; omega
  have hsz := sz_le hd
  refine hd.hp.nat fun n _ hn => toO_inj (n := n) hn hsz.2 (mulL_ev (by omega) (Ev.one h2) hx) hx ?_
  rw [toO_mul hn hd.hl (Ev.one (p := p) (n := sz st.length) (i := 0) h2).1 hx.1, toO_unit]
  have h0 : 0 < sz st.length := hsz.1
  simp only [h0, and_true, if_true, if_neg (show ¬ (1 : Nat) = 0 by decide), if_neg (show ¬ (2 : Nat) = 0 by decide), if_neg (show ¬ (3 : Nat) = 0 by decide), if_neg (show ¬ (4 : Nat) = 0 by decide), if_neg (show ¬ (5 : Nat) = 0 by decide), if_neg (show ¬ (6 : Nat) = 0 by decide), if_neg (show ¬ (7 : Nat) = 0 by decide)]
  unfold omul
  apply Oc.ext <;> (simp only []; grind)
theorem bas_one (hd : Dok p st) {k i : Nat} (hk : k < st.length) (hi : i < 2 ^ k) : basF p st i (2 ^ k) = 1 := by
  have hl := hd.hl
  have hp := hd.hp
  clear hd
  match st, hl, hk with
  | [a], _, hk =>
    obtain rfl : k = 0 := by simp at hk; exact hk
    obtain rfl : i = 0 := by simpa using hi
    rcases hp with rfl | rfl | rfl | rfl | rfl <;> simp [basF, mulL, mulR, sz, oneL, plusL, conjL, scaleL, List.replicate]
  | [a, b], _, hk =>
    rcases (show k = 0 ∨ k = 1 by simp at hk; omega) with rfl | rfl
    · obtain rfl : i = 0 := by simpa using hi
      rcases hp with rfl | rfl | rfl | rfl | rfl <;> simp [basF, mulL, mulR, sz, oneL, plusL, conjL, scaleL, List.replicate]
    · rcases (show i = 0 ∨ i = 1 by simp at hi; omega) with rfl | rfl <;>
      rcases hp with rfl | rfl | rfl | rfl | rfl <;> simp [basF, mulL, mulR, sz, oneL, plusL, conjL, scaleL, List.replicate]
  | [a, b, c], _, hk =>
    rcases (show k = 0 ∨ k = 1 ∨ k = 2 by simp at hk; omega) with rfl | rfl | rfl
    · obtain rfl : i = 0 := by simpa using hi
      rcases hp with rfl | rfl | rfl | rfl | rfl <;> simp [basF, mulL, mulR, sz, oneL, plusL, conjL, scaleL, List.replicate]
    · rcases (show i = 0 ∨ i = 1 by simp at hi; omega) with rfl | rfl <;>
      rcases hp with rfl | rfl | rfl | rfl | rfl <;> simp [basF, mulL, mulR, sz, oneL, plusL, conjL, scaleL, List.replicate]
    · rcases (show i = 0 ∨ i = 1 ∨ i = 2 ∨ i = 3 by simp at hi; omega) with rfl | rfl | rfl | rfl <;>
      rcases hp with rfl | rfl | rfl | rfl | rfl <;> simp [basF, mulL, mulR, sz, oneL, plusL, conjL, scaleL, List.replicate]
theorem inv_one (hp : IsP p) : invL p 1 = 1 := by rcases hp with rfl | rfl | rfl | rfl | rfl <;> decide
theorem scaleL_id {xs : List Int} (h : Fp p xs) : scaleL p xs 1 = xs := by
  unfold scaleL
  conv => rhs; rw [← List.map_id xs]
  refine List.map_congr_left fun x hx => ?_
  have := h x hx
  rw [Int.mul_one]
  exact Int.emod_eq_of_lt this.1 this.2
end
end Go.Proofs.Ytgkceadllcjeoaa
/-
  Hermitian matrices over octonions modulo n: what the program's matrices compute, in closed form.
-/
namespace Go.Proofs.Ytgkceadllcjeoaa

@[ext] structure H3 (n : Nat) where
  a : Fin n
  b : Fin n
  c : Fin n
  u : Oc n
  v : Oc n
  t : Oc n
section
variable {n : Nat} [NeZero n]
/-! ### Entries -/
end
end Go.Proofs.Ytgkceadllcjeoaa
/-
  Adjoints, sums, multiples, traces over octonions modulo n; points and idempotents.
-/
namespace Go.Proofs.Ytgkceadllcjeoaa

section
variable {n : Nat} [NeZero n]
end
end Go.Proofs.Ytgkceadllcjeoaa
/-
  Octonions modulo n: bilinearity, the laws of alternation, Moufang's law, and the cyclic real part.
-/
namespace Go.Proofs.Ytgkceadllcjeoaa

section
variable {n : Nat} [NeZero n] (g h k : Fin n)
theorem omul_addl (x y z : Oc n) : omul g h k (oad x y) z = oad (omul g h k x z) (omul g h k y z) := by unfold omul oad; apply Oc.ext <;> grind
theorem omul_addr (x y z : Oc n) : omul g h k z (oad x y) = oad (omul g h k z x) (omul g h k z y) := by unfold omul oad; apply Oc.ext <;> grind
theorem omul_oscl (c : Fin n) (x y : Oc n) : omul g h k (osc c x) y = osc c (omul g h k x y) := by unfold omul osc; apply Oc.ext <;> grind
theorem omul_oscr (c : Fin n) (x y : Oc n) : omul g h k x (osc c y) = osc c (omul g h k x y) := by unfold omul osc; apply Oc.ext <;> grind
end
end Go.Proofs.Ytgkceadllcjeoaa
/-
  Automorphisms, as matrices of rows of numbers: they keep sums, products, the unit, first numbers and norms. No program in sight.
-/
namespace Go.Proofs.Ytgkceadllcjeoaa

section
variable {p : Int} {st : List Int} {M : List (List Int)} {m : Nat}
theorem sp_ind {P : List Int → Prop} (hp : 1 ≤ p) (h0 : P (zeroL m)) (hs : ∀ x i c, Ev p m x → i < m → P x → P (plusL p x (oneL m i) c)) {x : List Int} (hx : Ev p m x) : P x := by
  have at_ : ∀ k j, j < m → (((List.range m).map fun j => if j < k then x.getD j 0 else 0).getD j 0) = if j < k then x.getD j 0 else 0 := fun k j hj => by simp [List.getD_eq_getElem?_getD, hj]
  have ev : ∀ k, Ev p m ((List.range m).map fun j => if j < k then x.getD j 0 else 0) := fun k => ⟨by simp, fun y hy => by
    obtain ⟨j, _, rfl⟩ := List.mem_map.1 hy
    show 0 ≤ (if j < k then x.getD j 0 else 0) ∧ (if j < k then x.getD j 0 else 0) < p
    split
    · exact hx.at hp j
    · omega⟩
  have key : ∀ k, k ≤ m → P ((List.range m).map fun j => if j < k then x.getD j 0 else 0) := fun k => by
    induction k with
    | zero =>
      intro _
      have e : ((List.range m).map fun j => if j < 0 then x.getD j 0 else 0) = zeroL m := by
        refine ext_at (by simp [zero_len]) fun j hj => ?_
        rw [at_ 0 j (by simpa using hj), zero_at, if_neg (by omega)]
      rw [e]; exact h0
    | succ k ih =>
      intro hk
      have e : ((List.range m).map fun j => if j < k + 1 then x.getD j 0 else 0) = plusL p ((List.range m).map fun j => if j < k then x.getD j 0 else 0) (oneL m k) (x.getD k 0) := by
        refine ext_at (by rw [plusL_len (by simp [oneL_len])]; simp) fun j hj0 => ?_
        have hj : j < m := by simpa using hj0
        rw [at_ (k + 1) j hj, plus_at (by simp [oneL_len]), at_ k j hj, one_at]
        by_cases h1 : j = k
        · subst h1
          rw [if_pos (by omega), if_neg (by omega), if_pos ⟨rfl, hj⟩, Int.zero_add, Int.mul_one, hx.md hp]
        · rw [if_neg (show ¬ (j = k ∧ k < m) from fun h => h1 h.1), Int.mul_zero, Int.add_zero]
          by_cases h2 : j < k
          · rw [if_pos (by omega), if_pos h2, hx.md hp]
          · rw [if_neg (by omega), if_neg h2]; simp
      rw [e]
      exact hs _ _ _ (ev k) (by omega) (ih (by omega))
  have e : ((List.range m).map fun j => if j < m then x.getD j 0 else 0) = x := by
    refine ext_at (by simp [hx.1]) fun j hj => ?_
    have hj : j < m := by simpa using hj
    rw [at_ m j hj, if_pos hj]
  rw [← e]
  exact key m (Nat.le_refl _)
theorem dotS_comm : ∀ {x y : List Int}, dotS x y = dotS y x
  | [], [] => rfl
  | [], _ :: _ => rfl
  | _ :: _, [] => rfl
  | a :: x, b :: y => by
    show a * b + dotS x y = b * a + dotS y x
    rw [dotS_comm (x := x), Int.mul_comm]
theorem dotS_plusF {n : Nat} [NeZero n] {c : Int} (hp : p = n) : ∀ {r x y : List Int}, y.length = x.length → toF n (dotS r (plusL p x y c)) = toF n (dotS r x) + toF n c * toF n (dotS r y)
  | [], x, y, _ => by
    show toF n 0 = toF n 0 + toF n c * toF n 0
    rw [toF_zero]; grind
  | a :: r, [], y, h => by
    obtain rfl : y = [] := List.length_eq_zero_iff.1 (by simpa using h)
    show toF n 0 = toF n 0 + toF n c * toF n 0
    rw [toF_zero]; grind
  | a :: r, x :: xs, [], h => by simp at h
  | a :: r, x :: xs, y :: ys, h => by
    have ih := dotS_plusF (c := c) hp (r := r) (x := xs) (y := ys) (by simpa using h)
    show toF n (a * ((x + c * y) % p) + dotS r (plusL p xs ys c)) = toF n (a * x + dotS r xs) + toF n c * toF n (a * y + dotS r ys)
    subst hp
    simp only [toF_add, toF_mul, toF_mod, ih]
    grind
theorem applyL_ev (hp : 1 ≤ p) (hM : matB p m M = true) (v : List Int) : Ev p m (applyL p M v) := by
  obtain ⟨h1, _⟩ := matB_iff.1 hM
  refine ⟨by unfold applyL; rw [List.length_map]; exact h1, fun x hx => ?_⟩
  obtain ⟨r, _, rfl⟩ := List.mem_map.1 hx
  exact ⟨Int.emod_nonneg _ (by omega), Int.emod_lt_of_pos _ (by omega)⟩
theorem apply_plus {x y : List Int} {c : Int} (hp : IsP p) (hl : y.length = x.length) : applyL p M (plusL p x y c) = plusL p (applyL p M x) (applyL p M y) c := by
  unfold applyL plusL
  rw [List.zipWith_map_left, List.zipWith_map_right, List.zipWith_self]
  refine List.map_congr_left fun r _ => ?_
  refine hp.nat fun n _ hn => ?_
  subst hn
  show dotS r (plusL _ x y c) % _ = (dotS r x % _ + c * (dotS r y % _)) % _
  rw [← toF_eq, dotS_plusF rfl hl]
  simp only [toF_add, toF_mul, toF_mod]
theorem apply_zero (hp : 1 ≤ p) (hM : matB p m M = true) : applyL p M (zeroL m) = zeroL m := by
  obtain ⟨h1, _⟩ := matB_iff.1 hM
  refine (applyL_ev hp hM _).ext (zeroL_ev hp) fun j => ?_
  rw [zero_at]
  unfold applyL
  rw [List.getD_eq_getElem?_getD, List.getElem?_map]
  cases M[j]? with
  | none => rfl
  | some r =>
    show dotL p r (zeroL m) = 0
    unfold dotL
    rw [dotS_zr (fun j => zero_at), Int.zero_emod]
theorem apply_unit (hp : 1 ≤ p) (hM : matB p m M = true) {i : Nat} (hi : i < m) : applyL p M (oneL m i) = colL M i := by
  rw [apply_sup one_sup, one_at, if_pos ⟨rfl, hi⟩]
  exact scaleL_id (colL_ev hp hM i).2
theorem mul_plusl (hd : Dok p st) {x y z : List Int} {c : Int} (hx : Ev p (sz st.length) x) (hy : Ev p (sz st.length) y) (hz : Ev p (sz st.length) z) :
    mulL p st (plusL p x y c) z = plusL p (mulL p st x z) (mulL p st y z) c := by
  have h2 := hd.hp.lo
  have e1 := mulL_ev (p := p) (by omega) hx hz
  have e2 := mulL_ev (p := p) (by omega) hy hz
  have e3 := hx.plus (k := c) (show 1 ≤ p by omega) hy
  refine hd.hp.nat fun n _ hn => toO_inj (n := n) hn (sz_le hd).2 (mulL_ev (by omega) e3 hz) (e1.plus (by omega) e2) ?_
  rw [toO_mul hn hd.hl e3.1 hz.1, toO_plus hn (hy.1.trans hx.1.symm), toO_plus hn (e2.1.trans e1.1.symm), toO_mul hn hd.hl hx.1 hz.1, toO_mul hn hd.hl hy.1 hz.1, omul_addl, omul_oscl]
theorem mul_plusr (hd : Dok p st) {x y z : List Int} {c : Int} (hx : Ev p (sz st.length) x) (hy : Ev p (sz st.length) y) (hz : Ev p (sz st.length) z) :
    mulL p st z (plusL p x y c) = plusL p (mulL p st z x) (mulL p st z y) c := by
  have h2 := hd.hp.lo
  have e1 := mulL_ev (p := p) (by omega) hz hx
  have e2 := mulL_ev (p := p) (by omega) hz hy
  have e3 := hx.plus (k := c) (show 1 ≤ p by omega) hy
  refine hd.hp.nat fun n _ hn => toO_inj (n := n) hn (sz_le hd).2 (mulL_ev (by omega) hz e3) (e1.plus (by omega) e2) ?_
  rw [toO_mul hn hd.hl hz.1 e3.1, toO_plus hn (hy.1.trans hx.1.symm), toO_plus hn (e2.1.trans e1.1.symm), toO_mul hn hd.hl hz.1 hx.1, toO_mul hn hd.hl hz.1 hy.1, omul_addr, omul_oscr]
theorem mul_zerol (hd : Dok p st) {z : List Int} (hz : Ev p (sz st.length) z) : mulL p st (zeroL (sz st.length)) z = zeroL (sz st.length) := by
  have h1 : 1 ≤ p := by have := hd.hp.lo; omega
  have e := mul_plusl (c := -1) hd (zeroL_ev h1) (zeroL_ev (m := sz st.length) h1) hz
  have em := mulL_ev (p := p) h1 (zeroL_ev (m := sz st.length) h1) hz
  rw [plus_zero h1 (zeroL_ev h1)] at e
  rw [e]
  refine (em.plus h1 em).ext (zeroL_ev h1) fun j => ?_
  rw [pat em em, zero_at, show (mulL p st (zeroL (sz st.length)) z).getD j 0 + -1 * (mulL p st (zeroL (sz st.length)) z).getD j 0 = 0 by omega, Int.zero_emod]
theorem mul_zeror (hd : Dok p st) {z : List Int} (hz : Ev p (sz st.length) z) : mulL p st z (zeroL (sz st.length)) = zeroL (sz st.length) := by
  have h1 : 1 ≤ p := by have := hd.hp.lo; omega
  have e := mul_plusr (c := -1) hd (zeroL_ev h1) (zeroL_ev (m := sz st.length) h1) hz
  have em := mulL_ev (p := p) h1 hz (zeroL_ev (m := sz st.length) h1)
  rw [plus_zero h1 (zeroL_ev h1)] at e
  rw [e]
  refine (em.plus h1 em).ext (zeroL_ev h1) fun j => ?_
  rw [pat em em, zero_at, show (mulL p st z (zeroL (sz st.length))).getD j 0 + -1 * (mulL p st z (zeroL (sz st.length))).getD j 0 = 0 by omega, Int.zero_emod]
theorem aut_basis (h : autK p st M = true) {i k : Nat} (hi : i < sz st.length) (hk : k < sz st.length) : applyL p M (mulL p st (oneL (sz st.length) i) (oneL (sz st.length) k)) = mulL p st (colL M i) (colL M k) := by
  unfold autK at h
  rw [Bool.and_eq_true] at h
  have h1 := List.all_eq_true.1 h.2 i (List.mem_range.2 hi)
  exact of_decide_eq_true (List.all_eq_true.1 h1 k (List.mem_range.2 hk))
theorem aut_mul (hd : Dok p st) (hM : matB p (sz st.length) M = true) (h : ∀ i, i < sz st.length → ∀ k, k < sz st.length → applyL p M (mulL p st (oneL (sz st.length) i) (oneL (sz st.length) k)) = mulL p st (colL M i) (colL M k))
    {x y : List Int} (hx : Ev p (sz st.length) x) (hy : Ev p (sz st.length) y) : applyL p M (mulL p st x y) = mulL p st (applyL p M x) (applyL p M y) := by
  have h1 : 1 ≤ p := by have := hd.hp.lo; omega
  have h2 : 2 ≤ p := by have := hd.hp.lo; omega
  have eone : ∀ i, Ev p (sz st.length) (oneL (sz st.length) i) := fun i => Ev.one h2
  have step1 : ∀ k, k < sz st.length → ∀ x, Ev p (sz st.length) x → applyL p M (mulL p st x (oneL (sz st.length) k)) = mulL p st (applyL p M x) (colL M k) := fun k hk x hx => by
    refine sp_ind (P := fun x => applyL p M (mulL p st x (oneL (sz st.length) k)) = mulL p st (applyL p M x) (colL M k)) h1 ?_ ?_ hx
    · rw [mul_zerol hd (eone k), apply_zero h1 hM, mul_zerol hd (colL_ev h1 hM k)]
    · intro x i c ex hi ih
      rw [mul_plusl hd ex (eone i) (eone k), apply_plus hd.hp (((mulL_ev h1 (eone i) (eone k)).1).trans (mulL_ev h1 ex (eone k)).1.symm), ih, h i hi k hk, apply_plus hd.hp ((eone i).1.trans ex.1.symm), apply_unit h1 hM hi,
        mul_plusl hd (applyL_ev h1 hM x) (colL_ev h1 hM i) (colL_ev h1 hM k)]
  refine sp_ind (P := fun y => applyL p M (mulL p st x y) = mulL p st (applyL p M x) (applyL p M y)) h1 ?_ ?_ hy
  · rw [mul_zeror hd hx, apply_zero h1 hM, mul_zeror hd (applyL_ev h1 hM x)]
  · intro y i c ey hi ih
    rw [mul_plusr hd ey (eone i) hx, apply_plus hd.hp (((mulL_ev h1 hx (eone i)).1).trans (mulL_ev h1 hx ey).1.symm), ih, step1 i hi x hx, apply_plus hd.hp ((eone i).1.trans ey.1.symm), apply_unit h1 hM hi,
      mul_plusr hd (applyL_ev h1 hM y) (colL_ev h1 hM i) (applyL_ev h1 hM x)]
theorem dot_span {n : Nat} [NeZero n] (hn : p = n) {v : List Int} : ∀ {rows : List (List Int)} {cs : List Int}, Rw p m rows → (∀ r ∈ rows, toF n (dotS r v) = 0) → toF n (dotS (comb p m cs rows) v) = 0
  | [], [], _, _ => by show toF n (dotS (zeroL m) v) = 0; rw [dotS_comm, dotS_zr (fun j => zero_at), toF_zero]
  | [], _ :: _, _, _ => by show toF n (dotS (zeroL m) v) = 0; rw [dotS_comm, dotS_zr (fun j => zero_at), toF_zero]
  | _ :: _, [], _, _ => by show toF n (dotS (zeroL m) v) = 0; rw [dotS_comm, dotS_zr (fun j => zero_at), toF_zero]
  | r :: rs, c :: cs, h, hz => by
    have hp : 1 ≤ p := by have := Nat.pos_of_neZero n; omega
    show toF n (dotS (plusL p (comb p m cs rs) r c) v) = 0
    rw [dotS_comm, dotS_plusF hn (h.cons.1.1.trans (comb_ev hp h.cons.2).1.symm), dotS_comm, dot_span hn h.cons.2 (fun x hx => hz x (List.mem_cons_of_mem _ hx)), dotS_comm, hz r (List.mem_cons_self ..)]
    grind
theorem det_inj (hp : IsP p) (hM : matB p m M = true) (hdt : detL p M ≠ 0) {v : List Int} (hv : Ev p m v) (h : applyL p M v = zeroL m) : v = zeroL m := by
  obtain ⟨h1, h2⟩ := matB_iff.1 hM
  have hp1 : 1 ≤ p := by have := hp.lo; omega
  have hlen := (det_red hp h2 h1).1 hdt
  obtain ⟨hR, hS⟩ := redL_rref (m := m) hp h2
  have hall := asc_full (m := m) (b := 0) hR.asc (fun x hx => by obtain ⟨r, hr, rfl⟩ := List.mem_map.1 hx; exact ⟨Nat.zero_le _, (hR.one r hr).1⟩) (by rw [List.length_map]; omega)
  refine hv.ext (zeroL_ev hp1) fun i => ?_
  rw [zero_at]
  by_cases hi : i < m
  · obtain ⟨s, hs, hsi⟩ := List.mem_map.1 (hall i (Nat.zero_le _) hi)
    have hse : s = oneL m i := by
      refine (hR.rw_ s hs).ext (Ev.one (by have := hp.lo; omega)) fun j => ?_
      rw [one_at]
      by_cases hj : j = i
      · subst hj; rw [if_pos ⟨rfl, hi⟩, ← hsi]; exact (hR.one s hs).2
      · rw [if_neg fun e => hj e.1]
        by_cases hjm : j < m
        · obtain ⟨t, ht, htj⟩ := List.mem_map.1 (hall j (Nat.zero_le _) hjm)
          rcases Nat.lt_trichotomy j i with h3 | h3 | h3
          · exact lead_low (by omega)
          · exact absurd h3 hj
          · have hne : s ≠ t := fun e => by subst e; omega
            obtain ⟨a, ha, rfl⟩ := List.getElem_of_mem hs
            obtain ⟨b, hb, rfl⟩ := List.getElem_of_mem ht
            have := hR.at ha hb
            rw [htj, if_neg (fun e => hne (by subst e; rfl))] at this
            exact this
        · exact out_at (by rw [(hR.rw_ s hs).1]; omega)
    obtain ⟨cs, hcs, e⟩ := (hS s).1 (Spn.mem hp1 hR.rw_ hs)
    refine hp.nat fun n _ hn => ?_
    have h0 : ∀ r ∈ M, toF n (dotS r v) = 0 := fun r hr => by
      obtain ⟨k, hk, rfl⟩ := List.getElem_of_mem hr
      have e := congrArg (fun l => l.getD k 0) h
      rw [zero_at] at e
      unfold applyL at e
      simp only [List.getD_eq_getElem?_getD, List.getElem?_map, List.getElem?_eq_getElem hk, Option.map_some, Option.getD_some] at e
      rw [← toF_mod, ← hn, ← toF_zero]
      exact congrArg (toF n) e
    have hz := dot_span (m := m) hn (cs := cs) h2 h0
    rw [← e, hse, dotS_comm, dotS_sup one_sup, one_at, if_pos ⟨rfl, hi⟩, Int.mul_one, ← toF_zero, toF_eq, ← hn, hv.md hp1, Int.zero_emod] at hz
    exact hz
  · exact out_at (by rw [hv.1]; omega)
end
end Go.Proofs.Ytgkceadllcjeoaa
