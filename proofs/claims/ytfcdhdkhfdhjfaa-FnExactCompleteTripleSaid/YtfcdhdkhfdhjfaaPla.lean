/-
  Rows of numbers by their places; rows that are 0 but at one place; products of elements of the basis. No program in sight.
-/
import Derived.Test.YtfcdhdkhfdhjfaaJag
namespace Go.Proofs.Ytfcdhdkhfdhjfaa

section
variable {p k : Int} {xs ys : List Int}
theorem plus_at (h : ys.length = xs.length) (j : Nat) : (plusL p xs ys k).getD j 0 = (xs.getD j 0 + k * ys.getD j 0) % p := by
  unfold plusL
  simp only [List.getD_eq_getElem?_getD, List.getElem?_zipWith]
  by_cases hj : j < xs.length
  · rw [List.getElem?_eq_getElem hj, List.getElem?_eq_getElem (h ▸ hj)]; rfl
  · rw [List.getElem?_eq_none (by omega), List.getElem?_eq_none (by omega)]; simp
theorem scale_at (j : Nat) : (scaleL p xs k).getD j 0 = xs.getD j 0 * k % p := by
  unfold scaleL
  simp only [List.getD_eq_getElem?_getD, List.getElem?_map]
  cases xs[j]? <;> simp
theorem take_at (h j : Nat) : (xs.take h).getD j 0 = if j < h then xs.getD j 0 else 0 := by
  simp only [List.getD_eq_getElem?_getD, List.getElem?_take]
  split <;> simp
theorem drop_at (h j : Nat) : (xs.drop h).getD j 0 = xs.getD (h + j) 0 := by
  simp only [List.getD_eq_getElem?_getD, List.getElem?_drop]
theorem app_at (j : Nat) : (xs ++ ys).getD j 0 = if j < xs.length then xs.getD j 0 else ys.getD (j - xs.length) 0 := by
  simp only [List.getD_eq_getElem?_getD, List.getElem?_append]
  split <;> rfl
theorem conj_at (j : Nat) : (conjL p xs).getD j 0 = if j = 0 then xs.getD 0 0 else xs.getD j 0 * -1 % p := by
  match xs, j with
  | [], j => simp [conjL, scaleL]
  | x :: xs, 0 => simp [conjL]
  | x :: xs, j + 1 =>
    have := scale_at (p := p) (k := -1) (xs := xs) j
    simpa [conjL] using this
theorem one_at {n i : Nat} (j : Nat) : (oneL n i).getD j 0 = if j = i ∧ i < n then 1 else 0 := by
  unfold oneL
  simp only [List.getD_eq_getElem?_getD, List.getElem?_set, List.getElem?_replicate, List.length_replicate]
  by_cases h : i = j
  · subst h
    by_cases h2 : i < n <;> simp [h2]
  · have h' : ¬ j = i := fun e => h e.symm
    by_cases h2 : j < n <;> simp [h, h', h2]
theorem ext_at (h : xs.length = ys.length) (e : ∀ j, j < xs.length → xs.getD j 0 = ys.getD j 0) : xs = ys := by
  refine List.ext_getElem h fun j h1 h2 => ?_
  have := e j h1
  simpa [List.getD_eq_getElem?_getD, List.getElem?_eq_getElem h1, List.getElem?_eq_getElem h2] using this
theorem out_at {j : Nat} (h : xs.length ≤ j) : xs.getD j 0 = 0 := by
  rw [List.getD_eq_getElem?_getD, List.getElem?_eq_none h]; rfl
end
def Zr (xs : List Int) : Prop := ∀ j, xs.getD j 0 = 0
def Sup (i : Nat) (xs : List Int) : Prop := ∀ j, j ≠ i → xs.getD j 0 = 0
section
variable {p k : Int} {xs ys : List Int} {i h : Nat}
theorem Zr.sup (z : Zr xs) (i : Nat) : Sup i xs := fun j _ => z j
theorem Zr.plus (z : Zr xs) (z2 : Zr ys) (l : ys.length = xs.length) : Zr (plusL p xs ys k) := fun j => by rw [plus_at l, z j, z2 j]; simp
theorem Sup.plus (z : Sup i xs) (z2 : Sup i ys) (l : ys.length = xs.length) : Sup i (plusL p xs ys k) := fun j hj => by rw [plus_at l, z j hj, z2 j hj]; simp
theorem Zr.conj (z : Zr xs) : Zr (conjL p xs) := fun j => by
  rw [conj_at]
  split
  · exact z 0
  · rw [z j]; simp
theorem Sup.conj (z : Sup i xs) : Sup i (conjL p xs) := fun j hj => by
  rw [conj_at]
  split
  · next e => exact z 0 (e ▸ hj)
  · rw [z j hj]; simp
theorem Zr.take (z : Zr xs) (h : Nat) : Zr (xs.take h) := fun j => by rw [take_at]; split <;> first | exact z j | exact rfl
theorem Zr.drop (z : Zr xs) (h : Nat) : Zr (xs.drop h) := fun j => by rw [drop_at]; exact z _
theorem Sup.take (z : Sup i xs) (h : Nat) : Sup i (xs.take h) := fun j hj => by rw [take_at]; split <;> first | exact z j hj | exact rfl
theorem Sup.takeZ (z : Sup i xs) (hk : h ≤ i) : Zr (xs.take h) := fun j => by
  rw [take_at]
  split
  · exact z j (by omega)
  · rfl
theorem Sup.drop (z : Sup i xs) (hk : h ≤ i) : Sup (i - h) (xs.drop h) := fun j hj => by rw [drop_at]; exact z _ (by omega)
theorem Sup.dropZ (z : Sup i xs) (hk : i < h) : Zr (xs.drop h) := fun j => by rw [drop_at]; exact z _ (by omega)
theorem Zr.app (z : Zr xs) (z2 : Zr ys) : Zr (xs ++ ys) := fun j => by rw [app_at]; split <;> first | exact z j | exact z2 _
theorem Sup.appL (z : Sup i xs) (z2 : Zr ys) : Sup i (xs ++ ys) := fun j hj => by rw [app_at]; split <;> first | exact z j hj | exact z2 _
theorem Sup.appR (z : Zr xs) (z2 : Sup i ys) : Sup (xs.length + i) (xs ++ ys) := fun j hj => by
  rw [app_at]
  split
  · exact z j
  · exact z2 _ (by omega)
theorem one_sup {n i : Nat} : Sup i (oneL n i) := fun j hj => by
  rw [one_at, if_neg (fun h => hj h.1)]
end
theorem mulR_zr {p : Int} : ∀ {rs x y : List Int}, x.length = 2 ^ rs.length → y.length = 2 ^ rs.length → (Zr x ∨ Zr y) → Zr (mulR p rs x y)
  | [], x, y, _, _, z => fun j => by
    have e : x.getD 0 0 * y.getD 0 0 = 0 := by
      rcases z with z | z
      · rw [z 0, Int.zero_mul]
      · rw [z 0, Int.mul_zero]
    rw [mulR, e]
    cases j <;> simp
  | g :: r, x, y, hx, hy, z => by
    have h2 := half_len hx
    have e : x.length = 2 ^ r.length + 2 ^ r.length := by rw [hx, List.length_cons, Nat.pow_succ]; omega
    have e' : y.length = 2 ^ r.length + 2 ^ r.length := by rw [hy, List.length_cons, Nat.pow_succ]; omega
    have l1 : (x.take (2 ^ r.length)).length = 2 ^ r.length := by rw [List.length_take]; omega
    have l2 : (x.drop (2 ^ r.length)).length = 2 ^ r.length := by rw [List.length_drop]; omega
    have l3 : (y.take (2 ^ r.length)).length = 2 ^ r.length := by rw [List.length_take]; omega
    have l4 : (y.drop (2 ^ r.length)).length = 2 ^ r.length := by rw [List.length_drop]; omega
    have l5 : (conjL p (y.drop (2 ^ r.length))).length = 2 ^ r.length := by rw [conjL_len, l4]
    have l6 : (conjL p (y.take (2 ^ r.length))).length = 2 ^ r.length := by rw [conjL_len, l3]
    unfold mulR
    rw [h2]
    refine Zr.app (Zr.plus (mulR_zr l1 l3 ?_) (mulR_zr l5 l2 ?_) (by rw [mulR_len l5 l2, mulR_len l1 l3])) (Zr.plus (mulR_zr l4 l1 ?_) (mulR_zr l2 l6 ?_) (by rw [mulR_len l2 l6, mulR_len l4 l1]))
    · exact z.imp (fun z => z.take _) (fun z => z.take _)
    · exact z.symm.imp (fun z => (z.drop _).conj) (fun z => z.drop _)
    · exact z.symm.imp (fun z => z.drop _) (fun z => z.take _)
    · exact z.imp (fun z => z.drop _) (fun z => (z.take _).conj)
theorem xor_tab : ∀ k < 3, ∀ i < 2 ^ k, ∀ j < 2 ^ k, i ^^^ j < 2 ^ k ∧ (2 ^ k + i) ^^^ j = 2 ^ k + (i ^^^ j) ∧ i ^^^ (2 ^ k + j) = 2 ^ k + (j ^^^ i) ∧ (2 ^ k + i) ^^^ (2 ^ k + j) = j ^^^ i := by decide
set_option maxHeartbeats 1000000 in
theorem mulR_sup {p : Int} : ∀ {rs x y : List Int} {i j : Nat}, rs.length ≤ 3 → x.length = 2 ^ rs.length → y.length = 2 ^ rs.length → i < 2 ^ rs.length → j < 2 ^ rs.length → Sup i x → Sup j y → Sup (i ^^^ j) (mulR p rs x y)
  | [], x, y, i, j, _, _, _, hi, hj, _, _ => by
    have e1 : i = 0 := by simpa using hi
    have e2 : j = 0 := by simpa using hj
    subst e1 e2
    intro k hk
    rw [mulR]
    match k, hk with
    | 0, hk => exact absurd rfl hk
    | k + 1, _ => simp
  | g :: r, x, y, i, j, hl, hx, hy, hi, hj, zx, zy => by
    have hl : r.length < 3 := by simp at hl; omega
    have h2 := half_len hx
    have e : x.length = 2 ^ r.length + 2 ^ r.length := by rw [hx, List.length_cons, Nat.pow_succ]; omega
    have e' : y.length = 2 ^ r.length + 2 ^ r.length := by rw [hy, List.length_cons, Nat.pow_succ]; omega
    have hi : i < 2 ^ r.length + 2 ^ r.length := by rw [List.length_cons, Nat.pow_succ] at hi; omega
    have hj : j < 2 ^ r.length + 2 ^ r.length := by rw [List.length_cons, Nat.pow_succ] at hj; omega
    have l1 : (x.take (2 ^ r.length)).length = 2 ^ r.length := by rw [List.length_take]; omega
    have l2 : (x.drop (2 ^ r.length)).length = 2 ^ r.length := by rw [List.length_drop]; omega
    have l3 : (y.take (2 ^ r.length)).length = 2 ^ r.length := by rw [List.length_take]; omega
    have l4 : (y.drop (2 ^ r.length)).length = 2 ^ r.length := by rw [List.length_drop]; omega
    have l5 : (conjL p (y.drop (2 ^ r.length))).length = 2 ^ r.length := by rw [conjL_len, l4]
    have l6 : (conjL p (y.take (2 ^ r.length))).length = 2 ^ r.length := by rw [conjL_len, l3]
    have m1 := mulR_len (p := p) (rs := r) l1 l3
    have m2 := mulR_len (p := p) (rs := r) l5 l2
    have m3 := mulR_len (p := p) (rs := r) l4 l1
    have m4 := mulR_len (p := p) (rs := r) l2 l6
    have T := xor_tab r.length hl
    have p1 := plusL_len (p := p) (k := g) (m2.trans m1.symm)
    unfold mulR
    rw [h2]
    by_cases hiH : i < 2 ^ r.length <;> by_cases hjH : j < 2 ^ r.length
    · obtain ⟨t1, _⟩ := T i hiH j hjH
      have zb := zx.dropZ hiH; have zd := zy.dropZ hjH
      exact Sup.appL (Sup.plus (mulR_sup (by omega) l1 l3 hiH hjH (zx.take _) (zy.take _)) ((mulR_zr l5 l2 (.inl zd.conj)).sup _) (m2.trans m1.symm))
        (Zr.plus (mulR_zr l4 l1 (.inl zd)) (mulR_zr l2 l6 (.inl zb)) (m4.trans m3.symm))
    · obtain ⟨j, rfl⟩ := Nat.exists_eq_add_of_le (Nat.le_of_not_lt hjH)
      obtain ⟨t1, t2, t3, t4⟩ := T i hiH j (by omega)
      have zb := zx.dropZ hiH; have zc := zy.takeZ (by omega : 2 ^ r.length ≤ 2 ^ r.length + j)
      have zd := zy.drop (by omega : 2 ^ r.length ≤ 2 ^ r.length + j)
      rw [Nat.add_sub_cancel_left] at zd
      rw [t3]
      have z2 := Sup.appR (xs := plusL p (mulR p r (x.take (2 ^ r.length)) (y.take (2 ^ r.length))) (mulR p r (conjL p (y.drop (2 ^ r.length))) (x.drop (2 ^ r.length))) g) (i := j ^^^ i)
        (Zr.plus (mulR_zr l1 l3 (.inr zc)) (mulR_zr l5 l2 (.inr zb)) (m2.trans m1.symm))
        (Sup.plus (p := p) (k := 1) (mulR_sup (by omega) l4 l1 (by omega) (by omega) zd (zx.take _)) ((mulR_zr l2 l6 (.inl zb)).sup _) (m4.trans m3.symm))
      rw [p1, m1] at z2
      exact z2
    · obtain ⟨i, rfl⟩ := Nat.exists_eq_add_of_le (Nat.le_of_not_lt hiH)
      obtain ⟨t1, t2, t3, t4⟩ := T i (by omega) j hjH
      have zd := zy.dropZ hjH; have za := zx.takeZ (by omega : 2 ^ r.length ≤ 2 ^ r.length + i)
      have zb := zx.drop (by omega : 2 ^ r.length ≤ 2 ^ r.length + i)
      rw [Nat.add_sub_cancel_left] at zb
      rw [t2]
      have z2 := Sup.appR (xs := plusL p (mulR p r (x.take (2 ^ r.length)) (y.take (2 ^ r.length))) (mulR p r (conjL p (y.drop (2 ^ r.length))) (x.drop (2 ^ r.length))) g) (i := i ^^^ j)
        (Zr.plus (mulR_zr l1 l3 (.inl za)) (mulR_zr l5 l2 (.inl zd.conj)) (m2.trans m1.symm))
        (Sup.plus (p := p) (k := 1) ((mulR_zr l4 l1 (.inl zd)).sup _) (mulR_sup (by omega) l2 l6 (by omega) (by omega) zb (zy.take _).conj) (m4.trans m3.symm))
      rw [p1, m1] at z2
      exact z2
    · obtain ⟨i, rfl⟩ := Nat.exists_eq_add_of_le (Nat.le_of_not_lt hiH)
      obtain ⟨j, rfl⟩ := Nat.exists_eq_add_of_le (Nat.le_of_not_lt hjH)
      obtain ⟨t1, t2, t3, t4⟩ := T i (by omega) j (by omega)
      have zb := zx.drop (by omega : 2 ^ r.length ≤ 2 ^ r.length + i); have zd := zy.drop (by omega : 2 ^ r.length ≤ 2 ^ r.length + j)
      rw [Nat.add_sub_cancel_left] at zb zd
      have za := zx.takeZ (by omega : 2 ^ r.length ≤ 2 ^ r.length + i); have zc := zy.takeZ (by omega : 2 ^ r.length ≤ 2 ^ r.length + j)
      rw [t4]
      exact Sup.appL (Sup.plus ((mulR_zr l1 l3 (.inl za)).sup _) (mulR_sup (by omega) l5 l2 (by omega) (by omega) zd.conj zb) (m2.trans m1.symm))
        (Zr.plus (mulR_zr l4 l1 (.inr za)) (mulR_zr l2 l6 (.inr zc.conj)) (m4.trans m3.symm))
end Go.Proofs.Ytfcdhdkhfdhjfaa
