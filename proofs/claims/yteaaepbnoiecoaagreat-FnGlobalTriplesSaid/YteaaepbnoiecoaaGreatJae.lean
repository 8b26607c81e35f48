/- Texts joined for a claim: Pla, Inv, DbA. -/
import Derived.Test.YteaaepbnoiecoaaGreatJad
namespace Go.Proofs.YteaaepbnoiecoaaGreat
section
variable {p k : Int} {xs ys : List Int}
theorem plus_at (h : ys.length = xs.length) (j : Nat) : (plusL p xs ys k).getD j 0 = (xs.getD j 0 + k * ys.getD j 0) % p := by
 unfold plusL
 simp only [List.getD_eq_getElem?_getD, List.getElem?_zipWith]
 by_cases hj : j < xs.length
 ·rw [List.getElem?_eq_getElem hj, List.getElem?_eq_getElem (h ▸ hj)]; rfl
 ·rw [List.getElem?_eq_none (by omega), List.getElem?_eq_none (by omega)]; simp
theorem scale_at (j : Nat) : (scaleL p xs k).getD j 0 = xs.getD j 0 * k % p := by
 unfold scaleL
 simp only [List.getD_eq_getElem?_getD, List.getElem?_map]
 cases xs[j]? <;> simp
theorem take_at (h j : Nat) : (xs.take h).getD j 0 = if j < h then xs.getD j 0 else 0 := by
 simp only [List.getD_eq_getElem?_getD, List.getElem?_take]
 split <;> simp
theorem drop_at (h j : Nat) : (xs.drop h).getD j 0 = xs.getD (h + j) 0 := by
 simp only [List.getD_eq_getElem?_getD, List.getElem?_drop]
theorem app_at (j : Nat) : (xs ++ ys).getD j 0 = if j < xs.length then xs.getD j 0 else ys.getD (j - xs.length) 0 := by
 simp only [List.getD_eq_getElem?_getD, List.getElem?_append]
 split <;> rfl
theorem conj_at (j : Nat) : (conjL p xs).getD j 0 = if j = 0 then xs.getD 0 0 else xs.getD j 0 * -1 % p := by
 match xs, j with
 | [], j => simp [conjL, scaleL]
 | x :: xs, 0 => simp [conjL]
 | x :: xs, j + 1 =>
  have := scale_at (p := p) (k := -1) (xs := xs) j
  simpa [conjL] using this
theorem one_at {n i : Nat} (j : Nat) : (oneL n i).getD j 0 = if j = i /\ i < n then 1 else 0 := by
 unfold oneL
 simp only [List.getD_eq_getElem?_getD, List.getElem?_set, List.getElem?_replicate, List.length_replicate]
 by_cases h : i = j
 ·subst h
  by_cases h2 : i < n <;> simp [h2]
 ·have h' : ¬ j = i := fun e => h e.symm
  by_cases h2 : j < n <;> simp [h, h', h2]
theorem ext_at (h : xs.length = ys.length) (e : ∀ j, j < xs.length -> xs.getD j 0 = ys.getD j 0) : xs = ys := by
 refine List.ext_getElem h fun j h1 h2 => ?_
 have := e j h1
 simpa [List.getD_eq_getElem?_getD, List.getElem?_eq_getElem h1, List.getElem?_eq_getElem h2] using this
theorem out_at {j : Nat} (h : xs.length <= j) : xs.getD j 0 = 0 := by
 rw [List.getD_eq_getElem?_getD, List.getElem?_eq_none h]; rfl
end
def Zr (xs : List Int) : Prop := ∀ j, xs.getD j 0 = 0
def Sup (i : Nat) (xs : List Int) : Prop := ∀ j, j ≠ i -> xs.getD j 0 = 0
section
variable {p k : Int} {xs ys : List Int} {i h : Nat}
theorem Zr.sup (z : Zr xs) (i : Nat) : Sup i xs := fun j _ => z j
theorem Zr.plus (z : Zr xs) (z2 : Zr ys) (l : ys.length = xs.length) : Zr (plusL p xs ys k) := fun j => by rw [plus_at l, z j, z2 j]; simp
theorem Sup.plus (z : Sup i xs) (z2 : Sup i ys) (l : ys.length = xs.length) : Sup i (plusL p xs ys k) := fun j hj => by rw [plus_at l, z j hj, z2 j hj]; simp
theorem Zr.conj (z : Zr xs) : Zr (conjL p xs) := fun j => by
 rw [conj_at]
 split
 ·exact z 0
 ·rw [z j]; simp
theorem Sup.conj (z : Sup i xs) : Sup i (conjL p xs) := fun j hj => by
 rw [conj_at]
 split
 ·next e => exact z 0 (e ▸ hj)
 ·rw [z j hj]; simp
theorem Zr.take (z : Zr xs) (h : Nat) : Zr (xs.take h) := fun j => by rw [take_at]; split <;> first | exact z j | exact rfl
theorem Zr.drop (z : Zr xs) (h : Nat) : Zr (xs.drop h) := fun j => by rw [drop_at]; exact z _
theorem Sup.take (z : Sup i xs) (h : Nat) : Sup i (xs.take h) := fun j hj => by rw [take_at]; split <;> first | exact z j hj | exact rfl
theorem Sup.takeZ (z : Sup i xs) (hk : h <= i) : Zr (xs.take h) := fun j => by
 rw [take_at]
 split
 ·exact z j (by omega)
 ·rfl
theorem Sup.drop (z : Sup i xs) (hk : h <= i) : Sup (i - h) (xs.drop h) := fun j hj => by rw [drop_at]; exact z _ (by omega)
theorem Sup.dropZ (z : Sup i xs) (hk : i < h) : Zr (xs.drop h) := fun j => by rw [drop_at]; exact z _ (by omega)
theorem Zr.app (z : Zr xs) (z2 : Zr ys) : Zr (xs ++ ys) := fun j => by rw [app_at]; split <;> first | exact z j | exact z2 _
theorem Sup.appL (z : Sup i xs) (z2 : Zr ys) : Sup i (xs ++ ys) := fun j hj => by rw [app_at]; split <;> first | exact z j hj | exact z2 _
theorem Sup.appR (z : Zr xs) (z2 : Sup i ys) : Sup (xs.length + i) (xs ++ ys) := fun j hj => by
 rw [app_at]
 split
 ·exact z j
 ·exact z2 _ (by omega)
theorem one_sup {n i : Nat} : Sup i (oneL n i) := fun j hj => by
 rw [one_at, if_neg (fun h => hj h.1)]
end
theorem mulR_zr {p : Int} : ∀ {rs x y : List Int}, x.length = 2 ^ rs.length -> y.length = 2 ^ rs.length -> (Zr x \/ Zr y) -> Zr (mulR p rs x y)
 | [], x, y, _, _, z => fun j => by
  have e : x.getD 0 0 * y.getD 0 0 = 0 := by
   rcases z with z | z
   ·rw [z 0, Int.zero_mul]
   ·rw [z 0, Int.mul_zero]
  rw [mulR, e]
  cases j <;> simp
 | g :: r, x, y, hx, hy, z => by
  have h2 := half_len hx
  have e : x.length = 2 ^ r.length + 2 ^ r.length := by rw [hx, List.length_cons, Nat.pow_succ]; omega
  have e' : y.length = 2 ^ r.length + 2 ^ r.length := by rw [hy, List.length_cons, Nat.pow_succ]; omega
  have l1 : (x.take (2 ^ r.length)).length = 2 ^ r.length := by rw [List.length_take]; omega
  have l2 : (x.drop (2 ^ r.length)).length = 2 ^ r.length := by rw [List.length_drop]; omega
  have l3 : (y.take (2 ^ r.length)).length = 2 ^ r.length := by rw [List.length_take]; omega
  have l4 : (y.drop (2 ^ r.length)).length = 2 ^ r.length := by rw [List.length_drop]; omega
  have l5 : (conjL p (y.drop (2 ^ r.length))).length = 2 ^ r.length := by rw [conjL_len, l4]
  have l6 : (conjL p (y.take (2 ^ r.length))).length = 2 ^ r.length := by rw [conjL_len, l3]
  unfold mulR
  rw [h2]
  refine Zr.app (Zr.plus (mulR_zr l1 l3 ?_) (mulR_zr l5 l2 ?_) (by rw [mulR_len l5 l2, mulR_len l1 l3])) (Zr.plus (mulR_zr l4 l1 ?_) (mulR_zr l2 l6 ?_) (by rw [mulR_len l2 l6, mulR_len l4 l1]))
  ·exact z.imp (fun z => z.take _) (fun z => z.take _)
  ·exact z.symm.imp (fun z => (z.drop _).conj) (fun z => z.drop _)
  ·exact z.symm.imp (fun z => z.drop _) (fun z => z.take _)
  ·exact z.imp (fun z => z.drop _) (fun z => (z.take _).conj)
theorem xor_tab : ∀ k < 3, ∀ i < 2 ^ k, ∀ j < 2 ^ k, i ^^^ j < 2 ^ k /\ (2 ^ k + i) ^^^ j = 2 ^ k + (i ^^^ j) /\ i ^^^ (2 ^ k + j) = 2 ^ k + (j ^^^ i) /\ (2 ^ k + i) ^^^ (2 ^ k + j) = j ^^^ i := by decide
set_option maxHeartbeats 1000000 in
theorem mulR_sup {p : Int} : ∀ {rs x y : List Int} {i j : Nat}, rs.length <= 3 -> x.length = 2 ^ rs.length -> y.length = 2 ^ rs.length -> i < 2 ^ rs.length -> j < 2 ^ rs.length -> Sup i x -> Sup j y -> Sup (i ^^^ j) (mulR p rs x y)
 | [], x, y, i, j, _, _, _, hi, hj, _, _ => by
  have e1 : i = 0 := by simpa using hi
  have e2 : j = 0 := by simpa using hj
  subst e1 e2
  intro k hk
  rw [mulR]
  match k, hk with
  | 0, hk => exact absurd rfl hk
  | k + 1, _ => simp
 | g :: r, x, y, i, j, hl, hx, hy, hi, hj, zx, zy => by
  have hl : r.length < 3 := by simp at hl; omega
  have h2 := half_len hx
  have e : x.length = 2 ^ r.length + 2 ^ r.length := by rw [hx, List.length_cons, Nat.pow_succ]; omega
  have e' : y.length = 2 ^ r.length + 2 ^ r.length := by rw [hy, List.length_cons, Nat.pow_succ]; omega
  have hi : i < 2 ^ r.length + 2 ^ r.length := by rw [List.length_cons, Nat.pow_succ] at hi; omega
  have hj : j < 2 ^ r.length + 2 ^ r.length := by rw [List.length_cons, Nat.pow_succ] at hj; omega
  have l1 : (x.take (2 ^ r.length)).length = 2 ^ r.length := by rw [List.length_take]; omega
  have l2 : (x.drop (2 ^ r.length)).length = 2 ^ r.length := by rw [List.length_drop]; omega
  have l3 : (y.take (2 ^ r.length)).length = 2 ^ r.length := by rw [List.length_take]; omega
  have l4 : (y.drop (2 ^ r.length)).length = 2 ^ r.length := by rw [List.length_drop]; omega
  have l5 : (conjL p (y.drop (2 ^ r.length))).length = 2 ^ r.length := by rw [conjL_len, l4]
  have l6 : (conjL p (y.take (2 ^ r.length))).length = 2 ^ r.length := by rw [conjL_len, l3]
  have m1 := mulR_len (p := p) (rs := r) l1 l3
  have m2 := mulR_len (p := p) (rs := r) l5 l2
  have m3 := mulR_len (p := p) (rs := r) l4 l1
  have m4 := mulR_len (p := p) (rs := r) l2 l6
  have T := xor_tab r.length hl
  have p1 := plusL_len (p := p) (k := g) (m2.trans m1.symm)
  unfold mulR
  rw [h2]
  by_cases hiH : i < 2 ^ r.length <;> by_cases hjH : j < 2 ^ r.length
  ·obtain ⟨t1, _⟩ := T i hiH j hjH
   have zb := zx.dropZ hiH; have zd := zy.dropZ hjH
   exact Sup.appL (Sup.plus (mulR_sup (by omega) l1 l3 hiH hjH (zx.take _) (zy.take _)) ((mulR_zr l5 l2 (.inl zd.conj)).sup _) (m2.trans m1.symm))
    (Zr.plus (mulR_zr l4 l1 (.inl zd)) (mulR_zr l2 l6 (.inl zb)) (m4.trans m3.symm))
  ·obtain ⟨j, rfl⟩ := Nat.exists_eq_add_of_le (Nat.le_of_not_lt hjH)
   obtain ⟨t1, t2, t3, t4⟩ := T i hiH j (by omega)
   have zb := zx.dropZ hiH; have zc := zy.takeZ (by omega : 2 ^ r.length <= 2 ^ r.length + j)
   have zd := zy.drop (by omega : 2 ^ r.length <= 2 ^ r.length + j)
   rw [Nat.add_sub_cancel_left] at zd
   rw [t3]
   have z2 := Sup.appR (xs := plusL p (mulR p r (x.take (2 ^ r.length)) (y.take (2 ^ r.length))) (mulR p r (conjL p (y.drop (2 ^ r.length))) (x.drop (2 ^ r.length))) g) (i := j ^^^ i)
    (Zr.plus (mulR_zr l1 l3 (.inr zc)) (mulR_zr l5 l2 (.inr zb)) (m2.trans m1.symm))
    (Sup.plus (p := p) (k := 1) (mulR_sup (by omega) l4 l1 (by omega) (by omega) zd (zx.take _)) ((mulR_zr l2 l6 (.inl zb)).sup _) (m4.trans m3.symm))
   rw [p1, m1] at z2
   exact z2
  ·obtain ⟨i, rfl⟩ := Nat.exists_eq_add_of_le (Nat.le_of_not_lt hiH)
   obtain ⟨t1, t2, t3, t4⟩ := T i (by omega) j hjH
   have zd := zy.dropZ hjH; have za := zx.takeZ (by omega : 2 ^ r.length <= 2 ^ r.length + i)
   have zb := zx.drop (by omega : 2 ^ r.length <= 2 ^ r.length + i)
   rw [Nat.add_sub_cancel_left] at zb
   rw [t2]
   have z2 := Sup.appR (xs := plusL p (mulR p r (x.take (2 ^ r.length)) (y.take (2 ^ r.length))) (mulR p r (conjL p (y.drop (2 ^ r.length))) (x.drop (2 ^ r.length))) g) (i := i ^^^ j)
    (Zr.plus (mulR_zr l1 l3 (.inl za)) (mulR_zr l5 l2 (.inl zd.conj)) (m2.trans m1.symm))
    (Sup.plus (p := p) (k := 1) ((mulR_zr l4 l1 (.inl zd)).sup _) (mulR_sup (by omega) l2 l6 (by omega) (by omega) zb (zy.take _).conj) (m4.trans m3.symm))
   rw [p1, m1] at z2
   exact z2
  ·obtain ⟨i, rfl⟩ := Nat.exists_eq_add_of_le (Nat.le_of_not_lt hiH)
   obtain ⟨j, rfl⟩ := Nat.exists_eq_add_of_le (Nat.le_of_not_lt hjH)
   obtain ⟨t1, t2, t3, t4⟩ := T i (by omega) j (by omega)
   have zb := zx.drop (by omega : 2 ^ r.length <= 2 ^ r.length + i); have zd := zy.drop (by omega : 2 ^ r.length <= 2 ^ r.length + j)
   rw [Nat.add_sub_cancel_left] at zb zd
   have za := zx.takeZ (by omega : 2 ^ r.length <= 2 ^ r.length + i); have zc := zy.takeZ (by omega : 2 ^ r.length <= 2 ^ r.length + j)
   rw [t4]
   exact Sup.appL (Sup.plus ((mulR_zr l1 l3 (.inl za)).sup _) (mulR_sup (by omega) l5 l2 (by omega) (by omega) zd.conj zb) (m2.trans m1.symm))
    (Zr.plus (mulR_zr l4 l1 (.inr za)) (mulR_zr l2 l6 (.inr zc.conj)) (m4.trans m3.symm))
open Go.RowKit
theorem inv_all : ∀ p ∈ [3, 5, 7, 11, 13], ∀ a ∈ List.range p, a ≠ 0 -> 1 <= invL (p : Nat) (a : Nat) /\ (a : Int) * invL (p : Nat) (a : Nat) % (p : Nat) = 1 /\ ∀ b ∈ List.range p, 1 <= b -> (b : Int) < invL (p : Nat) (a : Nat) -> (a : Int) * b % (p : Nat) ≠ 1 := by decide +kernel
theorem inv_tab {p a : Int} (hp : IsP p) (h1 : 1 <= a) (h2 : a < p) : 1 <= invL p a /\ a * invL p a % p = 1 /\ ∀ b, 1 <= b -> b < invL p a -> a * b % p ≠ 1 := by
 obtain ⟨n, rfl⟩ := Int.eq_ofNat_of_zero_le (show 0 <= p by have := hp.lo; omega)
 obtain ⟨m, rfl⟩ := Int.eq_ofNat_of_zero_le (show 0 <= a by omega)
 have hi := (invL_fp (p := (n : Int)) (a := (m : Int)) (by have := hp.lo; omega)).2
 obtain ⟨k1, k2, k3⟩ := inv_all n (by unfold IsP at hp; simp; omega) m (by simp; omega) (by omega)
 refine ⟨k1, k2, fun b hb1 hb2 => ?_⟩
 obtain ⟨j, rfl⟩ := Int.eq_ofNat_of_zero_le (show 0 <= b by omega)
 exact k3 j (by simp; omega) (by omega) hb2
theorem below_le {a b : World} (h : Below a.heap.size a b) : a.heap.size <= b.heap.size := h.size
theorem zw_scale2 {p k m : Int} : ∀ {xs ys : List Int}, plusL p xs (scaleL p ys k) m = plusL p xs ys (k * m)
 | [], _ => by simp [plusL]
 | _ :: _, [] => by simp [plusL, scaleL]
 | x :: xs, y :: ys => by
  have hr := zw_scale2 (p := p) (k := k) (m := m) (xs := xs) (ys := ys)
  simp only [plusL, scaleL, List.map_cons, List.zipWith_cons_cons] at hr ⊢
  rw [hr]
  congr 1
  rw [Int.add_emod, Int.mul_emod m, Int.emod_emod, <- Int.mul_emod, <- Int.add_emod]
  congr 2
  rw [Int.mul_comm y k, <- Int.mul_assoc, Int.mul_comm m k]
theorem sminus_c {p : Int} {x y : Value} {xs ys : List Int} {w : World} (hp : 1 <= p) (hp2 : p <= 1000)
  (hx : Sl w x xs) (hy : Sl w y ys) (sx : Sm 1000000 xs) (sy : Sm 1000000 ys) (hl : ys.length = xs.length) (hm : xs.length <= 1000000) :
  Calls Tryz.prog 119 #[.int .i64 p, x, y] w fun e w' => ∃ v, e = .returned v /\ FrI w' w.heap.size v (plusL p xs ys (p - 1)) /\ Below w.heap.size w w' := by
 have HL := Lib.hid hl; clear hl
 have hm2 : ys.length <= 1000000 := by rw [HL.out]; exact hm
 have hx1 := hx
 go_enter Tryz.func119, Tryz.ntmps119
 go_wp2_with fail
 refine (sscale_c hp hp2 (by omega) (by omega) hy sy hm2).mono ?_; rintro e w21 ⟨z, rfl, hz, hb21⟩
 have hx := hx.below hb21
 go_wp2_with fail
 refine (sadd_c hp hp2 hx hz.sl sx ((scaleL_fp hp).sm (by omega) (by omega)) (by rw [scaleL_len]; exact HL.out) hm).mono ?_; rintro e w22 ⟨t, rfl, ht, hb22⟩
 have hx := hx.below hb22; have hz := hz.below hb22
 go_wp2_with fail
 go_ret
 refine ⟨_, rfl, ?_, bwT⟩
 rw [zw_scale2, Int.mul_one] at ht
 exact ht.more (below_le bwT)
def chkE (p : Int) (st : List Int) (xss : List (List Int)) : Int := if isD p st = true then (if xss.all (isE p (sz st.length)) = true then 0 else 2) else 1
theorem boxed {w w1 : World} {u0 u1 : Value} {t : TypeId} (hb : Below (w.alloc (.cells #[u0, u1] t)).heap.size (w.alloc (.cells #[u0, u1] t)) w1) :
  w1.cell? ⟨w.heap.size, 0, none⟩ = some u0 /\ w1.cell? ⟨w.heap.size, 1, none⟩ = some u1 :=
 ⟨kept hb (by simp [go_sem]), kept hb (by simp [go_sem])⟩
theorem all_snoc {α : Type} {f : α -> Bool} {l : List α} {m : Nat} {x : α} (h : (l.take m).all f = true) (ht : l.take (m + 1) = l.take m ++ [x]) : (l.take (m + 1)).all f = f x := by
 rw [ht, List.all_append, h]; simp
theorem all_no {α : Type} {f : α -> Bool} {l : List α} {x : α} (hx : x ∈ l) (h : f x = false) : l.all f = false := by
 rw [List.all_eq_false]; exact ⟨x, hx, by simp [h]⟩
theorem dfield_c {p : Int} {a : Option Addr} {n c : Nat} {w : World} :
  Calls Tryz.prog 30 #[.agg #[.int .i64 p, .slice a n c]] w fun e w' => e = .returned (.int .i64 p) /\ Below w.heap.size w w' := by
 go_enter Tryz.func30, Tryz.ntmps30
 go_wp2
 go_ret
 exact ⟨rfl, bwT⟩
theorem size_c {p : Int} {a : Option Addr} {n c : Nat} {w : World} (hn : n <= 4) :
  Calls Tryz.prog 56 #[.agg #[.int .i64 p, .slice a n c]] w fun e w' => e = .returned (.int .i64 ((sz n : Nat) : Int)) /\ Below w.heap.size w w' := by
 rcases (show n = 0 \/ n = 1 \/ n = 2 \/ n = 3 \/ n = 4 by omega) with rfl | rfl | rfl | rfl | rfl
 all_goals
  go_enter Tryz.func56, Tryz.ntmps56
  go_wp2
  go_ret
  exact ⟨rfl, bwT⟩
theorem ssize_c {p : Int} {a : Option Addr} {n c : Nat} {w : World} (hn : n <= 4) :
  Calls Tryz.prog 62 #[.agg #[.int .i64 p, .slice a n c]] w fun e w' => e = .returned (.int .i64 ((sz n : Nat) : Int)) /\ Below w.heap.size w w' := by
 rcases (show n = 0 \/ n = 1 \/ n = 2 \/ n = 3 \/ n = 4 by omega) with rfl | rfl | rfl | rfl | rfl
 all_goals
  go_enter Tryz.func62, Tryz.ntmps62
  go_wp2
  go_ret
  exact ⟨rfl, bwT⟩
theorem pow_le {n : Nat} (h : n <= 4) : sz n <= 16 := Nat.le_trans (Nat.pow_le_pow_right (by decide) h) (by decide)
def hasL (xs : List Int) (z : Int) : Bool := xs.contains z
def Found (k : Int) (b : Bool) : Prop := decide (0 <= k) = b
theorem index_c {x : Value} {xs : List Int} {z : Int} {w : World} (hx : Sl w x xs) (hm : xs.length <= 1048576) :
  Calls Tryz.prog 116 #[x, .int .i64 z] w fun e w' => ∃ k : Int, e = .returned (.int .i64 k) /\ Found k (hasL xs z) /\ -1 <= k /\ k <= 1048576 /\ w = w' := by
 obtain ⟨a, c, rfl, rfl | ⟨b, off, rfl, hx⟩⟩ := hx
 ·go_enter Tryz.func116, Tryz.ntmps116
  go_wp2
  refine wp_loop_rounds 1 ?_; rw [rounds_succ]
  go_wp2; go_ret; exact ⟨_, rfl, (rfl : decide _ = _), by decide, by decide, rfl⟩
 go_enter Tryz.func116, Tryz.ntmps116
 go_wp2
 go_loop [8] (fun i => ∃ k : Nat, k <= xs.length /\ i = .int .i64 k /\ hasL (xs.take k) z = false) (fun i => xs.length - (intOf i).toNat)
 case atStart => exact ⟨0, Nat.zero_le _, rfl, rfl⟩
 case round =>
  obtain ⟨k, hk, rfl, hr⟩ := hrel
  by_cases hlt : k < xs.length
  ·obtain ⟨u, hu, hc, ht⟩ := hx.get hlt
   have H := Lib.hid (And.intro hr ht); clear hr ht
   by_cases huz : z = u
   ·subst huz
    have hcon : hasL xs z = true := by simpa [hasL] using hu
    have HC := Lib.hid hcon; clear hcon
    go_wp2
    go_ret
    exact ⟨_, rfl, by rw [HC.out]; unfold Found; simp, by omega, by omega, rfl⟩
   ·have hne : (z == u) = false := by simpa using huz
    go_wp2
    go_round
    case rel => exact ⟨k + 1, by omega, by go_num, by
     rw [H.out.2]
     have h1 := H.out.1
     simp only [hasL, List.contains_eq_mem, decide_eq_false_iff_not, List.mem_append, List.mem_singleton] at h1 ⊢
     rintro (h | h)
     ·exact h1 h
     ·exact huz h⟩
    case measure => simp [intOf]; omega
  ·have e : xs.take k = xs := take_all (by omega)
   rw [e] at hr
   have H := Lib.hid hr; clear hr e
   go_wp2
   go_ret
   exact ⟨_, rfl, by rw [H.out]; unfold Found; rfl, by decide, by decide, rfl⟩
theorem contains_c {x : Value} {xs : List Int} {z : Int} {w : World} (hx : Sl w x xs) (hm : xs.length <= 1048576) :
  Calls Tryz.prog 104 #[x, .int .i64 z] w fun e w' => e = .returned (.bool (hasL xs z)) /\ w = w' := by
 obtain ⟨a, c, rfl, _⟩ := id hx
 go_enter Tryz.func104, Tryz.ntmps104
 go_wp2_with (go_at_call 116; refine (index_c hx hm).mono ?_; rintro e w1 ⟨k, rfl, hk, hk1, hk2, rfl⟩; unfold Found at hk; have H := Lib.hid hk; clear hk)
 go_ret
 exact ⟨by rw [<- H.out]; rfl, rfl⟩
theorem isD_no1 {p : Int} {st : List Int} (h : prB p = false) : isD p st = false := by unfold isD; rw [h]; rfl
theorem isD_no2 {p : Int} {st : List Int} (h : ¬ st.length <= 4) : isD p st = false := by unfold isD; simp [h]
theorem isD_yes {p : Int} {st : List Int} (h : prB p = true) (h2 : st.length <= 4) : isD p st = (isL p st && !hasL st 0) := by
 unfold isD
 rw [h, decide_eq_true h2, Bool.true_and, Bool.true_and, Bool.eq_iff_iff]
 unfold isL inR hasL
 simp only [List.all_eq_true, Bool.and_eq_true, decide_eq_true_eq, Bool.not_eq_true', List.contains_eq_mem, decide_eq_false_iff_not]
 constructor
 ·intro k
  exact ⟨fun x hx => by have := k x hx; omega, fun h0 => by have := k 0 h0; omega⟩
 ·rintro ⟨k, h0⟩ x hx
  have := k x hx
  have : x ≠ 0 := fun e => h0 (e ▸ hx)
  omega
theorem isdbl_c {p : Int} {x : Value} {st : List Int} {w : World} (hx : Sl w x st) (hm : st.length <= 1048576) :
  Calls Tryz.prog 76 #[.agg #[.int .i64 p, x]] w fun e w' => e = .returned (.bool (isD p st)) /\ Below w.heap.size w w' := by
 obtain ⟨s, hs⟩ : ∃ s, s = isD p st := ⟨_, rfl⟩
 rw [<- hs]
 have H := Lib.hid hs; clear hs
 have hw : Sl ((w.alloc (.cells #[.int .i64 p, x] 26)).drew) x st := hx.below bwT
 obtain ⟨a, c, rfl, _⟩ := hx
 go_enter Tryz.func76, Tryz.ntmps76
 go_wp2
 refine region_flow [(true, [(0, 0), (1, 1), (2, 3)]), (true, [(3, 0), (4, 0), (5, 1), (6, 0), (7, 0), (8, 0), (9, 0), (10, 1), (12, 0), (13, 1), (11, 3)]), (false, [(14, 4), (15, 0), (16, 0), (17, 0), (18, 1), (19, 4), (20, 0), (21, 0), (22, 0)])] (by kernel_rfl) ?_
 refine norm_K fun K hK => ?_
 change wpList _ _ _ [_, _, _] _ _
 go_wp2_with fail
 refine isPrime_c.mono ?_; rintro e w1 ⟨rfl, rfl⟩
 cases h1 : prB p
 ·obtain rfl : s = false := by rw [H.out, isD_no1 h1]
  go_wp2_with fail
  first | (refine hK _ _ ⟨Below.refl _ _, ?_⟩; clear hK K) | refine ⟨Below.refl _ _, ?_⟩
  refine norm_K fun K hK => ?_
  change wpList _ _ _ [_, _, _, _, _, _, _, _, _, _, _] _ _
  go_wp2_with fail
  first | (refine hK _ _ ⟨Below.refl _ _, ?_⟩; clear hK K) | refine ⟨Below.refl _ _, ?_⟩
  refine norm_K fun K hK => ?_
  change wpList _ _ _ [_, _, _, _, _, _, _, _, _] _ _
  go_wp2_with fail
  first | (refine hK _ _ ⟨rfl, ?_⟩; clear hK K) | refine ⟨rfl, ?_⟩
  go_wp2
  go_ret
  exact ⟨rfl, bwT⟩
 have hp := prB_iff.1 h1
 have hp1 := hp.lo
 have hp2 := hp.hi
 by_cases h2 : st.length <= 4
 ·have HY := Lib.hid (isD_yes h1 h2)
  have h2' : decide ((st.length : Int) <= 4) = true := by simp; omega
  go_wp2_with fail
  first | (refine hK _ _ ⟨Below.refl _ _, ?_⟩; clear hK K) | refine ⟨Below.refl _ _, ?_⟩
  refine norm_K fun K hK => ?_
  change wpList _ _ _ [_, _, _, _, _, _, _, _, _, _, _] _ _
  go_wp2_with fail
  refine dfield_c.mono ?_; rintro e w1 ⟨rfl, hb⟩
  go_wp2_with fail
  first | (refine hK _ _ ⟨hb, ?_⟩; clear hK K) | refine ⟨hb, ?_⟩
  refine norm_K fun K hK => ?_
  change wpList _ _ _ [_, _, _, _, _, _, _, _, _] _ _
  have d1 := kept hb (b := w.heap.size) (o := 1) (v := .slice a st.length c) (by simp [go_sem])
  go_wp2_with fail
  refine (is_c (by omega) (by omega) (hw.below hb) hm).mono ?_; rintro e w2 ⟨rfl, rfl⟩
  cases h3 : isL p st
  ·obtain rfl : s = false := by rw [H.out, HY.out, h3]; rfl
   go_wp2_with fail
   first | (refine hK _ _ ⟨rfl, ?_⟩; clear hK K) | refine ⟨rfl, ?_⟩
   go_wp2
   go_ret
   exact ⟨rfl, bwC bwT hb⟩
  ·obtain rfl : s = !hasL st 0 := by rw [H.out, HY.out, h3]; rfl
   go_wp2_with fail
   refine (contains_c (hw.below hb) hm).mono ?_; rintro e w2 ⟨rfl, rfl⟩
   go_wp2_with fail
   first | (refine hK _ _ ⟨rfl, ?_⟩; clear hK K) | refine ⟨rfl, ?_⟩
   go_wp2
   go_ret
   exact ⟨rfl, bwC bwT hb⟩
 ·obtain rfl : s = false := by rw [H.out, isD_no2 h2]
  have h2' : decide ((st.length : Int) <= 4) = false := by simp; omega
  go_wp2_with fail
  first | (refine hK _ _ ⟨Below.refl _ _, ?_⟩; clear hK K) | refine ⟨Below.refl _ _, ?_⟩
  refine norm_K fun K hK => ?_
  change wpList _ _ _ [_, _, _, _, _, _, _, _, _, _, _] _ _
  go_wp2_with fail
  first | (refine hK _ _ ⟨Below.refl _ _, ?_⟩; clear hK K) | refine ⟨Below.refl _ _, ?_⟩
  refine norm_K fun K hK => ?_
  change wpList _ _ _ [_, _, _, _, _, _, _, _, _] _ _
  go_wp2_with fail
  first | (refine hK _ _ ⟨rfl, ?_⟩; clear hK K) | refine ⟨rfl, ?_⟩
  go_wp2
  go_ret
  exact ⟨rfl, bwT⟩
end Go.Proofs.YteaaepbnoiecoaaGreat
