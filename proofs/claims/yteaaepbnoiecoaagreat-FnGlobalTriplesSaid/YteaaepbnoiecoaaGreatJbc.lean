/- Texts joined for a claim: GtB, GtC, GtD, GtE, GtF. -/
import Derived.Test.YteaaepbnoiecoaaGreatJbb
import Derived.Test.YteaaepbnoiecoaaGreatJar
namespace Go.Proofs.YteaaepbnoiecoaaGreat
open Go.RowKit
section
variable {p : Int} {st x y z u : List Int} {A B C M : List (List Int)} {c : Int} {dg : List Int} {m : Nat}
theorem cyc_md (hp : 1 <= p) : cycL p st x y z % p = cycL p st x y z := by
 have h := cyc_fp (p := p) (st := st) (x := x) (y := y) (z := z) hp
 exact Int.emod_eq_of_lt h.1 h.2
theorem sumF_one {i : Nat} {v : Int} : ∀ {m : Nat}, sumF (fun r => if r = i then v else 0) m = if i < m then v else 0
 | 0 => by simp [sumF]
 | m + 1 => by
  unfold sumF
  rw [sumF_one (m := m)]
  by_cases h : i < m
  ·rw [if_pos h, if_neg (show ¬ m = i by omega), if_pos (show i < m + 1 by omega)]; omega
  ·by_cases h2 : m = i
   ·rw [if_neg h, if_pos h2, if_pos (show i < m + 1 by omega)]; omega
   ·rw [if_neg h, if_neg h2, if_neg (show ¬ i < m + 1 by omega)]; omega
theorem dotD_one {i k : Nat} (hl : dg.length = m) (hi : i < m) : dotD dg (oneL m i) (oneL m k) = if i = k then dg.getD i 0 else 0 := by
 rw [dotD_sum hl oneL_len oneL_len]
 rw [sumF_congr (g := fun r => if r = i then (if i = k then dg.getD i 0 else 0) else 0) fun r hr => ?_]
 ·rw [sumF_one, if_pos hi]
 ·rw [one_at, one_at]
  by_cases h : r = i
  ·subst h
   rw [if_pos ⟨rfl, hr⟩, if_pos rfl]
   by_cases h2 : r = k
   ·subst h2; rw [if_pos ⟨rfl, hr⟩, if_pos rfl]; omega
   ·rw [if_neg (fun e => h2 e.1), if_neg h2]; omega
  ·rw [if_neg (fun e => h e.1), if_neg h]; simp
theorem iso_all (hp : IsP p) (hl : dg.length = m) (hM : matB p m M = true) (h : isoB p dg M = true) (hdg : Fp p dg) (hx : Ev p m x) (hy : Ev p m y) : dotD dg (applyL p M x) (applyL p M y) % p = dotD dg x y % p := by
 have h2 := hp.lo
 have hMl := (matB_iff.1 hM).1
 have ap := fun v => applyL_ev (p := p) (by omega) hM v
 have hb : ∀ i k, i < m -> k < m -> dotD dg (colL M i) (colL M k) % p = dotD dg (oneL m i) (oneL m k) % p := by
  have key : ∀ i k, i < m -> k <= i -> dotD dg (colL M i) (colL M k) % p = dotD dg (oneL m i) (oneL m k) % p := fun i k hi hk => by
   unfold isoB at h
   have h3 := List.all_eq_true.1 (List.all_eq_true.1 h i (List.mem_range.2 (by omega))) k (List.mem_range.2 (by omega))
   rw [beq_iff_eq] at h3
   rw [h3, dotD_one hl hi]
   split
   ·have := hdg.g0 (by omega) i
    rw [Int.emod_eq_of_lt this.1 this.2]
   ·rfl
  intro i k hi hk
  rcases Nat.le_total k i with h4 | h4
  ·exact key i k hi h4
  ·rw [dotD_comm, dotD_comm (x := oneL m i)]; exact key k i hk h4
 have s1 : ∀ k, k < m -> ∀ x, Ev p m x -> dotD dg (applyL p M x) (colL M k) % p = dotD dg x (oneL m k) % p := fun k hk x hx =>
  lin_all (f := fun x => dotD dg (applyL p M x) (colL M k)) (g := fun x => dotD dg x (oneL m k)) hp
   (fun n _ hn x u c hx hu => by
    show toF n (dotD dg (applyL p M (plusL p x u c)) (colL M k)) = _
    rw [apply_plus hp (by rw [hu.1, hx.1]), dotD_plus hn (by rw [(ap u).1, (ap x).1])])
   (fun n _ hn x u c hx hu => dotD_plus hn (by rw [hu.1, hx.1]))
   (fun i hi => by
    show dotD dg (applyL p M (oneL m i)) (colL M k) % p = _
    rw [apply_unit (by omega) hM hi]; exact hb i k hi hk) hx
 have s2 := lin_all (f := fun y => dotD dg (applyL p M y) (applyL p M x)) (g := fun y => dotD dg y x) (m := m) (x := y) hp
   (fun n _ hn y u c hy hu => by
    show toF n (dotD dg (applyL p M (plusL p y u c)) (applyL p M x)) = _
    rw [apply_plus hp (by rw [hu.1, hy.1]), dotD_plus hn (by rw [(ap u).1, (ap y).1])])
   (fun n _ hn y u c hy hu => dotD_plus hn (by rw [hu.1, hy.1]))
   (fun i hi => by
    show dotD dg (applyL p M (oneL m i)) (applyL p M x) % p = dotD dg (oneL m i) x % p
    rw [apply_unit (by omega) hM hi, dotD_comm, dotD_comm (x := oneL m i)]
    exact s1 i hi x hx) hy
 rw [dotD_comm, dotD_comm (x := x)]
 exact s2
theorem iso_of (hp : IsP p) (hl : dg.length = m) (hM : matB p m M = true) (hdg : Fp p dg) (h : ∀ i k, i < m -> k < m -> dotD dg (colL M i) (colL M k) % p = dotD dg (oneL m i) (oneL m k) % p) : isoB p dg M = true := by
 have h2 := hp.lo
 have hMl := (matB_iff.1 hM).1
 unfold isoB
 refine List.all_eq_true.2 fun i hi => List.all_eq_true.2 fun k hk => ?_
 rw [List.mem_range] at hi hk
 rw [beq_iff_eq, h i k (by omega) (by omega), dotD_one hl (by omega)]
 split
 ·have := hdg.g0 (by omega) i
  rw [Int.emod_eq_of_lt this.1 this.2]
 ·rfl
theorem glob_all (hd : Dok p st) (mA : matB p (sz st.length) A = true) (mB : matB p (sz st.length) B = true) (mC : matB p (sz st.length) C = true)
  (hb : ∀ i j k, i < sz st.length -> j < sz st.length -> k < sz st.length -> cycL p st (colL A i) (colL B j) (colL C k) = cycL p st (oneL (sz st.length) i) (oneL (sz st.length) j) (oneL (sz st.length) k))
  (hx : Ev p (sz st.length) x) (hy : Ev p (sz st.length) y) (hz : Ev p (sz st.length) z) : cycL p st (applyL p A x) (applyL p B y) (applyL p C z) = cycL p st x y z := by
 have h2 := hd.hp.lo
 have aA := fun v => applyL_ev (p := p) (by omega) mA v
 have aB := fun v => applyL_ev (p := p) (by omega) mB v
 have aC := fun v => applyL_ev (p := p) (by omega) mC v
 have ho : ∀ i, Ev p (sz st.length) (oneL (sz st.length) i) := fun i => ⟨oneL_len, oneL_fp (by omega)⟩
 have cA := fun i => colL_ev (p := p) (by omega) mA i
 have cB := fun i => colL_ev (p := p) (by omega) mB i
 have cC := fun i => colL_ev (p := p) (by omega) mC i
 have s1 : ∀ j k, j < sz st.length -> k < sz st.length -> cycL p st (applyL p A x) (colL B j) (colL C k) = cycL p st x (oneL (sz st.length) j) (oneL (sz st.length) k) := fun j k hj hk => by
  have e := lin_all (f := fun x => cycL p st (applyL p A x) (colL B j) (colL C k)) (g := fun x => cycL p st x (oneL (sz st.length) j) (oneL (sz st.length) k)) (m := sz st.length) (x := x) hd.hp
   (fun n _ hn x u c hx hu => by
    show toF n (cycL p st (applyL p A (plusL p x u c)) (colL B j) (colL C k)) = _
    rw [apply_plus hd.hp (by rw [hu.1, hx.1]), cyc_plus1 hd hn (aA x) (aA u) (cB j) (cC k)])
   (fun n _ hn x u c hx hu => cyc_plus1 hd hn hx hu (ho j) (ho k))
   (fun i hi => by
    show cycL p st (applyL p A (oneL _ i)) (colL B j) (colL C k) % p = _
    rw [apply_unit (by omega) mA hi, hb i j k hi hj hk]) hx
  simpa only [cyc_md (show 1 <= p by omega)] using e
 have s2 : ∀ k, k < sz st.length -> cycL p st (applyL p A x) (applyL p B y) (colL C k) = cycL p st x y (oneL (sz st.length) k) := fun k hk => by
  have e := lin_all (f := fun y => cycL p st (applyL p A x) (applyL p B y) (colL C k)) (g := fun y => cycL p st x y (oneL (sz st.length) k)) (m := sz st.length) (x := y) hd.hp
   (fun n _ hn y u c hy hu => by
    show toF n (cycL p st (applyL p A x) (applyL p B (plusL p y u c)) (colL C k)) = _
    rw [apply_plus hd.hp (by rw [hu.1, hy.1]), cyc_plus2 hd hn (aB y) (aB u) (aA x) (cC k)])
   (fun n _ hn y u c hy hu => cyc_plus2 hd hn hy hu hx (ho k))
   (fun j hj => by
    show cycL p st (applyL p A x) (applyL p B (oneL _ j)) (colL C k) % p = _
    rw [apply_unit (by omega) mB hj, s1 j k hj hk]) hy
  simpa only [cyc_md (show 1 <= p by omega)] using e
 have e := lin_all (f := fun z => cycL p st (applyL p A x) (applyL p B y) (applyL p C z)) (g := fun z => cycL p st x y z) (m := sz st.length) (x := z) hd.hp
   (fun n _ hn z u c hz hu => by
    show toF n (cycL p st (applyL p A x) (applyL p B y) (applyL p C (plusL p z u c))) = _
    rw [apply_plus hd.hp (by rw [hu.1, hz.1]), cyc_plus3 hd hn (aC z) (aC u) (aA x) (aB y)])
   (fun n _ hn z u c hz hu => cyc_plus3 hd hn hz hu hx hy)
   (fun k hk => by
    show cycL p st (applyL p A x) (applyL p B y) (applyL p C (oneL _ k)) % p = _
    rw [apply_unit (by omega) mC hk, s2 k hk]) hz
 simpa only [cyc_md (show 1 <= p by omega)] using e
end
def mulM (p : Int) (n : Nat) (A B : List (List Int)) : List (List Int) := A.map fun r => (List.range n).map fun j => dotL p r (colL B j)
section
variable {p : Int} {st x y z : List Int} {A B C A' B' C' M : List (List Int)} {n : Nat}
theorem mulM_mat (hp : 1 <= p) (hA : matB p n A = true) : matB p n (mulM p n A B) = true := by
 obtain ⟨h1, _⟩ := matB_iff.1 hA
 refine matB_iff.2 ⟨by unfold mulM; rw [List.length_map]; exact h1, fun r hr => ?_⟩
 obtain ⟨a, _, rfl⟩ := List.mem_map.1 hr
 refine ⟨by simp, fun y hy => ?_⟩
 obtain ⟨j, _, rfl⟩ := List.mem_map.1 hy
 exact ⟨Int.emod_nonneg _ (by omega), Int.emod_lt_of_pos _ (by omega)⟩
theorem mulM_col {i : Nat} (hi : i < n) : colL (mulM p n A B) i = applyL p A (colL B i) := by
 unfold colL mulM applyL
 rw [List.map_map]
 refine List.map_congr_left fun r _ => ?_
 show ((List.range n).map fun j => dotL p r (colL B j)).getD i 0 = dotL p r (colL B i)
 rw [List.getD_eq_getElem?_getD, List.getElem?_map, List.getElem?_range hi]
 rfl
end
end Go.Proofs.YteaaepbnoiecoaaGreat
namespace Go.Proofs.YteaaepbnoiecoaaGreat
section
variable {n : Nat} [NeZero n] (g h k : Fin n)
theorem ocj_mul_ (x y : Oc n) : ocj (omul g h k x y) = omul g h k (ocj y) (ocj x) := by unfold omul ocj; apply Oc.ext <;> grind
theorem re_dt (x y : Oc n) : (omul g h k x y).a0 = odt g h k x (ocj y) := by unfold omul odt ocj; grind
theorem two_side (b z : Oc n) : omul g h k (omul g h k b z) b = oad (osc (2 * odt g h k b (ocj z)) b) (osc (-(odt g h k b b)) (ocj z)) := by
 unfold odt omul ocj oad osc
 apply Oc.ext <;> grind
theorem unit_oc (a x y z : Oc n) (ha : odt g h k a a = 1) :
  (omul g h k (omul g h k (omul g h k a x) (omul g h k y a)) (omul g h k (omul g h k (ocj a) z) (ocj a))).a0 = (omul g h k (omul g h k x y) z).a0 := by
 rw [re_dt, re_dt, mo, two_side]
 rw [<- ocj_mul_, odt_cj, odt_cj, ha]
 simp only [ocj_oad, ocj_osc, ocj_ocj, odt_addl, odt_addr, odt_oscl, odt_oscr]
 rw [ha, odt_cjr g h k (omul g h k x y) z, odt_comm g h k (ocj (omul g h k x y)) a]
 grind
end
open Go.RowKit
section
variable {n : Nat} [NeZero n] {p : Int} {st x y z a : List Int}
theorem toF_dotD (hp : p = n) (hd : Dok p st) (hx : Ev p (sz st.length) x) (hy : Ev p (sz st.length) y) : toF n (dotD (diagF p st) x y) = odt (gam n st 0) (gam n st 1) (gam n st 2) (toO n x) (toO n y) := by
 have h2 := hd.hp.lo
 have hc := hy.conj (show 1 <= p by omega)
 obtain ⟨q, hq⟩ := mul_first (p := p) (st := st) (by omega) hx hc
 rw [conj_conj hy.2] at hq
 have e : toF n ((mulL p st x (conjL p y)).getD 0 0) = toF n (dotD (diagF p st) x y) := by
  rw [hq]; subst hp
  rw [toF_eq, Int.add_mul_emod_self_left]
 rw [<- e, getD_toO, toO_mul hp hd.hl hx.1 hc.1, toO_conj hp, omul_re]
theorem toF_cyc (hp : p = n) (hd : Dok p st) (hx : Ev p (sz st.length) x) (hy : Ev p (sz st.length) y) (hz : Ev p (sz st.length) z) :
  toF n (cycL p st x y z) = toF n 2 * (omul (gam n st 0) (gam n st 1) (gam n st 2) (omul (gam n st 0) (gam n st 1) (gam n st 2) (toO n x) (toO n y)) (toO n z)).a0 := by
 have h2 := hd.hp.lo
 have e1 := mulL_ev (p := p) (st := st) (by omega) hx hy
 rw [cycL_sup hp, getD_toO, toO_mul hp hd.hl e1.1 hz.1, toO_mul hp hd.hl hx.1 hy.1]
theorem oc_rot (g h k : Fin n) (x y z : Oc n) : (omul g h k (omul g h k x y) z).a0 = (omul g h k (omul g h k y z) x).a0 := by
 rw [re_dt, re_dt, odt_movr, <- ocj_mul_, odt_cjr, odt_comm]
end
section
variable {p : Int} {st x y z a : List Int} {A B C : List (List Int)}
theorem cyc_rot (hd : Dok p st) (hx : Ev p (sz st.length) x) (hy : Ev p (sz st.length) y) (hz : Ev p (sz st.length) z) : cycL p st x y z = cycL p st y z x := by
 have h2 := hd.hp.lo
 rw [<- cyc_md (show 1 <= p by omega) (x := x), <- cyc_md (show 1 <= p by omega) (x := y)]
 refine hd.hp.nat fun n _ hn => ?_
 have e := (toF_cyc hn hd hx hy hz).trans ((congrArg (toF n 2 * ·) (oc_rot _ _ _ _ _ _)).trans (toF_cyc hn hd hy hz hx).symm)
 subst hn
 exact (toF_eq n _ _).1 e
end
structure Glo (p : Int) (st : List Int) (A B C : List (List Int)) : Prop where
 mA : matB p (sz st.length) A = true
 mB : matB p (sz st.length) B = true
 mC : matB p (sz st.length) C = true
 iA : isoB p (diagF p st) A = true
 iB : isoB p (diagF p st) B = true
 iC : isoB p (diagF p st) C = true
 cy : ∀ i j k, i < sz st.length -> j < sz st.length -> k < sz st.length -> cycL p st (colL A i) (colL B j) (colL C k) = cycL p st (oneL (sz st.length) i) (oneL (sz st.length) j) (oneL (sz st.length) k)
def colsM (m : Nat) (F : Nat -> List Int) : List (List Int) := trL ((List.range m).map F) m
def unA (p : Int) (st a : List Int) : List (List Int) := colsM (sz st.length) fun i => mulL p st a (oneL (sz st.length) i)
def unB (p : Int) (st a : List Int) : List (List Int) := colsM (sz st.length) fun i => mulL p st (oneL (sz st.length) i) a
def unF (p : Int) (st b : List Int) (i : Nat) : List Int := mulL p st (mulL p st b (oneL (sz st.length) i)) b
def unC (p : Int) (st a : List Int) : List (List Int) := colsM (sz st.length) (unF p st (conjL p a))
theorem colsM_ok {p : Int} {m : Nat} {F : Nat -> List Int} (hF : ∀ i, i < m -> Ev p m (F i)) : matB p m (colsM m F) = true /\ ∀ i, i < m -> colL (colsM m F) i = F i := by
 have row : ∀ j, j < m -> colL ((List.range m).map F) j = (List.range m).map fun i => (F i).getD j 0 := fun j _ => by
  unfold colL; rw [List.map_map]; rfl
 constructor
 ·refine matB_iff.2 ⟨trL_len, fun r hr => ?_⟩
  unfold colsM trL at hr
  obtain ⟨j, hj, rfl⟩ := List.mem_map.1 hr
  rw [List.mem_range] at hj
  rw [row j hj]
  refine ⟨by simp, fun y hy => ?_⟩
  obtain ⟨i, hi, rfl⟩ := List.mem_map.1 hy
  rw [List.mem_range] at hi
  obtain ⟨h1, h2⟩ := hF i hi
  refine h2 _ ?_
  rw [List.getD_eq_getElem?_getD, List.getElem?_eq_getElem (by omega)]
  exact List.getElem_mem _
 ·intro i hi
  obtain ⟨h1, _⟩ := hF i hi
  refine ext_at (by unfold colL colsM; rw [List.length_map, trL_len, h1]) fun j hj => ?_
  have hj : j < m := by unfold colL colsM at hj; rw [List.length_map, trL_len] at hj; exact hj
  unfold colsM trL
  rw [colL_at (by simp; exact hj)]
  simp only [List.getElem_map, List.getElem_range]
  rw [row j hj]
  simp [List.getD_eq_getElem?_getD, hi]
section
variable {p : Int} {st x y z a : List Int} {A B C A' B' C' : List (List Int)}
theorem Glo.bool (hd : Dok p st) (h : Glo p st A B C) : globB p st A B C = true := by
 unfold globB
 rw [h.iA, h.iB, h.iC]
 simp only [Bool.true_and]
 unfold all3
 refine List.all_eq_true.2 fun i hi => List.all_eq_true.2 fun j hj => List.all_eq_true.2 fun k hk => ?_
 rw [List.mem_range] at hi hj hk
 unfold glG
 rw [beq_iff_eq, <- cyc_form hd hi hj hk]
 exact h.cy i j k hi hj hk
theorem Glo.rot (hd : Dok p st) (h : Glo p st A B C) : Glo p st B C A :=
 ⟨h.mB, h.mC, h.mA, h.iB, h.iC, h.iA, fun i j k hi hj hk => by
  have h2 := hd.hp.lo
  have cA := colL_ev (p := p) (by omega) h.mA k
  have cB := colL_ev (p := p) (by omega) h.mB i
  have cC := colL_ev (p := p) (by omega) h.mC j
  have eo : ∀ i, Ev p (sz st.length) (oneL (sz st.length) i) := fun i => ⟨oneL_len, oneL_fp (by omega)⟩
  rw [<- cyc_rot hd cA cB cC, h.cy k i j hk hi hj, cyc_rot hd (eo k) (eo i) (eo j)]⟩
theorem iso_mul (hd : Dok p st) (m1 : matB p (sz st.length) A = true) (i1 : isoB p (diagF p st) A = true) (m2 : matB p (sz st.length) B = true) (i2 : isoB p (diagF p st) B = true) : isoB p (diagF p st) (mulM p (sz st.length) A B) = true := by
 have h2 := hd.hp.lo
 have hdf := diagF_fp (p := p) (st := st) (by omega)
 have eo : ∀ i, Ev p (sz st.length) (oneL (sz st.length) i) := fun i => ⟨oneL_len, oneL_fp (by omega)⟩
 refine iso_of hd.hp diagF_len (mulM_mat (by omega) m1) hdf fun i k hi hk => ?_
 rw [mulM_col hi, mulM_col hk, iso_all hd.hp diagF_len m1 i1 hdf (colL_ev (by omega) m2 i) (colL_ev (by omega) m2 k), <- apply_unit (by omega) m2 hi, <- apply_unit (by omega) m2 hk,
  iso_all hd.hp diagF_len m2 i2 hdf (eo i) (eo k)]
theorem Glo.mul (hd : Dok p st) (h : Glo p st A B C) (h' : Glo p st A' B' C') : Glo p st (mulM p (sz st.length) A A') (mulM p (sz st.length) B B') (mulM p (sz st.length) C C') := by
 have h2 := hd.hp.lo
 refine ⟨mulM_mat (by omega) h.mA, mulM_mat (by omega) h.mB, mulM_mat (by omega) h.mC, iso_mul hd h.mA h.iA h'.mA h'.iA, iso_mul hd h.mB h.iB h'.mB h'.iB, iso_mul hd h.mC h.iC h'.mC h'.iC, fun i j k hi hj hk => ?_⟩
 rw [mulM_col hi, mulM_col hj, mulM_col hk, glob_all hd h.mA h.mB h.mC h.cy (colL_ev (by omega) h'.mA i) (colL_ev (by omega) h'.mB j) (colL_ev (by omega) h'.mC k)]
 exact h'.cy i j k hi hj hk
theorem toF_nrm {n : Nat} [NeZero n] (hn : p = n) (hd : Dok p st) (ha : Ev p (sz st.length) a) : toF n (normL p st a) = odt (gam n st 0) (gam n st 1) (gam n st 2) (toO n a) (toO n a) := by
 have h2 := hd.hp.lo
 have hc := ha.conj (show 1 <= p by omega)
 unfold normL
 rw [getD_toO, toO_mul hn hd.hl ha.1 hc.1, toO_conj hn, re_dt, ocj_ocj]
theorem unit_ev (hd : Dok p st) (ha : Ev p (sz st.length) a) : (∀ i, Ev p (sz st.length) (mulL p st a (oneL (sz st.length) i))) /\ (∀ i, Ev p (sz st.length) (mulL p st (oneL (sz st.length) i) a)) /\ ∀ i, Ev p (sz st.length) (unF p st (conjL p a) i) := by
 have h2 := hd.hp.lo
 have hc := ha.conj (show 1 <= p by omega)
 have eo : ∀ i, Ev p (sz st.length) (oneL (sz st.length) i) := fun i => ⟨oneL_len, oneL_fp (by omega)⟩
 exact ⟨fun i => mulL_ev (by omega) ha (eo i), fun i => mulL_ev (by omega) (eo i) ha, fun i => mulL_ev (by omega) (mulL_ev (by omega) hc (eo i)) hc⟩
theorem Glo.unit (hd : Dok p st) (ha : Ev p (sz st.length) a) (h1 : normL p st a = 1) : Glo p st (unA p st a) (unB p st a) (unC p st a) := by
 have h2 := hd.hp.lo
 have hc := ha.conj (show 1 <= p by omega)
 have hdf := diagF_fp (p := p) (st := st) (by omega)
 have eo : ∀ i, Ev p (sz st.length) (oneL (sz st.length) i) := fun i => ⟨oneL_len, oneL_fp (by omega)⟩
 obtain ⟨eA, eB, eC⟩ := unit_ev hd ha
 obtain ⟨mA, cA⟩ := colsM_ok fun i (_ : i < sz st.length) => eA i
 obtain ⟨mB, cB⟩ := colsM_ok fun i (_ : i < sz st.length) => eB i
 obtain ⟨mC, cC⟩ := colsM_ok fun i (_ : i < sz st.length) => eC i
 have hn1 : ∀ (n : Nat) [NeZero n], p = (n : Int) -> odt (gam n st 0) (gam n st 1) (gam n st 2) (toO n a) (toO n a) = 1 := fun n _ hn => by rw [<- toF_nrm hn hd ha, h1, toF_one]
 refine ⟨mA, mB, mC, iso_of hd.hp diagF_len mA hdf fun i k hi hk => ?_, iso_of hd.hp diagF_len mB hdf fun i k hi hk => ?_, iso_of hd.hp diagF_len mC hdf fun i k hi hk => ?_, fun i j k hi hj hk => ?_⟩
 ·unfold unA
  rw [cA i hi, cA k hk]
  refine hd.hp.nat fun n _ hn => ?_
  have e : toF n (dotD (diagF p st) (mulL p st a (oneL (sz st.length) i)) (mulL p st a (oneL (sz st.length) k))) = toF n (dotD (diagF p st) (oneL (sz st.length) i) (oneL (sz st.length) k)) := by
   rw [toF_dotD hn hd (eA i) (eA k), toF_dotD hn hd (eo i) (eo k), toO_mul hn hd.hl ha.1 (eo i).1, toO_mul hn hd.hl ha.1 (eo k).1, odt_mull, hn1 n hn]
   grind
  subst hn
  exact (toF_eq n _ _).1 e
 ·unfold unB
  rw [cB i hi, cB k hk]
  refine hd.hp.nat fun n _ hn => ?_
  have e : toF n (dotD (diagF p st) (mulL p st (oneL (sz st.length) i) a) (mulL p st (oneL (sz st.length) k) a)) = toF n (dotD (diagF p st) (oneL (sz st.length) i) (oneL (sz st.length) k)) := by
   rw [toF_dotD hn hd (eB i) (eB k), toF_dotD hn hd (eo i) (eo k), toO_mul hn hd.hl (eo i).1 ha.1, toO_mul hn hd.hl (eo k).1 ha.1, odt_mulr, hn1 n hn]
   grind
  subst hn
  exact (toF_eq n _ _).1 e
 ·unfold unC
  rw [cC i hi, cC k hk]
  refine hd.hp.nat fun n _ hn => ?_
  have e : toF n (dotD (diagF p st) (unF p st (conjL p a) i) (unF p st (conjL p a) k)) = toF n (dotD (diagF p st) (oneL (sz st.length) i) (oneL (sz st.length) k)) := by
   have ei := mulL_ev (p := p) (st := st) (by omega) hc (eo i)
   have ek := mulL_ev (p := p) (st := st) (by omega) hc (eo k)
   rw [toF_dotD hn hd (eC i) (eC k), toF_dotD hn hd (eo i) (eo k)]
   unfold unF
   rw [toO_mul hn hd.hl ei.1 hc.1, toO_mul hn hd.hl ek.1 hc.1, toO_mul hn hd.hl hc.1 (eo i).1, toO_mul hn hd.hl hc.1 (eo k).1, odt_mulr, odt_mull, toO_conj hn, odt_cj, hn1 n hn]
   grind
  subst hn
  exact (toF_eq n _ _).1 e
 ·unfold unA unB unC
  rw [cA i hi, cB j hj, cC k hk, <- cyc_md (show 1 <= p by omega), <- cyc_md (show 1 <= p by omega) (x := oneL (sz st.length) i)]
  refine hd.hp.nat fun n _ hn => ?_
  have ek := mulL_ev (p := p) (st := st) (by omega) hc (eo k)
  have e : toF n (cycL p st (mulL p st a (oneL (sz st.length) i)) (mulL p st (oneL (sz st.length) j) a) (unF p st (conjL p a) k)) = toF n (cycL p st (oneL (sz st.length) i) (oneL (sz st.length) j) (oneL (sz st.length) k)) := by
   rw [toF_cyc hn hd (eA i) (eB j) (eC k), toF_cyc hn hd (eo i) (eo j) (eo k)]
   unfold unF
   rw [toO_mul hn hd.hl ek.1 hc.1, toO_mul hn hd.hl hc.1 (eo k).1, toO_mul hn hd.hl ha.1 (eo i).1, toO_mul hn hd.hl (eo j).1 ha.1, toO_conj hn, unit_oc _ _ _ _ _ _ _ (hn1 n hn)]
  subst hn
  exact (toF_eq n _ _).1 e
end
end Go.Proofs.YteaaepbnoiecoaaGreat
