/- Texts joined for a claim: Her, DbA, DbB. -/
import Derived.Test.YtilgbekffbphgaaGreatJad
namespace Go.Proofs.YtilgbekffbphgaaGreat
def Her.d (X : Her) (i : Nat) : Int := X.dg.getD i 0
def Her.r (X : Her) (i : Nat) : List Int := X.up.getD i []
def isH (p : Int) (n : Nat) (X : Her) : Bool := decide (X.dg.length = 3) && isL p X.dg && (decide (X.up.length = 3) && X.up.all (isE p n))
theorem isH_op {p : Int} {n : Nat} {X : Her} (h : isH p n X = true) : ∃ a b c u v t, X = ⟨[a, b, c], [u, v, t]⟩ /\ 0 <= a /\ a < p /\ 0 <= b /\ b < p /\ 0 <= c /\ c < p /\ Ev p n u /\ Ev p n v /\ Ev p n t := by
 obtain ⟨dg, up⟩ := X
 unfold isH at h
 simp only [Bool.and_eq_true, decide_eq_true_eq, isL_fp, List.all_eq_true, isE_iff] at h
 obtain ⟨⟨h1, h2⟩, h3, h4⟩ := h
 match dg, up, h1, h3, h2, h4 with
 | [a, b, c], [u, v, t], _, _, h2, h4 =>
  have ha := h2 a (by simp)
  have hb := h2 b (by simp)
  have hc := h2 c (by simp)
  exact ⟨a, b, c, u, v, t, rfl, ha.1, ha.2, hb.1, hb.2, hc.1, hc.2, h4 u (by simp), h4 v (by simp), h4 t (by simp)⟩
theorem isH_mk {p : Int} {n : Nat} {a b c : Int} {u v t : List Int} (ha : 0 <= a /\ a < p) (hb : 0 <= b /\ b < p) (hc : 0 <= c /\ c < p) (hu : Ev p n u) (hv : Ev p n v) (ht : Ev p n t) : isH p n ⟨[a, b, c], [u, v, t]⟩ = true := by
 unfold isH
 simp only [Bool.and_eq_true, decide_eq_true_eq, isL_fp, List.all_eq_true, isE_iff]
 refine ⟨⟨rfl, fun x hx => ?_⟩, rfl, fun x hx => ?_⟩
 ·simp at hx; rcases hx with rfl | rfl | rfl <;> assumption
 ·simp at hx; rcases hx with rfl | rfl | rfl <;> assumption
def traceH (p : Int) (X : Her) : Int := (X.d 0 + X.d 1 + X.d 2) % p
def oneL (n i : Nat) : List Int := (List.replicate n 0).set i 1
def entryH (p : Int) (n : Nat) (X : Her) (i j : Nat) : List Int :=
 if i = j then scaleL p (oneL n 0) (X.d i) else if (i + 1) % 3 = j then X.r (3 - i - j) else conjL p (X.r (3 - i - j))
def eopH (p : Int) (st : List Int) (X Y : Her) (i j : Nat) : List Int :=
 plusL p (plusL p (plusL p (List.replicate (sz st.length) 0) (mulL p st (entryH p (sz st.length) X i 0) (entryH p (sz st.length) Y 0 j)) 1)
  (mulL p st (entryH p (sz st.length) X i 1) (entryH p (sz st.length) Y 1 j)) 1) (mulL p st (entryH p (sz st.length) X i 2) (entryH p (sz st.length) Y 2 j)) 1
def halfH (p : Int) (st : List Int) (X Y : Her) (i j : Nat) : List Int := scaleL p (plusL p (eopH p st X Y i j) (eopH p st Y X i j) 1) (invL p 2)
def jordanH (p : Int) (st : List Int) (X Y : Her) : Her :=
 ⟨[(halfH p st X Y 0 0).getD 0 0, (halfH p st X Y 1 1).getD 0 0, (halfH p st X Y 2 2).getD 0 0], [halfH p st X Y 1 2, halfH p st X Y 2 0, halfH p st X Y 0 1]⟩
def cycL (p : Int) (st x y z : List Int) : Int := 2 * (mulL p st (mulL p st x y) z).getD 0 0 % p
def detH (p : Int) (st : List Int) (X : Her) : Int :=
 (X.d 0 * X.d 1 * X.d 2 + cycL p st (X.r 0) (X.r 1) (X.r 2) - X.d 0 * normL p st (X.r 0) - X.d 1 * normL p st (X.r 1) - X.d 2 * normL p st (X.r 2)) % p
def adjH (p : Int) (st : List Int) (X : Her) : Her :=
  ⟨[(X.d 1 * X.d 2 - normL p st (X.r 0)) % p, (X.d 2 * X.d 0 - normL p st (X.r 1)) % p, (X.d 0 * X.d 1 - normL p st (X.r 2)) % p],
   [plusL p (conjL p (mulL p st (X.r 1) (X.r 2))) (X.r 0) (-X.d 0), plusL p (conjL p (mulL p st (X.r 2) (X.r 0))) (X.r 1) (-X.d 1), plusL p (conjL p (mulL p st (X.r 0) (X.r 1))) (X.r 2) (-X.d 2)]⟩
def numsH (X : Her) : List Int := X.dg ++ X.up.flatten
def isZ (xs : List Int) : Bool := xs.all (· == 0)
def rankH (p : Int) (st : List Int) (X : Her) : Int := if isZ (numsH X) = true then 0 else if isZ (numsH (adjH p st X)) = true then 1 else if detH p st X = 0 then 2 else 3
def chk3 (p : Int) (st : List Int) (xss : List (List Int)) : Int :=
 if isD p st = true then (if 3 < st.length then 3 else if xss.all (isE p (sz st.length)) = true then 0 else 2) else 1
def chkH (p : Int) (st : List Int) (l : List Her) : Int :=
 if isD p st = true then (if 3 < st.length then 3 else if l.all (isH p (sz st.length)) = true then 0 else 2) else 1
open Go.RowKit
def chkE (p : Int) (st : List Int) (xss : List (List Int)) : Int := if isD p st = true then (if xss.all (isE p (sz st.length)) = true then 0 else 2) else 1
theorem boxed {w w1 : World} {u0 u1 : Value} {t : TypeId} (hb : Below (w.alloc (.cells #[u0, u1] t)).heap.size (w.alloc (.cells #[u0, u1] t)) w1) :
  w1.cell? ⟨w.heap.size, 0, none⟩ = some u0 /\ w1.cell? ⟨w.heap.size, 1, none⟩ = some u1 :=
 ⟨kept hb (by simp [go_sem]), kept hb (by simp [go_sem])⟩
theorem all_snoc {α : Type} {f : α -> Bool} {l : List α} {m : Nat} {x : α} (h : (l.take m).all f = true) (ht : l.take (m + 1) = l.take m ++ [x]) : (l.take (m + 1)).all f = f x := by
 rw [ht, List.all_append, h]; simp
theorem all_no {α : Type} {f : α -> Bool} {l : List α} {x : α} (hx : x ∈ l) (h : f x = false) : l.all f = false := by
 rw [List.all_eq_false]; exact ⟨x, hx, by simp [h]⟩
theorem dfield_c {p : Int} {a : Option Addr} {n c : Nat} {w : World} :
  Calls Tryz.prog 23 #[.agg #[.int .i64 p, .slice a n c]] w fun e w' => e = .returned (.int .i64 p) /\ Below w.heap.size w w' := by
 go_enter Tryz.func23, Tryz.ntmps23
 go_wp2
 go_ret
 exact ⟨rfl, bwT⟩
theorem size_c {p : Int} {a : Option Addr} {n c : Nat} {w : World} (hn : n <= 4) :
  Calls Tryz.prog 54 #[.agg #[.int .i64 p, .slice a n c]] w fun e w' => e = .returned (.int .i64 ((sz n : Nat) : Int)) /\ Below w.heap.size w w' := by
 rcases (show n = 0 \/ n = 1 \/ n = 2 \/ n = 3 \/ n = 4 by omega) with rfl | rfl | rfl | rfl | rfl
 all_goals
  go_enter Tryz.func54, Tryz.ntmps54
  go_wp2
  go_ret
  exact ⟨rfl, bwT⟩
theorem ssize_c {p : Int} {a : Option Addr} {n c : Nat} {w : World} (hn : n <= 4) :
  Calls Tryz.prog 62 #[.agg #[.int .i64 p, .slice a n c]] w fun e w' => e = .returned (.int .i64 ((sz n : Nat) : Int)) /\ Below w.heap.size w w' := by
 rcases (show n = 0 \/ n = 1 \/ n = 2 \/ n = 3 \/ n = 4 by omega) with rfl | rfl | rfl | rfl | rfl
 all_goals
  go_enter Tryz.func62, Tryz.ntmps62
  go_wp2
  go_ret
  exact ⟨rfl, bwT⟩
theorem pow_le {n : Nat} (h : n <= 4) : sz n <= 16 := Nat.le_trans (Nat.pow_le_pow_right (by decide) h) (by decide)
def hasL (xs : List Int) (z : Int) : Bool := xs.contains z
def Found (k : Int) (b : Bool) : Prop := decide (0 <= k) = b
theorem index_c {x : Value} {xs : List Int} {z : Int} {w : World} (hx : Sl w x xs) (hm : xs.length <= 1048576) :
  Calls Tryz.prog 124 #[x, .int .i64 z] w fun e w' => ∃ k : Int, e = .returned (.int .i64 k) /\ Found k (hasL xs z) /\ -1 <= k /\ k <= 1048576 /\ w = w' := by
 obtain ⟨a, c, rfl, rfl | ⟨b, off, rfl, hx⟩⟩ := hx
 ·go_enter Tryz.func124, Tryz.ntmps124
  go_wp2
  refine wp_loop_rounds 1 ?_; rw [rounds_succ]
  go_wp2; go_ret; exact ⟨_, rfl, (rfl : decide _ = _), by decide, by decide, rfl⟩
 go_enter Tryz.func124, Tryz.ntmps124
 go_wp2
 go_loop [8] (fun i => ∃ k : Nat, k <= xs.length /\ i = .int .i64 k /\ hasL (xs.take k) z = false) (fun i => xs.length - (intOf i).toNat)
 case atStart => exact ⟨0, Nat.zero_le _, rfl, rfl⟩
 case round =>
  obtain ⟨k, hk, rfl, hr⟩ := hrel
  by_cases hlt : k < xs.length
  ·obtain ⟨u, hu, hc, ht⟩ := hx.get hlt
   have H := Lib.hid (And.intro hr ht); clear hr ht
   by_cases huz : z = u
   ·subst huz
    have hcon : hasL xs z = true := by simpa [hasL] using hu
    have HC := Lib.hid hcon; clear hcon
    go_wp2
    go_ret
    exact ⟨_, rfl, by rw [HC.out]; unfold Found; simp, by omega, by omega, rfl⟩
   ·have hne : (z == u) = false := by simpa using huz
    go_wp2
    go_round
    case rel => exact ⟨k + 1, by omega, by go_num, by
     rw [H.out.2]
     have h1 := H.out.1
     simp only [hasL, List.contains_eq_mem, decide_eq_false_iff_not, List.mem_append, List.mem_singleton] at h1 ⊢
     rintro (h | h)
     ·exact h1 h
     ·exact huz h⟩
    case measure => simp [intOf]; omega
  ·have e : xs.take k = xs := take_all (by omega)
   rw [e] at hr
   have H := Lib.hid hr; clear hr e
   go_wp2
   go_ret
   exact ⟨_, rfl, by rw [H.out]; unfold Found; rfl, by decide, by decide, rfl⟩
theorem contains_c {x : Value} {xs : List Int} {z : Int} {w : World} (hx : Sl w x xs) (hm : xs.length <= 1048576) :
  Calls Tryz.prog 115 #[x, .int .i64 z] w fun e w' => e = .returned (.bool (hasL xs z)) /\ w = w' := by
 obtain ⟨a, c, rfl, _⟩ := id hx
 go_enter Tryz.func115, Tryz.ntmps115
 go_wp2_with (go_at_call 124; refine (index_c hx hm).mono ?_; rintro e w1 ⟨k, rfl, hk, hk1, hk2, rfl⟩; unfold Found at hk; have H := Lib.hid hk; clear hk)
 go_ret
 exact ⟨by rw [<- H.out]; rfl, rfl⟩
theorem isD_no1 {p : Int} {st : List Int} (h : prB p = false) : isD p st = false := by unfold isD; rw [h]; rfl
theorem isD_no2 {p : Int} {st : List Int} (h : ¬ st.length <= 4) : isD p st = false := by unfold isD; simp [h]
theorem isD_yes {p : Int} {st : List Int} (h : prB p = true) (h2 : st.length <= 4) : isD p st = (isL p st && !hasL st 0) := by
 unfold isD
 rw [h, decide_eq_true h2, Bool.true_and, Bool.true_and, Bool.eq_iff_iff]
 unfold isL inR hasL
 simp only [List.all_eq_true, Bool.and_eq_true, decide_eq_true_eq, Bool.not_eq_true', List.contains_eq_mem, decide_eq_false_iff_not]
 constructor
 ·intro k
  exact ⟨fun x hx => by have := k x hx; omega, fun h0 => by have := k 0 h0; omega⟩
 ·rintro ⟨k, h0⟩ x hx
  have := k x hx
  have : x ≠ 0 := fun e => h0 (e ▸ hx)
  omega
theorem isdbl_c {p : Int} {x : Value} {st : List Int} {w : World} (hx : Sl w x st) (hm : st.length <= 1048576) :
  Calls Tryz.prog 91 #[.agg #[.int .i64 p, x]] w fun e w' => e = .returned (.bool (isD p st)) /\ Below w.heap.size w w' := by
 obtain ⟨s, hs⟩ : ∃ s, s = isD p st := ⟨_, rfl⟩
 rw [<- hs]
 have H := Lib.hid hs; clear hs
 have hw : Sl ((w.alloc (.cells #[.int .i64 p, x] 26)).drew) x st := hx.below bwT
 obtain ⟨a, c, rfl, _⟩ := hx
 go_enter Tryz.func91, Tryz.ntmps91
 go_wp2
 refine region_flow [(true, [(0, 0), (1, 1), (2, 3)]), (true, [(3, 0), (4, 0), (5, 1), (6, 0), (7, 0), (8, 0), (9, 0), (10, 1), (12, 0), (13, 1), (11, 3)]), (false, [(14, 4), (15, 0), (16, 0), (17, 0), (18, 1), (19, 4), (20, 0), (21, 0), (22, 0)])] (by kernel_rfl) ?_
 refine norm_K fun K hK => ?_
 change wpList _ _ _ [_, _, _] _ _
 go_wp2_with fail
 refine isPrime_c.mono ?_; rintro e w1 ⟨rfl, rfl⟩
 cases h1 : prB p
 ·obtain rfl : s = false := by rw [H.out, isD_no1 h1]
  go_wp2_with fail
  first | (refine hK _ _ ⟨Below.refl _ _, ?_⟩; clear hK K) | refine ⟨Below.refl _ _, ?_⟩
  refine norm_K fun K hK => ?_
  change wpList _ _ _ [_, _, _, _, _, _, _, _, _, _, _] _ _
  go_wp2_with fail
  first | (refine hK _ _ ⟨Below.refl _ _, ?_⟩; clear hK K) | refine ⟨Below.refl _ _, ?_⟩
  refine norm_K fun K hK => ?_
  change wpList _ _ _ [_, _, _, _, _, _, _, _, _] _ _
  go_wp2_with fail
  first | (refine hK _ _ ⟨rfl, ?_⟩; clear hK K) | refine ⟨rfl, ?_⟩
  go_wp2
  go_ret
  exact ⟨rfl, bwT⟩
 have hp := prB_iff.1 h1
 have hp1 := hp.lo
 have hp2 := hp.hi
 by_cases h2 : st.length <= 4
 ·have HY := Lib.hid (isD_yes h1 h2)
  have h2' : decide ((st.length : Int) <= 4) = true := by simp; omega
  go_wp2_with fail
  first | (refine hK _ _ ⟨Below.refl _ _, ?_⟩; clear hK K) | refine ⟨Below.refl _ _, ?_⟩
  refine norm_K fun K hK => ?_
  change wpList _ _ _ [_, _, _, _, _, _, _, _, _, _, _] _ _
  go_wp2_with fail
  refine dfield_c.mono ?_; rintro e w1 ⟨rfl, hb⟩
  go_wp2_with fail
  first | (refine hK _ _ ⟨hb, ?_⟩; clear hK K) | refine ⟨hb, ?_⟩
  refine norm_K fun K hK => ?_
  change wpList _ _ _ [_, _, _, _, _, _, _, _, _] _ _
  have d1 := kept hb (b := w.heap.size) (o := 1) (v := .slice a st.length c) (by simp [go_sem])
  go_wp2_with fail
  refine (is_c (by omega) (by omega) (hw.below hb) hm).mono ?_; rintro e w2 ⟨rfl, rfl⟩
  cases h3 : isL p st
  ·obtain rfl : s = false := by rw [H.out, HY.out, h3]; rfl
   go_wp2_with fail
   first | (refine hK _ _ ⟨rfl, ?_⟩; clear hK K) | refine ⟨rfl, ?_⟩
   go_wp2
   go_ret
   exact ⟨rfl, bwC bwT hb⟩
  ·obtain rfl : s = !hasL st 0 := by rw [H.out, HY.out, h3]; rfl
   go_wp2_with fail
   refine (contains_c (hw.below hb) hm).mono ?_; rintro e w2 ⟨rfl, rfl⟩
   go_wp2_with fail
   first | (refine hK _ _ ⟨rfl, ?_⟩; clear hK K) | refine ⟨rfl, ?_⟩
   go_wp2
   go_ret
   exact ⟨rfl, bwC bwT hb⟩
 ·obtain rfl : s = false := by rw [H.out, isD_no2 h2]
  have h2' : decide ((st.length : Int) <= 4) = false := by simp; omega
  go_wp2_with fail
  first | (refine hK _ _ ⟨Below.refl _ _, ?_⟩; clear hK K) | refine ⟨Below.refl _ _, ?_⟩
  refine norm_K fun K hK => ?_
  change wpList _ _ _ [_, _, _, _, _, _, _, _, _, _, _] _ _
  go_wp2_with fail
  first | (refine hK _ _ ⟨Below.refl _ _, ?_⟩; clear hK K) | refine ⟨Below.refl _ _, ?_⟩
  refine norm_K fun K hK => ?_
  change wpList _ _ _ [_, _, _, _, _, _, _, _, _] _ _
  go_wp2_with fail
  first | (refine hK _ _ ⟨rfl, ?_⟩; clear hK K) | refine ⟨rfl, ?_⟩
  go_wp2
  go_ret
  exact ⟨rfl, bwT⟩
theorem chkel1_c {p : Int} {x y : Value} {q : Nat} {st xs : List Int} {w : World} (h0 : w.cell? ⟨q, 0, none⟩ = some (.int .i64 p)) (h1 : w.cell? ⟨q, 1, none⟩ = some x) (hx : El w x st) (hy : El w y xs) (hl : st.length <= 4) (hm : xs.length <= 1048576) (hp : 0 <= p) (hp2 : p <= 1000) :
  Calls Tryz.prog 117 #[y, .pointer (some ⟨q, 0, none⟩)] w fun e w' => e = .returned (.bool (!isE p (sz st.length) xs)) /\ Below w.heap.size w w' := by
 obtain ⟨a, c, rfl, _⟩ := id hx.op
 obtain ⟨a2, c2, rfl, _⟩ := id hy.op
 have hpw := pow_le hl
 by_cases hln : xs.length = sz st.length
 ·have e : isE p (sz st.length) xs = isL p xs := by simp [isE, hln]
  have E := Lib.hid e; clear e
  have hne : ((xs.length : Int) != ((sz st.length : Nat) : Int)) = false := by rw [hln]; simp
  have HN := Lib.hid hln; clear hln
  cases hv : isL p xs
  all_goals
   go_enter Tryz.func117, Tryz.ntmps117
   go_wp2_with fail
   refine (size_c hl).mono ?_; rintro e w1 ⟨rfl, hb1⟩
   have h0 := kept hb1 h0; have h1 := kept hb1 h1; have hy := hy.below hb1
   go_wp2_with fail
   refine dfield_c.mono ?_; rintro e w2 ⟨rfl, hb2⟩
   have h0 := kept hb2 h0; have h1 := kept hb2 h1; have hy := hy.below hb2
   go_wp2_with fail
   refine (is_c hp hp2 hy.sl hm).mono ?_; rintro e w3 ⟨rfl, rfl⟩
   simp only [hv]
   go_wp2_with fail
   go_ret
   exact ⟨by rw [E.out, hv]; rfl, bwT⟩
 ·have e : isE p (sz st.length) xs = false := by simp [isE, hln]
  have E := Lib.hid e; clear e
  have hne : ((xs.length : Int) != ((sz st.length : Nat) : Int)) = true := by rw [bne_iff_ne]; omega
  go_enter Tryz.func117, Tryz.ntmps117
  go_wp2_with fail
  refine (size_c hl).mono ?_; rintro e w1 ⟨rfl, hb1⟩
  go_wp2_with fail
  go_ret
  exact ⟨by rw [E.out]; rfl, bwT⟩
theorem idxel_c {p : Int} {x l : Value} {q : Nat} {st : List Int} {xss : List (List Int)} {w : World} (h0 : w.cell? ⟨q, 0, none⟩ = some (.int .i64 p)) (h1 : w.cell? ⟨q, 1, none⟩ = some x) (hx : El w x st) (hlen : st.length <= 4) (hl : Re w l xss)
  (hm1 : xss.length <= 1048576) (hm : ∀ xs ∈ xss, xs.length <= 1048576) (hp : 0 <= p) (hp2 : p <= 1000) :
  Calls Tryz.prog 125 #[l, .func (Fn.func 117) #[] #[.pointer (some ⟨q, 0, none⟩)]] w fun e w' =>
   ∃ k : Int, e = .returned (.int .i64 k) /\ Found k (!xss.all (isE p (sz st.length))) /\ -1 <= k /\ k <= 1048576 /\ Below w.heap.size w w' := by
 obtain ⟨a, c, rfl, _, _, rfl | ⟨b, off, rfl, hl⟩⟩ := hl
 ·go_enter Tryz.func125, Tryz.ntmps125
  go_wp2
  refine wp_loop_rounds 1 ?_; rw [rounds_succ]
  go_wp2; go_ret; exact ⟨_, rfl, (rfl : decide _ = _), by decide, by decide, Below.refl _ _⟩
 go_enter Tryz.func125, Tryz.ntmps125
 go_wp2
 go_loopw [8] (fun i wr => ∃ k : Nat, k <= xss.length /\ i = .int .i64 k /\ (xss.take k).all (isE p (sz st.length)) = true /\ Below w.heap.size w wr) (fun i _ => xss.length - (intOf i).toNat)
 case atStart => exact ⟨0, Nat.zero_le _, rfl, rfl, Below.refl _ _⟩
 case round =>
  obtain ⟨k, hk, rfl, hr, hb⟩ := hrel
  by_cases hlt : k < xss.length
  ·obtain ⟨a1, c1, xs, hxs, hc0, hs0, ht⟩ := Re.get hl hlt
   have hc := kept hb hc0
   have hs := hs0.below hb
   have g0 := kept hb h0
   have g1 := kept hb h1
   have gx := hx.below hb
   have hmx := hm xs hxs
   have H := Lib.hid (And.intro (all_snoc hr ht) (@all_no _ (isE p (sz st.length)) _ _ hxs)); clear hr ht
   cases hv : isE p (sz st.length) xs
   ·go_wp2_with (go_at_call 117; refine (chkel1_c g0 g1 gx hs hlen hmx hp hp2).mono ?_; rintro e w1 ⟨rfl, hb1⟩; simp only [hv])
    go_ret
    exact ⟨_, rfl, by rw [H.out.2 hv]; unfold Found; simp, by omega, by omega, bwC hb hb1⟩
   ·go_wp2_with (go_at_call 117; refine (chkel1_c g0 g1 gx hs hlen hmx hp hp2).mono ?_; rintro e w1 ⟨rfl, hb1⟩; simp only [hv])
    go_roundw
    case rel => exact ⟨k + 1, by omega, by go_num, by rw [H.out.1, hv], bwC hb hb1⟩
    case measure => simp [intOf]; omega
  ·have e : xss.take k = xss := take_all (by omega)
   rw [e] at hr
   have H := Lib.hid hr; clear hr e
   go_wp2
   go_ret
   exact ⟨_, rfl, by rw [H.out]; unfold Found; rfl, by decide, by decide, hb⟩
theorem conel_c {p : Int} {x l : Value} {q : Nat} {st : List Int} {xss : List (List Int)} {w : World} (h0 : w.cell? ⟨q, 0, none⟩ = some (.int .i64 p)) (h1 : w.cell? ⟨q, 1, none⟩ = some x) (hx : El w x st) (hlen : st.length <= 4) (hl : Re w l xss)
  (hm1 : xss.length <= 1048576) (hm : ∀ xs ∈ xss, xs.length <= 1048576) (hp : 0 <= p) (hp2 : p <= 1000) :
  Calls Tryz.prog 116 #[l, .func (Fn.func 117) #[] #[.pointer (some ⟨q, 0, none⟩)]] w fun e w' =>
   e = .returned (.bool (!xss.all (isE p (sz st.length)))) /\ Below w.heap.size w w' := by
 obtain ⟨a2, c2, rfl, _⟩ := id hl
 go_enter Tryz.func116, Tryz.ntmps116
 go_wp2_with (go_at_call 125; refine (idxel_c h0 h1 hx hlen hl hm1 hm hp hp2).mono ?_; rintro e w1 ⟨k, rfl, hk, hk1, hk2, hb1⟩; unfold Found at hk; have H := Lib.hid hk; clear hk)
 go_ret
 exact ⟨by rw [<- H.out]; rfl, hb1⟩
theorem chkel_c {p : Int} {x l : Value} {st : List Int} {xss : List (List Int)} {w : World} (hx : El w x st) (hl : Re w l xss) (hm : st.length <= 1048576) (hm1 : xss.length <= 1048576) (hm2 : ∀ xs ∈ xss, xs.length <= 1048576) :
  Calls Tryz.prog 92 #[.agg #[.int .i64 p, x], l] w fun e w' => e = .returned (.int .i64 (chkE p st xss)) /\ Below w.heap.size w w' := by
 obtain ⟨a, c, rfl, _⟩ := id hx.op
 obtain ⟨a2, c2, rfl, _⟩ := id hl
 have hx1 := hx.below (w' := w.alloc (.cells #[.int .i64 p, .slice a st.length c] 26)) bwT
 have hl1 := hl.below (w' := w.alloc (.cells #[.int .i64 p, .slice a st.length c] 26)) bwT
 obtain ⟨r, hr⟩ : ∃ r, r = chkE p st xss := ⟨_, rfl⟩
 rw [<- hr]
 unfold chkE at hr
 have H := Lib.hid hr; clear hr
 cases h1 : isD p st
 ·obtain rfl : r = 1 := by rw [H.out, h1]; rfl
  go_enter Tryz.func92, Tryz.ntmps92
  go_wp2_with (go_at_call 91; refine (isdbl_c hx1.sl hm).mono ?_; rintro e w1 ⟨rfl, hb1⟩; simp only [h1])
  go_ret
  exact ⟨rfl, bwT⟩
 ·obtain ⟨hp, hl4, _⟩ := isD_iff.1 h1
  have hp1 := hp.lo
  have hp2 := hp.hi
  cases h2 : xss.all (isE p (sz st.length))
  ·obtain rfl : r = 2 := by rw [H.out, h1, h2]; rfl
   go_enter Tryz.func92, Tryz.ntmps92
   go_wp2_with (first
    | (go_at_call 91; refine (isdbl_c hx1.sl hm).mono ?_; rintro e w1 ⟨rfl, hb1⟩; simp only [h1]; obtain ⟨d0, d1⟩ := boxed hb1)
    | (go_at_call 116; refine (conel_c d0 d1 (hx1.below hb1) hl4 (hl1.below hb1) hm1 hm2 (by omega) (by omega)).mono ?_; rintro e w2 ⟨rfl, hb2⟩; simp only [h2]))
   go_ret
   exact ⟨rfl, bwT⟩
  ·obtain rfl : r = 0 := by rw [H.out, h1, h2]; rfl
   go_enter Tryz.func92, Tryz.ntmps92
   go_wp2_with (first
    | (go_at_call 91; refine (isdbl_c hx1.sl hm).mono ?_; rintro e w1 ⟨rfl, hb1⟩; simp only [h1]; obtain ⟨d0, d1⟩ := boxed hb1)
    | (go_at_call 116; refine (conel_c d0 d1 (hx1.below hb1) hl4 (hl1.below hb1) hm1 hm2 (by omega) (by omega)).mono ?_; rintro e w2 ⟨rfl, hb2⟩; simp only [h2]))
   go_ret
   exact ⟨rfl, bwT⟩
theorem connil_c {f : Value} {w : World} :
  Calls Tryz.prog 93 #[.slice none 0 0, f] w fun e w' => e = .returned (.bool false) /\ w = w' := by
 have h : ∀ (w : World), Calls Tryz.prog 118 #[.slice none 0 0, f] w fun e w' => e = .returned (.int .i64 (-1)) /\ w = w' := fun w => by
  go_enter Tryz.func118, Tryz.ntmps118
  go_wp2
  refine wp_loop_rounds 1 ?_; rw [rounds_succ]
  go_wp2; go_ret; exact ⟨rfl, rfl⟩
 go_enter Tryz.func93, Tryz.ntmps93
 go_wp2_with (go_at_call 118; refine (h _).mono ?_; rintro e w1 ⟨rfl, rfl⟩)
 go_ret
 exact ⟨rfl, rfl⟩
theorem chk3_no {p : Int} {st : List Int} {xss : List (List Int)} (h : isD p st = false) : chk3 p st xss = 1 := by unfold chk3; rw [h]; rfl
theorem chk3_lim {p : Int} {st : List Int} {xss : List (List Int)} (h : isD p st = true) (h2 : 3 < st.length) : chk3 p st xss = 3 := by unfold chk3; rw [h, if_pos rfl, if_pos h2]
theorem chk3_ran {p : Int} {st : List Int} {xss : List (List Int)} (h : isD p st = true) (h2 : ¬ 3 < st.length) (h3 : xss.all (isE p (sz st.length)) = false) : chk3 p st xss = 2 := by unfold chk3; rw [h, if_pos rfl, if_neg h2, h3]; rfl
theorem chk3_ok {p : Int} {st : List Int} {xss : List (List Int)} (h : isD p st = true) (h2 : ¬ 3 < st.length) (h3 : xss.all (isE p (sz st.length)) = true) : chk3 p st xss = 0 := by unfold chk3; rw [h, if_pos rfl, if_neg h2, h3]; rfl
theorem chkE_no {p : Int} {st : List Int} {xss : List (List Int)} (h : isD p st = false) : chkE p st xss = 1 := by unfold chkE; rw [h]; rfl
theorem chkE_ran {p : Int} {st : List Int} {xss : List (List Int)} (h : isD p st = true) (h3 : xss.all (isE p (sz st.length)) = false) : chkE p st xss = 2 := by unfold chkE; rw [h, if_pos rfl, h3]; rfl
theorem chkE_ok {p : Int} {st : List Int} {xss : List (List Int)} (h : isD p st = true) (h3 : xss.all (isE p (sz st.length)) = true) : chkE p st xss = 0 := by unfold chkE; rw [h, if_pos rfl, h3]; rfl
theorem chk3_c {p : Int} {x l : Value} {st : List Int} {xss : List (List Int)} {w : World} (hx : El w x st) (hl : Re w l xss) (hm : st.length <= 1048576) (hm1 : xss.length <= 1048576) (hm2 : ∀ xs ∈ xss, xs.length <= 1048576) :
  Calls Tryz.prog 49 #[.agg #[.int .i64 p, x], l, .slice none 0 0] w fun e w' => e = .returned (.int .i64 (chk3 p st xss)) /\ Below w.heap.size w w' := by
 obtain ⟨a, c, rfl, _⟩ := id hx.op
 obtain ⟨a2, c2, rfl, _⟩ := id hl
 have hx1 := hx.below (w' := w.alloc (.cells #[.int .i64 p, .slice a st.length c] 26)) bwT
 have hl1 := hl.below (w' := w.alloc (.cells #[.int .i64 p, .slice a st.length c] 26)) bwT
 cases h1 : isD p st
 ·rw [chk3_no h1]
  go_enter Tryz.func49, Tryz.ntmps49
  go_wp2_with (go_at_call 91; refine (isdbl_c hx1.sl hm).mono ?_; rintro e w1 ⟨rfl, hb1⟩; simp only [h1])
  go_ret
  exact ⟨rfl, bwT⟩
 by_cases h2 : 3 < st.length
 ·rw [chk3_lim h1 h2]
  go_enter Tryz.func49, Tryz.ntmps49
  go_wp2_with (go_at_call 91; refine (isdbl_c hx1.sl hm).mono ?_; rintro e w1 ⟨rfl, hb1⟩; simp only [h1]; obtain ⟨d0, d1⟩ := boxed hb1)
  go_ret
  exact ⟨rfl, bwT⟩
 cases h3 : xss.all (isE p (sz st.length))
 ·have hv := chkE_ran h1 h3
  rw [chk3_ran h1 h2 h3]
  go_enter Tryz.func49, Tryz.ntmps49
  go_wp2_with (first
   | (go_at_call 91; refine (isdbl_c hx1.sl hm).mono ?_; rintro e w1 ⟨rfl, hb1⟩; simp only [h1]; obtain ⟨d0, d1⟩ := boxed hb1)
   | (go_at_call 92; refine (chkel_c (hx1.below hb1) (hl1.below hb1) hm hm1 hm2).mono ?_; rintro e w3 ⟨rfl, hb3⟩; simp only [hv]))
  go_ret
  exact ⟨rfl, bwT⟩
 ·have hv := chkE_ok h1 h3
  rw [chk3_ok h1 h2 h3]
  go_enter Tryz.func49, Tryz.ntmps49
  go_wp2_with (first
   | (go_at_call 91; refine (isdbl_c hx1.sl hm).mono ?_; rintro e w1 ⟨rfl, hb1⟩; simp only [h1]; obtain ⟨d0, d1⟩ := boxed hb1)
   | (go_at_call 92; refine (chkel_c (hx1.below hb1) (hl1.below hb1) hm hm1 hm2).mono ?_; rintro e w3 ⟨rfl, hb3⟩; simp only [hv])
   | (go_at_call 93; refine connil_c.mono ?_; rintro e w4 ⟨rfl, rfl⟩))
  go_ret
  exact ⟨rfl, bwT⟩
end Go.Proofs.YtilgbekffbphgaaGreat
