import Derived.Test.YteaaepbnoiecoaaGreatJar
import Derived.Test.YteaaepbnoiecoaaGreatJak
namespace Go.Proofs.YteaaepbnoiecoaaGreat
open Go.RowKit
def commL (p : Int) (st x y : List Int) : List Int := plusL p (mulL p st x y) (mulL p st y x) (p - 1)
def assocL (p : Int) (st x y z : List Int) : List Int := plusL p (mulL p st (mulL p st x y) z) (mulL p st x (mulL p st y z)) (p - 1)
def inCol (p : Int) (st x y : List Int) (i : Nat) : List Int := plusL p (commL p st (commL p st x y) (oneL (sz st.length) i)) (scaleL p (assocL p st x y (oneL (sz st.length) i)) 3) (p - 1)
def inL (p : Int) (st x y : List Int) (k : Nat) : List (List Int) := (List.range k).map (inCol p st x y)
def Apt2 (y v : Value) : Prop := ∀ b off sp n c, y = .slice (some ⟨b, off, sp⟩) n c -> v.ownBlock ≠ some b
theorem grown_el {W w' : World} {B g' : Nat} {v nv y : Value} {ys : List Int} (hn : nv.ownBlock = some g') (hb : Below B W w') (hg : W.grownBy w' v.ownBlock) (hge : v.ownBlock = some g' \/ g' = W.heap.size + 1) (hy : ElR W B y ys) (hne : Apt2 y v) :
  ElR w' B y ys /\ Apt2 y nv := by
 refine ⟨hy.keep hb.size fun b' off sp n c e => ?_, fun b off sp n c e => ?_⟩
 ·exact hg.block b' (hy.2 _ _ _ _ _ e).2 (fun e2 => (hne _ _ _ _ _ e) e2.symm)
 ·rw [hn]
  rcases hge with e2 | e2
  ·rw [<- e2]; exact hne b off sp n c e
  ·have := (hy.2 _ _ _ _ _ e).2
   intro e3; cases e3; omega
section
variable {p : Int} {s x y z : Value} {st xs ys zs : List Int} {w : World}
theorem comm_ev (hd : Dok p st) (ex : Ev p (sz st.length) xs) (ey : Ev p (sz st.length) ys) : Ev p (sz st.length) (commL p st xs ys) := by
 have h1 : 1 <= p := by have := hd.hp.lo; omega
 exact Ev.plus h1 (mulL_ev h1 ex ey) (mulL_ev h1 ey ex)
theorem assoc_ev (hd : Dok p st) (ex : Ev p (sz st.length) xs) (ey : Ev p (sz st.length) ys) (ez : Ev p (sz st.length) zs) : Ev p (sz st.length) (assocL p st xs ys zs) := by
 have h1 : 1 <= p := by have := hd.hp.lo; omega
 exact Ev.plus h1 (mulL_ev h1 (mulL_ev h1 ex ey) ez) (mulL_ev h1 ex (mulL_ev h1 ey ez))
theorem inCol_ev (hd : Dok p st) (ex : Ev p (sz st.length) xs) (ey : Ev p (sz st.length) ys) (i : Nat) : Ev p (sz st.length) (inCol p st xs ys i) := by
 have h1 : 1 <= p := by have := hd.hp.lo; omega
 have h2 : 2 <= p := by have := hd.hp.lo; omega
 have e1 : Ev p (sz st.length) (oneL (sz st.length) i) := Ev.one h2
 exact Ev.plus h1 (comm_ev hd (comm_ev hd ex ey) e1) (Ev.scale h1 (assoc_ev hd ex ey e1))
theorem scomm_c (hd : Dok p st) (hs : El w s st) (hx : El w x xs) (hy : El w y ys) (ex : Ev p (sz st.length) xs) (ey : Ev p (sz st.length) ys) :
  Calls Tryz.prog 118 #[.agg #[.int .i64 p, s], x, y] w fun e w' => ∃ v, e = .returned v /\ FrI w' w.heap.size v (commL p st xs ys) /\ Below w.heap.size w w' := by
 have h1 : 1 <= p := by have := hd.hp.lo; omega
 have h13 := hd.hp.hi; have hsz := sz_le hd
 have e1 := mulL_ev (p := p) (st := st) h1 ex ey; have e2 := mulL_ev (p := p) (st := st) h1 ey ex
 have hmin := fun (W : World) x y (hx : Sl W x (mulL p st xs ys)) hy => sminus_c (w := W) (x := x) (y := y) h1 (by omega) hx hy (e1.2.sm (by omega) (by omega)) (e2.2.sm (by omega) (by omega)) (by rw [e1.1, e2.1]) (by rw [e1.1]; omega)
 unfold commL
 obtain ⟨U, hU⟩ : ∃ U, U = mulL p st xs ys := ⟨_, rfl⟩; obtain ⟨V, hV⟩ : ∃ V, V = mulL p st ys xs := ⟨_, rfl⟩
 rw [<- hU, <- hV]; simp only [<- hU, <- hV] at hmin
 have HU := Lib.hid hU; have HV := Lib.hid hV; clear hU hV e1 e2
 obtain ⟨a, c, rfl, _⟩ := id hs.op
 obtain ⟨a1, c1, rfl, _⟩ := id hx.op
 obtain ⟨a2, c2, rfl, _⟩ := id hy.op
 go_enter Tryz.func118, Tryz.ntmps118
 have hb0 : Below w.heap.size w (w.alloc (.cells #[.int .i64 p, .slice a st.length c] 26)) := bwT
 have hs := hs.below hb0; have hx := hx.below hb0; have hy := hy.below hb0
 have d0 : (w.alloc (.cells #[.int .i64 p, .slice a st.length c] 26)).cell? ⟨w.heap.size, 0, none⟩ = some (.int .i64 p) := by simp [go_sem]
 have d1 : (w.alloc (.cells #[.int .i64 p, .slice a st.length c] 26)).cell? ⟨w.heap.size, 1, none⟩ = some (.slice a st.length c) := by simp [go_sem]
 go_wp2_with fail
 refine region_flow [(false, [(0, 0), (1, 1), (2, 1), (3, 0), (4, 0), (6, 1), (7, 0), (8, 0), (5, 5)]), (false, [(9, 5)]), (false, [(10, 4), (11, 0)])] (by kernel_rfl) ?_
 refine norm_K fun K hK => ?_
 change wpList _ _ _ [_, _, _, _, _, _, _, _, _] _ _
 have hb1 : Below (w.alloc (.cells #[.int .i64 p, .slice a st.length c] 26)).heap.size (w.alloc (.cells #[.int .i64 p, .slice a st.length c] 26)) (w.alloc (.cells #[.int .i64 p, .slice a st.length c] 26)).drew := bwT
 have hs := hs.below hb1; have hx := hx.below hb1; have hy := hy.below hb1; have d0 := kept hb1 d0; have d1 := kept hb1 d1
 generalize (w.alloc (.cells #[.int .i64 p, .slice a st.length c] 26)).drew = wq at *
 go_wp2_with fail
 refine (stimes_c hd hs hx hy ex ey).mono ?_; rintro e w2 ⟨u, rfl, hu, hb2⟩
 have hs := hs.below hb2; have hx := hx.below hb2; have hy := hy.below hb2; have d0 := kept hb2 d0; have d1 := kept hb2 d1
 rw [<- HU.out] at hu
 go_wp2_with fail
 have hz0 : Below wq.heap.size wq w2 := bwT
 first | (refine hK _ _ ⟨hz0, ?_⟩; clear hK K) | refine ⟨hz0, ?_⟩
 clear hz0
 refine norm_K fun K hK => ?_
 change wpList _ _ _ [_] _ _
 go_wp2_with fail
 refine (stimes_c hd hs hy hx ey ex).mono ?_; rintro e w3 ⟨v, rfl, hv, hb3⟩
 have hs := hs.below hb3; have hx := hx.below hb3; have hy := hy.below hb3; have d0 := kept hb3 d0; have d1 := kept hb3 d1; have hu := hu.below hb3
 rw [<- HV.out] at hv
 go_wp2_with fail
 have hz1 : Below wq.heap.size wq w3 := bwT
 first | (refine hK _ _ ⟨hz1, ?_⟩; clear hK K) | refine ⟨hz1, ?_⟩
 clear hz1
 refine norm_K fun K hK => ?_
 change wpList _ _ _ [_, _] _ _
 go_wp2_with fail
 refine (hmin _ _ _ hu.sl hv.sl).mono ?_; rintro e w4 ⟨t, rfl, ht, hb4⟩
 have hs := hs.below hb4; have hx := hx.below hb4; have hy := hy.below hb4; have d0 := kept hb4 d0; have d1 := kept hb4 d1; have hu := hu.below hb4; have hv := hv.below hb4
 go_wp2_with fail
 first | (refine hK _ _ ⟨rfl, ?_⟩; clear hK K) | refine ⟨rfl, ?_⟩
 go_wp2_with fail
 go_ret
 exact ⟨_, rfl, ht.more (below_le bwT), bwT⟩
theorem sassoc_c (hd : Dok p st) (hs : El w s st) (hx : El w x xs) (hy : El w y ys) (hz : El w z zs) (ex : Ev p (sz st.length) xs) (ey : Ev p (sz st.length) ys) (ez : Ev p (sz st.length) zs) :
  Calls Tryz.prog 120 #[.agg #[.int .i64 p, s], x, y, z] w fun e w' => ∃ v, e = .returned v /\ FrI w' w.heap.size v (assocL p st xs ys zs) /\ Below w.heap.size w w' := by
 have h1 : 1 <= p := by have := hd.hp.lo; omega
 have h13 := hd.hp.hi; have hsz := sz_le hd
 have eU := mulL_ev (p := p) (st := st) h1 ex ey; have eV := mulL_ev (p := p) (st := st) h1 ey ez
 have e1 := mulL_ev (p := p) (st := st) h1 eU ez; have e2 := mulL_ev (p := p) (st := st) h1 ex eV
 have hmin := fun (W : World) x y (hx : Sl W x (mulL p st (mulL p st xs ys) zs)) hy => sminus_c (w := W) (x := x) (y := y) h1 (by omega) hx hy (e1.2.sm (by omega) (by omega)) (e2.2.sm (by omega) (by omega)) (by rw [e1.1, e2.1]) (by rw [e1.1]; omega)
 unfold assocL
 obtain ⟨U, hU⟩ : ∃ U, U = mulL p st xs ys := ⟨_, rfl⟩; obtain ⟨V, hV⟩ : ∃ V, V = mulL p st ys zs := ⟨_, rfl⟩
 rw [<- hU] at eU; rw [<- hV] at eV
 simp only [<- hU, <- hV] at hmin ⊢
 obtain ⟨S, hS⟩ : ∃ S, S = mulL p st U zs := ⟨_, rfl⟩; obtain ⟨R, hR⟩ : ∃ R, R = mulL p st xs V := ⟨_, rfl⟩
 simp only [<- hS, <- hR] at hmin ⊢
 have HU := Lib.hid hU; have HV := Lib.hid hV; have HS := Lib.hid hS; have HR := Lib.hid hR; clear hU hV hS hR e1 e2
 obtain ⟨a, c, rfl, _⟩ := id hs.op
 obtain ⟨a1, c1, rfl, _⟩ := id hx.op
 obtain ⟨a2, c2, rfl, _⟩ := id hy.op
 obtain ⟨a3, c3, rfl, _⟩ := id hz.op
 go_enter Tryz.func120, Tryz.ntmps120
 have hb0 : Below w.heap.size w (w.alloc (.cells #[.int .i64 p, .slice a st.length c] 26)) := bwT
 have hs := hs.below hb0; have hx := hx.below hb0; have hy := hy.below hb0; have hz := hz.below hb0
 have d0 : (w.alloc (.cells #[.int .i64 p, .slice a st.length c] 26)).cell? ⟨w.heap.size, 0, none⟩ = some (.int .i64 p) := by simp [go_sem]
 have d1 : (w.alloc (.cells #[.int .i64 p, .slice a st.length c] 26)).cell? ⟨w.heap.size, 1, none⟩ = some (.slice a st.length c) := by simp [go_sem]
 go_wp2_with fail
 refine region_flow [(false, [(0, 0), (1, 1), (2, 1), (3, 1), (4, 0), (5, 0), (7, 0), (9, 1), (10, 0), (11, 1), (12, 0), (13, 0), (6, 5)]), (false, [(8, 5)]), (false, [(14, 5)]), (false, [(15, 5)]), (false, [(16, 4), (17, 0)])] (by kernel_rfl) ?_
 refine norm_K fun K hK => ?_
 change wpList _ _ _ [_, _, _, _, _, _, _, _, _, _, _, _, _] _ _
 have hb1 : Below (w.alloc (.cells #[.int .i64 p, .slice a st.length c] 26)).heap.size (w.alloc (.cells #[.int .i64 p, .slice a st.length c] 26)) (w.alloc (.cells #[.int .i64 p, .slice a st.length c] 26)).drew := bwT
 have hs := hs.below hb1; have hx := hx.below hb1; have hy := hy.below hb1; have hz := hz.below hb1; have d0 := kept hb1 d0; have d1 := kept hb1 d1
 generalize (w.alloc (.cells #[.int .i64 p, .slice a st.length c] 26)).drew = wq at *
 go_wp2_with fail
 refine (stimes_c hd hs hx hy ex ey).mono ?_; rintro e w2 ⟨u, rfl, hu, hb2⟩
 have hs := hs.below hb2; have hx := hx.below hb2; have hy := hy.below hb2; have hz := hz.below hb2; have d0 := kept hb2 d0; have d1 := kept hb2 d1
 rw [<- HU.out] at hu
 go_wp2_with fail
 have hz0 : Below wq.heap.size wq w2 := bwT
 first | (refine hK _ _ ⟨hz0, ?_⟩; clear hK K) | refine ⟨hz0, ?_⟩
 clear hz0
 refine norm_K fun K hK => ?_
 change wpList _ _ _ [_] _ _
 go_wp2_with fail
 refine (stimes_c hd hs hu.el hz eU ez).mono ?_; rintro e w3 ⟨r, rfl, hr, hb3⟩
 have hs := hs.below hb3; have hx := hx.below hb3; have hy := hy.below hb3; have hz := hz.below hb3; have d0 := kept hb3 d0; have d1 := kept hb3 d1; have hu := hu.below hb3
 rw [<- HS.out] at hr
 go_wp2_with fail
 have hz1 : Below wq.heap.size wq w3 := bwT
 first | (refine hK _ _ ⟨hz1, ?_⟩; clear hK K) | refine ⟨hz1, ?_⟩
 clear hz1
 refine norm_K fun K hK => ?_
 change wpList _ _ _ [_] _ _
 go_wp2_with fail
 refine (stimes_c hd hs hy hz ey ez).mono ?_; rintro e w4 ⟨v, rfl, hv, hb4⟩
 have hs := hs.below hb4; have hx := hx.below hb4; have hy := hy.below hb4; have hz := hz.below hb4; have d0 := kept hb4 d0; have d1 := kept hb4 d1; have hu := hu.below hb4; have hr := hr.below hb4
 rw [<- HV.out] at hv
 go_wp2_with fail
 have hz2 : Below wq.heap.size wq w4 := bwT
 first | (refine hK _ _ ⟨hz2, ?_⟩; clear hK K) | refine ⟨hz2, ?_⟩
 clear hz2
 refine norm_K fun K hK => ?_
 change wpList _ _ _ [_] _ _
 go_wp2_with fail
 refine (stimes_c hd hs hx hv.el ex eV).mono ?_; rintro e w5 ⟨q, rfl, hq, hb5⟩
 have hs := hs.below hb5; have hx := hx.below hb5; have hy := hy.below hb5; have hz := hz.below hb5; have d0 := kept hb5 d0; have d1 := kept hb5 d1; have hu := hu.below hb5; have hr := hr.below hb5; have hv := hv.below hb5
 rw [<- HR.out] at hq
 go_wp2_with fail
 have hz3 : Below wq.heap.size wq w5 := bwT
 first | (refine hK _ _ ⟨hz3, ?_⟩; clear hK K) | refine ⟨hz3, ?_⟩
 clear hz3
 refine norm_K fun K hK => ?_
 change wpList _ _ _ [_, _] _ _
 go_wp2_with fail
 refine (hmin _ _ _ hr.sl hq.sl).mono ?_; rintro e w6 ⟨t, rfl, ht, hb6⟩
 have hs := hs.below hb6; have hx := hx.below hb6; have hy := hy.below hb6; have hz := hz.below hb6; have d0 := kept hb6 d0; have d1 := kept hb6 d1; have hu := hu.below hb6; have hr := hr.below hb6; have hv := hv.below hb6; have hq := hq.below hb6
 go_wp2_with fail
 first | (refine hK _ _ ⟨rfl, ?_⟩; clear hK K) | refine ⟨rfl, ?_⟩
 go_wp2_with fail
 go_ret
 exact ⟨_, rfl, ht.more (below_le bwT), bwT⟩
theorem inL_succ {xs ys : List Int} {k : Nat} : inL p st xs ys (k + 1) = inL p st xs ys k ++ [inCol p st xs ys k] := by unfold inL; rw [List.range_succ, List.map_append]; rfl
theorem inL_len {k : Nat} : (inL p st xs ys k).length = k := by simp [inL]
theorem sinner_c (hd : Dok p st) (hs : El w s st) (hx : El w x xs) (hy : El w y ys) (ex : Ev p (sz st.length) xs) (ey : Ev p (sz st.length) ys) :
  Calls Tryz.prog 109 #[.agg #[.int .i64 p, s], x, y] w fun e w' => ∃ v, e = .returned v /\ ReR w' w.heap.size v (trL (inL p st xs ys (sz st.length)) (sz st.length)) /\ Below w.heap.size w w' := by
 have h1 : 1 <= p := by have := hd.hp.lo; omega
 have h2 : 2 <= p := by have := hd.hp.lo; omega
 have h13 := hd.hp.hi; have hsz := sz_le hd
 have hl3 := hd.hl
 have eC := comm_ev hd ex ey
 have hW : ∀ r ∈ inL p st xs ys (sz st.length), r.length = sz st.length := fun r hr => by
  obtain ⟨i, _, rfl⟩ := List.mem_map.1 hr
  exact (inCol_ev hd ex ey i).1
 have hcol := fun (W : World) v (h : Re W v (inL p st xs ys (sz st.length))) => scols_c (w := W) (L := inL p st xs ys (sz st.length)) h (by rw [inL_len]; exact hW) (by rw [inL_len]; omega) (by rw [inL_len]; omega)
 rw [inL_len] at hcol
 have hcm := fun (W : World) s x y hs hx hy => scomm_c (w := W) (s := s) (x := x) (y := y) hd hs hx hy ex ey
 have hstep : ∀ k, k < sz st.length -> ∃ z c a t, z = oneL (sz st.length) k /\ c = commL p st (commL p st xs ys) z /\ a = assocL p st xs ys z /\ t = scaleL p a 3 /\ inCol p st xs ys k = plusL p c t (p - 1) := fun k _ => ⟨_, _, _, _, rfl, rfl, rfl, rfl, rfl⟩
 have HST := Lib.hid hstep
 obtain ⟨C, hC⟩ : ∃ C, C = commL p st xs ys := ⟨_, rfl⟩
 rw [<- hC] at eC; simp only [<- hC] at hcm
 have HC := Lib.hid hC; clear hC hW hstep
 obtain ⟨a, c, rfl, _⟩ := id hs.op
 obtain ⟨a1, c1, rfl, _⟩ := id hx.op
 obtain ⟨a2, c2, rfl, _⟩ := id hy.op
 go_enter Tryz.func109, Tryz.ntmps109
 have hb0 : Below w.heap.size w (w.alloc (.cells #[.int .i64 p, .slice a st.length c] 26)) := bwT
 have hs := hs.below hb0; have hx := hx.below hb0; have hy := hy.below hb0
 have d0 : (w.alloc (.cells #[.int .i64 p, .slice a st.length c] 26)).cell? ⟨w.heap.size, 0, none⟩ = some (.int .i64 p) := by simp [go_sem]
 have d1 : (w.alloc (.cells #[.int .i64 p, .slice a st.length c] 26)).cell? ⟨w.heap.size, 1, none⟩ = some (.slice a st.length c) := by simp [go_sem]
 have hz0 : (w.alloc (.cells #[.int .i64 p, .slice a st.length c] 26)).heap.size = w.heap.size + 1 := by simp
 have hl0 := LsR.new (w := (w.alloc (.cells #[.int .i64 p, .slice a st.length c] 26))) (B := w.heap.size + 1) (Nat.le_of_eq hz0.symm)
 rw [hz0] at hl0
 have HZ0 := Lib.hid hz0; clear hz0
 have hs1 := hs; have hx1 := hx; have hy1 := hy; have d01 := d0; have d11 := d1
 have hb1 : Below (w.alloc (.cells #[.int .i64 p, .slice a st.length c] 26)).heap.size (w.alloc (.cells #[.int .i64 p, .slice a st.length c] 26)) ((w.alloc (.cells #[.int .i64 p, .slice a st.length c] 26)).alloc (.cells #[] 24)) := bwT
 have hs := hs.below hb1; have hx := hx.below hb1; have hy := hy.below hb1; have d0 := kept hb1 d0; have d1 := kept hb1 d1
 go_wp2_with fail
 refine (hcm _ _ _ _ hs hx hy).mono ?_; rintro e w2 ⟨u, rfl, hu, hb2⟩
 have hs := hs.below hb2; have hx := hx.below hb2; have hy := hy.below hb2; have d0 := kept hb2 d0; have d1 := kept hb2 d1; have hl0 := hl0.below hb2
 obtain ⟨au, cu, rfl, _⟩ := id hu.el.op
 have hbA : Below (w.alloc (.cells #[.int .i64 p, .slice a st.length c] 26)).heap.size (w.alloc (.cells #[.int .i64 p, .slice a st.length c] 26)) w2 := hb1.trans (hb2.mono hb1.size)
 have huR : ElR w2 (w.heap.size + 1) (.slice au C.length cu) C := hu.elr.more (by have := hb1.size; rw [HZ0.out] at this; exact this)
 have huN : Apt2 (.slice au C.length cu) (.slice (some ⟨w.heap.size + 1, 0, none⟩) 0 0) := fun b off sp n c' e e2 => by
  have h := (hu.elr.2 _ _ _ _ _ e).1
  cases e2
  simp at h
  omega
 obtain ⟨wA, hwA⟩ : ∃ x, x = (w.alloc (.cells #[.int .i64 p, .slice a st.length c] 26)) := ⟨_, rfl⟩
 rw [<- hwA] at hs1 hx1 hy1 d01 d11 hbA HZ0 hb0
 have hbA1 : Below (w.heap.size + 1) wA w2 := by have h := hbA; rw [HZ0.out] at h; exact h
 clear hs hx hy d0 d1 hu hb1 hb2 hwA hbA
 go_wp2_with fail
 go_loopw [7, 9] (fun o q wr => ∃ (k : Nat) (us : List Value), k <= sz st.length /\ q = .int .i64 k /\ LsR wr (w.heap.size + 1) o us (inL p st xs ys k) /\ Below (w.heap.size + 1) wA wr /\ ElR wr (w.heap.size + 1) (.slice au C.length cu) C /\ Apt2 (.slice au C.length cu) o) (fun _ q _ => sz st.length - (intOf q).toNat)
 case atStart => exact ⟨0, [], Nat.zero_le _, rfl, hl0, hbA1, huR, huN⟩
 case round =>
  clear hl0 huR huN hbA1
  obtain ⟨k, us, hk, rfl, hl, hbr, hu, hun⟩ := hrel
  obtain ⟨al, cl, rfl⟩ := hl.form
  have hul := hl.len; rw [inL_len] at hul
  have HUL := Lib.hid hul; clear hul
  have hbr1 : Below wA.heap.size wA wr := hbr.mono (Nat.le_of_eq HZ0.out)
  have hs := hs1.below hbr1; have hx := hx1.below hbr1; have hy := hy1.below hbr1; have d0 := kept hbr1 d01; have d1 := kept hbr1 d11
  have hwr : w.heap.size + 1 <= wr.heap.size := by have := hbr1.size; rw [HZ0.out] at this; exact this
  have hbr0 := hb0.trans (hbr.mono (Nat.le_succ _))
  clear hs1 hx1 hy1 d01 d11 hbr1
  by_cases hlt : k < sz st.length
  ·have hlti : (k : Int) < sz st.length := by omega
   obtain ⟨z, cc, aa, tt, hz, hcc, haa, htt, hcl⟩ := HST.out k hlt
   rw [<- HC.out] at hcc
   have ez : Ev p (sz st.length) z := hz ▸ Ev.one h2
   have ecc : Ev p (sz st.length) cc := hcc ▸ comm_ev hd eC ez
   have eaa : Ev p (sz st.length) aa := haa ▸ assoc_ev hd ex ey ez
   have ett : Ev p (sz st.length) tt := htt ▸ Ev.scale h1 eaa
   have HZ := Lib.hid hz; have HCC := Lib.hid hcc; have HAA := Lib.hid haa; have HTT := Lib.hid htt
   have hnext : inL p st xs ys (k + 1) = inL p st xs ys k ++ [inCol p st xs ys k] := inL_succ
   obtain ⟨I, hI⟩ : ∃ I, I = inL p st xs ys k := ⟨_, rfl⟩
   obtain ⟨J, hJ⟩ : ∃ J, J = inCol p st xs ys k := ⟨_, rfl⟩
   rw [<- hI] at hl; rw [<- hI, <- hJ] at hnext; rw [<- hJ] at hcl
   have HN := Lib.hid hnext; have HCL := Lib.hid hcl
   clear hz hcc haa htt hcl hI hJ hnext
   generalize wr = wo at *
   go_wp2_with fail
   refine (ssize_c (by omega)).mono ?_; rintro e w21 ⟨rfl, hb21⟩
   have hs := hs.below hb21; have hx := hx.below hb21; have hy := hy.below hb21; have hu := hu.below hb21; have d0 := kept hb21 d0; have d1 := kept hb21 d1; have hl := hl.below hb21
   go_wp2_with fail
   refine (sone_c hd hs hlt).mono ?_; rintro e w22 ⟨vz, rfl, hzv, hb22⟩
   have hs := hs.below hb22; have hx := hx.below hb22; have hy := hy.below hb22; have hu := hu.below hb22; have d0 := kept hb22 d0; have d1 := kept hb22 d1; have hl := hl.below hb22
   rw [<- HZ.out] at hzv
   obtain ⟨az, cz, rfl, _⟩ := id hzv.el.op
   go_wp2_with fail
   refine region_flow [(false, [(0, 0), (1, 0), (2, 1), (3, 1), (4, 0), (5, 0), (7, 0), (8, 1), (9, 1), (10, 0), (11, 0), (12, 0), (6, 5)]), (false, [(13, 5)]), (false, [(14, 5)]), (false, [(15, 4), (16, 4), (17, 4), (18, 0)])] (by kernel_rfl) ?_
   refine norm_K fun K hK => ?_
   change wpList _ _ _ [_, _, _, _, _, _, _, _, _, _, _, _, _] _ _
   have hb23 : Below w22.heap.size w22 w22.drew := bwT
   have hs := hs.below hb23; have hx := hx.below hb23; have hy := hy.below hb23; have hu := hu.below hb23; have d0 := kept hb23 d0; have d1 := kept hb23 d1; have hl := hl.below hb23; have hzv := hzv.below hb23
   generalize w22.drew = wq at *
   go_wp2_with fail
   refine (scomm_c hd hs hu.1 hzv.el eC ez).mono ?_; rintro e w24 ⟨v1, rfl, hv1, hb24⟩
   have hs := hs.below hb24; have hx := hx.below hb24; have hy := hy.below hb24; have hu := hu.below hb24; have d0 := kept hb24 d0; have d1 := kept hb24 d1; have hl := hl.below hb24; have hzv := hzv.below hb24
   rw [<- HCC.out] at hv1
   go_wp2_with fail
   have hz0 : Below wq.heap.size wq w24 := bwT
   first | (refine hK _ _ ⟨hz0, ?_⟩; clear hK K) | refine ⟨hz0, ?_⟩
   clear hz0
   refine norm_K fun K hK => ?_
   change wpList _ _ _ [_] _ _
   go_wp2_with fail
   refine (sassoc_c hd hs hx hy hzv.el ex ey ez).mono ?_; rintro e w25 ⟨v2, rfl, hv2, hb25⟩
   have hs := hs.below hb25; have hx := hx.below hb25; have hy := hy.below hb25; have hu := hu.below hb25; have d0 := kept hb25 d0; have d1 := kept hb25 d1; have hl := hl.below hb25; have hzv := hzv.below hb25; have hv1 := hv1.below hb25
   rw [<- HAA.out] at hv2
   go_wp2_with fail
   have hz1 : Below wq.heap.size wq w25 := bwT
   first | (refine hK _ _ ⟨hz1, ?_⟩; clear hK K) | refine ⟨hz1, ?_⟩
   clear hz1
   refine norm_K fun K hK => ?_
   change wpList _ _ _ [_] _ _
   go_wp2_with fail
   refine (sscale_c h1 (by omega) (by decide) (by decide) hv2.sl (eaa.2.sm (by omega) (by omega)) (by rw [eaa.1]; omega)).mono ?_; rintro e w26 ⟨v3, rfl, hv3, hb26⟩
   have hs := hs.below hb26; have hx := hx.below hb26; have hy := hy.below hb26; have hu := hu.below hb26; have d0 := kept hb26 d0; have d1 := kept hb26 d1; have hl := hl.below hb26; have hzv := hzv.below hb26; have hv1 := hv1.below hb26; have hv2 := hv2.below hb26
   rw [<- HTT.out] at hv3
   go_wp2_with fail
   have hz2 : Below wq.heap.size wq w26 := bwT
   first | (refine hK _ _ ⟨hz2, ?_⟩; clear hK K) | refine ⟨hz2, ?_⟩
   clear hz2
   refine norm_K fun K hK => ?_
   change wpList _ _ _ [_, _, _, _] _ _
   have hlp := hl
   go_wp2_with fail
   refine (sminus_c h1 (by omega) hv1.sl hv3.sl (ecc.2.sm (by omega) (by omega)) (ett.2.sm (by omega) (by omega)) (by rw [ett.1, ecc.1]) (by rw [ecc.1]; omega)).mono ?_; rintro e w27 ⟨v4, rfl, hv4, hb27⟩
   have hs := hs.below hb27; have hx := hx.below hb27; have hy := hy.below hb27; have hu := hu.below hb27; have d0 := kept hb27 d0; have d1 := kept hb27 d1; have hl := hl.below hb27; have hzv := hzv.below hb27; have hv1 := hv1.below hb27; have hv2 := hv2.below hb27; have hv3 := hv3.below hb27
   rw [<- HCL.out] at hv4
   obtain ⟨a4, c4, rfl, _⟩ := id hv4.el.op
   have hzn := hlp.fresh hv4.elr
   have hb6 : Below wo.heap.size wo w26 := bwT
   have hbB : Below wo.heap.size wo w27 := bwT
   have hnx := hbr.trans (hbB.mono hwr)
   have hcs : w.heap.size + 1 <= w27.heap.size := Nat.le_trans hwr hbB.size
   have hz4 : ElR w27 (w.heap.size + 1) _ J := hv4.elr.more (Nat.le_trans hwr hb6.size)
   go_wp2_with (at_builtin; refine appr_one rfl _ _ rfl w27 (w.heap.size + 1) _ rfl (.slice al us.length cl) us rfl (.slice a4 J.length c4) 1 rfl rfl hl.own hcs (by have := HUL.out; omega) ?_; intro g' cap' w8 hown' hgb' hg' hge)
   have hl8 := hl.snoc hz4 hzn (nv := .slice (some ⟨g', 0, none⟩) (us.length + 1) cap') rfl hown' hgb' hg' hge
   have hu8 := grown_el (v := .slice al us.length cl) (nv := .slice (some ⟨g', 0, none⟩) (us.length + 1) cap') rfl hgb' hg' hge hu hun
   first | (refine hK _ _ ⟨rfl, ?_⟩; clear hK K) | refine ⟨rfl, ?_⟩
   go_wp2_with fail
   go_roundw
   case rel => exact ⟨k + 1, _, by omega, by go_num, by rw [HN.out]; exact hl8, hnx.trans hgb', hu8⟩
   case measure => simp [intOf]; omega
  ·obtain rfl : k = sz st.length := by omega
   have hlf : ¬ ((sz st.length : Nat) : Int) < sz st.length := by omega
   generalize wr = wo at *
   go_wp2_with fail
   refine (ssize_c (by omega)).mono ?_; rintro e w51 ⟨rfl, hb51⟩
   have d0 := kept hb51 d0; have d1 := kept hb51 d1; have hl := hl.below hb51
   go_wp2_with fail
   refine (hcol _ _ hl.rer.re).mono ?_; rintro e w60 ⟨v, rfl, hv, hb60⟩
   go_wp2_with fail
   go_ret
   exact ⟨_, rfl, hv.more (by have := hbr0.size; have := hb51.size; omega), hbr0.trans ((hb51.trans (hb60.mono hb51.size)).mono hbr0.size)⟩
end
end Go.Proofs.YteaaepbnoiecoaaGreat
