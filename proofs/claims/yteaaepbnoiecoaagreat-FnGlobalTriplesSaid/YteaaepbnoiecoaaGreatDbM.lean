import Derived.Test.YteaaepbnoiecoaaGreatJaf
namespace Go.Proofs.YteaaepbnoiecoaaGreat
open Go.RowKit
theorem conj_set {p : Int} {xs : List Int} : (scaleL p xs (-1)).set 0 (xs.getD 0 0) = conjL p xs := by
 match xs with
 | [] => rfl
 | x :: xs => simp [conjL, scaleL]
theorem At.get0 {w : World} {b off : Nat} {xs : List Int} (h : At w b off xs) (hne : 0 < xs.length) : w.cell? ⟨b, off, none⟩ = some (.int .i64 (xs.getD 0 0)) := by
 have := h 0 hne
 rwa [Nat.add_zero] at this
theorem OwnI.hold {w : World} {B g n cap : Nat} {xs : List Int} (h : OwnI w B g n cap xs) {i : Nat} (hi : i < n) : w.cell? ⟨g, i, none⟩ = some (.int .i64 (xs.getD i 0)) := by
 have := h.at i (by rw [h.len]; exact hi)
 rwa [Nat.zero_add] at this
theorem Fp.g0 {p : Int} {xs : List Int} (h : Fp p xs) (hp : 0 < p) (i : Nat) : 0 <= xs.getD i 0 /\ xs.getD i 0 < p := by
 rw [List.getD_eq_getElem?_getD]
 cases hx : xs[i]? with
 | none => simp; omega
 | some y => exact h y (List.mem_of_getElem? hx)
theorem Ev.sm {p M : Int} {n : Nat} {xs : List Int} (h : Ev p n xs) (hp : p <= M + 1) (hM : 0 <= M) : Sm M xs := h.2.sm hp hM
theorem conj_c {p : Int} {x : Value} {xs : List Int} {w : World} (hp : 2 <= p) (hp2 : p <= 1000) (hx : El w x xs) (hne : 0 < xs.length) (sx : Fp p xs) (hm : xs.length <= 1000) :
  Calls Tryz.prog 41 #[.int .i64 p, x] w fun e w' => ∃ v, e = .returned v /\ FrI w' w.heap.size v (conjL p xs) /\ Below w.heap.size w w' := by
 obtain ⟨b, off, c, rfl, h1, h2, hA⟩ := hx.op1 hne
 have hc := hA.get0 hne
 obtain ⟨q, hq⟩ : ∃ q, q = xs.getD 0 0 := ⟨_, rfl⟩
 rw [<- hq] at hc
 have HQ := Lib.hid hq; clear hq
 go_enter Tryz.func41, Tryz.ntmps41
 go_wp2_with fail
 refine (scaled_c (by omega) hp2 (by omega) (by omega) hx.sl (sx.sm (by omega) (by omega)) (by omega)).mono ?_; rintro e w1 ⟨v, rfl, ⟨g, cap, rfl, hv⟩, hb⟩
 have hc := kept hb hc
 simp only [scaleL_len] at hv ⊢
 have hset := hv.set (i := 0) q
 rw [HQ.out, conj_set] at hset
 rw [<- HQ.out] at hset
 have hold := hv.hold (i := 0) (by omega)
 have hfree := hv.free 0
 have hlt := hv.lt
 go_wp2_with fail
 go_ret
 have hr := hset.fr
 exact ⟨_, rfl, hr, bwS hb hlt.1 _⟩
set_option maxRecDepth 100000 in
theorem doubled_c : ∀ (rs : List Int) {p : Int} {s x y : Value} {xs ys : List Int} {w : World} (_ : IsP p) (_ : rs.length <= 4) (_ : El w s rs.reverse) (_ : Fp p rs) (_ : El w x xs) (_ : El w y ys) (_ : Ev p (2 ^ rs.length) xs) (_ : Ev p (2 ^ rs.length) ys),
  Calls Tryz.prog 57 #[.int .i64 p, s, x, y] w fun e w' => ∃ v, e = .returned v /\ FrI w' w.heap.size v (mulR p rs xs ys) /\ Below w.heap.size w w'
 | [], p, s, x, y, xs, ys, w, hp, _, hs, _, hx, hy, ex, ey => by
  obtain ⟨a, c, rfl, h1, h2, _⟩ := hs.op
  have hp1 := hp.lo
  have hp2 := hp.hi
  obtain ⟨b1, o1, c1, rfl, h3, h4, hA⟩ := hx.op1 (by rw [ex.1]; decide)
  obtain ⟨b2, o2, c2, rfl, h5, h6, hB⟩ := hy.op1 (by rw [ey.1]; decide)
  have hc1 := hA.get0 (by rw [ex.1]; decide)
  have hc2 := hB.get0 (by rw [ey.1]; decide)
  have g1 := ex.2.g0 (by omega) 0
  have g2 := ey.2.g0 (by omega) 0
  have e1 : xs.length = 1 := ex.1
  have e2 : ys.length = 1 := ey.1
  rw [e1, e2]
  simp only [List.reverse_nil, List.length_nil]
  have hr : mulR p [] xs ys = [xs.getD 0 0 * ys.getD 0 0 % p] := rfl
  rw [hr]
  obtain ⟨u, hu⟩ : ∃ u, u = xs.getD 0 0 := ⟨_, rfl⟩
  obtain ⟨z, hz⟩ : ∃ z, z = ys.getD 0 0 := ⟨_, rfl⟩
  rw [<- hu] at hc1 g1 ⊢
  rw [<- hz] at hc2 g2 ⊢
  have hm := mulb (k := u) (y := z) (A := 13) (B := 13) (by omega) (by omega) (by omega) (by omega)
  clear e1 e2 hr hu hz h3 h5
  go_enter Tryz.func57, Tryz.ntmps57
  go_wp2
  refine region_flow [(false, [(0, 0), (1, 0), (2, 0), (3, 1), (4, 0), (5, 0), (6, 1), (7, 0), (8, 4), (9, 4), (10, 0)])] (by kernel_rfl) ?_
  refine norm_K fun K hK => ?_
  change wpList _ _ _ [_, _, _, _, _, _, _, _, _, _, _] _ _
  go_wp2_with fail
  refine (num_c (by omega) (by omega)).mono ?_; rintro e w1 ⟨rfl, rfl⟩
  go_wp2_with fail
  first | (refine hK _ _ ⟨rfl, ?_⟩; clear hK K) | refine ⟨rfl, ?_⟩
  go_wp2_with fail
  go_ret
  exact ⟨_, rfl, (OwnI.lit (Nat.le_refl _) [u * z % p] (by simp)).fr, bwT⟩
 | g :: r, p, s, x, y, xs, ys, w, hp, hl, hs, hst, hx, hy, ex, ey => by
  have ih := fun {s x y : Value} {xs ys : List Int} {w : World} => doubled_c r (p := p) (s := s) (x := x) (y := y) (xs := xs) (ys := ys) (w := w) hp (by simp at hl; omega)
  have hp1 := hp.lo
  have hp2 := hp.hi
  have hlr : (g :: r).reverse.length = r.length + 1 := by simp
  obtain ⟨b0, o0, c0, rfl, h1, h2, hS⟩ := hs.op1 (by omega)
  rw [hlr] at h1 ⊢
  have hk := hS r.length (by omega)
  have hkv : (g :: r).reverse.getD r.length 0 = g := by simp
  rw [hkv] at hk
  have hS2 := hS.elT (k := r.length) (c := c0) (by omega) (by omega) h2
  have htk : (g :: r).reverse.take r.length = r.reverse := by simp
  rw [htk] at hS2
  have hgb := hst g (by simp)
  have hsr : Fp p r := fun z hz => hst z (by simp [hz])
  obtain ⟨h, hh⟩ : ∃ h, h = 2 ^ r.length := ⟨_, rfl⟩
  have hh1 : 1 <= h := by rw [hh]; exact Nat.pow_pos (by decide)
  have hh2 : h <= 8 := by rw [hh]; simp at hl; exact Nat.le_trans (Nat.pow_le_pow_right (by decide) (show r.length <= 3 by omega)) (by decide)
  have lx : xs.length = h + h := by rw [ex.1, hh, List.length_cons, Nat.pow_succ]; omega
  have ly : ys.length = h + h := by rw [ey.1, hh, List.length_cons, Nat.pow_succ]; omega
  obtain ⟨b1, o1, c1, rfl, h3, h4, hA⟩ := hx.op1 (by omega)
  obtain ⟨b2, o2, c2, rfl, h5, h6, hB⟩ := hy.op1 (by omega)
  rw [lx] at h3 ⊢
  rw [ly] at h5 ⊢
  have A1 := hA.elT (k := h) (c := c1) (by omega) (by omega) h4
  have A2 := hA.elD (k := h) (n := h) (c := c1 - h) (by omega) (by omega) (by omega)
  have B1 := hB.elT (k := h) (c := c2) (by omega) (by omega) h6
  have B2 := hB.elD (k := h) (n := h) (c := c2 - h) (by omega) (by omega) (by omega)
  have e1 : Ev p (2 ^ r.length) (xs.take h) := ⟨by rw [List.length_take]; omega, fp_take ex.2 _⟩
  have e2 : Ev p (2 ^ r.length) (xs.drop h) := ⟨by rw [List.length_drop]; omega, fp_drop ex.2 _⟩
  have e3 : Ev p (2 ^ r.length) (ys.take h) := ⟨by rw [List.length_take]; omega, fp_take ey.2 _⟩
  have e4 : Ev p (2 ^ r.length) (ys.drop h) := ⟨by rw [List.length_drop]; omega, fp_drop ey.2 _⟩
  have L3 := Lib.hid (show (ys.take h).length = h by rw [List.length_take]; omega)
  have L4 := Lib.hid (show (ys.drop h).length = h by rw [List.length_drop]; omega)
  have K1 := Lib.hid (show (mulR p r (xs.take h) (ys.take h)).length = h by rw [mulR_len e1.1 e3.1, hh])
  have K2 := Lib.hid (show (mulR p r (conjL p (ys.drop h)) (xs.drop h)).length = h by rw [mulR_len (e4.conj (by omega)).1 e2.1, hh])
  have K3 := Lib.hid (show (mulR p r (ys.drop h) (xs.take h)).length = h by rw [mulR_len e4.1 e1.1, hh])
  have K4 := Lib.hid (show (mulR p r (xs.drop h) (conjL p (ys.take h))).length = h by rw [mulR_len e2.1 (e3.conj (by omega)).1, hh])
  have N1 := Lib.hid (show (plusL p (mulR p r (xs.take h) (ys.take h)) (mulR p r (conjL p (ys.drop h)) (xs.drop h)) g).length = h by rw [plusL_len (by rw [K1.out, K2.out]), K1.out])
  have N2 := Lib.hid (show (plusL p (mulR p r (ys.drop h) (xs.take h)) (mulR p r (xs.drop h) (conjL p (ys.take h))) 1).length = h by rw [plusL_len (by rw [K3.out, K4.out]), K3.out])
  have f1 := mulR_fp (p := p) (rs := r) (x := xs.take h) (y := ys.take h) (by omega)
  have f2 := mulR_fp (p := p) (rs := r) (x := conjL p (ys.drop h)) (y := xs.drop h) (by omega)
  have f3 := mulR_fp (p := p) (rs := r) (x := ys.drop h) (y := xs.take h) (by omega)
  have f4 := mulR_fp (p := p) (rs := r) (x := xs.drop h) (y := conjL p (ys.take h)) (by omega)
  have hdv : ((h : Int) + h) / 2 = h := by omega
  have hres : mulR p (g :: r) xs ys = plusL p (mulR p r (xs.take h) (ys.take h)) (mulR p r (conjL p (ys.drop h)) (xs.drop h)) g ++ plusL p (mulR p r (ys.drop h) (xs.take h)) (mulR p r (xs.drop h) (conjL p (ys.take h))) 1 := by
   rw [mulR, lx, show (h + h) / 2 = h by omega]
  rw [hres]
  have H := Lib.hid (And.intro hh (And.intro lx (And.intro ly (And.intro hlr (And.intro hkv (And.intro htk hres))))))
  clear hh lx ly hlr hkv htk hres hS hA hB hx hy hs
  go_enter Tryz.func57, Tryz.ntmps57
  go_wp2
  refine region_flow [(false, [(0, 0), (1, 0), (2, 0), (3, 0), (4, 0), (5, 0), (6, 0), (7, 0), (8, 0), (9, 0), (10, 0), (11, 0), (12, 0), (13, 0), (14, 0), (15, 0)])] (by kernel_rfl) ?_
  refine norm_K fun K hK => ?_
  change wpList _ _ _ [_, _, _, _, _, _, _, _, _, _, _, _, _, _, _, _] _ _
  go_wp2
  first | (refine hK _ _ ⟨rfl, ?_⟩; clear hK K) | refine ⟨rfl, ?_⟩
  have hd : Below w.heap.size w w.drew := bwT
  have hk := kept hd hk; have hS2 := hS2.below hd; have A1 := A1.below hd; have A2 := A2.below hd; have B1 := B1.below hd; have B2 := B2.below hd
  go_wp2_with fail
  refine region_flow [(false, [(0, 0), (1, 0), (2, 0), (3, 0), (4, 0), (6, 0), (7, 0), (8, 0), (9, 0), (11, 0), (13, 0), (14, 0), (15, 0), (16, 1), (5, 5)]), (false, [(10, 5)]), (false, [(12, 5)]), (false, [(17, 4), (18, 0)])] (by kernel_rfl) ?_
  refine norm_K fun K hK => ?_
  change wpList _ _ _ [_, _, _, _, _, _, _, _, _, _, _, _, _, _, _] _ _
  have hb21 : Below w.drew.heap.size w.drew w.drew.drew := bwT
  have hk := kept hb21 hk; have hS2 := hS2.below hb21; have A1 := A1.below hb21; have A2 := A2.below hb21; have B1 := B1.below hb21; have B2 := B2.below hb21
  go_wp2_with fail
  refine (ih hS2 hsr A1 B1 e1 e3).mono ?_; rintro e w22 ⟨m1, rfl, M1, hb22⟩
  have hk := kept hb22 hk; have hS2 := hS2.below hb22; have A1 := A1.below hb22; have A2 := A2.below hb22; have B1 := B1.below hb22; have B2 := B2.below hb22
  go_wp2_with fail
  have hz0 : Below w.drew.drew.heap.size w.drew.drew w22 := bwT
  first | (refine hK _ _ ⟨hz0, ?_⟩; clear hK K) | refine ⟨hz0, ?_⟩
  clear hz0
  refine norm_K fun K hK => ?_
  change wpList _ _ _ [_] _ _
  go_wp2_with fail
  refine (conj_c (by omega) (by omega) B2 (by have := L4.out; omega) e4.2 (by have := L4.out; omega)).mono ?_; rintro e w23 ⟨z1, rfl, Z1, hb23⟩
  have hk := kept hb23 hk; have hS2 := hS2.below hb23; have A1 := A1.below hb23; have A2 := A2.below hb23; have B1 := B1.below hb23; have B2 := B2.below hb23; have M1 := M1.below hb23
  go_wp2_with fail
  have hz1 : Below w.drew.drew.heap.size w.drew.drew w23 := bwT
  first | (refine hK _ _ ⟨hz1, ?_⟩; clear hK K) | refine ⟨hz1, ?_⟩
  clear hz1
  refine norm_K fun K hK => ?_
  change wpList _ _ _ [_] _ _
  go_wp2_with fail
  refine (ih hS2 hsr Z1.el A2 (e4.conj (by omega)) e2).mono ?_; rintro e w24 ⟨m2, rfl, M2, hb24⟩
  have hk := kept hb24 hk; have hS2 := hS2.below hb24; have A1 := A1.below hb24; have A2 := A2.below hb24; have B1 := B1.below hb24; have B2 := B2.below hb24; have M1 := M1.below hb24; have Z1 := Z1.below hb24
  go_wp2_with fail
  have hz2 : Below w.drew.drew.heap.size w.drew.drew w24 := bwT
  first | (refine hK _ _ ⟨hz2, ?_⟩; clear hK K) | refine ⟨hz2, ?_⟩
  clear hz2
  refine norm_K fun K hK => ?_
  change wpList _ _ _ [_, _] _ _
  go_wp2_with fail
  refine (plus_c (by omega) (by omega) (by omega) (by omega) M1.sl M2.sl (f1.sm (by omega) (by omega)) (f2.sm (by omega) (by omega)) (by rw [K1.out, K2.out]) (by have := K1.out; omega)).mono ?_; rintro e w25 ⟨q1, rfl, Q1, hb25⟩
  have hk := kept hb25 hk; have hS2 := hS2.below hb25; have A1 := A1.below hb25; have A2 := A2.below hb25; have B1 := B1.below hb25; have B2 := B2.below hb25; have M1 := M1.below hb25; have Z1 := Z1.below hb25; have M2 := M2.below hb25
  go_wp2_with fail
  first | (refine hK _ _ ⟨rfl, ?_⟩; clear hK K) | refine ⟨rfl, ?_⟩
  go_wp2_with fail
  refine (ih hS2 hsr B2 A1 e4 e1).mono ?_; rintro e w26 ⟨m3, rfl, M3, hb26⟩
  have hk := kept hb26 hk; have hS2 := hS2.below hb26; have A1 := A1.below hb26; have A2 := A2.below hb26; have B1 := B1.below hb26; have B2 := B2.below hb26; have M1 := M1.below hb26; have Z1 := Z1.below hb26; have M2 := M2.below hb26; have Q1 := Q1.below hb26
  go_wp2_with fail
  refine (conj_c (by omega) (by omega) B1 (by have := L3.out; omega) e3.2 (by have := L3.out; omega)).mono ?_; rintro e w27 ⟨z2, rfl, Z2, hb27⟩
  have hk := kept hb27 hk; have hS2 := hS2.below hb27; have A1 := A1.below hb27; have A2 := A2.below hb27; have B1 := B1.below hb27; have B2 := B2.below hb27; have M1 := M1.below hb27; have Z1 := Z1.below hb27; have M2 := M2.below hb27; have Q1 := Q1.below hb27; have M3 := M3.below hb27
  go_wp2_with fail
  refine (ih hS2 hsr A2 Z2.el e2 (e3.conj (by omega))).mono ?_; rintro e w28 ⟨m4, rfl, M4, hb28⟩
  have hk := kept hb28 hk; have hS2 := hS2.below hb28; have A1 := A1.below hb28; have A2 := A2.below hb28; have B1 := B1.below hb28; have B2 := B2.below hb28; have M1 := M1.below hb28; have Z1 := Z1.below hb28; have M2 := M2.below hb28; have Q1 := Q1.below hb28; have M3 := M3.below hb28; have Z2 := Z2.below hb28
  go_wp2_with fail
  refine (plus_c (by omega) (by omega) (by omega) (by omega) M3.sl M4.sl (f3.sm (by omega) (by omega)) (f4.sm (by omega) (by omega)) (by rw [K3.out, K4.out]) (by have := K3.out; omega)).mono ?_; rintro e w29 ⟨q2, rfl, ⟨g2, cap2, rfl, Q2⟩, hb29⟩
  have hk := kept hb29 hk; have hS2 := hS2.below hb29; have A1 := A1.below hb29; have A2 := A2.below hb29; have B1 := B1.below hb29; have B2 := B2.below hb29; have M1 := M1.below hb29; have Z1 := Z1.below hb29; have M2 := M2.below hb29; have Q1 := Q1.below hb29; have M3 := M3.below hb29; have Z2 := Z2.below hb29; have M4 := M4.below hb29
  obtain ⟨g1, cap1, rfl, T1⟩ := Q1
  rw [N1.out] at T1 ⊢
  rw [N2.out] at Q2 ⊢
  have hbw : Below w.heap.size w w29 := bwT
  have hlo := T1.lt.1
  have hz1 := hb27.size
  have T1 := T1.rebase (B' := w.heap.size) (by have := (show w.heap.size <= w24.heap.size from (below_le bwT)); omega)
  go_wp2_with (at_builtin; refine app_int rfl _ _ rfl w29 w.heap.size g1 h cap1 _ rfl g2 0 h cap2 _ rfl T1 hbw.size Q2.at Q2.len (by omega) (by omega) ?_; intro g' cap' w' hown' hgg hge)
  go_ret
  exact ⟨_, rfl, hown'.fr, blw_grown hbw hgg T1.lt.1⟩
end Go.Proofs.YteaaepbnoiecoaaGreat
