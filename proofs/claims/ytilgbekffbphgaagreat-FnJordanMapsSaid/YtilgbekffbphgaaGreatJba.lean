/- Texts joined for a claim: HfA, Pla, TriB. -/
import Derived.Test.YtilgbekffbphgaaGreatJak
import Derived.Test.YtilgbekffbphgaaGreatJay
import Derived.Test.YtilgbekffbphgaaGreatJaz
import Derived.Test.YtilgbekffbphgaaGreatJae
import Derived.Test.YtilgbekffbphgaaGreatJah
namespace Go.Proofs.YtilgbekffbphgaaGreat
open Go.RowKit
theorem OwH.frh {w : World} {B : Nat} {v : Value} {X : Her} (h : OwH w B v X) (h3 : X.dg.length = 3) : FrH w B v X := by
 rcases h with ⟨_, rfl⟩ | h
 ·simp at h3
 ·exact h
theorem isH_len {p : Int} {n : Nat} {X : Her} (h : isH p n X = true) : X.dg.length = 3 /\ X.up.length = 3 := by
 obtain ⟨a, b, c, u, v, t, rfl, _⟩ := isH_op h
 exact ⟨rfl, rfl⟩
theorem isH_hsz {p : Int} {st : List Int} {X : Her} (hd : Dok p st) (h : isH p (sz st.length) X = true) : Hsz X := by
 obtain ⟨a, b, c, u, v, t, e, _, _, _, _, _, _, hu, hv, ht⟩ := isH_op h
 rw [e]
 have h16 := pow_le (n := st.length) (by have := hd.hl; omega)
 refine ⟨by show 3 <= _; decide, by show 3 <= _; decide, fun xs hx => ?_⟩
 have hx : xs = u \/ xs = v \/ xs = t := by simpa using hx
 rcases hx with rfl | rfl | rfl
 ·rw [hu.1]; omega
 ·rw [hv.1]; omega
 ·rw [ht.1]; omega
theorem FrH.shape {w : World} {B : Nat} {v : Value} {X : Her} (h : FrH w B v X) : ∃ g c g2 c2, v = .agg #[.slice (some ⟨g, 0, none⟩) X.dg.length c, .slice (some ⟨g2, 0, none⟩) X.up.length c2] := by
 obtain ⟨d, u, us, rfl, ⟨g, c, rfl, _⟩, hu, _⟩ := h
 obtain ⟨g2, c2, rfl, _, h2, _⟩ := hu
 exact ⟨g, c, g2, c2, by rw [h2]⟩
theorem herm9_c {x y : Value} {X : Her} {w : World} (hx : Hv w x X) (hy : Hv w y X) (hz : Hsz X) :
  Calls Tryz.prog 8 #[x, y] w fun e w' => e = .returned (.bool true) /\ Below w.heap.size w w' := by
 obtain ⟨dv1, uv1, rfl, h1, h2⟩ := Hv.hr hx; obtain ⟨a1, c1, rfl, _⟩ := id h1; obtain ⟨b1, k1, rfl, _⟩ := id h2
 obtain ⟨dv2, uv2, rfl, h3, h4⟩ := Hv.hr hy; obtain ⟨a2, c2, rfl, _⟩ := id h3; obtain ⟨b2, k2, rfl, _⟩ := id h4
 go_enter Tryz.func8, Tryz.ntmps8
 have hb0 : Below w.heap.size w ((w.alloc (.cells #[.slice a1 X.dg.length c1, .slice b1 X.up.length k1] 29)).alloc (.cells #[.slice a2 X.dg.length c2, .slice b2 X.up.length k2] 29)) := bwT
 have h1 := h1.below hb0; have h2 := h2.below hb0; have h3 := h3.below hb0; have h4 := h4.below hb0
 have e0 : ((w.alloc (.cells #[.slice a1 X.dg.length c1, .slice b1 X.up.length k1] 29)).alloc (.cells #[.slice a2 X.dg.length c2, .slice b2 X.up.length k2] 29)).cell? ⟨w.heap.size, 0, none⟩ = some (.slice a1 X.dg.length c1) := by simp [go_sem]
 have e1 : ((w.alloc (.cells #[.slice a1 X.dg.length c1, .slice b1 X.up.length k1] 29)).alloc (.cells #[.slice a2 X.dg.length c2, .slice b2 X.up.length k2] 29)).cell? ⟨w.heap.size, 1, none⟩ = some (.slice b1 X.up.length k1) := by simp [go_sem]
 have f0 : ((w.alloc (.cells #[.slice a1 X.dg.length c1, .slice b1 X.up.length k1] 29)).alloc (.cells #[.slice a2 X.dg.length c2, .slice b2 X.up.length k2] 29)).cell? ⟨w.heap.size + 1, 0, none⟩ = some (.slice a2 X.dg.length c2) := by simp [go_sem]
 have f1 : ((w.alloc (.cells #[.slice a1 X.dg.length c1, .slice b1 X.up.length k1] 29)).alloc (.cells #[.slice a2 X.dg.length c2, .slice b2 X.up.length k2] 29)).cell? ⟨w.heap.size + 1, 1, none⟩ = some (.slice b2 X.up.length k2) := by simp [go_sem]
 go_wp2_with fail
 refine (like_c h1 h3 hz.h1).mono ?_; rintro e w1 ⟨rfl, hb1⟩
 have h1 := h1.below hb1; have h2 := h2.below hb1; have h3 := h3.below hb1; have h4 := h4.below hb1; have e0 := kept hb1 e0; have e1 := kept hb1 e1; have f0 := kept hb1 f0; have f1 := kept hb1 f1
 go_wp2_with fail
 refine (same9_c h2 h4 hz.h2 hz.h3).mono ?_; rintro e w2 ⟨rfl, hb2⟩
 have h1 := h1.below hb2; have h2 := h2.below hb2; have h3 := h3.below hb2; have h4 := h4.below hb2; have e0 := kept hb2 e0; have e1 := kept hb2 e1; have f0 := kept hb2 f0; have f1 := kept hb2 f1
 go_wp2_with fail
 go_ret
 exact ⟨rfl, bwT⟩
set_option maxHeartbeats 2000000 in
set_option maxRecDepth 100000 in
theorem jordan9_c {p : Int} {s x y : Value} {st : List Int} {X Y : Her} {w : World} (hd : Dok p st) (hs : El w s st) (hx : Hv w x X) (hX : isH p (sz st.length) X = true) (hy : Hv w y Y) (hY : isH p (sz st.length) Y = true) :
  Calls Tryz.prog 12 #[.agg #[.int .i64 p, s], x, y] w fun e w' => ∃ v, e = .returned v /\ FrH w' w.heap.size v (jordanH p st X Y) /\ Below w.heap.size w w' := by
 have hl := hd.hl
 have hZ := isH_hsz hd hX
 have hZ2 := isH_hsz hd hY
 have hcon := fun W (h0 : El W s st) (h1 : Hv W x X) (h2 : Hv W y Y) => iJordanTimes_c (w := W) (p0 := p) h0 (by omega) h1 hZ h2 hZ2
 have h0 : chkH p st [X, Y] = 0 := chkH_ok hd (by simp [hX, hY])
 have h3 := (isH_len (jordanH_is (p := p) (by have := hd.hp.lo; omega) hX hY)).1
 rw [show RJordanTimes0 p st X Y = jordanH p st X Y from if_pos h0, show RJordanTimes1 p st X Y = 0 from h0] at hcon
 obtain ⟨Z, hn⟩ : ∃ Z, Z = jordanH p st X Y := ⟨_, rfl⟩
 simp only [<- hn] at hcon h3 ⊢
 clear hn
 have H3 := Lib.hid h3; clear h3
 obtain ⟨a0, c0, rfl, _⟩ := id hs.op
 obtain ⟨dv1, uv1, rfl, hd1_, hu1_⟩ := id hx; obtain ⟨a1, c1, rfl, _⟩ := id hd1_.op; obtain ⟨b1, k1, rfl, _⟩ := id hu1_
 obtain ⟨dv2, uv2, rfl, hd2_, hu2_⟩ := id hy; obtain ⟨a2, c2, rfl, _⟩ := id hd2_.op; obtain ⟨b2, k2, rfl, _⟩ := id hu2_
 go_enter Tryz.func12, Tryz.ntmps12
 have hb0 : Below w.heap.size w ((((w.alloc (.cells #[.int .i64 p, .slice a0 st.length c0] 26)).alloc (.cells #[.slice a1 X.dg.length c1, .slice b1 X.up.length k1] 29)).alloc (.cells #[.slice a2 Y.dg.length c2, .slice b2 Y.up.length k2] 29)).alloc (.cells #[.slice none 0 0, .slice none 0 0] 29)) := bwT
 have hs := hs.below hb0; have hx := hx.below hb0; have hy := hy.below hb0
 have d0 : ((((w.alloc (.cells #[.int .i64 p, .slice a0 st.length c0] 26)).alloc (.cells #[.slice a1 X.dg.length c1, .slice b1 X.up.length k1] 29)).alloc (.cells #[.slice a2 Y.dg.length c2, .slice b2 Y.up.length k2] 29)).alloc (.cells #[.slice none 0 0, .slice none 0 0] 29)).cell? ⟨w.heap.size, 0, none⟩ = some (.int .i64 p) := by simp [go_sem]
 have d1 : ((((w.alloc (.cells #[.int .i64 p, .slice a0 st.length c0] 26)).alloc (.cells #[.slice a1 X.dg.length c1, .slice b1 X.up.length k1] 29)).alloc (.cells #[.slice a2 Y.dg.length c2, .slice b2 Y.up.length k2] 29)).alloc (.cells #[.slice none 0 0, .slice none 0 0] 29)).cell? ⟨w.heap.size, 1, none⟩ = some (.slice a0 st.length c0) := by simp [go_sem]
 have e0 : ((((w.alloc (.cells #[.int .i64 p, .slice a0 st.length c0] 26)).alloc (.cells #[.slice a1 X.dg.length c1, .slice b1 X.up.length k1] 29)).alloc (.cells #[.slice a2 Y.dg.length c2, .slice b2 Y.up.length k2] 29)).alloc (.cells #[.slice none 0 0, .slice none 0 0] 29)).cell? ⟨w.heap.size + 1, 0, none⟩ = some (.slice a1 X.dg.length c1) := by simp [go_sem]
 have e1 : ((((w.alloc (.cells #[.int .i64 p, .slice a0 st.length c0] 26)).alloc (.cells #[.slice a1 X.dg.length c1, .slice b1 X.up.length k1] 29)).alloc (.cells #[.slice a2 Y.dg.length c2, .slice b2 Y.up.length k2] 29)).alloc (.cells #[.slice none 0 0, .slice none 0 0] 29)).cell? ⟨w.heap.size + 1, 1, none⟩ = some (.slice b1 X.up.length k1) := by simp [go_sem]
 have f0 : ((((w.alloc (.cells #[.int .i64 p, .slice a0 st.length c0] 26)).alloc (.cells #[.slice a1 X.dg.length c1, .slice b1 X.up.length k1] 29)).alloc (.cells #[.slice a2 Y.dg.length c2, .slice b2 Y.up.length k2] 29)).alloc (.cells #[.slice none 0 0, .slice none 0 0] 29)).cell? ⟨w.heap.size + 1 + 1, 0, none⟩ = some (.slice a2 Y.dg.length c2) := by simp [go_sem]
 have f1 : ((((w.alloc (.cells #[.int .i64 p, .slice a0 st.length c0] 26)).alloc (.cells #[.slice a1 X.dg.length c1, .slice b1 X.up.length k1] 29)).alloc (.cells #[.slice a2 Y.dg.length c2, .slice b2 Y.up.length k2] 29)).alloc (.cells #[.slice none 0 0, .slice none 0 0] 29)).cell? ⟨w.heap.size + 1 + 1, 1, none⟩ = some (.slice b2 Y.up.length k2) := by simp [go_sem]
 have r0 : ((((w.alloc (.cells #[.int .i64 p, .slice a0 st.length c0] 26)).alloc (.cells #[.slice a1 X.dg.length c1, .slice b1 X.up.length k1] 29)).alloc (.cells #[.slice a2 Y.dg.length c2, .slice b2 Y.up.length k2] 29)).alloc (.cells #[.slice none 0 0, .slice none 0 0] 29)).cell? ⟨w.heap.size + 1 + 1 + 1, 0, none⟩ = some (.slice none 0 0) := by simp [go_sem]
 have r1 : ((((w.alloc (.cells #[.int .i64 p, .slice a0 st.length c0] 26)).alloc (.cells #[.slice a1 X.dg.length c1, .slice b1 X.up.length k1] 29)).alloc (.cells #[.slice a2 Y.dg.length c2, .slice b2 Y.up.length k2] 29)).alloc (.cells #[.slice none 0 0, .slice none 0 0] 29)).cell? ⟨w.heap.size + 1 + 1 + 1, 1, none⟩ = some (.slice none 0 0) := by simp [go_sem]
 have hr : Bx ((((w.alloc (.cells #[.int .i64 p, .slice a0 st.length c0] 26)).alloc (.cells #[.slice a1 X.dg.length c1, .slice b1 X.up.length k1] 29)).alloc (.cells #[.slice a2 Y.dg.length c2, .slice b2 Y.up.length k2] 29)).alloc (.cells #[.slice none 0 0, .slice none 0 0] 29)) (w.heap.size + 1 + 1 + 1) (.slice none 0 0) (.slice none 0 0) := by rw [show w.heap.size + 1 + 1 + 1 = (((w.alloc (.cells #[.int .i64 p, .slice a0 st.length c0] 26)).alloc (.cells #[.slice a1 X.dg.length c1, .slice b1 X.up.length k1] 29)).alloc (.cells #[.slice a2 Y.dg.length c2, .slice b2 Y.up.length k2] 29)).heap.size by simp]; exact heap_alloc_new _ _
 have hzA : w.heap.size + 1 + 1 + 1 + 1 = (((((w.alloc (.cells #[.int .i64 p, .slice a0 st.length c0] 26)).alloc (.cells #[.slice a1 X.dg.length c1, .slice b1 X.up.length k1] 29)).alloc (.cells #[.slice a2 Y.dg.length c2, .slice b2 Y.up.length k2] 29)).alloc (.cells #[.slice none 0 0, .slice none 0 0] 29))).heap.size := by simp
 have HZA := Lib.hid hzA; clear hzA
 go_wp2_with fail
 refine (hcon _ hs hx hy).mono ?_; rintro e w1 ⟨v0, rfl, hv0, hb1⟩
 have hs := hs.below hb1; have hx := hx.below hb1; have hy := hy.below hb1; have d0 := kept hb1 d0; have d1 := kept hb1 d1; have e0 := kept hb1 e0; have e1 := kept hb1 e1; have f0 := kept hb1 f0; have f1 := kept hb1 f1; have hr := hr.below hb1
 have hv := hv0.frh H3.out
 obtain ⟨g1, cap1, g2, cap2, rfl⟩ := hv.shape
 have hgw := HZA.out
 have hb2 : Below w1.heap.size w1 (w1.alloc (.cells #[.slice (some ⟨g1, 0, none⟩) Z.dg.length cap1, .slice (some ⟨g2, 0, none⟩) Z.up.length cap2] 29)) := bwT
 have hs := hs.below hb2; have hx := hx.below hb2; have hy := hy.below hb2; have d0 := kept hb2 d0; have d1 := kept hb2 d1; have e0 := kept hb2 e0; have e1 := kept hb2 e1; have f0 := kept hb2 f0; have f1 := kept hb2 f1; have hr := hr.below hb2; have hv0 := hv0.below hb2; have hv := hv.below hb2
 have n0 : (w1.alloc (.cells #[.slice (some ⟨g1, 0, none⟩) Z.dg.length cap1, .slice (some ⟨g2, 0, none⟩) Z.up.length cap2] 29)).cell? ⟨w1.heap.size, 0, none⟩ = some (.slice (some ⟨g1, 0, none⟩) Z.dg.length cap1) := by simp [go_sem]
 have n1 : (w1.alloc (.cells #[.slice (some ⟨g1, 0, none⟩) Z.dg.length cap1, .slice (some ⟨g2, 0, none⟩) Z.up.length cap2] 29)).cell? ⟨w1.heap.size, 1, none⟩ = some (.slice (some ⟨g2, 0, none⟩) Z.up.length cap2) := by simp [go_sem]
 have rc0 := hr.c0; have rc1 := hr.c1; have rf0 := hr.f0; have rf1 := hr.f1
 clear hgw
 go_wp2_with fail
 refine bodyPost_ret (v := .agg #[.slice (some ⟨g1, 0, none⟩) Z.dg.length cap1, .slice (some ⟨g2, 0, none⟩) Z.up.length cap2]) (by simp [results, Tryz.results12, go_sem, rc0, rc1]) rfl ⟨_, rfl, ?_, ?_⟩
 ·have hgw := HZA.out
  exact ((hv.set_ (by show w.heap.size + 1 + 1 + 1 < _; omega) _).set_ (by show w.heap.size + 1 + 1 + 1 < _; omega) _).more (by omega)
 ·exact bwS (bwS bwT (by first | omega | simp <;> omega) _) (by first | omega | simp <;> omega) _
end Go.Proofs.YtilgbekffbphgaaGreat
namespace Go.Proofs.YtilgbekffbphgaaGreat
section
variable {p k : Int} {xs ys : List Int}
theorem plus_at (h : ys.length = xs.length) (j : Nat) : (plusL p xs ys k).getD j 0 = (xs.getD j 0 + k * ys.getD j 0) % p := by
 unfold plusL
 simp only [List.getD_eq_getElem?_getD, List.getElem?_zipWith]
 by_cases hj : j < xs.length
 ·rw [List.getElem?_eq_getElem hj, List.getElem?_eq_getElem (h ▸ hj)]; rfl
 ·rw [List.getElem?_eq_none (by omega), List.getElem?_eq_none (by omega)]; simp
theorem scale_at (j : Nat) : (scaleL p xs k).getD j 0 = xs.getD j 0 * k % p := by
 unfold scaleL
 simp only [List.getD_eq_getElem?_getD, List.getElem?_map]
 cases xs[j]? <;> simp
theorem take_at (h j : Nat) : (xs.take h).getD j 0 = if j < h then xs.getD j 0 else 0 := by
 simp only [List.getD_eq_getElem?_getD, List.getElem?_take]
 split <;> simp
theorem drop_at (h j : Nat) : (xs.drop h).getD j 0 = xs.getD (h + j) 0 := by
 simp only [List.getD_eq_getElem?_getD, List.getElem?_drop]
theorem app_at (j : Nat) : (xs ++ ys).getD j 0 = if j < xs.length then xs.getD j 0 else ys.getD (j - xs.length) 0 := by
 simp only [List.getD_eq_getElem?_getD, List.getElem?_append]
 split <;> rfl
theorem conj_at (j : Nat) : (conjL p xs).getD j 0 = if j = 0 then xs.getD 0 0 else xs.getD j 0 * -1 % p := by
 match xs, j with
 | [], j => simp [conjL, scaleL]
 | x :: xs, 0 => simp [conjL]
 | x :: xs, j + 1 =>
  have := scale_at (p := p) (k := -1) (xs := xs) j
  simpa [conjL] using this
theorem one_at {n i : Nat} (j : Nat) : (oneL n i).getD j 0 = if j = i /\ i < n then 1 else 0 := by
 unfold oneL
 simp only [List.getD_eq_getElem?_getD, List.getElem?_set, List.getElem?_replicate, List.length_replicate]
 by_cases h : i = j
 ·subst h
  by_cases h2 : i < n <;> simp [h2]
 ·have h' : ¬ j = i := fun e => h e.symm
  by_cases h2 : j < n <;> simp [h, h', h2]
theorem ext_at (h : xs.length = ys.length) (e : ∀ j, j < xs.length -> xs.getD j 0 = ys.getD j 0) : xs = ys := by
 refine List.ext_getElem h fun j h1 h2 => ?_
 have := e j h1
 simpa [List.getD_eq_getElem?_getD, List.getElem?_eq_getElem h1, List.getElem?_eq_getElem h2] using this
theorem out_at {j : Nat} (h : xs.length <= j) : xs.getD j 0 = 0 := by
 rw [List.getD_eq_getElem?_getD, List.getElem?_eq_none h]; rfl
end
def Zr (xs : List Int) : Prop := ∀ j, xs.getD j 0 = 0
def Sup (i : Nat) (xs : List Int) : Prop := ∀ j, j ≠ i -> xs.getD j 0 = 0
section
variable {p k : Int} {xs ys : List Int} {i h : Nat}
theorem Zr.sup (z : Zr xs) (i : Nat) : Sup i xs := fun j _ => z j
theorem Zr.plus (z : Zr xs) (z2 : Zr ys) (l : ys.length = xs.length) : Zr (plusL p xs ys k) := fun j => by rw [plus_at l, z j, z2 j]; simp
theorem Sup.plus (z : Sup i xs) (z2 : Sup i ys) (l : ys.length = xs.length) : Sup i (plusL p xs ys k) := fun j hj => by rw [plus_at l, z j hj, z2 j hj]; simp
theorem Zr.conj (z : Zr xs) : Zr (conjL p xs) := fun j => by
 rw [conj_at]
 split
 ·exact z 0
 ·rw [z j]; simp
theorem Sup.conj (z : Sup i xs) : Sup i (conjL p xs) := fun j hj => by
 rw [conj_at]
 split
 ·next e => exact z 0 (e ▸ hj)
 ·rw [z j hj]; simp
theorem Zr.take (z : Zr xs) (h : Nat) : Zr (xs.take h) := fun j => by rw [take_at]; split <;> first | exact z j | exact rfl
theorem Zr.drop (z : Zr xs) (h : Nat) : Zr (xs.drop h) := fun j => by rw [drop_at]; exact z _
theorem Sup.take (z : Sup i xs) (h : Nat) : Sup i (xs.take h) := fun j hj => by rw [take_at]; split <;> first | exact z j hj | exact rfl
theorem Sup.takeZ (z : Sup i xs) (hk : h <= i) : Zr (xs.take h) := fun j => by
 rw [take_at]
 split
 ·exact z j (by omega)
 ·rfl
theorem Sup.drop (z : Sup i xs) (hk : h <= i) : Sup (i - h) (xs.drop h) := fun j hj => by rw [drop_at]; exact z _ (by omega)
theorem Sup.dropZ (z : Sup i xs) (hk : i < h) : Zr (xs.drop h) := fun j => by rw [drop_at]; exact z _ (by omega)
theorem Zr.app (z : Zr xs) (z2 : Zr ys) : Zr (xs ++ ys) := fun j => by rw [app_at]; split <;> first | exact z j | exact z2 _
theorem Sup.appL (z : Sup i xs) (z2 : Zr ys) : Sup i (xs ++ ys) := fun j hj => by rw [app_at]; split <;> first | exact z j hj | exact z2 _
theorem Sup.appR (z : Zr xs) (z2 : Sup i ys) : Sup (xs.length + i) (xs ++ ys) := fun j hj => by
 rw [app_at]
 split
 ·exact z j
 ·exact z2 _ (by omega)
theorem one_sup {n i : Nat} : Sup i (oneL n i) := fun j hj => by
 rw [one_at, if_neg (fun h => hj h.1)]
end
theorem mulR_zr {p : Int} : ∀ {rs x y : List Int}, x.length = 2 ^ rs.length -> y.length = 2 ^ rs.length -> (Zr x \/ Zr y) -> Zr (mulR p rs x y)
 | [], x, y, _, _, z => fun j => by
  have e : x.getD 0 0 * y.getD 0 0 = 0 := by
   rcases z with z | z
   ·rw [z 0, Int.zero_mul]
   ·rw [z 0, Int.mul_zero]
  rw [mulR, e]
  cases j <;> simp
 | g :: r, x, y, hx, hy, z => by
  have h2 := half_len hx
  have e : x.length = 2 ^ r.length + 2 ^ r.length := by rw [hx, List.length_cons, Nat.pow_succ]; omega
  have e' : y.length = 2 ^ r.length + 2 ^ r.length := by rw [hy, List.length_cons, Nat.pow_succ]; omega
  have l1 : (x.take (2 ^ r.length)).length = 2 ^ r.length := by rw [List.length_take]; omega
  have l2 : (x.drop (2 ^ r.length)).length = 2 ^ r.length := by rw [List.length_drop]; omega
  have l3 : (y.take (2 ^ r.length)).length = 2 ^ r.length := by rw [List.length_take]; omega
  have l4 : (y.drop (2 ^ r.length)).length = 2 ^ r.length := by rw [List.length_drop]; omega
  have l5 : (conjL p (y.drop (2 ^ r.length))).length = 2 ^ r.length := by rw [conjL_len, l4]
  have l6 : (conjL p (y.take (2 ^ r.length))).length = 2 ^ r.length := by rw [conjL_len, l3]
  unfold mulR
  rw [h2]
  refine Zr.app (Zr.plus (mulR_zr l1 l3 ?_) (mulR_zr l5 l2 ?_) (by rw [mulR_len l5 l2, mulR_len l1 l3])) (Zr.plus (mulR_zr l4 l1 ?_) (mulR_zr l2 l6 ?_) (by rw [mulR_len l2 l6, mulR_len l4 l1]))
  ·exact z.imp (fun z => z.take _) (fun z => z.take _)
  ·exact z.symm.imp (fun z => (z.drop _).conj) (fun z => z.drop _)
  ·exact z.symm.imp (fun z => z.drop _) (fun z => z.take _)
  ·exact z.imp (fun z => z.drop _) (fun z => (z.take _).conj)
theorem xor_tab : ∀ k < 3, ∀ i < 2 ^ k, ∀ j < 2 ^ k, i ^^^ j < 2 ^ k /\ (2 ^ k + i) ^^^ j = 2 ^ k + (i ^^^ j) /\ i ^^^ (2 ^ k + j) = 2 ^ k + (j ^^^ i) /\ (2 ^ k + i) ^^^ (2 ^ k + j) = j ^^^ i := by decide
set_option maxHeartbeats 1000000 in
theorem mulR_sup {p : Int} : ∀ {rs x y : List Int} {i j : Nat}, rs.length <= 3 -> x.length = 2 ^ rs.length -> y.length = 2 ^ rs.length -> i < 2 ^ rs.length -> j < 2 ^ rs.length -> Sup i x -> Sup j y -> Sup (i ^^^ j) (mulR p rs x y)
 | [], x, y, i, j, _, _, _, hi, hj, _, _ => by
  have e1 : i = 0 := by simpa using hi
  have e2 : j = 0 := by simpa using hj
  subst e1 e2
  intro k hk
  rw [mulR]
  match k, hk with
  | 0, hk => exact absurd rfl hk
  | k + 1, _ => simp
 | g :: r, x, y, i, j, hl, hx, hy, hi, hj, zx, zy => by
  have hl : r.length < 3 := by simp at hl; omega
  have h2 := half_len hx
  have e : x.length = 2 ^ r.length + 2 ^ r.length := by rw [hx, List.length_cons, Nat.pow_succ]; omega
  have e' : y.length = 2 ^ r.length + 2 ^ r.length := by rw [hy, List.length_cons, Nat.pow_succ]; omega
  have hi : i < 2 ^ r.length + 2 ^ r.length := by rw [List.length_cons, Nat.pow_succ] at hi; omega
  have hj : j < 2 ^ r.length + 2 ^ r.length := by rw [List.length_cons, Nat.pow_succ] at hj; omega
  have l1 : (x.take (2 ^ r.length)).length = 2 ^ r.length := by rw [List.length_take]; omega
  have l2 : (x.drop (2 ^ r.length)).length = 2 ^ r.length := by rw [List.length_drop]; omega
  have l3 : (y.take (2 ^ r.length)).length = 2 ^ r.length := by rw [List.length_take]; omega
  have l4 : (y.drop (2 ^ r.length)).length = 2 ^ r.length := by rw [List.length_drop]; omega
  have l5 : (conjL p (y.drop (2 ^ r.length))).length = 2 ^ r.length := by rw [conjL_len, l4]
  have l6 : (conjL p (y.take (2 ^ r.length))).length = 2 ^ r.length := by rw [conjL_len, l3]
  have m1 := mulR_len (p := p) (rs := r) l1 l3
  have m2 := mulR_len (p := p) (rs := r) l5 l2
  have m3 := mulR_len (p := p) (rs := r) l4 l1
  have m4 := mulR_len (p := p) (rs := r) l2 l6
  have T := xor_tab r.length hl
  have p1 := plusL_len (p := p) (k := g) (m2.trans m1.symm)
  unfold mulR
  rw [h2]
  by_cases hiH : i < 2 ^ r.length <;> by_cases hjH : j < 2 ^ r.length
  ·obtain ⟨t1, _⟩ := T i hiH j hjH
   have zb := zx.dropZ hiH; have zd := zy.dropZ hjH
   exact Sup.appL (Sup.plus (mulR_sup (by omega) l1 l3 hiH hjH (zx.take _) (zy.take _)) ((mulR_zr l5 l2 (.inl zd.conj)).sup _) (m2.trans m1.symm))
    (Zr.plus (mulR_zr l4 l1 (.inl zd)) (mulR_zr l2 l6 (.inl zb)) (m4.trans m3.symm))
  ·obtain ⟨j, rfl⟩ := Nat.exists_eq_add_of_le (Nat.le_of_not_lt hjH)
   obtain ⟨t1, t2, t3, t4⟩ := T i hiH j (by omega)
   have zb := zx.dropZ hiH; have zc := zy.takeZ (by omega : 2 ^ r.length <= 2 ^ r.length + j)
   have zd := zy.drop (by omega : 2 ^ r.length <= 2 ^ r.length + j)
   rw [Nat.add_sub_cancel_left] at zd
   rw [t3]
   have z2 := Sup.appR (xs := plusL p (mulR p r (x.take (2 ^ r.length)) (y.take (2 ^ r.length))) (mulR p r (conjL p (y.drop (2 ^ r.length))) (x.drop (2 ^ r.length))) g) (i := j ^^^ i)
    (Zr.plus (mulR_zr l1 l3 (.inr zc)) (mulR_zr l5 l2 (.inr zb)) (m2.trans m1.symm))
    (Sup.plus (p := p) (k := 1) (mulR_sup (by omega) l4 l1 (by omega) (by omega) zd (zx.take _)) ((mulR_zr l2 l6 (.inl zb)).sup _) (m4.trans m3.symm))
   rw [p1, m1] at z2
   exact z2
  ·obtain ⟨i, rfl⟩ := Nat.exists_eq_add_of_le (Nat.le_of_not_lt hiH)
   obtain ⟨t1, t2, t3, t4⟩ := T i (by omega) j hjH
   have zd := zy.dropZ hjH; have za := zx.takeZ (by omega : 2 ^ r.length <= 2 ^ r.length + i)
   have zb := zx.drop (by omega : 2 ^ r.length <= 2 ^ r.length + i)
   rw [Nat.add_sub_cancel_left] at zb
   rw [t2]
   have z2 := Sup.appR (xs := plusL p (mulR p r (x.take (2 ^ r.length)) (y.take (2 ^ r.length))) (mulR p r (conjL p (y.drop (2 ^ r.length))) (x.drop (2 ^ r.length))) g) (i := i ^^^ j)
    (Zr.plus (mulR_zr l1 l3 (.inl za)) (mulR_zr l5 l2 (.inl zd.conj)) (m2.trans m1.symm))
    (Sup.plus (p := p) (k := 1) ((mulR_zr l4 l1 (.inl zd)).sup _) (mulR_sup (by omega) l2 l6 (by omega) (by omega) zb (zy.take _).conj) (m4.trans m3.symm))
   rw [p1, m1] at z2
   exact z2
  ·obtain ⟨i, rfl⟩ := Nat.exists_eq_add_of_le (Nat.le_of_not_lt hiH)
   obtain ⟨j, rfl⟩ := Nat.exists_eq_add_of_le (Nat.le_of_not_lt hjH)
   obtain ⟨t1, t2, t3, t4⟩ := T i (by omega) j (by omega)
   have zb := zx.drop (by omega : 2 ^ r.length <= 2 ^ r.length + i); have zd := zy.drop (by omega : 2 ^ r.length <= 2 ^ r.length + j)
   rw [Nat.add_sub_cancel_left] at zb zd
   have za := zx.takeZ (by omega : 2 ^ r.length <= 2 ^ r.length + i); have zc := zy.takeZ (by omega : 2 ^ r.length <= 2 ^ r.length + j)
   rw [t4]
   exact Sup.appL (Sup.plus ((mulR_zr l1 l3 (.inl za)).sup _) (mulR_sup (by omega) l5 l2 (by omega) (by omega) zd.conj zb) (m2.trans m1.symm))
    (Zr.plus (mulR_zr l4 l1 (.inr za)) (mulR_zr l2 l6 (.inr zc.conj)) (m4.trans m3.symm))
def basF (p : Int) (st : List Int) (i j : Nat) : Int := (mulL p st (oneL (sz st.length) i) (oneL (sz st.length) j)).getD (i ^^^ j) 0
section
variable {p : Int} {st : List Int} {i j k : Nat}
theorem Ev.unit1 (hp : 2 <= p) {n i : Nat} : Ev p n (oneL n i) := ⟨oneL_len, oneL_fp hp⟩
theorem mul_sup {x y : List Int} (hd : Dok p st) (hx : x.length = sz st.length) (hy : y.length = sz st.length) (hi : i < sz st.length) (hj : j < sz st.length) (zx : Sup i x) (zy : Sup j y) : Sup (i ^^^ j) (mulL p st x y) := by
 have hl : st.reverse.length = st.length := List.length_reverse
 unfold mulL
 unfold sz at hx hy hi hj
 exact mulR_sup (by rw [hl]; exact hd.hl) (by rw [hl]; exact hx) (by rw [hl]; exact hy) (by rw [hl]; exact hi) (by rw [hl]; exact hj) zx zy
theorem xor_lt (hi : i < sz st.length) (hj : j < sz st.length) : i ^^^ j < sz st.length := Nat.xor_lt_two_pow hi hj
theorem basF_fp (hd : Dok p st) : 0 <= basF p st i j /\ basF p st i j < p := by
 have hp1 := hd.hp.lo
 exact (mulL_ev (p := p) (st := st) (by omega) (Ev.unit1 (by omega)) (Ev.unit1 (by omega))).2.g0 (by omega) _
end
/-! ### Columns, isometries, skew matrices -/
def colL (M : List (List Int)) (i : Nat) : List Int := M.map fun r => r.getD i 0
def matB (p : Int) (n : Nat) (M : List (List Int)) : Bool := decide (M.length = n) && M.all (isE p n)
theorem matB_iff {p : Int} {n : Nat} {M : List (List Int)} : matB p n M = true ↔ M.length = n /\ ∀ r ∈ M, Ev p n r := by
 unfold matB Ev
 simp [isE_iff]
theorem colL_at {M : List (List Int)} {i r : Nat} (h : r < M.length) : (colL M i).getD r 0 = M[r].getD i 0 := by
 unfold colL
 rw [List.getD_eq_getElem?_getD, List.getElem?_map, List.getElem?_eq_getElem h]; rfl
theorem colL_ev {p : Int} {n : Nat} {M : List (List Int)} (hp : 1 <= p) (h : matB p n M = true) (i : Nat) : Ev p n (colL M i) := by
 obtain ⟨h1, h2⟩ := matB_iff.1 h
 refine ⟨by unfold colL; rw [List.length_map]; exact h1, fun x hx => ?_⟩
 obtain ⟨r, hr, rfl⟩ := List.mem_map.1 hx
 exact (h2 r hr).2.g0 (by omega) i
end Go.Proofs.YtilgbekffbphgaaGreat
