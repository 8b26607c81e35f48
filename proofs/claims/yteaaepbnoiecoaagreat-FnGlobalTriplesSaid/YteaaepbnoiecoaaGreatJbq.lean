/- Texts joined for a claim: GuM, HfL. -/
import Derived.Test.YteaaepbnoiecoaaGreatGuL
import Derived.Test.YteaaepbnoiecoaaGreatGuD
import Derived.Test.YteaaepbnoiecoaaGreatGuH
import Derived.Test.YteaaepbnoiecoaaGreatTgD
import Derived.Test.YteaaepbnoiecoaaGreatJaw
import Derived.Test.YteaaepbnoiecoaaGreatJay
namespace Go.Proofs.YteaaepbnoiecoaaGreat
open Go.RowKit
def RUt1 (p : Int) (st xs : List Int) : Int := if chk3 p st [xs] = 0 then (if normL p st xs = 1 then 0 else 5) else chk3 p st [xs]
def OutUt (w : World) (p : Int) (st xs : List Int) (e : Ending) (w' : World) : Prop := Below w.heap.size w w' /\ ((RUt1 p st xs ≠ 0 /\ e = .returned (.tuple #[.agg #[.slice none 0 0, .slice none 0 0, .slice none 0 0], .int .i64 (RUt1 p st xs)])) \/
 (RUt1 p st xs = 0 /\ ∃ a b c, e = .returned (.tuple #[.agg #[a, b, c], .int .i64 0]) /\ Re w' a (unA p st xs) /\ Re w' b (unB p st xs) /\ Re w' c (unC p st xs)))
def OutTr (w : World) (A B C : List (List Int)) (e : Ending) (w' : World) : Prop := Below w.heap.size w w' /\ ∃ a b c, e = .returned (.tuple #[.agg #[a, b, c], .int .i64 0]) /\ Re w' a A /\ Re w' b B /\ Re w' c C
theorem RUt1_ok {p : Int} {st xs : List Int} (h : RUt1 p st xs = 0) : Dok p st /\ Ev p (sz st.length) xs /\ normL p st xs = 1 := by
 unfold RUt1 at h
 split at h
 ·next h0 =>
  obtain ⟨hd, hev⟩ := chk3_posA h0
  split at h
  ·next h1 => exact ⟨hd, hev xs (by simp), h1⟩
  ·exact absurd h (by decide)
 ·next h0 => exact absurd h h0
theorem ReR.below {w w' : World} {B : Nat} {v : Value} {xss : List (List Int)} (h : ReR w B v xss) (hb : Below w.heap.size w w') : ReR w' B v xss := h.keep hb.size fun b _ hb2 => hb.block b hb2
theorem re_set3 {w : World} {v : Value} {A : List (List Int)} {B r : Nat} (h : ReR w B v A) (hr : r < B) (x y z : Value) : Re (((w.setCell ⟨r, 0, none⟩ x).setCell ⟨r, 1, none⟩ y).setCell ⟨r, 2, none⟩ z) v A := by
 refine (h.keep (by simp) fun b hB _ => ?_).re
 rw [Below.heap_setCell _ _ _ _ (show b ≠ r by omega), Below.heap_setCell _ _ _ _ (show b ≠ r by omega), Below.heap_setCell _ _ _ _ (show b ≠ r by omega)]
section
variable {p : Int} {s x y z : Value} {st xs ys zs : List Int} {w : World}
set_option maxHeartbeats 8000000 in
set_option maxRecDepth 100000 in
theorem sut_c (hs : El w s st) (hm : st.length <= 1048576) (hx : El w x xs) (hxl : xs.length <= 1048576) :
  Calls Tryz.prog 12 #[.agg #[.int .i64 p, s], x] w fun e w' => OutUt w p st xs e w' := by
 obtain ⟨a0, c0, rfl, _⟩ := id hs.op
 obtain ⟨a1, c1, rfl, _⟩ := id hx.op
 have hchk := fun W l (h1 : El W (.slice a0 st.length c0) st) (h2 : Re W l [xs]) => sl14e_c (w := W) (p := p) h1 h2 hm (by simp) (fun ys h => by rw [List.mem_singleton.1 h]; exact hxl)
 obtain ⟨K, hK⟩ : ∃ K, K = chk3 p st [xs] := ⟨_, rfl⟩
 simp only [<- hK] at hchk
 have HK := Lib.hid hK; clear hK
 go_enter Tryz.func12, Tryz.ntmps12
 have hb0 : Below w.heap.size w ((w.alloc (.cells #[.int .i64 p, .slice a0 st.length c0] 26)).alloc (.cells #[.slice none 0 0, .slice none 0 0, .slice none 0 0] 29)) := bwT
 have hs := hs.below hb0; have hx := hx.below hb0
 have d0 : ((w.alloc (.cells #[.int .i64 p, .slice a0 st.length c0] 26)).alloc (.cells #[.slice none 0 0, .slice none 0 0, .slice none 0 0] 29)).cell? ⟨w.heap.size, 0, none⟩ = some (.int .i64 p) := by simp [go_sem]
 have d1 : ((w.alloc (.cells #[.int .i64 p, .slice a0 st.length c0] 26)).alloc (.cells #[.slice none 0 0, .slice none 0 0, .slice none 0 0] 29)).cell? ⟨w.heap.size, 1, none⟩ = some (.slice a0 st.length c0) := by simp [go_sem]
 have r0 : ((w.alloc (.cells #[.int .i64 p, .slice a0 st.length c0] 26)).alloc (.cells #[.slice none 0 0, .slice none 0 0, .slice none 0 0] 29)).cell? ⟨w.heap.size + 1, 0, none⟩ = some (.slice none 0 0) := by simp [go_sem]
 have r1 : ((w.alloc (.cells #[.int .i64 p, .slice a0 st.length c0] 26)).alloc (.cells #[.slice none 0 0, .slice none 0 0, .slice none 0 0] 29)).cell? ⟨w.heap.size + 1, 1, none⟩ = some (.slice none 0 0) := by simp [go_sem]
 have r2 : ((w.alloc (.cells #[.int .i64 p, .slice a0 st.length c0] 26)).alloc (.cells #[.slice none 0 0, .slice none 0 0, .slice none 0 0] 29)).cell? ⟨w.heap.size + 1, 2, none⟩ = some (.slice none 0 0) := by simp [go_sem]
 have hr : Bt ((w.alloc (.cells #[.int .i64 p, .slice a0 st.length c0] 26)).alloc (.cells #[.slice none 0 0, .slice none 0 0, .slice none 0 0] 29)) (w.heap.size + 1) (.slice none 0 0) (.slice none 0 0) (.slice none 0 0) := by
  have h := heap_alloc_new (w.alloc (.cells #[.int .i64 p, .slice a0 st.length c0] 26)) (.cells #[.slice none 0 0, .slice none 0 0, .slice none 0 0] 29)
  rw [show (w.alloc (.cells #[.int .i64 p, .slice a0 st.length c0] 26)).heap.size = w.heap.size + 1 by simp] at h
  exact h
 clear r0 r1 r2
 have hl1 := Re.oneL (k := w.heap.size + 1 + 1) hx (by simp)
 have hz0 : w.heap.size + 1 + 1 <= ((w.alloc (.cells #[.int .i64 p, .slice a0 st.length c0] 26)).alloc (.cells #[.slice none 0 0, .slice none 0 0, .slice none 0 0] 29)).heap.size := by simp
 have hb1 : Below ((w.alloc (.cells #[.int .i64 p, .slice a0 st.length c0] 26)).alloc (.cells #[.slice none 0 0, .slice none 0 0, .slice none 0 0] 29)).heap.size ((w.alloc (.cells #[.int .i64 p, .slice a0 st.length c0] 26)).alloc (.cells #[.slice none 0 0, .slice none 0 0, .slice none 0 0] 29)) (((w.alloc (.cells #[.int .i64 p, .slice a0 st.length c0] 26)).alloc (.cells #[.slice none 0 0, .slice none 0 0, .slice none 0 0] 29)).alloc (.cells #[.slice a1 xs.length c1] 24)) := bwT
 have hs := hs.below hb1; have hx := hx.below hb1; have d0 := kept hb1 d0; have d1 := kept hb1 d1; have hr := hr.below hb1
 have cx0 : (((w.alloc (.cells #[.int .i64 p, .slice a0 st.length c0] 26)).alloc (.cells #[.slice none 0 0, .slice none 0 0, .slice none 0 0] 29)).alloc (.cells #[.slice a1 xs.length c1] 24)).cell? ⟨w.heap.size + 1 + 1, 0, none⟩ = some (.slice a1 xs.length c1) := by simp [go_sem]
 go_wp2_with fail
 refine (hchk _ _ hs hl1).mono ?_; rintro e w2 ⟨rfl, hb2⟩
 have hs := hs.below hb2; have hx := hx.below hb2; have d0 := kept hb2 d0; have d1 := kept hb2 d1; have hr := hr.below hb2; have cx0 := kept hb2 cx0; have hl1 := hl1.below hb2
 have hbx : Below w.heap.size w w2 := bwT
 have hzz : w.heap.size + 1 + 1 <= w2.heap.size := Nat.le_trans hz0 (Nat.le_trans hb1.size hb2.size)
 clear hchk hl1 cx0
 by_cases hk0 : K = 0
 case neg =>
  have hkb : (K != 0) = true := by simpa using hk0
  have E := Lib.hid (show RUt1 p st xs = K by unfold RUt1; rw [<- HK.out, if_neg hk0])
  have HK0 := Lib.hid hk0; clear hk0
  obtain ⟨R, hR⟩ : ∃ R, R = RUt1 p st xs := ⟨_, rfl⟩
  have HR := Lib.hid hR
  have r0 := hr.c0; have r1 := hr.c1; have r2 := hr.c2; have rf0 := hr.f 0; have rf1 := hr.f 1; have rf2 := hr.f 2
  go_wp2_with fail
  refine bodyPost_ret (v := .tuple #[.agg #[.slice none 0 0, .slice none 0 0, .slice none 0 0], .int .i64 K]) (by simp [results, Tryz.results12, go_sem, r0, r1, r2]) rfl ?_
  exact ⟨bwS (bwS (bwS hbx (Nat.le_succ _) _) (Nat.le_succ _) _) (Nat.le_succ _) _, .inl ⟨by rw [E.out]; exact HK0.out, by rw [E.out]⟩⟩
 have hkb : (K != 0) = false := by simp [hk0]
 subst hk0
 obtain ⟨hd, hev⟩ := chk3_posA HK.out.symm
 have hev := hev xs (by simp)
 have hl3 := hd.hl; have hsz := sz_le hd; have hp1 := hd.hp.lo; have hp2 := hd.hp.hi
 have h1f : RUt1 p st xs = if normL p st xs = 1 then 0 else 5 := by unfold RUt1; rw [<- HK.out, if_pos rfl]
 have hno := fun W (h1 : El W (.slice a0 st.length c0) st) (h2 : El W (.slice a1 xs.length c1) xs) => snorm_c (w := W) (p := p) hd h1 h2 hev
 have H1F := Lib.hid h1f; clear h1f
 obtain ⟨N, hN⟩ : ∃ N, N = normL p st xs := ⟨_, rfl⟩
 simp only [<- hN] at hno
 have HN := Lib.hid hN; have HEV := Lib.hid hev; clear hN hev
 go_wp2_with fail
 refine (hno _ hs hx).mono ?_; rintro e w3 ⟨rfl, hb3⟩
 have hs := hs.below hb3; have hx := hx.below hb3; have d0 := kept hb3 d0; have d1 := kept hb3 d1; have hr := hr.below hb3
 have hbx := hbx.trans (hb3.mono hbx.size)
 have hzz := Nat.le_trans hzz hb3.size
 clear hno hb3 hb2 hb1 hb0
 by_cases h1 : N = 1
 case neg =>
  have h1b : (N != 1) = true := by simpa using h1
  have E := Lib.hid (show RUt1 p st xs = 5 by rw [H1F.out, <- HN.out, if_neg h1])
  clear h1
  have r0 := hr.c0; have r1 := hr.c1; have r2 := hr.c2; have rf0 := hr.f 0; have rf1 := hr.f 1; have rf2 := hr.f 2
  go_wp2_with fail
  refine bodyPost_ret (v := .tuple #[.agg #[.slice none 0 0, .slice none 0 0, .slice none 0 0], .int .i64 5]) (by simp [results, Tryz.results12, go_sem, r0, r1, r2]) rfl ?_
  exact ⟨bwS (bwS (bwS hbx (Nat.le_succ _) _) (Nat.le_succ _) _) (Nat.le_succ _) _, .inl ⟨by rw [E.out]; decide, by rw [E.out]⟩⟩
 have h1b : (N != 1) = false := by simp [h1]
 have E := Lib.hid (show RUt1 p st xs = 0 by rw [H1F.out, <- HN.out, if_pos h1])
 clear h1
 go_wp2_with fail
 refine (sl15u_c hd hs hx HEV.out).mono ?_; rintro e w4 ⟨v1, v2, v3, rfl, h1, h2, h3, hb4⟩
 obtain ⟨g1, k1, rfl⟩ := h1.shape; obtain ⟨g2, k2, rfl⟩ := h2.shape; obtain ⟨g3, k3, rfl⟩ := h3.shape
 have hr := hr.below hb4
 have hbx := hbx.trans (hb4.mono hbx.size)
 have r0 := hr.c0; have r1 := hr.c1; have r2 := hr.c2; have rf0 := hr.f 0; have rf1 := hr.f 1; have rf2 := hr.f 2
 go_wp2_with fail
 refine bodyPost_ret (v := .tuple #[.agg #[.slice g1 (unA p st xs).length k1, .slice g2 (unB p st xs).length k2, .slice g3 (unC p st xs).length k3], .int .i64 0]) (by simp [results, Tryz.results12, go_sem, r0, r1, r2]) rfl ?_
 exact ⟨bwS (bwS (bwS hbx (Nat.le_succ _) _) (Nat.le_succ _) _) (Nat.le_succ _) _, .inr ⟨E.out, _, _, _, rfl, re_set3 h1.rer (by omega) _ _ _, re_set3 h2.rer (by omega) _ _ _, re_set3 h3.rer (by omega) _ _ _⟩⟩
set_option maxHeartbeats 8000000 in
set_option maxRecDepth 100000 in
theorem iut_c (hs : El w s st) (hm : st.length <= 1048576) (hx : El w x xs) (hxl : xs.length <= 1048576) :
  Calls Tryz.prog 11 #[.agg #[.int .i64 p, s], x] w fun e w' => OutUt w p st xs e w' := by
 obtain ⟨a0, c0, rfl, _⟩ := id hs.op
 obtain ⟨a1, c1, rfl, _⟩ := id hx.op
 have hchk := fun W l (h1 : El W (.slice a0 st.length c0) st) (h2 : Re W l [xs]) => chk3_c (w := W) (p := p) h1 h2 hm (by simp) (fun ys h => by rw [List.mem_singleton.1 h]; exact hxl)
 obtain ⟨K, hK⟩ : ∃ K, K = chk3 p st [xs] := ⟨_, rfl⟩
 simp only [<- hK] at hchk
 have HK := Lib.hid hK; clear hK
 go_enter Tryz.func11, Tryz.ntmps11
 have hb0 : Below w.heap.size w ((w.alloc (.cells #[.int .i64 p, .slice a0 st.length c0] 26)).alloc (.cells #[.slice none 0 0, .slice none 0 0, .slice none 0 0] 29)) := bwT
 have hs := hs.below hb0; have hx := hx.below hb0
 have d0 : ((w.alloc (.cells #[.int .i64 p, .slice a0 st.length c0] 26)).alloc (.cells #[.slice none 0 0, .slice none 0 0, .slice none 0 0] 29)).cell? ⟨w.heap.size, 0, none⟩ = some (.int .i64 p) := by simp [go_sem]
 have d1 : ((w.alloc (.cells #[.int .i64 p, .slice a0 st.length c0] 26)).alloc (.cells #[.slice none 0 0, .slice none 0 0, .slice none 0 0] 29)).cell? ⟨w.heap.size, 1, none⟩ = some (.slice a0 st.length c0) := by simp [go_sem]
 have r0 : ((w.alloc (.cells #[.int .i64 p, .slice a0 st.length c0] 26)).alloc (.cells #[.slice none 0 0, .slice none 0 0, .slice none 0 0] 29)).cell? ⟨w.heap.size + 1, 0, none⟩ = some (.slice none 0 0) := by simp [go_sem]
 have r1 : ((w.alloc (.cells #[.int .i64 p, .slice a0 st.length c0] 26)).alloc (.cells #[.slice none 0 0, .slice none 0 0, .slice none 0 0] 29)).cell? ⟨w.heap.size + 1, 1, none⟩ = some (.slice none 0 0) := by simp [go_sem]
 have r2 : ((w.alloc (.cells #[.int .i64 p, .slice a0 st.length c0] 26)).alloc (.cells #[.slice none 0 0, .slice none 0 0, .slice none 0 0] 29)).cell? ⟨w.heap.size + 1, 2, none⟩ = some (.slice none 0 0) := by simp [go_sem]
 have hr : Bt ((w.alloc (.cells #[.int .i64 p, .slice a0 st.length c0] 26)).alloc (.cells #[.slice none 0 0, .slice none 0 0, .slice none 0 0] 29)) (w.heap.size + 1) (.slice none 0 0) (.slice none 0 0) (.slice none 0 0) := by
  have h := heap_alloc_new (w.alloc (.cells #[.int .i64 p, .slice a0 st.length c0] 26)) (.cells #[.slice none 0 0, .slice none 0 0, .slice none 0 0] 29)
  rw [show (w.alloc (.cells #[.int .i64 p, .slice a0 st.length c0] 26)).heap.size = w.heap.size + 1 by simp] at h
  exact h
 clear r0 r1 r2
 have hl1 := Re.oneL (k := w.heap.size + 1 + 1) hx (by simp)
 have hz0 : w.heap.size + 1 + 1 <= ((w.alloc (.cells #[.int .i64 p, .slice a0 st.length c0] 26)).alloc (.cells #[.slice none 0 0, .slice none 0 0, .slice none 0 0] 29)).heap.size := by simp
 have hb1 : Below ((w.alloc (.cells #[.int .i64 p, .slice a0 st.length c0] 26)).alloc (.cells #[.slice none 0 0, .slice none 0 0, .slice none 0 0] 29)).heap.size ((w.alloc (.cells #[.int .i64 p, .slice a0 st.length c0] 26)).alloc (.cells #[.slice none 0 0, .slice none 0 0, .slice none 0 0] 29)) (((w.alloc (.cells #[.int .i64 p, .slice a0 st.length c0] 26)).alloc (.cells #[.slice none 0 0, .slice none 0 0, .slice none 0 0] 29)).alloc (.cells #[.slice a1 xs.length c1] 24)) := bwT
 have hs := hs.below hb1; have hx := hx.below hb1; have d0 := kept hb1 d0; have d1 := kept hb1 d1; have hr := hr.below hb1
 have cx0 : (((w.alloc (.cells #[.int .i64 p, .slice a0 st.length c0] 26)).alloc (.cells #[.slice none 0 0, .slice none 0 0, .slice none 0 0] 29)).alloc (.cells #[.slice a1 xs.length c1] 24)).cell? ⟨w.heap.size + 1 + 1, 0, none⟩ = some (.slice a1 xs.length c1) := by simp [go_sem]
 go_wp2_with fail
 refine (hchk _ _ hs hl1).mono ?_; rintro e w2 ⟨rfl, hb2⟩
 have hs := hs.below hb2; have hx := hx.below hb2; have d0 := kept hb2 d0; have d1 := kept hb2 d1; have hr := hr.below hb2; have cx0 := kept hb2 cx0; have hl1 := hl1.below hb2
 have hbx : Below w.heap.size w w2 := bwT
 have hzz : w.heap.size + 1 + 1 <= w2.heap.size := Nat.le_trans hz0 (Nat.le_trans hb1.size hb2.size)
 clear hchk hl1 cx0
 by_cases hk0 : K = 0
 case neg =>
  have hkb : (K != 0) = true := by simpa using hk0
  have E := Lib.hid (show RUt1 p st xs = K by unfold RUt1; rw [<- HK.out, if_neg hk0])
  have HK0 := Lib.hid hk0; clear hk0
  obtain ⟨R, hR⟩ : ∃ R, R = RUt1 p st xs := ⟨_, rfl⟩
  have HR := Lib.hid hR
  have r0 := hr.c0; have r1 := hr.c1; have r2 := hr.c2; have rf0 := hr.f 0; have rf1 := hr.f 1; have rf2 := hr.f 2
  go_wp2_with fail
  refine bodyPost_ret (v := .tuple #[.agg #[.slice none 0 0, .slice none 0 0, .slice none 0 0], .int .i64 K]) (by simp [results, Tryz.results11, go_sem, r0, r1, r2]) rfl ?_
  exact ⟨bwS (bwS (bwS hbx (Nat.le_succ _) _) (Nat.le_succ _) _) (Nat.le_succ _) _, .inl ⟨by rw [E.out]; exact HK0.out, by rw [E.out]⟩⟩
 have hkb : (K != 0) = false := by simp [hk0]
 subst hk0
 obtain ⟨hd, hev⟩ := chk3_posA HK.out.symm
 have hev := hev xs (by simp)
 have hl3 := hd.hl; have hsz := sz_le hd; have hp1 := hd.hp.lo; have hp2 := hd.hp.hi
 have h1f : RUt1 p st xs = if normL p st xs = 1 then 0 else 5 := by unfold RUt1; rw [<- HK.out, if_pos rfl]
 have hno := fun W (h1 : El W (.slice a0 st.length c0) st) (h2 : El W (.slice a1 xs.length c1) xs) => norm_c (w := W) (p := p) hd h1 h2 hev
 have H1F := Lib.hid h1f; clear h1f
 obtain ⟨N, hN⟩ : ∃ N, N = normL p st xs := ⟨_, rfl⟩
 simp only [<- hN] at hno
 have HN := Lib.hid hN; have HEV := Lib.hid hev; clear hN hev
 go_wp2_with fail
 refine (hno _ hs hx).mono ?_; rintro e w3 ⟨rfl, hb3⟩
 have hs := hs.below hb3; have hx := hx.below hb3; have d0 := kept hb3 d0; have d1 := kept hb3 d1; have hr := hr.below hb3
 have hbx := hbx.trans (hb3.mono hbx.size)
 have hzz := Nat.le_trans hzz hb3.size
 clear hno hb3 hb2 hb1 hb0
 by_cases h1 : N = 1
 case neg =>
  have h1b : (N != 1) = true := by simpa using h1
  have E := Lib.hid (show RUt1 p st xs = 5 by rw [H1F.out, <- HN.out, if_neg h1])
  clear h1
  have r0 := hr.c0; have r1 := hr.c1; have r2 := hr.c2; have rf0 := hr.f 0; have rf1 := hr.f 1; have rf2 := hr.f 2
  go_wp2_with fail
  refine bodyPost_ret (v := .tuple #[.agg #[.slice none 0 0, .slice none 0 0, .slice none 0 0], .int .i64 5]) (by simp [results, Tryz.results11, go_sem, r0, r1, r2]) rfl ?_
  exact ⟨bwS (bwS (bwS hbx (Nat.le_succ _) _) (Nat.le_succ _) _) (Nat.le_succ _) _, .inl ⟨by rw [E.out]; decide, by rw [E.out]⟩⟩
 have h1b : (N != 1) = false := by simp [h1]
 have E := Lib.hid (show RUt1 p st xs = 0 by rw [H1F.out, <- HN.out, if_pos h1])
 clear h1
 have ecj := HEV.out.conj (show 1 <= p by omega)
 have kl := fun W (h : El W (.slice a0 st.length c0) st) (h' : El W (.slice a1 xs.length c1) xs) => left_c (w := W) hd h h' HEV.out
 have kr := fun W (h : El W (.slice a0 st.length c0) st) (h' : El W (.slice a1 xs.length c1) xs) => right_c (w := W) hd h h' HEV.out
 have kc := fun W q2 q7 vb (h : El W (.slice a0 st.length c0) st) c20 c21 c70 (h' : El W vb (conjL p xs)) => utmat_c (w := W) (q2 := q2) (q7 := q7) (vb := vb) hd h c20 c21 c70 h' ecj
 have huc : colsM (sz st.length) (unF p st (conjL p xs)) = unC p st xs := rfl
 rw [huc] at kc
 obtain ⟨A, hA⟩ : ∃ X, X = unA p st xs := ⟨_, rfl⟩; obtain ⟨B, hB⟩ : ∃ X, X = unB p st xs := ⟨_, rfl⟩; obtain ⟨C, hC⟩ : ∃ X, X = unC p st xs := ⟨_, rfl⟩
 simp only [<- hA] at kl; simp only [<- hB] at kr; simp only [<- hC] at kc
 have HABC := Lib.hid (And.intro hA (And.intro hB hC)); clear hA hB hC huc
 go_wp2_with fail
 refine (dfield_c).mono ?_; rintro e w4 ⟨rfl, hb4⟩
 have hs := hs.below hb4; have hx := hx.below hb4; have d0 := kept hb4 d0; have d1 := kept hb4 d1; have hr := hr.below hb4
 have hbx := hbx.trans (hb4.mono hbx.size)
 have hzz := Nat.le_trans hzz hb4.size
 have hln : 0 < xs.length /\ xs.length <= 1000 := by have := HEV.out.1; omega
 go_wp2_with fail
 refine (conj_c (by omega) (by omega) hx hln.1 HEV.out.2 hln.2).mono ?_; rintro e w5 ⟨vb, rfl, hcj, hb5⟩
 have hs := hs.below hb5; have hx := hx.below hb5; have d0 := kept hb5 d0; have d1 := kept hb5 d1; have hr := hr.below hb5
 obtain ⟨ab, cb, rfl, _⟩ := id hcj.el.op
 have hbx := hbx.trans (hb5.mono hbx.size)
 have hzz := Nat.le_trans hzz hb5.size
 clear hb4 hb5
 have c70 : (w5.alloc (.cells #[.slice ab (conjL p xs).length cb] 24)).cell? ⟨w5.heap.size, 0, none⟩ = some (.slice ab (conjL p xs).length cb) := by simp [go_sem]
 have hb6 : Below w5.heap.size w5 (w5.alloc (.cells #[.slice ab (conjL p xs).length cb] 24)) := bwT
 obtain ⟨q7, hq7⟩ : ∃ q, q = w5.heap.size := ⟨_, rfl⟩
 have hs := hs.below hb6; have hx := hx.below hb6; have d0 := kept hb6 d0; have d1 := kept hb6 d1; have hr := hr.below hb6; have hcj := hcj.el.below hb6
 have hbx := hbx.trans (hb6.mono hbx.size)
 have hzz := Nat.le_trans hzz hb6.size
 go_upto_region 7 with fail
 obtain ⟨w6, hw6⟩ : ∃ x, x = (w5.alloc (.cells #[.slice ab (conjL p xs).length cb] 24)) := ⟨_, rfl⟩
 rw [<- hw6, <- hq7] at c70; rw [<- hw6] at hs hx d0 d1 hr hcj hbx hzz; rw [<- hw6, <- hq7]
 clear hb6 hw6 hq7
 go_wp2_with fail
 refine region_flow [(false, [(0, 1), (1, 0), (3, 1), (4, 0), (6, 1), (7, 0), (2, 5)]), (false, [(5, 5)]), (false, [(8, 4), (9, 0), (10, 4), (11, 0)])] (by kernel_rfl) ?_
 refine norm_K fun K hK => ?_
 change wpList _ _ _ [_, _, _, _, _, _, _] _ _
 have hb27 : Below w6.heap.size w6 w6.drew := bwT
 have hs := hs.below hb27; have hx := hx.below hb27; have d0 := kept hb27 d0; have d1 := kept hb27 d1; have hr := hr.below hb27; have hcj := hcj.below hb27; have c70 := kept hb27 c70
 generalize w6.drew = wq at *
 have hbx := hbx.trans (hb27.mono hbx.size)
 have hzz := Nat.le_trans hzz hb27.size
 go_wp2_with fail
 refine (kl _ hs hx).mono ?_; rintro e w28 ⟨v1, rfl, h1, hb28⟩
 have hs := hs.below hb28; have hx := hx.below hb28; have d0 := kept hb28 d0; have d1 := kept hb28 d1; have hr := hr.below hb28; have hcj := hcj.below hb28; have c70 := kept hb28 c70
 go_wp2_with fail
 have hz0 : Below wq.heap.size wq w28 := bwT
 first | (refine hK _ _ ⟨hz0, ?_⟩; clear hK K) | refine ⟨hz0, ?_⟩
 clear hz0
 refine norm_K fun K hK => ?_
 change wpList _ _ _ [_] _ _
 obtain ⟨g1, k1, rfl⟩ := h1.shapeA
 have h1 := h1.more hzz
 go_wp2_with fail
 refine (kr _ hs hx).mono ?_; rintro e w29 ⟨v2, rfl, h2, hb29⟩
 have hs := hs.below hb29; have hx := hx.below hb29; have d0 := kept hb29 d0; have d1 := kept hb29 d1; have hr := hr.below hb29; have hcj := hcj.below hb29; have c70 := kept hb29 c70; have h1 := h1.below hb29
 go_wp2_with fail
 have hz1 : Below wq.heap.size wq w29 := bwT
 first | (refine hK _ _ ⟨hz1, ?_⟩; clear hK K) | refine ⟨hz1, ?_⟩
 clear hz1
 refine norm_K fun K hK => ?_
 change wpList _ _ _ [_, _, _, _] _ _
 obtain ⟨g2, k2, rfl⟩ := h2.shapeA
 have h2 := h2.more (Nat.le_trans hzz hb28.size)
 go_wp2_with fail
 refine (kc _ _ q7 _ hs d0 d1 c70 hcj).mono ?_; rintro e w30 ⟨v3, rfl, h3, hb30⟩
 have hs := hs.below hb30; have hx := hx.below hb30; have d0 := kept hb30 d0; have d1 := kept hb30 d1; have hr := hr.below hb30; have hcj := hcj.below hb30; have c70 := kept hb30 c70; have h1 := h1.below hb30; have h2 := h2.below hb30
 obtain ⟨g3, k3, rfl⟩ := h3.shapeA
 have h3 := h3.more (Nat.le_trans hzz (Nat.le_trans hb28.size hb29.size))
 have hfo : Below wq.heap.size wq w30 := bwT
 have hbx := hbx.trans (hfo.mono hbx.size)
 have r0 := hr.c0; have r1 := hr.c1; have r2 := hr.c2; have rf0 := hr.f 0; have rf1 := hr.f 1; have rf2 := hr.f 2
 go_wp2_with fail
 first | (refine hK _ _ ⟨rfl, ?_⟩; clear hK K) | refine ⟨rfl, ?_⟩
 go_wp2_with fail
 refine bodyPost_ret (v := .tuple #[.agg #[.slice g1 A.length k1, .slice g2 B.length k2, .slice g3 C.length k3], .int .i64 0]) (by simp [results, Tryz.results11, go_sem, r0, r1, r2]) rfl ?_
 refine ⟨bwS (bwS (bwS hbx (Nat.le_succ _) _) (Nat.le_succ _) _) (Nat.le_succ _) _, .inr ⟨E.out, _, _, _, rfl, ?_, ?_, ?_⟩⟩
 ·have h := re_set3 h1 (show w.heap.size + 1 < w.heap.size + 1 + 1 by omega) (.slice g1 A.length k1) (.slice g2 B.length k2) (.slice g3 C.length k3)
  rw [HABC.out.1] at h ⊢; exact h
 ·have h := re_set3 h2 (show w.heap.size + 1 < w.heap.size + 1 + 1 by omega) (.slice g1 A.length k1) (.slice g2 B.length k2) (.slice g3 C.length k3)
  rw [HABC.out.2.1] at h ⊢; exact h
 ·have h := re_set3 h3 (show w.heap.size + 1 < w.heap.size + 1 + 1 by omega) (.slice g1 A.length k1) (.slice g2 B.length k2) (.slice g3 C.length k3)
  rw [HABC.out.2.2] at h ⊢; exact h
end
theorem like_c0 {x y : Value} {xs ys : List Int} {w : World} (hx : Sl w x xs) (hy : Sl w y ys) (hm : xs.length <= 1048576) :
  Calls Tryz.prog 89 #[x, y] w fun e w' => e = .returned (.bool (decide (xs = ys))) /\ Below w.heap.size w w' := by
 by_cases hl : ys.length = xs.length
 ·rcases two_rows hx hy hl with ⟨rfl, rfl, a, c, a2, c2, rfl, rfl⟩ | ⟨b, off, c, b2, off2, c2, rfl, rfl, hx, hy⟩
  ·go_enter Tryz.func89, Tryz.ntmps89
   go_wp2
   refine wp_loop_rounds 1 ?_; rw [rounds_succ]
   go_wp2
   go_ret
   exact ⟨rfl, Below.refl _ _⟩
  have HL := Lib.hid hl; clear hl
  go_enter Tryz.func89, Tryz.ntmps89
  go_wp2
  go_loopw [5] (fun i wr => ∃ m : Nat, m <= xs.length /\ i = .int .i64 m /\ xs.take m = ys.take m /\ Below w.heap.size w wr)
   (fun i _ => xs.length - (intOf i).toNat)
  case atStart => exact ⟨0, Nat.zero_le _, rfl, rfl, Below.refl _ _⟩
  case round =>
   obtain ⟨m, hm', rfl, heq, hb⟩ := hrel
   by_cases hlt : m < xs.length
   ·obtain ⟨u, hxm, hcx, htx⟩ := (hx.below hb).get hlt
    have hlt2 : m < ys.length := by rw [HL.out]; exact hlt
    obtain ⟨z, hym, hcy, hty⟩ := (hy.below hb).get hlt2
    have H := Lib.hid (And.intro htx (And.intro hty heq)); clear htx hty heq
    by_cases huz : u = z
    ·subst huz
     go_wp2
     refine region_flow [(false, [(0, 0), (1, 0), (2, 0), (3, 1), (4, 0), (5, 0), (6, 0), (7, 1), (8, 0)])] (by kernel_rfl) ?_
     refine norm_K fun K hK => ?_
     change wpList _ _ _ [_, _, _, _, _, _, _, _, _] _ _
     go_wp2
     first | (refine hK _ _ ⟨rfl, ?_⟩; clear hK K) | refine ⟨rfl, ?_⟩
     go_wp2
     go_roundw
     case rel => exact ⟨m + 1, by omega, by go_num, by rw [H.out.1, H.out.2.1, H.out.2.2], hb.drew⟩
     case measure => simp [intOf]; omega
    ·have hd : decide (xs = ys) = false := by
      refine decide_eq_false fun he => huz ?_
      have h1 : xs.take (m + 1) = ys.take (m + 1) := by rw [he]
      rw [H.out.1, H.out.2.1, H.out.2.2] at h1
      have h2 := congrArg List.getLast? (List.append_cancel_left h1)
      simpa using h2
     have hne : (u != z) = true := by simpa using huz
     have HD := Lib.hid hd; clear hd
     go_wp2
     refine region_flow [(false, [(0, 0), (1, 0), (2, 0), (3, 1), (4, 0), (5, 0), (6, 0), (7, 1), (8, 0)])] (by kernel_rfl) ?_
     refine norm_K fun K hK => ?_
     change wpList _ _ _ [_, _, _, _, _, _, _, _, _] _ _
     go_wp2
     first | (refine hK _ _ ⟨rfl, ?_⟩; clear hK K) | refine ⟨rfl, ?_⟩
     go_wp2
     go_ret
     exact ⟨by rw [HD.out]; rfl, hb.drew⟩
   ·obtain rfl : m = xs.length := by omega
    rw [take_all (Nat.le_refl _), take_all (by rw [HL.out]; exact Nat.le_refl _)] at heq
    have hd : decide (xs = ys) = true := decide_eq_true heq
    have HD := Lib.hid hd; clear hd heq
    go_wp2
    go_ret
    exact ⟨by rw [HD.out]; rfl, hb⟩
 ·obtain ⟨a, c, rfl, _⟩ := hx
  obtain ⟨a2, c2, rfl, _⟩ := hy
  have hd : decide (xs = ys) = false := decide_eq_false fun he => hl (by rw [he])
  have hne : ((xs.length : Int) != (ys.length : Int)) = true := by rw [bne_iff_ne]; omega
  have HD := Lib.hid hd; clear hd
  go_enter Tryz.func89, Tryz.ntmps89
  go_wp2
  go_ret
  exact ⟨by rw [HD.out]; rfl, Below.refl _ _⟩
theorem like_c {x y : Value} {xs : List Int} {w : World} (hx : Sl w x xs) (hy : Sl w y xs) (hm : xs.length <= 1048576) :
  Calls Tryz.prog 89 #[x, y] w fun e w' => e = .returned (.bool true) /\ Below w.heap.size w w' := by
 have h := like_c0 hx hy hm
 rwa [decide_eq_true rfl] at h
theorem same9_c {x y : Value} {xss : List (List Int)} {w : World} (hx : Rs w x xss) (hy : Rs w y xss) (hm : xss.length <= 1048576) (hr : ∀ xs ∈ xss, xs.length <= 1048576) :
  Calls Tryz.prog 49 #[x, y] w fun e w' => e = .returned (.bool true) /\ Below w.heap.size w w' := by
 obtain ⟨a, c, rfl, hx⟩ := hx
 obtain ⟨a2, c2, rfl, hy⟩ := hy
 rcases hx with rfl | ⟨b, off, rfl, hx⟩
 ·go_enter Tryz.func49, Tryz.ntmps49
  go_wp2
  refine wp_loop_rounds 1 ?_; rw [rounds_succ]
  go_wp2
  go_ret
  exact ⟨rfl, Below.refl _ _⟩
 rcases hy with rfl | ⟨b2, off2, rfl, hy⟩
 ·go_enter Tryz.func49, Tryz.ntmps49
  go_wp2
  refine wp_loop_rounds 1 ?_; rw [rounds_succ]
  go_wp2
  go_ret
  exact ⟨rfl, Below.refl _ _⟩
 go_enter Tryz.func49, Tryz.ntmps49
 go_wp2
 go_loopw [5] (fun i wr => ∃ m : Nat, m <= xss.length /\ i = .int .i64 m /\ Below w.heap.size w wr)
  (fun i _ => xss.length - (intOf i).toNat)
 case atStart => exact ⟨0, Nat.zero_le _, rfl, Below.refl _ _⟩
 case round =>
  obtain ⟨m, hm', rfl, hb⟩ := hrel
  by_cases hlt : m < xss.length
  ·obtain ⟨u, hc, hs⟩ := hx m hlt
   obtain ⟨u2, hc2, hs2⟩ := hy m hlt
   have hc := kept hb hc
   have hs := hs.below hb
   have hc2 := kept hb hc2
   have hs2 := hs2.below hb
   have hxl := hr _ (List.getElem_mem hlt)
   obtain ⟨q, hq⟩ : ∃ q, q = xss[m] := ⟨_, rfl⟩
   rw [<- hq] at hs hs2 hxl
   clear hq
   go_wp2
   refine region_flow [(false, [(0, 0), (1, 0), (2, 0), (3, 1), (4, 0), (5, 0), (6, 0), (7, 1), (8, 4), (9, 0)])] (by kernel_rfl) ?_
   refine norm_K fun K hK => ?_
   change wpList _ _ _ [_, _, _, _, _, _, _, _, _, _] _ _
   go_wp2_with fail
   refine (like_c (hs.below bwT) (hs2.below bwT) hxl).mono ?_; rintro e w2 ⟨rfl, hb2⟩
   go_wp2_with fail
   first | (refine hK _ _ ⟨rfl, ?_⟩; clear hK K) | refine ⟨rfl, ?_⟩
   go_wp2
   go_roundw
   case rel => exact ⟨m + 1, by omega, by go_num, bwC hb.drew hb2⟩
   case measure => simp [intOf]; omega
  ·obtain rfl : m = xss.length := by omega
   go_wp2
   go_ret
   exact ⟨rfl, hb⟩
end Go.Proofs.YteaaepbnoiecoaaGreat
