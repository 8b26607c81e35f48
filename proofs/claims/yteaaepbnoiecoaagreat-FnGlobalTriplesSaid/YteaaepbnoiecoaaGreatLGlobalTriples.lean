import Derived.Test.YteaaepbnoiecoaaGreatJbo
import Derived.Test.YteaaepbnoiecoaaGreatGuN
import Derived.Test.YteaaepbnoiecoaaGreatTgE
import Derived.Test.YteaaepbnoiecoaaGreatTlE
import Derived.Test.YteaaepbnoiecoaaGreatHeH
import Derived.Test.YteaaepbnoiecoaaGreatJaw
namespace Go.Proofs.YteaaepbnoiecoaaGreat
open Go.RowKit
theorem msz16 {A : List (List Int)} (h1 : A.length <= 16) (h2 : ∀ r ∈ A, r.length <= 16) : Msz A := by
 have h := sumL_bd (M := A) (k := 16) h2
 exact { sum := by omega, h2 := by omega, h3 := fun r hr => by have := h2 r hr; omega }
theorem OutUt.no {w w' : World} {p : Int} {st xs : List Int} {e : Ending} (h : RUt1 p st xs ≠ 0) (ho : OutUt w p st xs e w') : e = .returned (.tuple #[.agg #[.slice none 0 0, .slice none 0 0, .slice none 0 0], .int .i64 (RUt1 p st xs)]) /\ Below w.heap.size w w' := by
 obtain ⟨hb, ⟨_, rfl⟩ | ⟨h0, _⟩⟩ := ho
 ·exact ⟨rfl, hb⟩
 ·exact absurd h0 h
theorem OutUt.yes {w w' : World} {p : Int} {st xs : List Int} {e : Ending} (h : RUt1 p st xs = 0) (ho : OutUt w p st xs e w') : ∃ a b c, e = .returned (.tuple #[.agg #[a, b, c], .int .i64 0]) /\ Re w' a (unA p st xs) /\ Re w' b (unB p st xs) /\ Re w' c (unC p st xs) /\ Below w.heap.size w w' := by
 obtain ⟨hb, ⟨h0, _⟩ | ⟨_, a, b, c, rfl, h1, h2, h3⟩⟩ := ho
 ·exact absurd h h0
 ·exact ⟨a, b, c, rfl, h1, h2, h3, hb⟩
theorem OutTr.flip {w w' : World} {A B C : List (List Int)} {e : Ending} (h : OutTr w A B C e w') : ∃ a b c, e = .returned (.tuple #[.agg #[a, b, c], .int .i64 0]) /\ Re w' a A /\ Re w' b B /\ Re w' c C /\ Below w.heap.size w w' := by
 obtain ⟨hb, a, b, c, rfl, h1, h2, h3⟩ := h
 exact ⟨a, b, c, rfl, h1, h2, h3, hb⟩
section
variable {p : Int} {s : Value} {st : List Int} {A B C : List (List Int)} {w : World}
theorem glo_c {a b c : Value} (hd : Dok p st) (hG : Glo p st A B C) (hs : El w s st) (hA : Re w a A) (hB : Re w b B) (hC : Re w c C) :
  Calls Tryz.prog 6 #[.agg #[.int .i64 p, s], .agg #[a, b, c]] w fun e w' => e = .returned (.tuple #[.bool true, .int .i64 0]) /\ Below w.heap.size w w' := by
 have h1 : RIsGlobalTriple1 p st A B C = 0 := chkT_zero hd hG.mA hG.mB hG.mC
 have h0 : RIsGlobalTriple0 p st A B C = true := (if_pos h1).trans (hG.bool hd)
 have h := iIsGlobalTriple_c (w := w) (p0 := p) (x1 := .agg #[a, b, c]) hs (by have := hd.hl; omega) ⟨_, _, _, rfl, hA, hB, hC⟩ ⟨mat_msz hd hG.mA, mat_msz hd hG.mB, mat_msz hd hG.mC⟩
 rw [h0, h1] at h
 exact h
theorem gkn_c {c : Value} (hd : Dok p st) (hG : Glo p st A B C) (hs : El w s st) (hC : Re w c C) :
  Calls Tryz.prog 16 #[.agg #[.int .i64 p, s], c] w fun e w' => e = .returned (.tuple #[.bool true, .int .i64 0]) /\ Below w.heap.size w w' := by
 have h := keep1_c (w := w) hd hs hC hG.mC
 rw [iso_eq (by have := hd.hp.lo; omega) (diagF_fp (by have := hd.hp.lo; omega)), hG.iC] at h
 exact h
end
set_option maxHeartbeats 32000000 in
set_option maxRecDepth 100000 in
theorem law_GlobalTriples {a : Option Addr} {n c : Nat} {w : World} (hn : n <= 9223372036854775807) (hco : n <= 4096 -> Co w w.heap.size (.slice a n c) n) :
  Calls Tryz.prog 3 #[.slice a n c] w fun e w' => e = .returned (.bool true) /\ Below w.heap.size w w' := by
 by_cases hbig : 4096 < n
 ·go_enter Tryz.func3, Tryz.ntmps3
  go_wp2_with fail
  refine (big_c hn).mono ?_; rintro e w1 ⟨rfl, rfl⟩
  rw [decide_eq_true hbig]
  go_wp2_with fail
  go_ret
  exact ⟨rfl, Below.refl _ _⟩
 have hc := hco (by omega)
 have hbf : decide (4096 < n) = false := decide_eq_false hbig
 have hcw := hc
 clear hco hbig
 go_enter Tryz.func3, Tryz.ntmps3
 go_wp2_with fail
 refine (big_c hn).mono ?_; rintro e w0 ⟨rfl, rfl⟩
 rw [hbf]
 go_wp2_with fail
 refine (sdrawgt_c hc).mono ?_; rintro e w1 ⟨p, v, va, vb, vc, st, rfl, hp1, hp2, hl5, hE, hA_, hB_, hC_, hb1⟩
 obtain ⟨av, cv, rfl⟩ := hE.shape_
 obtain ⟨A, hA, hAl, hAw⟩ := hA_; obtain ⟨B, hB, hBl, hBw⟩ := hB_; obtain ⟨C, hC, hCl, hCw⟩ := hC_
 obtain ⟨a1, c1, rfl⟩ := hA.shape; obtain ⟨a2, c2, rfl⟩ := hB.shape; obtain ⟨a3, c3, rfl⟩ := hC.shape
 have hs := hE.1; have hA := hA.re; have hB := hB.re; have hC := hC.re
 have hl6 : st.length <= 1048576 := by omega
 have zz : Tsz A B C := ⟨msz16 hAl hAw, msz16 hBl hBw, msz16 hCl hCw⟩
 have k1 := fun W (h0 : El W (.slice av st.length cv) st) (hA : Re W (.slice a1 A.length c1) A) (hB : Re W (.slice a2 B.length c2) B) (hC : Re W (.slice a3 C.length c3) C) => iIsGlobalTriple_c (w := W) (p0 := p) (x1 := .agg #[.slice a1 A.length c1, .slice a2 B.length c2, .slice a3 C.length c3]) h0 hl6 ⟨_, _, _, rfl, hA, hB, hC⟩ zz
 have k2 := fun W (h0 : El W (.slice av st.length cv) st) (hA : Re W (.slice a1 A.length c1) A) (hB : Re W (.slice a2 B.length c2) B) (hC : Re W (.slice a3 C.length c3) C) => sIsGlobalTriple_c (w := W) (p0 := p) (x1 := .agg #[.slice a1 A.length c1, .slice a2 B.length c2, .slice a3 C.length c3]) h0 hl6 ⟨_, _, _, rfl, hA, hB, hC⟩ zz
 have k3 := fun W (h0 : El W (.slice av st.length cv) st) (hA : Re W (.slice a1 A.length c1) A) (hB : Re W (.slice a2 B.length c2) B) (hC : Re W (.slice a3 C.length c3) C) => iIsLocalTriple_c (w := W) (p0 := p) (x1 := .agg #[.slice a1 A.length c1, .slice a2 B.length c2, .slice a3 C.length c3]) h0 hl6 ⟨_, _, _, rfl, hA, hB, hC⟩ zz
 have k4 := fun W (h0 : El W (.slice av st.length cv) st) (hA : Re W (.slice a1 A.length c1) A) (hB : Re W (.slice a2 B.length c2) B) (hC : Re W (.slice a3 C.length c3) C) => sIsLocalTriple_c (w := W) (p0 := p) (x1 := .agg #[.slice a1 A.length c1, .slice a2 B.length c2, .slice a3 C.length c3]) h0 hl6 ⟨_, _, _, rfl, hA, hB, hC⟩ zz
 obtain ⟨g0, hg0⟩ : ∃ x, x = RIsGlobalTriple0 p st A B C := ⟨_, rfl⟩; obtain ⟨g1, hg1⟩ : ∃ x, x = RIsGlobalTriple1 p st A B C := ⟨_, rfl⟩
 obtain ⟨l0, hl0⟩ : ∃ x, x = RIsLocalTriple0 p st A B C := ⟨_, rfl⟩; obtain ⟨l1, hl1⟩ : ∃ x, x = RIsLocalTriple1 p st A B C := ⟨_, rfl⟩
 simp only [<- hg0, <- hg1] at k1 k2; simp only [<- hl0, <- hl1] at k3 k4
 clear hg0 hg1 hl0 hl1 zz hE hAl hAw hBl hBw hCl hCw
 have hb22 : Below w1.heap.size w1 (w1.alloc (.cells #[.int .i64 p, .slice av st.length cv] 26)) := bwT
 have hs := hs.below hb22; have hA := hA.below hb22; have hB := hB.below hb22; have hC := hC.below hb22
 have d0 : (w1.alloc (.cells #[.int .i64 p, .slice av st.length cv] 26)).cell? ⟨w1.heap.size, 0, none⟩ = some (.int .i64 p) := by simp [go_sem]
 have d1 : (w1.alloc (.cells #[.int .i64 p, .slice av st.length cv] 26)).cell? ⟨w1.heap.size, 1, none⟩ = some (.slice av st.length cv) := by simp [go_sem]
 have hb23 : Below (w1.alloc (.cells #[.int .i64 p, .slice av st.length cv] 26)).heap.size (w1.alloc (.cells #[.int .i64 p, .slice av st.length cv] 26)) ((w1.alloc (.cells #[.int .i64 p, .slice av st.length cv] 26)).alloc (.cells #[.slice a1 A.length c1, .slice a2 B.length c2, .slice a3 C.length c3] 29)) := bwT
 have hs := hs.below hb23; have hA := hA.below hb23; have hB := hB.below hb23; have hC := hC.below hb23; have d0 := kept hb23 d0; have d1 := kept hb23 d1
 have t0 : ((w1.alloc (.cells #[.int .i64 p, .slice av st.length cv] 26)).alloc (.cells #[.slice a1 A.length c1, .slice a2 B.length c2, .slice a3 C.length c3] 29)).cell? ⟨w1.heap.size + 1, 0, none⟩ = some (.slice a1 A.length c1) := by simp [go_sem]
 have t1 : ((w1.alloc (.cells #[.int .i64 p, .slice av st.length cv] 26)).alloc (.cells #[.slice a1 A.length c1, .slice a2 B.length c2, .slice a3 C.length c3] 29)).cell? ⟨w1.heap.size + 1, 1, none⟩ = some (.slice a2 B.length c2) := by simp [go_sem]
 have t2 : ((w1.alloc (.cells #[.int .i64 p, .slice av st.length cv] 26)).alloc (.cells #[.slice a1 A.length c1, .slice a2 B.length c2, .slice a3 C.length c3] 29)).cell? ⟨w1.heap.size + 1, 2, none⟩ = some (.slice a3 C.length c3) := by simp [go_sem]
 go_wp2_with fail
 refine (k1 _ hs hA hB hC).mono ?_; rintro e w24 ⟨rfl, hb24⟩
 have hs := hs.below hb24; have hA := hA.below hb24; have hB := hB.below hb24; have hC := hC.below hb24; have d0 := kept hb24 d0; have d1 := kept hb24 d1; have t0 := kept hb24 t0; have t1 := kept hb24 t1; have t2 := kept hb24 t2
 go_wp2_with fail
 refine (k2 _ hs hA hB hC).mono ?_; rintro e w25 ⟨rfl, hb25⟩
 have hs := hs.below hb25; have hA := hA.below hb25; have hB := hB.below hb25; have hC := hC.below hb25; have d0 := kept hb25 d0; have d1 := kept hb25 d1; have t0 := kept hb25 t0; have t1 := kept hb25 t1; have t2 := kept hb25 t2
 go_wp2_with fail
 refine (k3 _ hs hA hB hC).mono ?_; rintro e w26 ⟨rfl, hb26⟩
 have hs := hs.below hb26; have hA := hA.below hb26; have hB := hB.below hb26; have hC := hC.below hb26; have d0 := kept hb26 d0; have d1 := kept hb26 d1; have t0 := kept hb26 t0; have t1 := kept hb26 t1; have t2 := kept hb26 t2
 go_wp2_with fail
 refine (k4 _ hs hA hB hC).mono ?_; rintro e w27 ⟨rfl, hb27⟩
 have hs := hs.below hb27; have hA := hA.below hb27; have hB := hB.below hb27; have hC := hC.below hb27; have d0 := kept hb27 d0; have d1 := kept hb27 d1; have t0 := kept hb27 t0; have t1 := kept hb27 t1; have t2 := kept hb27 t2
 have hbE : Below w.heap.size w w27 := bwT
 have hcE := (hcw.below hbE).wide (q' := w27.heap.size) (by have := hbE.size; omega)
 clear k1 k2 k3 k4 hs hA hB hC d0 d1 t0 t1 t2
 go_wp2_with fail
 refine (sdrawut_c hcE).mono ?_; rintro e w40 ⟨P, v, x, ss, xs, rfl, hP1, hP2, hl5, hE, hX, hxl, hb40⟩
 have hbX : Below w.heap.size w w40 := hbE.trans (hb40.mono hbE.size)
 clear hcE hb40 hbE hc hcw
 obtain ⟨av, cv, rfl⟩ := hE.shape_; obtain ⟨ax, cx, rfl⟩ := hX.shape_
 have hs := hE.1; have hx := hX.1
 have hl6 : ss.length <= 1048576 := by omega
 have hx6 : xs.length <= 1048576 := by omega
 clear hE hX
 by_cases hk : RUt1 P ss xs = 0
 case neg =>
  have k1 := fun W (h0 : El W (.slice av ss.length cv) ss) (h1 : El W (.slice ax xs.length cx) xs) => (iut_c (w := W) (p := P) h0 hl6 h1 hx6).mono fun e w' h => OutUt.no hk h
  have k2 := fun W (h0 : El W (.slice av ss.length cv) ss) (h1 : El W (.slice ax xs.length cx) xs) => (sut_c (w := W) (p := P) h0 hl6 h1 hx6).mono fun e w' h => OutUt.no hk h
  obtain ⟨k, hk_⟩ : ∃ k, k = RUt1 P ss xs := ⟨_, rfl⟩
  rw [<- hk_] at hk; simp only [<- hk_] at k1 k2
  clear hk_
  have hkb : (k != 0) = true := by simpa using hk
  clear hk
  have hb61 : Below w40.heap.size w40 (w40.alloc (.cells #[.int .i64 P, .slice av ss.length cv] 26)) := bwT
  have hs := hs.below hb61; have hx := hx.below hb61
  have d0 : (w40.alloc (.cells #[.int .i64 P, .slice av ss.length cv] 26)).cell? ⟨w40.heap.size, 0, none⟩ = some (.int .i64 P) := by simp [go_sem]
  have d1 : (w40.alloc (.cells #[.int .i64 P, .slice av ss.length cv] 26)).cell? ⟨w40.heap.size, 1, none⟩ = some (.slice av ss.length cv) := by simp [go_sem]
  go_wp2_with fail
  refine (k1 _ hs hx).mono ?_; rintro e w62 ⟨rfl, hb62⟩
  have hs := hs.below hb62; have hx := hx.below hb62; have d0 := kept hb62 d0; have d1 := kept hb62 d1
  have hb63 : Below w62.heap.size w62 (w62.alloc (.cells #[.slice none 0 0, .slice none 0 0, .slice none 0 0] 29)) := bwT
  have hs := hs.below hb63; have hx := hx.below hb63; have d0 := kept hb63 d0; have d1 := kept hb63 d1
  have t0 : (w62.alloc (.cells #[.slice none 0 0, .slice none 0 0, .slice none 0 0] 29)).cell? ⟨w62.heap.size, 0, none⟩ = some (.slice none 0 0) := by simp [go_sem]
  have t1 : (w62.alloc (.cells #[.slice none 0 0, .slice none 0 0, .slice none 0 0] 29)).cell? ⟨w62.heap.size, 1, none⟩ = some (.slice none 0 0) := by simp [go_sem]
  have t2 : (w62.alloc (.cells #[.slice none 0 0, .slice none 0 0, .slice none 0 0] 29)).cell? ⟨w62.heap.size, 2, none⟩ = some (.slice none 0 0) := by simp [go_sem]
  go_wp2_with fail
  refine (k2 _ hs hx).mono ?_; rintro e w64 ⟨rfl, hb64⟩
  have hs := hs.below hb64; have hx := hx.below hb64; have d0 := kept hb64 d0; have d1 := kept hb64 d1; have t0 := kept hb64 t0; have t1 := kept hb64 t1; have t2 := kept hb64 t2
  have hb65 : Below w64.heap.size w64 (w64.alloc (.cells #[.slice none 0 0, .slice none 0 0, .slice none 0 0] 29)) := bwT
  have hs := hs.below hb65; have hx := hx.below hb65; have d0 := kept hb65 d0; have d1 := kept hb65 d1; have t0 := kept hb65 t0; have t1 := kept hb65 t1; have t2 := kept hb65 t2
  have u0 : (w64.alloc (.cells #[.slice none 0 0, .slice none 0 0, .slice none 0 0] 29)).cell? ⟨w64.heap.size, 0, none⟩ = some (.slice none 0 0) := by simp [go_sem]
  have u1 : (w64.alloc (.cells #[.slice none 0 0, .slice none 0 0, .slice none 0 0] 29)).cell? ⟨w64.heap.size, 1, none⟩ = some (.slice none 0 0) := by simp [go_sem]
  have u2 : (w64.alloc (.cells #[.slice none 0 0, .slice none 0 0, .slice none 0 0] 29)).cell? ⟨w64.heap.size, 2, none⟩ = some (.slice none 0 0) := by simp [go_sem]
  go_wp2_with fail
  refine (triple9_c (Re.nil _) (Re.nil _) (Re.nil _) (Re.nil _) (Re.nil _) (Re.nil _) (msz16 (by simp) (by simp)) (msz16 (by simp) (by simp)) (msz16 (by simp) (by simp))).mono ?_; rintro e w66 ⟨rfl, hb66⟩
  have hs := hs.below hb66; have hx := hx.below hb66; have d0 := kept hb66 d0; have d1 := kept hb66 d1; have t0 := kept hb66 t0; have t1 := kept hb66 t1; have t2 := kept hb66 t2; have u0 := kept hb66 u0; have u1 := kept hb66 u1; have u2 := kept hb66 u2
  have hbz : Below w40.heap.size w40 w66 := bwT
  go_wp2_with fail
  go_ret
  exact ⟨rfl, hbX.trans (hbz.mono hbX.size)⟩
 obtain ⟨hd, hev, h1n⟩ := RUt1_ok hk
 have hG := Glo.unit hd hev h1n
 have k1 := fun W (h0 : El W (.slice av ss.length cv) ss) (h1 : El W (.slice ax xs.length cx) xs) => (iut_c (w := W) (p := P) h0 hl6 h1 hx6).mono fun e w' h => OutUt.yes hk h
 have k2 := fun W (h0 : El W (.slice av ss.length cv) ss) (h1 : El W (.slice ax xs.length cx) xs) => (sut_c (w := W) (p := P) h0 hl6 h1 hx6).mono fun e w' h => OutUt.yes hk h
 obtain ⟨X, hX⟩ : ∃ X, X = unA P ss xs := ⟨_, rfl⟩; obtain ⟨Y, hY⟩ : ∃ X, X = unB P ss xs := ⟨_, rfl⟩; obtain ⟨Z, hZ⟩ : ∃ X, X = unC P ss xs := ⟨_, rfl⟩
 simp only [<- hX, <- hY, <- hZ] at k1 k2 hG
 have hG2 := hG.rot hd
 have hG3 := hG.mul hd hG2
 have k3 := fun W u1 u2 u3 (h0 : El W (.slice av ss.length cv) ss) (h1 : Re W u1 X) (h2 : Re W u2 Y) (h3 : Re W u3 Z) => irot_c (w := W) hd h0 h1 h2 h3 hG.mA hG.mB hG.mC
 have k4 := fun W u1 u2 u3 y1 y2 y3 (h0 : El W (.slice av ss.length cv) ss) (h1 : Re W u1 X) (h2 : Re W u2 Y) (h3 : Re W u3 Z) (h4 : Re W y1 Y) (h5 : Re W y2 Z) (h6 : Re W y3 X) => itim_c (w := W) hd h0 h1 h2 h3 h4 h5 h6 hG.mA hG.mB hG.mC hG2.mA hG2.mB hG2.mC
 obtain ⟨U, hU⟩ : ∃ U, U = mulM P (sz ss.length) X Y := ⟨_, rfl⟩; obtain ⟨V, hV⟩ : ∃ U, U = mulM P (sz ss.length) Y Z := ⟨_, rfl⟩; obtain ⟨T_, hT_⟩ : ∃ U, U = mulM P (sz ss.length) Z X := ⟨_, rfl⟩
 simp only [<- hU, <- hV, <- hT_] at k4 hG3
 have zX := mat_msz hd hG.mA; have zY := mat_msz hd hG.mB; have zZ := mat_msz hd hG.mC
 have HG := Lib.hid hG; have HG2 := Lib.hid hG2; have HG3 := Lib.hid hG3
 clear hG hG2 hG3 hX hY hZ hU hV hT_ hk hev h1n
 have hb61 : Below w40.heap.size w40 (w40.alloc (.cells #[.int .i64 P, .slice av ss.length cv] 26)) := bwT
 have hs := hs.below hb61; have hx := hx.below hb61
 have d0 : (w40.alloc (.cells #[.int .i64 P, .slice av ss.length cv] 26)).cell? ⟨w40.heap.size, 0, none⟩ = some (.int .i64 P) := by simp [go_sem]
 have d1 : (w40.alloc (.cells #[.int .i64 P, .slice av ss.length cv] 26)).cell? ⟨w40.heap.size, 1, none⟩ = some (.slice av ss.length cv) := by simp [go_sem]
 go_wp2_with fail
 refine (k1 _ hs hx).mono ?_; rintro e w62 ⟨u1, u2, u3, rfl, hu1, hu2, hu3, hb62⟩
 have hs := hs.below hb62; have hx := hx.below hb62; have d0 := kept hb62 d0; have d1 := kept hb62 d1
 obtain ⟨a1, c1, rfl, _⟩ := id hu1; obtain ⟨a2, c2, rfl, _⟩ := id hu2; obtain ⟨a3, c3, rfl, _⟩ := id hu3
 have hb63 : Below w62.heap.size w62 (w62.alloc (.cells #[.slice a1 X.length c1, .slice a2 Y.length c2, .slice a3 Z.length c3] 29)) := bwT
 have hs := hs.below hb63; have hx := hx.below hb63; have d0 := kept hb63 d0; have d1 := kept hb63 d1; have hu1 := hu1.below hb63; have hu2 := hu2.below hb63; have hu3 := hu3.below hb63
 have t0 : (w62.alloc (.cells #[.slice a1 X.length c1, .slice a2 Y.length c2, .slice a3 Z.length c3] 29)).cell? ⟨w62.heap.size, 0, none⟩ = some (.slice a1 X.length c1) := by simp [go_sem]
 have t1 : (w62.alloc (.cells #[.slice a1 X.length c1, .slice a2 Y.length c2, .slice a3 Z.length c3] 29)).cell? ⟨w62.heap.size, 1, none⟩ = some (.slice a2 Y.length c2) := by simp [go_sem]
 have t2 : (w62.alloc (.cells #[.slice a1 X.length c1, .slice a2 Y.length c2, .slice a3 Z.length c3] 29)).cell? ⟨w62.heap.size, 2, none⟩ = some (.slice a3 Z.length c3) := by simp [go_sem]
 go_wp2_with fail
 refine (k2 _ hs hx).mono ?_; rintro e w64 ⟨v1, v2, v3, rfl, hv1, hv2, hv3, hb64⟩
 have hs := hs.below hb64; have hx := hx.below hb64; have d0 := kept hb64 d0; have d1 := kept hb64 d1; have hu1 := hu1.below hb64; have hu2 := hu2.below hb64; have hu3 := hu3.below hb64; have t0 := kept hb64 t0; have t1 := kept hb64 t1; have t2 := kept hb64 t2
 obtain ⟨b1, e1, rfl, _⟩ := id hv1; obtain ⟨b2, e2, rfl, _⟩ := id hv2; obtain ⟨b3, e3, rfl, _⟩ := id hv3
 have hb65 : Below w64.heap.size w64 (w64.alloc (.cells #[.slice b1 X.length e1, .slice b2 Y.length e2, .slice b3 Z.length e3] 29)) := bwT
 have hs := hs.below hb65; have hx := hx.below hb65; have d0 := kept hb65 d0; have d1 := kept hb65 d1; have hu1 := hu1.below hb65; have hu2 := hu2.below hb65; have hu3 := hu3.below hb65; have t0 := kept hb65 t0; have t1 := kept hb65 t1; have t2 := kept hb65 t2; have hv1 := hv1.below hb65; have hv2 := hv2.below hb65; have hv3 := hv3.below hb65
 have s0 : (w64.alloc (.cells #[.slice b1 X.length e1, .slice b2 Y.length e2, .slice b3 Z.length e3] 29)).cell? ⟨w64.heap.size, 0, none⟩ = some (.slice b1 X.length e1) := by simp [go_sem]
 have s1 : (w64.alloc (.cells #[.slice b1 X.length e1, .slice b2 Y.length e2, .slice b3 Z.length e3] 29)).cell? ⟨w64.heap.size, 1, none⟩ = some (.slice b2 Y.length e2) := by simp [go_sem]
 have s2 : (w64.alloc (.cells #[.slice b1 X.length e1, .slice b2 Y.length e2, .slice b3 Z.length e3] 29)).cell? ⟨w64.heap.size, 2, none⟩ = some (.slice b3 Z.length e3) := by simp [go_sem]
 go_wp2_with fail
 refine (triple9_c hu1 hu2 hu3 hv1 hv2 hv3 zX zY zZ).mono ?_; rintro e w66 ⟨rfl, hb66⟩
 have hs := hs.below hb66; have hx := hx.below hb66; have d0 := kept hb66 d0; have d1 := kept hb66 d1; have hu1 := hu1.below hb66; have hu2 := hu2.below hb66; have hu3 := hu3.below hb66; have t0 := kept hb66 t0; have t1 := kept hb66 t1; have t2 := kept hb66 t2; have hv1 := hv1.below hb66; have hv2 := hv2.below hb66; have hv3 := hv3.below hb66; have s0 := kept hb66 s0; have s1 := kept hb66 s1; have s2 := kept hb66 s2
 clear hv1 hv2 hv3 s0 s1 s2
 go_wp2_with fail
 refine ((k3 _ _ _ _ hs hu1 hu2 hu3).mono fun e w' h => OutTr.flip h).mono ?_; rintro e w67 ⟨y1, y2, y3, rfl, hy1, hy2, hy3, hb67⟩
 have hs := hs.below hb67; have hx := hx.below hb67; have d0 := kept hb67 d0; have d1 := kept hb67 d1; have hu1 := hu1.below hb67; have hu2 := hu2.below hb67; have hu3 := hu3.below hb67; have t0 := kept hb67 t0; have t1 := kept hb67 t1; have t2 := kept hb67 t2
 obtain ⟨f1, m1, rfl, _⟩ := id hy1; obtain ⟨f2, m2, rfl, _⟩ := id hy2; obtain ⟨f3, m3, rfl, _⟩ := id hy3
 have hb68 : Below w67.heap.size w67 (w67.alloc (.cells #[.slice f1 Y.length m1, .slice f2 Z.length m2, .slice f3 X.length m3] 29)) := bwT
 have hs := hs.below hb68; have hx := hx.below hb68; have d0 := kept hb68 d0; have d1 := kept hb68 d1; have hu1 := hu1.below hb68; have hu2 := hu2.below hb68; have hu3 := hu3.below hb68; have t0 := kept hb68 t0; have t1 := kept hb68 t1; have t2 := kept hb68 t2; have hy1 := hy1.below hb68; have hy2 := hy2.below hb68; have hy3 := hy3.below hb68
 have r0 : (w67.alloc (.cells #[.slice f1 Y.length m1, .slice f2 Z.length m2, .slice f3 X.length m3] 29)).cell? ⟨w67.heap.size, 0, none⟩ = some (.slice f1 Y.length m1) := by simp [go_sem]
 have r1 : (w67.alloc (.cells #[.slice f1 Y.length m1, .slice f2 Z.length m2, .slice f3 X.length m3] 29)).cell? ⟨w67.heap.size, 1, none⟩ = some (.slice f2 Z.length m2) := by simp [go_sem]
 have r2 : (w67.alloc (.cells #[.slice f1 Y.length m1, .slice f2 Z.length m2, .slice f3 X.length m3] 29)).cell? ⟨w67.heap.size, 2, none⟩ = some (.slice f3 X.length m3) := by simp [go_sem]
 go_wp2_with fail
 refine ((k4 _ _ _ _ _ _ _ hs hu1 hu2 hu3 hy1 hy2 hy3).mono fun e w' h => OutTr.flip h).mono ?_; rintro e w69 ⟨z1, z2, z3, rfl, hz1, hz2, hz3, hb69⟩
 have hs := hs.below hb69; have hx := hx.below hb69; have d0 := kept hb69 d0; have d1 := kept hb69 d1; have hu1 := hu1.below hb69; have hu2 := hu2.below hb69; have hu3 := hu3.below hb69; have t0 := kept hb69 t0; have t1 := kept hb69 t1; have t2 := kept hb69 t2; have hy1 := hy1.below hb69; have hy2 := hy2.below hb69; have hy3 := hy3.below hb69; have r0 := kept hb69 r0; have r1 := kept hb69 r1; have r2 := kept hb69 r2
 obtain ⟨g1, n1, rfl, _⟩ := id hz1; obtain ⟨g2, n2, rfl, _⟩ := id hz2; obtain ⟨g3, n3, rfl, _⟩ := id hz3
 have hb70 : Below w69.heap.size w69 (w69.alloc (.cells #[.slice g1 U.length n1, .slice g2 V.length n2, .slice g3 T_.length n3] 29)) := bwT
 have hs := hs.below hb70; have hx := hx.below hb70; have d0 := kept hb70 d0; have d1 := kept hb70 d1; have hu1 := hu1.below hb70; have hu2 := hu2.below hb70; have hu3 := hu3.below hb70; have t0 := kept hb70 t0; have t1 := kept hb70 t1; have t2 := kept hb70 t2; have hy1 := hy1.below hb70; have hy2 := hy2.below hb70; have hy3 := hy3.below hb70; have r0 := kept hb70 r0; have r1 := kept hb70 r1; have r2 := kept hb70 r2; have hz1 := hz1.below hb70; have hz2 := hz2.below hb70; have hz3 := hz3.below hb70
 have q0 : (w69.alloc (.cells #[.slice g1 U.length n1, .slice g2 V.length n2, .slice g3 T_.length n3] 29)).cell? ⟨w69.heap.size, 0, none⟩ = some (.slice g1 U.length n1) := by simp [go_sem]
 have q1 : (w69.alloc (.cells #[.slice g1 U.length n1, .slice g2 V.length n2, .slice g3 T_.length n3] 29)).cell? ⟨w69.heap.size, 1, none⟩ = some (.slice g2 V.length n2) := by simp [go_sem]
 have q2 : (w69.alloc (.cells #[.slice g1 U.length n1, .slice g2 V.length n2, .slice g3 T_.length n3] 29)).cell? ⟨w69.heap.size, 2, none⟩ = some (.slice g3 T_.length n3) := by simp [go_sem]
 have hb71 : Below (w69.alloc (.cells #[.slice g1 U.length n1, .slice g2 V.length n2, .slice g3 T_.length n3] 29)).heap.size (w69.alloc (.cells #[.slice g1 U.length n1, .slice g2 V.length n2, .slice g3 T_.length n3] 29)) ((w69.alloc (.cells #[.slice g1 U.length n1, .slice g2 V.length n2, .slice g3 T_.length n3] 29)).alloc (.cells #[.slice a1 X.length c1, .slice a2 Y.length c2, .slice a3 Z.length c3, .slice f1 Y.length m1, .slice f2 Z.length m2, .slice f3 X.length m3, .slice g1 U.length n1, .slice g2 V.length n2, .slice g3 T_.length n3] 29)) := bwT
 have hs := hs.below hb71; have hx := hx.below hb71; have d0 := kept hb71 d0; have d1 := kept hb71 d1; have hu1 := hu1.below hb71; have hu2 := hu2.below hb71; have hu3 := hu3.below hb71; have t0 := kept hb71 t0; have t1 := kept hb71 t1; have t2 := kept hb71 t2; have hy1 := hy1.below hb71; have hy2 := hy2.below hb71; have hy3 := hy3.below hb71; have r0 := kept hb71 r0; have r1 := kept hb71 r1; have r2 := kept hb71 r2; have hz1 := hz1.below hb71; have hz2 := hz2.below hb71; have hz3 := hz3.below hb71; have q0 := kept hb71 q0; have q1 := kept hb71 q1; have q2 := kept hb71 q2
 have l0 : ((w69.alloc (.cells #[.slice g1 U.length n1, .slice g2 V.length n2, .slice g3 T_.length n3] 29)).alloc (.cells #[.slice a1 X.length c1, .slice a2 Y.length c2, .slice a3 Z.length c3, .slice f1 Y.length m1, .slice f2 Z.length m2, .slice f3 X.length m3, .slice g1 U.length n1, .slice g2 V.length n2, .slice g3 T_.length n3] 29)).cell? ⟨w69.heap.size + 1, 0, none⟩ = some (.slice a1 X.length c1) := by simp [go_sem]
 have l1 : ((w69.alloc (.cells #[.slice g1 U.length n1, .slice g2 V.length n2, .slice g3 T_.length n3] 29)).alloc (.cells #[.slice a1 X.length c1, .slice a2 Y.length c2, .slice a3 Z.length c3, .slice f1 Y.length m1, .slice f2 Z.length m2, .slice f3 X.length m3, .slice g1 U.length n1, .slice g2 V.length n2, .slice g3 T_.length n3] 29)).cell? ⟨w69.heap.size + 1, 1, none⟩ = some (.slice a2 Y.length c2) := by simp [go_sem]
 have l2 : ((w69.alloc (.cells #[.slice g1 U.length n1, .slice g2 V.length n2, .slice g3 T_.length n3] 29)).alloc (.cells #[.slice a1 X.length c1, .slice a2 Y.length c2, .slice a3 Z.length c3, .slice f1 Y.length m1, .slice f2 Z.length m2, .slice f3 X.length m3, .slice g1 U.length n1, .slice g2 V.length n2, .slice g3 T_.length n3] 29)).cell? ⟨w69.heap.size + 1, 2, none⟩ = some (.slice a3 Z.length c3) := by simp [go_sem]
 have l3 : ((w69.alloc (.cells #[.slice g1 U.length n1, .slice g2 V.length n2, .slice g3 T_.length n3] 29)).alloc (.cells #[.slice a1 X.length c1, .slice a2 Y.length c2, .slice a3 Z.length c3, .slice f1 Y.length m1, .slice f2 Z.length m2, .slice f3 X.length m3, .slice g1 U.length n1, .slice g2 V.length n2, .slice g3 T_.length n3] 29)).cell? ⟨w69.heap.size + 1, 3, none⟩ = some (.slice f1 Y.length m1) := by simp [go_sem]
 have l4 : ((w69.alloc (.cells #[.slice g1 U.length n1, .slice g2 V.length n2, .slice g3 T_.length n3] 29)).alloc (.cells #[.slice a1 X.length c1, .slice a2 Y.length c2, .slice a3 Z.length c3, .slice f1 Y.length m1, .slice f2 Z.length m2, .slice f3 X.length m3, .slice g1 U.length n1, .slice g2 V.length n2, .slice g3 T_.length n3] 29)).cell? ⟨w69.heap.size + 1, 4, none⟩ = some (.slice f2 Z.length m2) := by simp [go_sem]
 have l5 : ((w69.alloc (.cells #[.slice g1 U.length n1, .slice g2 V.length n2, .slice g3 T_.length n3] 29)).alloc (.cells #[.slice a1 X.length c1, .slice a2 Y.length c2, .slice a3 Z.length c3, .slice f1 Y.length m1, .slice f2 Z.length m2, .slice f3 X.length m3, .slice g1 U.length n1, .slice g2 V.length n2, .slice g3 T_.length n3] 29)).cell? ⟨w69.heap.size + 1, 5, none⟩ = some (.slice f3 X.length m3) := by simp [go_sem]
 have l6 : ((w69.alloc (.cells #[.slice g1 U.length n1, .slice g2 V.length n2, .slice g3 T_.length n3] 29)).alloc (.cells #[.slice a1 X.length c1, .slice a2 Y.length c2, .slice a3 Z.length c3, .slice f1 Y.length m1, .slice f2 Z.length m2, .slice f3 X.length m3, .slice g1 U.length n1, .slice g2 V.length n2, .slice g3 T_.length n3] 29)).cell? ⟨w69.heap.size + 1, 6, none⟩ = some (.slice g1 U.length n1) := by simp [go_sem]
 have l7 : ((w69.alloc (.cells #[.slice g1 U.length n1, .slice g2 V.length n2, .slice g3 T_.length n3] 29)).alloc (.cells #[.slice a1 X.length c1, .slice a2 Y.length c2, .slice a3 Z.length c3, .slice f1 Y.length m1, .slice f2 Z.length m2, .slice f3 X.length m3, .slice g1 U.length n1, .slice g2 V.length n2, .slice g3 T_.length n3] 29)).cell? ⟨w69.heap.size + 1, 7, none⟩ = some (.slice g2 V.length n2) := by simp [go_sem]
 have l8 : ((w69.alloc (.cells #[.slice g1 U.length n1, .slice g2 V.length n2, .slice g3 T_.length n3] 29)).alloc (.cells #[.slice a1 X.length c1, .slice a2 Y.length c2, .slice a3 Z.length c3, .slice f1 Y.length m1, .slice f2 Z.length m2, .slice f3 X.length m3, .slice g1 U.length n1, .slice g2 V.length n2, .slice g3 T_.length n3] 29)).cell? ⟨w69.heap.size + 1, 8, none⟩ = some (.slice g3 T_.length n3) := by simp [go_sem]
 clear k1 k2 k3 k4 hx t0 t1 t2 r0 r1 r2 q0 q1 q2
 go_wp2_with fail
 refine wp_loop_rounds 4 ?_; rw [rounds_succ]
 go_wp2_with fail
 refine region_flow [(false, [(0, 1), (1, 0), (2, 0), (3, 0), (4, 1), (5, 4), (6, 0), (7, 0), (8, 0), (9, 0), (10, 0)])] (by kernel_rfl) ?_
 refine norm_K fun K hK => ?_
 change wpList _ _ _ [_, _, _, _, _, _, _, _, _, _, _] _ _
 have hb72 : Below ((w69.alloc (.cells #[.slice g1 U.length n1, .slice g2 V.length n2, .slice g3 T_.length n3] 29)).alloc (.cells #[.slice a1 X.length c1, .slice a2 Y.length c2, .slice a3 Z.length c3, .slice f1 Y.length m1, .slice f2 Z.length m2, .slice f3 X.length m3, .slice g1 U.length n1, .slice g2 V.length n2, .slice g3 T_.length n3] 29)).heap.size ((w69.alloc (.cells #[.slice g1 U.length n1, .slice g2 V.length n2, .slice g3 T_.length n3] 29)).alloc (.cells #[.slice a1 X.length c1, .slice a2 Y.length c2, .slice a3 Z.length c3, .slice f1 Y.length m1, .slice f2 Z.length m2, .slice f3 X.length m3, .slice g1 U.length n1, .slice g2 V.length n2, .slice g3 T_.length n3] 29)) ((w69.alloc (.cells #[.slice g1 U.length n1, .slice g2 V.length n2, .slice g3 T_.length n3] 29)).alloc (.cells #[.slice a1 X.length c1, .slice a2 Y.length c2, .slice a3 Z.length c3, .slice f1 Y.length m1, .slice f2 Z.length m2, .slice f3 X.length m3, .slice g1 U.length n1, .slice g2 V.length n2, .slice g3 T_.length n3] 29)).drew := bwT
 have hs := hs.below hb72; have d0 := kept hb72 d0; have d1 := kept hb72 d1; have hu1 := hu1.below hb72; have hu2 := hu2.below hb72; have hu3 := hu3.below hb72; have hy1 := hy1.below hb72; have hy2 := hy2.below hb72; have hy3 := hy3.below hb72; have hz1 := hz1.below hb72; have hz2 := hz2.below hb72; have hz3 := hz3.below hb72; have l0 := kept hb72 l0; have l1 := kept hb72 l1; have l2 := kept hb72 l2; have l3 := kept hb72 l3; have l4 := kept hb72 l4; have l5 := kept hb72 l5; have l6 := kept hb72 l6; have l7 := kept hb72 l7; have l8 := kept hb72 l8
 generalize ((w69.alloc (.cells #[.slice g1 U.length n1, .slice g2 V.length n2, .slice g3 T_.length n3] 29)).alloc (.cells #[.slice a1 X.length c1, .slice a2 Y.length c2, .slice a3 Z.length c3, .slice f1 Y.length m1, .slice f2 Z.length m2, .slice f3 X.length m3, .slice g1 U.length n1, .slice g2 V.length n2, .slice g3 T_.length n3] 29)).drew = wa0 at *
 go_wp2_with fail
 refine (glo_c hd HG.out hs hu1 hu2 hu3).mono ?_; rintro e w73 ⟨rfl, hb73⟩
 have hs := hs.below hb73; have d0 := kept hb73 d0; have d1 := kept hb73 d1; have hu1 := hu1.below hb73; have hu2 := hu2.below hb73; have hu3 := hu3.below hb73; have hy1 := hy1.below hb73; have hy2 := hy2.below hb73; have hy3 := hy3.below hb73; have hz1 := hz1.below hb73; have hz2 := hz2.below hb73; have hz3 := hz3.below hb73; have l0 := kept hb73 l0; have l1 := kept hb73 l1; have l2 := kept hb73 l2; have l3 := kept hb73 l3; have l4 := kept hb73 l4; have l5 := kept hb73 l5; have l6 := kept hb73 l6; have l7 := kept hb73 l7; have l8 := kept hb73 l8
 go_wp2_with fail
 first | (refine hK _ _ ⟨rfl, ?_⟩; clear hK K) | refine ⟨rfl, ?_⟩
 go_wp2_with fail
 go_wp2_with fail
 refine region_flow [(false, [(0, 1), (1, 0), (2, 0), (3, 0), (4, 0), (5, 1), (6, 4), (7, 0), (8, 0), (9, 0), (10, 0), (11, 0)])] (by kernel_rfl) ?_
 refine norm_K fun K hK => ?_
 change wpList _ _ _ [_, _, _, _, _, _, _, _, _, _, _, _] _ _
 have hb74 : Below w73.heap.size w73 w73.drew := bwT
 have hs := hs.below hb74; have d0 := kept hb74 d0; have d1 := kept hb74 d1; have hu1 := hu1.below hb74; have hu2 := hu2.below hb74; have hu3 := hu3.below hb74; have hy1 := hy1.below hb74; have hy2 := hy2.below hb74; have hy3 := hy3.below hb74; have hz1 := hz1.below hb74; have hz2 := hz2.below hb74; have hz3 := hz3.below hb74; have l0 := kept hb74 l0; have l1 := kept hb74 l1; have l2 := kept hb74 l2; have l3 := kept hb74 l3; have l4 := kept hb74 l4; have l5 := kept hb74 l5; have l6 := kept hb74 l6; have l7 := kept hb74 l7; have l8 := kept hb74 l8
 generalize w73.drew = wb0 at *
 go_wp2_with fail
 refine (gkn_c hd HG.out hs hu3).mono ?_; rintro e w75 ⟨rfl, hb75⟩
 have hs := hs.below hb75; have d0 := kept hb75 d0; have d1 := kept hb75 d1; have hu1 := hu1.below hb75; have hu2 := hu2.below hb75; have hu3 := hu3.below hb75; have hy1 := hy1.below hb75; have hy2 := hy2.below hb75; have hy3 := hy3.below hb75; have hz1 := hz1.below hb75; have hz2 := hz2.below hb75; have hz3 := hz3.below hb75; have l0 := kept hb75 l0; have l1 := kept hb75 l1; have l2 := kept hb75 l2; have l3 := kept hb75 l3; have l4 := kept hb75 l4; have l5 := kept hb75 l5; have l6 := kept hb75 l6; have l7 := kept hb75 l7; have l8 := kept hb75 l8
 go_wp2_with fail
 first | (refine hK _ _ ⟨rfl, ?_⟩; clear hK K) | refine ⟨rfl, ?_⟩
 go_wp2_with fail
 rw [rounds_succ]
 go_wp2_with fail
 refine region_flow [(false, [(0, 1), (1, 0), (2, 0), (3, 0), (4, 1), (5, 4), (6, 0), (7, 0), (8, 0), (9, 0), (10, 0)])] (by kernel_rfl) ?_
 refine norm_K fun K hK => ?_
 change wpList _ _ _ [_, _, _, _, _, _, _, _, _, _, _] _ _
 have hb76 : Below w75.heap.size w75 w75.drew := bwT
 have hs := hs.below hb76; have d0 := kept hb76 d0; have d1 := kept hb76 d1; have hu1 := hu1.below hb76; have hu2 := hu2.below hb76; have hu3 := hu3.below hb76; have hy1 := hy1.below hb76; have hy2 := hy2.below hb76; have hy3 := hy3.below hb76; have hz1 := hz1.below hb76; have hz2 := hz2.below hb76; have hz3 := hz3.below hb76; have l0 := kept hb76 l0; have l1 := kept hb76 l1; have l2 := kept hb76 l2; have l3 := kept hb76 l3; have l4 := kept hb76 l4; have l5 := kept hb76 l5; have l6 := kept hb76 l6; have l7 := kept hb76 l7; have l8 := kept hb76 l8
 generalize w75.drew = wa1 at *
 go_wp2_with fail
 refine (glo_c hd HG2.out hs hy1 hy2 hy3).mono ?_; rintro e w77 ⟨rfl, hb77⟩
 have hs := hs.below hb77; have d0 := kept hb77 d0; have d1 := kept hb77 d1; have hu1 := hu1.below hb77; have hu2 := hu2.below hb77; have hu3 := hu3.below hb77; have hy1 := hy1.below hb77; have hy2 := hy2.below hb77; have hy3 := hy3.below hb77; have hz1 := hz1.below hb77; have hz2 := hz2.below hb77; have hz3 := hz3.below hb77; have l0 := kept hb77 l0; have l1 := kept hb77 l1; have l2 := kept hb77 l2; have l3 := kept hb77 l3; have l4 := kept hb77 l4; have l5 := kept hb77 l5; have l6 := kept hb77 l6; have l7 := kept hb77 l7; have l8 := kept hb77 l8
 go_wp2_with fail
 first | (refine hK _ _ ⟨rfl, ?_⟩; clear hK K) | refine ⟨rfl, ?_⟩
 go_wp2_with fail
 go_wp2_with fail
 refine region_flow [(false, [(0, 1), (1, 0), (2, 0), (3, 0), (4, 0), (5, 1), (6, 4), (7, 0), (8, 0), (9, 0), (10, 0), (11, 0)])] (by kernel_rfl) ?_
 refine norm_K fun K hK => ?_
 change wpList _ _ _ [_, _, _, _, _, _, _, _, _, _, _, _] _ _
 have hb78 : Below w77.heap.size w77 w77.drew := bwT
 have hs := hs.below hb78; have d0 := kept hb78 d0; have d1 := kept hb78 d1; have hu1 := hu1.below hb78; have hu2 := hu2.below hb78; have hu3 := hu3.below hb78; have hy1 := hy1.below hb78; have hy2 := hy2.below hb78; have hy3 := hy3.below hb78; have hz1 := hz1.below hb78; have hz2 := hz2.below hb78; have hz3 := hz3.below hb78; have l0 := kept hb78 l0; have l1 := kept hb78 l1; have l2 := kept hb78 l2; have l3 := kept hb78 l3; have l4 := kept hb78 l4; have l5 := kept hb78 l5; have l6 := kept hb78 l6; have l7 := kept hb78 l7; have l8 := kept hb78 l8
 generalize w77.drew = wb1 at *
 go_wp2_with fail
 refine (gkn_c hd HG2.out hs hy3).mono ?_; rintro e w79 ⟨rfl, hb79⟩
 have hs := hs.below hb79; have d0 := kept hb79 d0; have d1 := kept hb79 d1; have hu1 := hu1.below hb79; have hu2 := hu2.below hb79; have hu3 := hu3.below hb79; have hy1 := hy1.below hb79; have hy2 := hy2.below hb79; have hy3 := hy3.below hb79; have hz1 := hz1.below hb79; have hz2 := hz2.below hb79; have hz3 := hz3.below hb79; have l0 := kept hb79 l0; have l1 := kept hb79 l1; have l2 := kept hb79 l2; have l3 := kept hb79 l3; have l4 := kept hb79 l4; have l5 := kept hb79 l5; have l6 := kept hb79 l6; have l7 := kept hb79 l7; have l8 := kept hb79 l8
 go_wp2_with fail
 first | (refine hK _ _ ⟨rfl, ?_⟩; clear hK K) | refine ⟨rfl, ?_⟩
 go_wp2_with fail
 rw [rounds_succ]
 go_wp2_with fail
 refine region_flow [(false, [(0, 1), (1, 0), (2, 0), (3, 0), (4, 1), (5, 4), (6, 0), (7, 0), (8, 0), (9, 0), (10, 0)])] (by kernel_rfl) ?_
 refine norm_K fun K hK => ?_
 change wpList _ _ _ [_, _, _, _, _, _, _, _, _, _, _] _ _
 have hb80 : Below w79.heap.size w79 w79.drew := bwT
 have hs := hs.below hb80; have d0 := kept hb80 d0; have d1 := kept hb80 d1; have hu1 := hu1.below hb80; have hu2 := hu2.below hb80; have hu3 := hu3.below hb80; have hy1 := hy1.below hb80; have hy2 := hy2.below hb80; have hy3 := hy3.below hb80; have hz1 := hz1.below hb80; have hz2 := hz2.below hb80; have hz3 := hz3.below hb80; have l0 := kept hb80 l0; have l1 := kept hb80 l1; have l2 := kept hb80 l2; have l3 := kept hb80 l3; have l4 := kept hb80 l4; have l5 := kept hb80 l5; have l6 := kept hb80 l6; have l7 := kept hb80 l7; have l8 := kept hb80 l8
 generalize w79.drew = wa2 at *
 go_wp2_with fail
 refine (glo_c hd HG3.out hs hz1 hz2 hz3).mono ?_; rintro e w81 ⟨rfl, hb81⟩
 have hs := hs.below hb81; have d0 := kept hb81 d0; have d1 := kept hb81 d1; have hu1 := hu1.below hb81; have hu2 := hu2.below hb81; have hu3 := hu3.below hb81; have hy1 := hy1.below hb81; have hy2 := hy2.below hb81; have hy3 := hy3.below hb81; have hz1 := hz1.below hb81; have hz2 := hz2.below hb81; have hz3 := hz3.below hb81; have l0 := kept hb81 l0; have l1 := kept hb81 l1; have l2 := kept hb81 l2; have l3 := kept hb81 l3; have l4 := kept hb81 l4; have l5 := kept hb81 l5; have l6 := kept hb81 l6; have l7 := kept hb81 l7; have l8 := kept hb81 l8
 go_wp2_with fail
 first | (refine hK _ _ ⟨rfl, ?_⟩; clear hK K) | refine ⟨rfl, ?_⟩
 go_wp2_with fail
 go_wp2_with fail
 refine region_flow [(false, [(0, 1), (1, 0), (2, 0), (3, 0), (4, 0), (5, 1), (6, 4), (7, 0), (8, 0), (9, 0), (10, 0), (11, 0)])] (by kernel_rfl) ?_
 refine norm_K fun K hK => ?_
 change wpList _ _ _ [_, _, _, _, _, _, _, _, _, _, _, _] _ _
 have hb82 : Below w81.heap.size w81 w81.drew := bwT
 have hs := hs.below hb82; have d0 := kept hb82 d0; have d1 := kept hb82 d1; have hu1 := hu1.below hb82; have hu2 := hu2.below hb82; have hu3 := hu3.below hb82; have hy1 := hy1.below hb82; have hy2 := hy2.below hb82; have hy3 := hy3.below hb82; have hz1 := hz1.below hb82; have hz2 := hz2.below hb82; have hz3 := hz3.below hb82; have l0 := kept hb82 l0; have l1 := kept hb82 l1; have l2 := kept hb82 l2; have l3 := kept hb82 l3; have l4 := kept hb82 l4; have l5 := kept hb82 l5; have l6 := kept hb82 l6; have l7 := kept hb82 l7; have l8 := kept hb82 l8
 generalize w81.drew = wb2 at *
 go_wp2_with fail
 refine (gkn_c hd HG3.out hs hz3).mono ?_; rintro e w83 ⟨rfl, hb83⟩
 have hs := hs.below hb83; have d0 := kept hb83 d0; have d1 := kept hb83 d1; have hu1 := hu1.below hb83; have hu2 := hu2.below hb83; have hu3 := hu3.below hb83; have hy1 := hy1.below hb83; have hy2 := hy2.below hb83; have hy3 := hy3.below hb83; have hz1 := hz1.below hb83; have hz2 := hz2.below hb83; have hz3 := hz3.below hb83; have l0 := kept hb83 l0; have l1 := kept hb83 l1; have l2 := kept hb83 l2; have l3 := kept hb83 l3; have l4 := kept hb83 l4; have l5 := kept hb83 l5; have l6 := kept hb83 l6; have l7 := kept hb83 l7; have l8 := kept hb83 l8
 go_wp2_with fail
 first | (refine hK _ _ ⟨rfl, ?_⟩; clear hK K) | refine ⟨rfl, ?_⟩
 go_wp2_with fail
 rw [rounds_succ]
 go_wp2_with fail
 go_ret
 exact ⟨rfl, bwT⟩
end Go.Proofs.YteaaepbnoiecoaaGreat
