import Derived.Test.YteaaepbnoiecoaaGreatTgB
import Derived.Test.YteaaepbnoiecoaaGreatTgD
namespace Go.Proofs.YteaaepbnoiecoaaGreat
open Go.RowKit
def glG (p : Int) (st : List Int) (A B C : List (List Int)) (i j k : Nat) : Bool := 2 * (mulL p st (mulL p st (colL A i) (colL B j)) (colL C k)).getD 0 0 % p == formF p st i j k
def all3 (n : Nat) (g : Nat -> Nat -> Nat -> Bool) : Bool := (List.range n).all fun i => (List.range n).all fun j => (List.range n).all (g i j)
theorem all3_no {n i j k : Nat} {g : Nat -> Nat -> Nat -> Bool} (hi : i < n) (hj : j < n) (hk : k < n) (h : g i j k = false) : all3 n g = false :=
 List.all_eq_false.2 ⟨i, List.mem_range.2 hi, by rw [all2_no hj hk h]; decide⟩
def globB (p : Int) (st : List Int) (A B C : List (List Int)) : Bool := isoB p (diagF p st) A && (isoB p (diagF p st) B && (isoB p (diagF p st) C && all3 (sz st.length) (glG p st A B C)))
def RIsGlobalTriple1 (p0 : Int) (st0 : List Int) (A1 B1 C1 : List (List Int)) : Int := chkT p0 st0 [A1, B1, C1]
def RIsGlobalTriple0 (p0 : Int) (st0 : List Int) (A1 B1 C1 : List (List Int)) : Bool := if chkT p0 st0 [A1, B1, C1] = 0 then globB p0 st0 A1 B1 C1 else false
theorem chkT_ok {p : Int} {st : List Int} {A B C : List (List Int)} (h : chkT p st [A, B, C] = 0) : Dok p st /\ matB p (sz st.length) A = true /\ matB p (sz st.length) B = true /\ matB p (sz st.length) C = true := by
 unfold chkT at h
 split at h
 ·rename_i h0
  split at h
  ·rename_i h1
   simp at h1
   exact ⟨chk3_dok h0, h1.1, h1.2.1, h1.2.2⟩
  ·exact absurd h (by decide)
 ·rename_i h0; exact absurd h h0
theorem bne_not {a b : Int} {q : Bool} (h : q = (a == b)) : (a != b) = !q := by rw [h]; rfl
set_option maxHeartbeats 8000000 in
set_option maxRecDepth 100000 in
theorem iIsGlobalTriple_c {p0 : Int} {x0 : Value} {st0 : List Int} {x1 : Value} {A1 B1 C1 : List (List Int)} {w : World} (hx0 : El w x0 st0) (hm0 : st0.length <= 1048576) (hx1 : Tv w x1 A1 B1 C1) (hm1 : Tsz A1 B1 C1) :
  Calls Tryz.prog 6 #[.agg #[.int .i64 p0, x0], x1] w fun e w' => e = .returned (.tuple #[.bool (RIsGlobalTriple0 p0 st0 A1 B1 C1), .int .i64 (RIsGlobalTriple1 p0 st0 A1 B1 C1)]) /\ Below w.heap.size w w' := by
 obtain ⟨a0, c0, rfl, _⟩ := id hx0.op
 obtain ⟨va, vb, vc, rfl, hA, hB, hC⟩ := id hx1
 obtain ⟨a1, c1, rfl, _⟩ := id hA
 obtain ⟨a2, c2, rfl, _⟩ := id hB
 obtain ⟨a3, c3, rfl, _⟩ := id hC
 clear hx1
 have hchk := fun W bl k h0 l0 l1 l2 hA hB hC => chktr_c (w := W) (bl := bl) (k := k) (p := p0) (x := .slice a0 st0.length c0) (a := .slice a1 A1.length c1) (b := .slice a2 B1.length c2) (c := .slice a3 C1.length c3) h0 l0 l1 l2 hA hB hC hm0 hm1
 by_cases h0 : chkT p0 st0 [A1, B1, C1] = 0
 case neg =>
  rw [show RIsGlobalTriple0 p0 st0 A1 B1 C1 = false from if_neg h0, show RIsGlobalTriple1 p0 st0 A1 B1 C1 = chkT p0 st0 [A1, B1, C1] from rfl]
  obtain ⟨r, hr⟩ : ∃ r, r = chkT p0 st0 [A1, B1, C1] := ⟨_, rfl⟩
  simp only [<- hr] at hchk h0 ⊢
  clear hr
  have hne : (r == 0) = false := by simpa using h0
  go_enter Tryz.func6, Tryz.ntmps6
  have hb0 : Below w.heap.size w ((w.alloc (.cells #[.int .i64 p0, .slice a0 st0.length c0] 26)).alloc (.cells #[.slice a1 A1.length c1, .slice a2 B1.length c2, .slice a3 C1.length c3] 29)) := bwT
  have hx0 := hx0.below hb0; have hA := hA.below hb0; have hB := hB.below hb0; have hC := hC.below hb0
  have d0 : ((w.alloc (.cells #[.int .i64 p0, .slice a0 st0.length c0] 26)).alloc (.cells #[.slice a1 A1.length c1, .slice a2 B1.length c2, .slice a3 C1.length c3] 29)).cell? ⟨w.heap.size, 0, none⟩ = some (.int .i64 p0) := by simp [go_sem]
  have d1 : ((w.alloc (.cells #[.int .i64 p0, .slice a0 st0.length c0] 26)).alloc (.cells #[.slice a1 A1.length c1, .slice a2 B1.length c2, .slice a3 C1.length c3] 29)).cell? ⟨w.heap.size, 1, none⟩ = some (.slice a0 st0.length c0) := by simp [go_sem]
  have e0 : ((w.alloc (.cells #[.int .i64 p0, .slice a0 st0.length c0] 26)).alloc (.cells #[.slice a1 A1.length c1, .slice a2 B1.length c2, .slice a3 C1.length c3] 29)).cell? ⟨w.heap.size + 1, 0, none⟩ = some (.slice a1 A1.length c1) := by simp [go_sem]
  have e1 : ((w.alloc (.cells #[.int .i64 p0, .slice a0 st0.length c0] 26)).alloc (.cells #[.slice a1 A1.length c1, .slice a2 B1.length c2, .slice a3 C1.length c3] 29)).cell? ⟨w.heap.size + 1, 1, none⟩ = some (.slice a2 B1.length c2) := by simp [go_sem]
  have e2 : ((w.alloc (.cells #[.int .i64 p0, .slice a0 st0.length c0] 26)).alloc (.cells #[.slice a1 A1.length c1, .slice a2 B1.length c2, .slice a3 C1.length c3] 29)).cell? ⟨w.heap.size + 1, 2, none⟩ = some (.slice a3 C1.length c3) := by simp [go_sem]
  have hb1 : Below ((w.alloc (.cells #[.int .i64 p0, .slice a0 st0.length c0] 26)).alloc (.cells #[.slice a1 A1.length c1, .slice a2 B1.length c2, .slice a3 C1.length c3] 29)).heap.size ((w.alloc (.cells #[.int .i64 p0, .slice a0 st0.length c0] 26)).alloc (.cells #[.slice a1 A1.length c1, .slice a2 B1.length c2, .slice a3 C1.length c3] 29)) (((w.alloc (.cells #[.int .i64 p0, .slice a0 st0.length c0] 26)).alloc (.cells #[.slice a1 A1.length c1, .slice a2 B1.length c2, .slice a3 C1.length c3] 29)).alloc (.cells #[.slice a1 A1.length c1, .slice a2 B1.length c2, .slice a3 C1.length c3] 29)) := bwT
  have hx0 := hx0.below hb1; have hA := hA.below hb1; have hB := hB.below hb1; have hC := hC.below hb1; have d0 := kept hb1 d0; have d1 := kept hb1 d1; have e0 := kept hb1 e0; have e1 := kept hb1 e1; have e2 := kept hb1 e2
  have l0 : (((w.alloc (.cells #[.int .i64 p0, .slice a0 st0.length c0] 26)).alloc (.cells #[.slice a1 A1.length c1, .slice a2 B1.length c2, .slice a3 C1.length c3] 29)).alloc (.cells #[.slice a1 A1.length c1, .slice a2 B1.length c2, .slice a3 C1.length c3] 29)).cell? ⟨w.heap.size + 1 + 1, 0, none⟩ = some (.slice a1 A1.length c1) := by simp [go_sem]
  have l1 : (((w.alloc (.cells #[.int .i64 p0, .slice a0 st0.length c0] 26)).alloc (.cells #[.slice a1 A1.length c1, .slice a2 B1.length c2, .slice a3 C1.length c3] 29)).alloc (.cells #[.slice a1 A1.length c1, .slice a2 B1.length c2, .slice a3 C1.length c3] 29)).cell? ⟨w.heap.size + 1 + 1, 1, none⟩ = some (.slice a2 B1.length c2) := by simp [go_sem]
  have l2 : (((w.alloc (.cells #[.int .i64 p0, .slice a0 st0.length c0] 26)).alloc (.cells #[.slice a1 A1.length c1, .slice a2 B1.length c2, .slice a3 C1.length c3] 29)).alloc (.cells #[.slice a1 A1.length c1, .slice a2 B1.length c2, .slice a3 C1.length c3] 29)).cell? ⟨w.heap.size + 1 + 1, 2, none⟩ = some (.slice a3 C1.length c3) := by simp [go_sem]
  go_wp2_with fail
  refine (hchk _ _ _ hx0 l0 l1 l2 hA hB hC).mono ?_; rintro e w2 ⟨rfl, hb2⟩
  have hx0 := hx0.below hb2; have hA := hA.below hb2; have hB := hB.below hb2; have hC := hC.below hb2; have d0 := kept hb2 d0; have d1 := kept hb2 d1; have e0 := kept hb2 e0; have e1 := kept hb2 e1; have e2 := kept hb2 e2; have l0 := kept hb2 l0; have l1 := kept hb2 l1; have l2 := kept hb2 l2
  go_wp2_with fail
  go_ret2
  exact ⟨rfl, bwT⟩
 obtain ⟨hd, mA, mB, mC⟩ := chkT_ok h0
 have hp1 := hd.hp.lo; have hp2 := hd.hp.hi; have hl3 := hd.hl; have hsz := sz_le hd
 have hdf := diagF_fp (p := p0) (st := st0) (by omega)
 rw [show RIsGlobalTriple0 p0 st0 A1 B1 C1 = globB p0 st0 A1 B1 C1 from if_pos h0, show RIsGlobalTriple1 p0 st0 A1 B1 C1 = 0 from h0]
 simp only [h0] at hchk
 clear h0
 have kA := fun W h1 h2 => keeps_c (w := W) (p := p0) (s := .slice a0 st0.length c0) (m := .slice a1 A1.length c1) hd h1 h2 mA
 have kB := fun W h1 h2 => keeps_c (w := W) (p := p0) (s := .slice a0 st0.length c0) (m := .slice a2 B1.length c2) hd h1 h2 mB
 have kC := fun W h1 h2 => keeps_c (w := W) (p := p0) (s := .slice a0 st0.length c0) (m := .slice a3 C1.length c3) hd h1 h2 mC
 simp only [iso_eq (show (1 : Int) <= p0 by omega) hdf] at kA kB kC
 have hGl : globB p0 st0 A1 B1 C1 = (isoB p0 (diagF p0 st0) A1 && (isoB p0 (diagF p0 st0) B1 && (isoB p0 (diagF p0 st0) C1 && all3 (sz st0.length) (glG p0 st0 A1 B1 C1)))) := rfl
 obtain ⟨zA, hzA⟩ : ∃ z, z = isoB p0 (diagF p0 st0) A1 := ⟨_, rfl⟩
 obtain ⟨zB, hzB⟩ : ∃ z, z = isoB p0 (diagF p0 st0) B1 := ⟨_, rfl⟩
 obtain ⟨zC, hzC⟩ : ∃ z, z = isoB p0 (diagF p0 st0) C1 := ⟨_, rfl⟩
 simp only [<- hzA] at kA hGl; simp only [<- hzB] at kB hGl; simp only [<- hzC] at kC hGl
 have HGL := Lib.hid hGl
 clear hzA hzB hzC hGl
 cases zA with
 | false =>
  go_enter Tryz.func6, Tryz.ntmps6
  have hb0 : Below w.heap.size w ((w.alloc (.cells #[.int .i64 p0, .slice a0 st0.length c0] 26)).alloc (.cells #[.slice a1 A1.length c1, .slice a2 B1.length c2, .slice a3 C1.length c3] 29)) := bwT
  have hx0 := hx0.below hb0; have hA := hA.below hb0; have hB := hB.below hb0; have hC := hC.below hb0
  have d0 : ((w.alloc (.cells #[.int .i64 p0, .slice a0 st0.length c0] 26)).alloc (.cells #[.slice a1 A1.length c1, .slice a2 B1.length c2, .slice a3 C1.length c3] 29)).cell? ⟨w.heap.size, 0, none⟩ = some (.int .i64 p0) := by simp [go_sem]
  have d1 : ((w.alloc (.cells #[.int .i64 p0, .slice a0 st0.length c0] 26)).alloc (.cells #[.slice a1 A1.length c1, .slice a2 B1.length c2, .slice a3 C1.length c3] 29)).cell? ⟨w.heap.size, 1, none⟩ = some (.slice a0 st0.length c0) := by simp [go_sem]
  have e0 : ((w.alloc (.cells #[.int .i64 p0, .slice a0 st0.length c0] 26)).alloc (.cells #[.slice a1 A1.length c1, .slice a2 B1.length c2, .slice a3 C1.length c3] 29)).cell? ⟨w.heap.size + 1, 0, none⟩ = some (.slice a1 A1.length c1) := by simp [go_sem]
  have e1 : ((w.alloc (.cells #[.int .i64 p0, .slice a0 st0.length c0] 26)).alloc (.cells #[.slice a1 A1.length c1, .slice a2 B1.length c2, .slice a3 C1.length c3] 29)).cell? ⟨w.heap.size + 1, 1, none⟩ = some (.slice a2 B1.length c2) := by simp [go_sem]
  have e2 : ((w.alloc (.cells #[.int .i64 p0, .slice a0 st0.length c0] 26)).alloc (.cells #[.slice a1 A1.length c1, .slice a2 B1.length c2, .slice a3 C1.length c3] 29)).cell? ⟨w.heap.size + 1, 2, none⟩ = some (.slice a3 C1.length c3) := by simp [go_sem]
  have hb1 : Below ((w.alloc (.cells #[.int .i64 p0, .slice a0 st0.length c0] 26)).alloc (.cells #[.slice a1 A1.length c1, .slice a2 B1.length c2, .slice a3 C1.length c3] 29)).heap.size ((w.alloc (.cells #[.int .i64 p0, .slice a0 st0.length c0] 26)).alloc (.cells #[.slice a1 A1.length c1, .slice a2 B1.length c2, .slice a3 C1.length c3] 29)) (((w.alloc (.cells #[.int .i64 p0, .slice a0 st0.length c0] 26)).alloc (.cells #[.slice a1 A1.length c1, .slice a2 B1.length c2, .slice a3 C1.length c3] 29)).alloc (.cells #[.slice a1 A1.length c1, .slice a2 B1.length c2, .slice a3 C1.length c3] 29)) := bwT
  have hx0 := hx0.below hb1; have hA := hA.below hb1; have hB := hB.below hb1; have hC := hC.below hb1; have d0 := kept hb1 d0; have d1 := kept hb1 d1; have e0 := kept hb1 e0; have e1 := kept hb1 e1; have e2 := kept hb1 e2
  have l0 : (((w.alloc (.cells #[.int .i64 p0, .slice a0 st0.length c0] 26)).alloc (.cells #[.slice a1 A1.length c1, .slice a2 B1.length c2, .slice a3 C1.length c3] 29)).alloc (.cells #[.slice a1 A1.length c1, .slice a2 B1.length c2, .slice a3 C1.length c3] 29)).cell? ⟨w.heap.size + 1 + 1, 0, none⟩ = some (.slice a1 A1.length c1) := by simp [go_sem]
  have l1 : (((w.alloc (.cells #[.int .i64 p0, .slice a0 st0.length c0] 26)).alloc (.cells #[.slice a1 A1.length c1, .slice a2 B1.length c2, .slice a3 C1.length c3] 29)).alloc (.cells #[.slice a1 A1.length c1, .slice a2 B1.length c2, .slice a3 C1.length c3] 29)).cell? ⟨w.heap.size + 1 + 1, 1, none⟩ = some (.slice a2 B1.length c2) := by simp [go_sem]
  have l2 : (((w.alloc (.cells #[.int .i64 p0, .slice a0 st0.length c0] 26)).alloc (.cells #[.slice a1 A1.length c1, .slice a2 B1.length c2, .slice a3 C1.length c3] 29)).alloc (.cells #[.slice a1 A1.length c1, .slice a2 B1.length c2, .slice a3 C1.length c3] 29)).cell? ⟨w.heap.size + 1 + 1, 2, none⟩ = some (.slice a3 C1.length c3) := by simp [go_sem]
  go_wp2_with fail
  refine (hchk _ _ _ hx0 l0 l1 l2 hA hB hC).mono ?_; rintro e w2 ⟨rfl, hb2⟩
  have hx0 := hx0.below hb2; have hA := hA.below hb2; have hB := hB.below hb2; have hC := hC.below hb2; have d0 := kept hb2 d0; have d1 := kept hb2 d1; have e0 := kept hb2 e0; have e1 := kept hb2 e1; have e2 := kept hb2 e2; have l0 := kept hb2 l0; have l1 := kept hb2 l1; have l2 := kept hb2 l2
  go_wp2_with fail
  refine (kA _ hx0 hA).mono ?_; rintro e w3 ⟨rfl, hb3⟩
  have hx0 := hx0.below hb3; have hA := hA.below hb3; have hB := hB.below hb3; have hC := hC.below hb3; have d0 := kept hb3 d0; have d1 := kept hb3 d1; have e0 := kept hb3 e0; have e1 := kept hb3 e1; have e2 := kept hb3 e2; have l0 := kept hb3 l0; have l1 := kept hb3 l1; have l2 := kept hb3 l2
  go_wp2_with fail
  go_ret2
  exact ⟨by rw [HGL.out]; rfl, bwT⟩
 | true =>
  cases zB with
  | false =>
   go_enter Tryz.func6, Tryz.ntmps6
   have hb0 : Below w.heap.size w ((w.alloc (.cells #[.int .i64 p0, .slice a0 st0.length c0] 26)).alloc (.cells #[.slice a1 A1.length c1, .slice a2 B1.length c2, .slice a3 C1.length c3] 29)) := bwT
   have hx0 := hx0.below hb0; have hA := hA.below hb0; have hB := hB.below hb0; have hC := hC.below hb0
   have d0 : ((w.alloc (.cells #[.int .i64 p0, .slice a0 st0.length c0] 26)).alloc (.cells #[.slice a1 A1.length c1, .slice a2 B1.length c2, .slice a3 C1.length c3] 29)).cell? ⟨w.heap.size, 0, none⟩ = some (.int .i64 p0) := by simp [go_sem]
   have d1 : ((w.alloc (.cells #[.int .i64 p0, .slice a0 st0.length c0] 26)).alloc (.cells #[.slice a1 A1.length c1, .slice a2 B1.length c2, .slice a3 C1.length c3] 29)).cell? ⟨w.heap.size, 1, none⟩ = some (.slice a0 st0.length c0) := by simp [go_sem]
   have e0 : ((w.alloc (.cells #[.int .i64 p0, .slice a0 st0.length c0] 26)).alloc (.cells #[.slice a1 A1.length c1, .slice a2 B1.length c2, .slice a3 C1.length c3] 29)).cell? ⟨w.heap.size + 1, 0, none⟩ = some (.slice a1 A1.length c1) := by simp [go_sem]
   have e1 : ((w.alloc (.cells #[.int .i64 p0, .slice a0 st0.length c0] 26)).alloc (.cells #[.slice a1 A1.length c1, .slice a2 B1.length c2, .slice a3 C1.length c3] 29)).cell? ⟨w.heap.size + 1, 1, none⟩ = some (.slice a2 B1.length c2) := by simp [go_sem]
   have e2 : ((w.alloc (.cells #[.int .i64 p0, .slice a0 st0.length c0] 26)).alloc (.cells #[.slice a1 A1.length c1, .slice a2 B1.length c2, .slice a3 C1.length c3] 29)).cell? ⟨w.heap.size + 1, 2, none⟩ = some (.slice a3 C1.length c3) := by simp [go_sem]
   have hb1 : Below ((w.alloc (.cells #[.int .i64 p0, .slice a0 st0.length c0] 26)).alloc (.cells #[.slice a1 A1.length c1, .slice a2 B1.length c2, .slice a3 C1.length c3] 29)).heap.size ((w.alloc (.cells #[.int .i64 p0, .slice a0 st0.length c0] 26)).alloc (.cells #[.slice a1 A1.length c1, .slice a2 B1.length c2, .slice a3 C1.length c3] 29)) (((w.alloc (.cells #[.int .i64 p0, .slice a0 st0.length c0] 26)).alloc (.cells #[.slice a1 A1.length c1, .slice a2 B1.length c2, .slice a3 C1.length c3] 29)).alloc (.cells #[.slice a1 A1.length c1, .slice a2 B1.length c2, .slice a3 C1.length c3] 29)) := bwT
   have hx0 := hx0.below hb1; have hA := hA.below hb1; have hB := hB.below hb1; have hC := hC.below hb1; have d0 := kept hb1 d0; have d1 := kept hb1 d1; have e0 := kept hb1 e0; have e1 := kept hb1 e1; have e2 := kept hb1 e2
   have l0 : (((w.alloc (.cells #[.int .i64 p0, .slice a0 st0.length c0] 26)).alloc (.cells #[.slice a1 A1.length c1, .slice a2 B1.length c2, .slice a3 C1.length c3] 29)).alloc (.cells #[.slice a1 A1.length c1, .slice a2 B1.length c2, .slice a3 C1.length c3] 29)).cell? ⟨w.heap.size + 1 + 1, 0, none⟩ = some (.slice a1 A1.length c1) := by simp [go_sem]
   have l1 : (((w.alloc (.cells #[.int .i64 p0, .slice a0 st0.length c0] 26)).alloc (.cells #[.slice a1 A1.length c1, .slice a2 B1.length c2, .slice a3 C1.length c3] 29)).alloc (.cells #[.slice a1 A1.length c1, .slice a2 B1.length c2, .slice a3 C1.length c3] 29)).cell? ⟨w.heap.size + 1 + 1, 1, none⟩ = some (.slice a2 B1.length c2) := by simp [go_sem]
   have l2 : (((w.alloc (.cells #[.int .i64 p0, .slice a0 st0.length c0] 26)).alloc (.cells #[.slice a1 A1.length c1, .slice a2 B1.length c2, .slice a3 C1.length c3] 29)).alloc (.cells #[.slice a1 A1.length c1, .slice a2 B1.length c2, .slice a3 C1.length c3] 29)).cell? ⟨w.heap.size + 1 + 1, 2, none⟩ = some (.slice a3 C1.length c3) := by simp [go_sem]
   go_wp2_with fail
   refine (hchk _ _ _ hx0 l0 l1 l2 hA hB hC).mono ?_; rintro e w2 ⟨rfl, hb2⟩
   have hx0 := hx0.below hb2; have hA := hA.below hb2; have hB := hB.below hb2; have hC := hC.below hb2; have d0 := kept hb2 d0; have d1 := kept hb2 d1; have e0 := kept hb2 e0; have e1 := kept hb2 e1; have e2 := kept hb2 e2; have l0 := kept hb2 l0; have l1 := kept hb2 l1; have l2 := kept hb2 l2
   go_wp2_with fail
   refine (kA _ hx0 hA).mono ?_; rintro e w3 ⟨rfl, hb3⟩
   have hx0 := hx0.below hb3; have hA := hA.below hb3; have hB := hB.below hb3; have hC := hC.below hb3; have d0 := kept hb3 d0; have d1 := kept hb3 d1; have e0 := kept hb3 e0; have e1 := kept hb3 e1; have e2 := kept hb3 e2; have l0 := kept hb3 l0; have l1 := kept hb3 l1; have l2 := kept hb3 l2
   go_wp2_with fail
   refine (kB _ hx0 hB).mono ?_; rintro e w4 ⟨rfl, hb4⟩
   have hx0 := hx0.below hb4; have hA := hA.below hb4; have hB := hB.below hb4; have hC := hC.below hb4; have d0 := kept hb4 d0; have d1 := kept hb4 d1; have e0 := kept hb4 e0; have e1 := kept hb4 e1; have e2 := kept hb4 e2; have l0 := kept hb4 l0; have l1 := kept hb4 l1; have l2 := kept hb4 l2
   go_wp2_with fail
   go_ret2
   exact ⟨by rw [HGL.out]; rfl, bwT⟩
  | true =>
   cases zC with
   | false =>
    go_enter Tryz.func6, Tryz.ntmps6
    have hb0 : Below w.heap.size w ((w.alloc (.cells #[.int .i64 p0, .slice a0 st0.length c0] 26)).alloc (.cells #[.slice a1 A1.length c1, .slice a2 B1.length c2, .slice a3 C1.length c3] 29)) := bwT
    have hx0 := hx0.below hb0; have hA := hA.below hb0; have hB := hB.below hb0; have hC := hC.below hb0
    have d0 : ((w.alloc (.cells #[.int .i64 p0, .slice a0 st0.length c0] 26)).alloc (.cells #[.slice a1 A1.length c1, .slice a2 B1.length c2, .slice a3 C1.length c3] 29)).cell? ⟨w.heap.size, 0, none⟩ = some (.int .i64 p0) := by simp [go_sem]
    have d1 : ((w.alloc (.cells #[.int .i64 p0, .slice a0 st0.length c0] 26)).alloc (.cells #[.slice a1 A1.length c1, .slice a2 B1.length c2, .slice a3 C1.length c3] 29)).cell? ⟨w.heap.size, 1, none⟩ = some (.slice a0 st0.length c0) := by simp [go_sem]
    have e0 : ((w.alloc (.cells #[.int .i64 p0, .slice a0 st0.length c0] 26)).alloc (.cells #[.slice a1 A1.length c1, .slice a2 B1.length c2, .slice a3 C1.length c3] 29)).cell? ⟨w.heap.size + 1, 0, none⟩ = some (.slice a1 A1.length c1) := by simp [go_sem]
    have e1 : ((w.alloc (.cells #[.int .i64 p0, .slice a0 st0.length c0] 26)).alloc (.cells #[.slice a1 A1.length c1, .slice a2 B1.length c2, .slice a3 C1.length c3] 29)).cell? ⟨w.heap.size + 1, 1, none⟩ = some (.slice a2 B1.length c2) := by simp [go_sem]
    have e2 : ((w.alloc (.cells #[.int .i64 p0, .slice a0 st0.length c0] 26)).alloc (.cells #[.slice a1 A1.length c1, .slice a2 B1.length c2, .slice a3 C1.length c3] 29)).cell? ⟨w.heap.size + 1, 2, none⟩ = some (.slice a3 C1.length c3) := by simp [go_sem]
    have hb1 : Below ((w.alloc (.cells #[.int .i64 p0, .slice a0 st0.length c0] 26)).alloc (.cells #[.slice a1 A1.length c1, .slice a2 B1.length c2, .slice a3 C1.length c3] 29)).heap.size ((w.alloc (.cells #[.int .i64 p0, .slice a0 st0.length c0] 26)).alloc (.cells #[.slice a1 A1.length c1, .slice a2 B1.length c2, .slice a3 C1.length c3] 29)) (((w.alloc (.cells #[.int .i64 p0, .slice a0 st0.length c0] 26)).alloc (.cells #[.slice a1 A1.length c1, .slice a2 B1.length c2, .slice a3 C1.length c3] 29)).alloc (.cells #[.slice a1 A1.length c1, .slice a2 B1.length c2, .slice a3 C1.length c3] 29)) := bwT
    have hx0 := hx0.below hb1; have hA := hA.below hb1; have hB := hB.below hb1; have hC := hC.below hb1; have d0 := kept hb1 d0; have d1 := kept hb1 d1; have e0 := kept hb1 e0; have e1 := kept hb1 e1; have e2 := kept hb1 e2
    have l0 : (((w.alloc (.cells #[.int .i64 p0, .slice a0 st0.length c0] 26)).alloc (.cells #[.slice a1 A1.length c1, .slice a2 B1.length c2, .slice a3 C1.length c3] 29)).alloc (.cells #[.slice a1 A1.length c1, .slice a2 B1.length c2, .slice a3 C1.length c3] 29)).cell? ⟨w.heap.size + 1 + 1, 0, none⟩ = some (.slice a1 A1.length c1) := by simp [go_sem]
    have l1 : (((w.alloc (.cells #[.int .i64 p0, .slice a0 st0.length c0] 26)).alloc (.cells #[.slice a1 A1.length c1, .slice a2 B1.length c2, .slice a3 C1.length c3] 29)).alloc (.cells #[.slice a1 A1.length c1, .slice a2 B1.length c2, .slice a3 C1.length c3] 29)).cell? ⟨w.heap.size + 1 + 1, 1, none⟩ = some (.slice a2 B1.length c2) := by simp [go_sem]
    have l2 : (((w.alloc (.cells #[.int .i64 p0, .slice a0 st0.length c0] 26)).alloc (.cells #[.slice a1 A1.length c1, .slice a2 B1.length c2, .slice a3 C1.length c3] 29)).alloc (.cells #[.slice a1 A1.length c1, .slice a2 B1.length c2, .slice a3 C1.length c3] 29)).cell? ⟨w.heap.size + 1 + 1, 2, none⟩ = some (.slice a3 C1.length c3) := by simp [go_sem]
    go_wp2_with fail
    refine (hchk _ _ _ hx0 l0 l1 l2 hA hB hC).mono ?_; rintro e w2 ⟨rfl, hb2⟩
    have hx0 := hx0.below hb2; have hA := hA.below hb2; have hB := hB.below hb2; have hC := hC.below hb2; have d0 := kept hb2 d0; have d1 := kept hb2 d1; have e0 := kept hb2 e0; have e1 := kept hb2 e1; have e2 := kept hb2 e2; have l0 := kept hb2 l0; have l1 := kept hb2 l1; have l2 := kept hb2 l2
    go_wp2_with fail
    refine (kA _ hx0 hA).mono ?_; rintro e w3 ⟨rfl, hb3⟩
    have hx0 := hx0.below hb3; have hA := hA.below hb3; have hB := hB.below hb3; have hC := hC.below hb3; have d0 := kept hb3 d0; have d1 := kept hb3 d1; have e0 := kept hb3 e0; have e1 := kept hb3 e1; have e2 := kept hb3 e2; have l0 := kept hb3 l0; have l1 := kept hb3 l1; have l2 := kept hb3 l2
    go_wp2_with fail
    refine (kB _ hx0 hB).mono ?_; rintro e w4 ⟨rfl, hb4⟩
    have hx0 := hx0.below hb4; have hA := hA.below hb4; have hB := hB.below hb4; have hC := hC.below hb4; have d0 := kept hb4 d0; have d1 := kept hb4 d1; have e0 := kept hb4 e0; have e1 := kept hb4 e1; have e2 := kept hb4 e2; have l0 := kept hb4 l0; have l1 := kept hb4 l1; have l2 := kept hb4 l2
    go_wp2_with fail
    refine (kC _ hx0 hC).mono ?_; rintro e w5 ⟨rfl, hb5⟩
    have hx0 := hx0.below hb5; have hA := hA.below hb5; have hB := hB.below hb5; have hC := hC.below hb5; have d0 := kept hb5 d0; have d1 := kept hb5 d1; have e0 := kept hb5 e0; have e1 := kept hb5 e1; have e2 := kept hb5 e2; have l0 := kept hb5 l0; have l1 := kept hb5 l1; have l2 := kept hb5 l2
    go_wp2_with fail
    go_ret2
    exact ⟨by rw [HGL.out]; rfl, bwT⟩
   | true =>
    have hAl := (matB_iff.1 mA).1; have hBl := (matB_iff.1 mB).1; have hCl := (matB_iff.1 mC).1
    have hAw := (matB_iff.1 mA).2; have hBw := (matB_iff.1 mB).2; have hCw := (matB_iff.1 mC).2
    have cA := fun i => colL_ev (by omega : 1 <= p0) mA i
    have cB := fun i => colL_ev (by omega : 1 <= p0) mB i
    have cC := fun i => colL_ev (by omega : 1 <= p0) mC i
    have hAB := fun i j => mulL_ev (p := p0) (st := st0) (by omega) (cA i) (cB j)
    have hABC := fun i j k => mulL_ev (p := p0) (st := st0) (by omega) (hAB i j) (cC k)
    have htm1 := fun W x y i j (h : El W (.slice a0 st0.length c0) st0) (hx : El W x (colL A1 i)) (hy : El W y (colL B1 j)) => times_c (w := W) (p := p0) hd h hx hy (cA i) (cB j)
    have htm2 := fun W x y i j k (h : El W (.slice a0 st0.length c0) st0) (hx : El W x (mulL p0 st0 (colL A1 i) (colL B1 j))) (hy : El W y (colL C1 k)) => times_c (w := W) (p := p0) hd h hx hy (hAB i j) (cC k)
    have htr := fun W x i j k (h : El W (.slice a0 st0.length c0) st0) (hx : El W x (mulL p0 st0 (mulL p0 st0 (colL A1 i) (colL B1 j)) (colL C1 k))) => trace_c (w := W) (p := p0) hd.hp h hx (hABC i j k).2 (by rw [(hABC i j k).1]; omega)
    have hcf := fun i j k hi hj hk => cyc_form (p := p0) (st := st0) (i := i) (j := j) (k := k) hd hi hj hk
    have hcy := fun W h => cyc_c (w := W) (p := p0) (s := .slice a0 st0.length c0) hd h
    have hGd : ∀ i j k, glG p0 st0 A1 B1 C1 i j k = (2 * (mulL p0 st0 (mulL p0 st0 (colL A1 i) (colL B1 j)) (colL C1 k)).getD 0 0 % p0 == formF p0 st0 i j k) := fun _ _ _ => rfl
    have hGl2 : globB p0 st0 A1 B1 C1 = all3 (sz st0.length) (glG p0 st0 A1 B1 C1) := by rw [HGL.out]; simp
    obtain ⟨G, hG⟩ : ∃ G, G = glG p0 st0 A1 B1 C1 := ⟨_, rfl⟩
    obtain ⟨F, hF⟩ : ∃ F, F = cycF p0 st0 := ⟨_, rfl⟩
    simp only [<- hG] at hGd hGl2
    simp only [<- hF] at hcf hcy
    obtain ⟨n, hn⟩ : ∃ n, n = sz st0.length := ⟨_, rfl⟩
    simp only [<- hn] at hsz hAl hBl hCl hAw hBw hCw hcf hcy hGl2
    have hGc : ∀ i j k, i < n -> j < n -> k < n -> G i j k = (2 * (mulL p0 st0 (mulL p0 st0 (colL A1 i) (colL B1 j)) (colL C1 k)).getD 0 0 % p0 == F i j k) := fun i j k hi hj hk => by rw [hGd, hcf i j k hi hj hk]
    have hgl := HGL
    have HG2 := Lib.hid hGl2; have HGC := Lib.hid hGc; have HAL := Lib.hid hAl; have HBL := Lib.hid hBl; have HCL := Lib.hid hCl
    have hAb : A1.length <= 8 := by omega
    have hBb : B1.length <= 8 := by omega
    have hCb : C1.length <= 8 := by omega
    clear hGl2 hGd hGc hAl hBl hCl hG hF hn hcf cA cB cC hAB hABC hgl
    have lA := fun i (hi : i < n) (r : List Int) (h : r ∈ A1) => show i < r.length by have := (hAw r h).1; omega
    have lB := fun i (hi : i < n) (r : List Int) (h : r ∈ B1) => show i < r.length by have := (hBw r h).1; omega
    have lC := fun i (hi : i < n) (r : List Int) (h : r ∈ C1) => show i < r.length by have := (hCw r h).1; omega
    have LA := Lib.hid lA; have LB := Lib.hid lB; have LC := Lib.hid lC
    clear lA lB lC
    go_enter Tryz.func6, Tryz.ntmps6
    have hb0 : Below w.heap.size w ((w.alloc (.cells #[.int .i64 p0, .slice a0 st0.length c0] 26)).alloc (.cells #[.slice a1 A1.length c1, .slice a2 B1.length c2, .slice a3 C1.length c3] 29)) := bwT
    have hx0 := hx0.below hb0; have hA := hA.below hb0; have hB := hB.below hb0; have hC := hC.below hb0
    have d0 : ((w.alloc (.cells #[.int .i64 p0, .slice a0 st0.length c0] 26)).alloc (.cells #[.slice a1 A1.length c1, .slice a2 B1.length c2, .slice a3 C1.length c3] 29)).cell? ⟨w.heap.size, 0, none⟩ = some (.int .i64 p0) := by simp [go_sem]
    have d1 : ((w.alloc (.cells #[.int .i64 p0, .slice a0 st0.length c0] 26)).alloc (.cells #[.slice a1 A1.length c1, .slice a2 B1.length c2, .slice a3 C1.length c3] 29)).cell? ⟨w.heap.size, 1, none⟩ = some (.slice a0 st0.length c0) := by simp [go_sem]
    have e0 : ((w.alloc (.cells #[.int .i64 p0, .slice a0 st0.length c0] 26)).alloc (.cells #[.slice a1 A1.length c1, .slice a2 B1.length c2, .slice a3 C1.length c3] 29)).cell? ⟨w.heap.size + 1, 0, none⟩ = some (.slice a1 A1.length c1) := by simp [go_sem]
    have e1 : ((w.alloc (.cells #[.int .i64 p0, .slice a0 st0.length c0] 26)).alloc (.cells #[.slice a1 A1.length c1, .slice a2 B1.length c2, .slice a3 C1.length c3] 29)).cell? ⟨w.heap.size + 1, 1, none⟩ = some (.slice a2 B1.length c2) := by simp [go_sem]
    have e2 : ((w.alloc (.cells #[.int .i64 p0, .slice a0 st0.length c0] 26)).alloc (.cells #[.slice a1 A1.length c1, .slice a2 B1.length c2, .slice a3 C1.length c3] 29)).cell? ⟨w.heap.size + 1, 2, none⟩ = some (.slice a3 C1.length c3) := by simp [go_sem]
    have hb1 : Below ((w.alloc (.cells #[.int .i64 p0, .slice a0 st0.length c0] 26)).alloc (.cells #[.slice a1 A1.length c1, .slice a2 B1.length c2, .slice a3 C1.length c3] 29)).heap.size ((w.alloc (.cells #[.int .i64 p0, .slice a0 st0.length c0] 26)).alloc (.cells #[.slice a1 A1.length c1, .slice a2 B1.length c2, .slice a3 C1.length c3] 29)) (((w.alloc (.cells #[.int .i64 p0, .slice a0 st0.length c0] 26)).alloc (.cells #[.slice a1 A1.length c1, .slice a2 B1.length c2, .slice a3 C1.length c3] 29)).alloc (.cells #[.slice a1 A1.length c1, .slice a2 B1.length c2, .slice a3 C1.length c3] 29)) := bwT
    have hx0 := hx0.below hb1; have hA := hA.below hb1; have hB := hB.below hb1; have hC := hC.below hb1; have d0 := kept hb1 d0; have d1 := kept hb1 d1; have e0 := kept hb1 e0; have e1 := kept hb1 e1; have e2 := kept hb1 e2
    have l0 : (((w.alloc (.cells #[.int .i64 p0, .slice a0 st0.length c0] 26)).alloc (.cells #[.slice a1 A1.length c1, .slice a2 B1.length c2, .slice a3 C1.length c3] 29)).alloc (.cells #[.slice a1 A1.length c1, .slice a2 B1.length c2, .slice a3 C1.length c3] 29)).cell? ⟨w.heap.size + 1 + 1, 0, none⟩ = some (.slice a1 A1.length c1) := by simp [go_sem]
    have l1 : (((w.alloc (.cells #[.int .i64 p0, .slice a0 st0.length c0] 26)).alloc (.cells #[.slice a1 A1.length c1, .slice a2 B1.length c2, .slice a3 C1.length c3] 29)).alloc (.cells #[.slice a1 A1.length c1, .slice a2 B1.length c2, .slice a3 C1.length c3] 29)).cell? ⟨w.heap.size + 1 + 1, 1, none⟩ = some (.slice a2 B1.length c2) := by simp [go_sem]
    have l2 : (((w.alloc (.cells #[.int .i64 p0, .slice a0 st0.length c0] 26)).alloc (.cells #[.slice a1 A1.length c1, .slice a2 B1.length c2, .slice a3 C1.length c3] 29)).alloc (.cells #[.slice a1 A1.length c1, .slice a2 B1.length c2, .slice a3 C1.length c3] 29)).cell? ⟨w.heap.size + 1 + 1, 2, none⟩ = some (.slice a3 C1.length c3) := by simp [go_sem]
    go_wp2_with fail
    refine (hchk _ _ _ hx0 l0 l1 l2 hA hB hC).mono ?_; rintro e w2 ⟨rfl, hb2⟩
    have hx0 := hx0.below hb2; have hA := hA.below hb2; have hB := hB.below hb2; have hC := hC.below hb2; have d0 := kept hb2 d0; have d1 := kept hb2 d1; have e0 := kept hb2 e0; have e1 := kept hb2 e1; have e2 := kept hb2 e2; have l0 := kept hb2 l0; have l1 := kept hb2 l1; have l2 := kept hb2 l2
    go_wp2_with fail
    refine (kA _ hx0 hA).mono ?_; rintro e w3 ⟨rfl, hb3⟩
    have hx0 := hx0.below hb3; have hA := hA.below hb3; have hB := hB.below hb3; have hC := hC.below hb3; have d0 := kept hb3 d0; have d1 := kept hb3 d1; have e0 := kept hb3 e0; have e1 := kept hb3 e1; have e2 := kept hb3 e2
    go_wp2_with fail
    refine (kB _ hx0 hB).mono ?_; rintro e w4 ⟨rfl, hb4⟩
    have hx0 := hx0.below hb4; have hA := hA.below hb4; have hB := hB.below hb4; have hC := hC.below hb4; have d0 := kept hb4 d0; have d1 := kept hb4 d1; have e0 := kept hb4 e0; have e1 := kept hb4 e1; have e2 := kept hb4 e2
    go_wp2_with fail
    refine (kC _ hx0 hC).mono ?_; rintro e w5 ⟨rfl, hb5⟩
    have hx0 := hx0.below hb5; have hA := hA.below hb5; have hB := hB.below hb5; have hC := hC.below hb5; have d0 := kept hb5 d0; have d1 := kept hb5 d1; have e0 := kept hb5 e0; have e1 := kept hb5 e1; have e2 := kept hb5 e2
    go_wp2_with fail
    refine (hcy _ hx0).mono ?_; rintro e w6 ⟨gf, kf, rfl, hCu, hb6⟩
    have hx0 := hx0.below hb6; have hA := hA.below hb6; have hB := hB.below hb6; have hC := hC.below hb6; have d0 := kept hb6 d0; have d1 := kept hb6 d1; have e0 := kept hb6 e0; have e1 := kept hb6 e1; have e2 := kept hb6 e2
    have hbx : Below w.heap.size w w6 := bwT
    go_wp2_with fail
    go_loopw [42] (fun i wr => ∃ k : Nat, k <= n /\ i = .int .i64 k /\ ((List.range k).all fun i => (List.range n).all fun j => (List.range n).all (G i j)) = true /\ Below w6.heap.size w6 wr) (fun i _ => n - (intOf i).toNat)
    case atStart => exact ⟨0, Nat.zero_le _, rfl, rfl, Below.refl _ _⟩
    case round =>
     obtain ⟨k, hk, rfl, hall, hb⟩ := hrel
     by_cases hlt : k < n
     ·have HALL := Lib.hid hall; clear hall
      generalize wr = wo at *
      go_wp2_with fail
      go_loopw [47] (fun i wr => ∃ j : Nat, j <= n /\ i = .int .i64 j /\ ((List.range j).all fun j => (List.range n).all (G k j)) = true /\ Below wo.heap.size wo wr) (fun i _ => n - (intOf i).toNat)
      case atStart => exact ⟨0, Nat.zero_le _, rfl, rfl, Below.refl _ _⟩
      case round =>
       obtain ⟨j, hj, rfl, hal2, hb5⟩ := hrel
       by_cases hlt2 : j < n
       ·have HAL2 := Lib.hid hal2; clear hal2
        have hbc := bwC hb hb5
        have hx0 := hx0.below hbc; have hA := hA.below hbc; have hB := hB.below hbc; have hC := hC.below hbc; have d0 := kept hbc d0; have d1 := kept hbc d1; have e0 := kept hbc e0; have e1 := kept hbc e1; have e2 := kept hbc e2; have hCu := hCu.below hbc
        clear hbc
        generalize wr = wp at *
        go_wp2_with fail
        go_wp2_with fail
        refine region_flow [(false, [(0, 1), (1, 0), (2, 1), (3, 0), (5, 0), (6, 1), (7, 0), (4, 5)]), (false, [(8, 5)]), (false, [(9, 4), (10, 0)])] (by kernel_rfl) ?_
        refine norm_K fun K hK => ?_
        change wpList _ _ _ [_, _, _, _, _, _, _, _] _ _
        have hb21 : Below wp.heap.size wp wp.drew := bwT
        have hx0 := hx0.below hb21; have hA := hA.below hb21; have hB := hB.below hb21; have hC := hC.below hb21; have d0 := kept hb21 d0; have d1 := kept hb21 d1; have e0 := kept hb21 e0; have e1 := kept hb21 e1; have e2 := kept hb21 e2; have hCu := hCu.below hb21
        generalize wp.drew = wq at *
        go_wp2_with fail
        refine (column_c hA (LA.out k hlt) (by omega)).mono ?_; rintro e w22 ⟨v1, rfl, h1, hb22⟩
        have hx0 := hx0.below hb22; have hA := hA.below hb22; have hB := hB.below hb22; have hC := hC.below hb22; have d0 := kept hb22 d0; have d1 := kept hb22 d1; have e0 := kept hb22 e0; have e1 := kept hb22 e1; have e2 := kept hb22 e2; have hCu := hCu.below hb22
        go_wp2_with fail
        have hz0 : Below wq.heap.size wq w22 := bwT
        first | (refine hK _ _ ⟨hz0, ?_⟩; clear hK K) | refine ⟨hz0, ?_⟩
        clear hz0
        refine norm_K fun K hK => ?_
        change wpList _ _ _ [_] _ _
        go_wp2_with fail
        refine (column_c hB (LB.out j hlt2) (by omega)).mono ?_; rintro e w23 ⟨v2, rfl, h2, hb23⟩
        have hx0 := hx0.below hb23; have hA := hA.below hb23; have hB := hB.below hb23; have hC := hC.below hb23; have d0 := kept hb23 d0; have d1 := kept hb23 d1; have e0 := kept hb23 e0; have e1 := kept hb23 e1; have e2 := kept hb23 e2; have hCu := hCu.below hb23; have h1 := h1.below hb23
        go_wp2_with fail
        have hz1 : Below wq.heap.size wq w23 := bwT
        first | (refine hK _ _ ⟨hz1, ?_⟩; clear hK K) | refine ⟨hz1, ?_⟩
        clear hz1
        refine norm_K fun K hK => ?_
        change wpList _ _ _ [_, _] _ _
        go_wp2_with fail
        refine (htm1 _ _ _ k j hx0 h1.el h2.el).mono ?_; rintro e w24 ⟨v3, rfl, h3, hb24⟩
        have hx0 := hx0.below hb24; have hA := hA.below hb24; have hB := hB.below hb24; have hC := hC.below hb24; have d0 := kept hb24 d0; have d1 := kept hb24 d1; have e0 := kept hb24 e0; have e1 := kept hb24 e1; have e2 := kept hb24 e2; have hCu := hCu.below hb24; have h1 := h1.below hb24; have h2 := h2.below hb24
        obtain ⟨g3, k3, rfl, _⟩ := id h3
        go_wp2_with fail
        first | (refine hK _ _ ⟨rfl, ?_⟩; clear hK K) | refine ⟨rfl, ?_⟩
        have hby : Below wp.heap.size wp w24 := bwT
        clear h1 h2
        go_wp2_with fail
        go_loopw [62] (fun i wr => ∃ r : Nat, r <= n /\ i = .int .i64 r /\ (List.range r).all (G k j) = true /\ Below w24.heap.size w24 wr) (fun i _ => n - (intOf i).toNat)
        case atStart => exact ⟨0, Nat.zero_le _, rfl, rfl, Below.refl _ _⟩
        case round =>
         obtain ⟨r, hr, rfl, hal3, hb6⟩ := hrel
         by_cases hlt3 : r < n
         ·have HAL3 := Lib.hid hal3; clear hal3
          have hx0 := hx0.below hb6; have hC := hC.below hb6; have d0 := kept hb6 d0; have d1 := kept hb6 d1; have e2 := kept hb6 e2; have hCu := hCu.below hb6; have h3 := h3.below hb6
          obtain ⟨b2, q2, hc1, hcu2⟩ := hCu k hlt
          obtain ⟨b3, q3, hc2, hcu3⟩ := hcu2 j hlt2
          have hc3 := hcu3 r hlt3
          have hg := HGC.out k j r hlt hlt2 hlt3
          obtain ⟨z, hz⟩ : ∃ z, z = F k j r := ⟨_, rfl⟩
          rw [<- hz] at hc3 hg
          obtain ⟨t, ht⟩ : ∃ t, t = 2 * (mulL p0 st0 (mulL p0 st0 (colL A1 k) (colL B1 j)) (colL C1 r)).getD 0 0 % p0 := ⟨_, rfl⟩
          rw [<- ht] at hg
          obtain ⟨b, hb_⟩ : ∃ b, b = G k j r := ⟨_, rfl⟩
          rw [<- hb_] at hg
          have HN := Lib.hid (bne_not hg); have HT := Lib.hid ht; have HB_ := Lib.hid hb_
          clear hz ht hb_ hg hcu2 hcu3 hCu
          go_wp2_with fail
          go_wp2_with fail
          refine region_flow [(false, [(0, 1), (1, 1), (2, 0), (3, 0), (4, 1), (5, 0), (9, 0), (10, 0), (11, 0), (12, 1), (13, 0), (14, 0), (15, 1), (16, 0), (17, 0), (18, 1), (6, 5)]), (false, [(7, 5)]), (false, [(8, 5)]), (false, [(19, 0)])] (by kernel_rfl) ?_
          refine norm_K fun K hK => ?_
          change wpList _ _ _ [_, _, _, _, _, _, _, _, _, _, _, _, _, _, _, _, _] _ _
          have hb21 : Below wr.heap.size wr wr.drew := bwT
          have hx0 := hx0.below hb21; have hC := hC.below hb21; have d0 := kept hb21 d0; have d1 := kept hb21 d1; have e2 := kept hb21 e2; have h3 := h3.below hb21; have hc1 := kept hb21 hc1; have hc2 := kept hb21 hc2; have hc3 := kept hb21 hc3
          generalize wr.drew = wv at *
          go_wp2_with fail
          refine (column_c hC (LC.out r hlt3) (by omega)).mono ?_; rintro e w22 ⟨v4, rfl, h4, hb22⟩
          have hx0 := hx0.below hb22; have hC := hC.below hb22; have d0 := kept hb22 d0; have d1 := kept hb22 d1; have e2 := kept hb22 e2; have h3 := h3.below hb22; have hc1 := kept hb22 hc1; have hc2 := kept hb22 hc2; have hc3 := kept hb22 hc3
          go_wp2_with fail
          have hz0 : Below wv.heap.size wv w22 := bwT
          first | (refine hK _ _ ⟨hz0, ?_⟩; clear hK K) | refine ⟨hz0, ?_⟩
          clear hz0
          refine norm_K fun K hK => ?_
          change wpList _ _ _ [_] _ _
          go_wp2_with fail
          refine (htm2 _ _ _ k j r hx0 h3.el h4.el).mono ?_; rintro e w23 ⟨v5, rfl, h5, hb23⟩
          have hx0 := hx0.below hb23; have hC := hC.below hb23; have d0 := kept hb23 d0; have d1 := kept hb23 d1; have e2 := kept hb23 e2; have h3 := h3.below hb23; have hc1 := kept hb23 hc1; have hc2 := kept hb23 hc2; have hc3 := kept hb23 hc3; have h4 := h4.below hb23
          go_wp2_with fail
          have hz1 : Below wv.heap.size wv w23 := bwT
          first | (refine hK _ _ ⟨hz1, ?_⟩; clear hK K) | refine ⟨hz1, ?_⟩
          clear hz1
          refine norm_K fun K hK => ?_
          change wpList _ _ _ [_] _ _
          go_wp2_with fail
          refine (htr _ _ k j r hx0 h5.el).mono ?_; rintro e w24 ⟨rfl, hb24⟩
          have hx0 := hx0.below hb24; have hC := hC.below hb24; have d0 := kept hb24 d0; have d1 := kept hb24 d1; have e2 := kept hb24 e2; have h3 := h3.below hb24; have hc1 := kept hb24 hc1; have hc2 := kept hb24 hc2; have hc3 := kept hb24 hc3; have h4 := h4.below hb24; have h5 := h5.below hb24
          rw [<- HT.out]
          go_wp2_with fail
          have hz2 : Below wv.heap.size wv w24 := bwT
          first | (refine hK _ _ ⟨hz2, ?_⟩; clear hK K) | refine ⟨hz2, ?_⟩
          clear hz2
          refine norm_K fun K hK => ?_
          change wpList _ _ _ [_] _ _
          have hbz : Below wr.heap.size wr w24 := bwT
          cases b
          ·have hne : (t != z) = true := HN.out
           go_wp2_with fail
           first | (refine hK _ _ ⟨rfl, ?_⟩; clear hK K) | refine ⟨rfl, ?_⟩
           go_wp2_with fail
           go_ret2
           exact ⟨by rw [HG2.out, all3_no hlt hlt2 hlt3 HB_.out.symm]; rfl, bwC hbx (bwC hb (bwC hb5 (bwC hby (bwC hb6 hbz))))⟩
          ·have hne : (t != z) = false := HN.out
           go_wp2_with fail
           first | (refine hK _ _ ⟨rfl, ?_⟩; clear hK K) | refine ⟨rfl, ?_⟩
           go_wp2_with fail
           go_roundw
           case rel => exact ⟨r + 1, by omega, by go_num, by rw [all_succ, HAL3.out, <- HB_.out]; rfl, bwC hb6 hbz⟩
           case measure => simp [intOf]; omega
         ·obtain rfl : r = n := by omega
          have HAL3 := Lib.hid hal3; clear hal3
          go_wp2_with fail
          go_roundw
          case rel => exact ⟨j + 1, by omega, by go_num, by rw [all_succ, HAL2.out, HAL3.out]; rfl, bwC hb5 (bwC hby hb6)⟩
          case measure => simp [intOf]; omega
       ·obtain rfl : j = n := by omega
        have HAL2 := Lib.hid hal2; clear hal2
        go_wp2_with fail
        go_roundw
        case rel => exact ⟨k + 1, by omega, by go_num, by rw [all_succ, HALL.out, HAL2.out]; rfl, bwC hb hb5⟩
        case measure => simp [intOf]; omega
     ·obtain rfl : k = n := by omega
      have HALL := Lib.hid hall; clear hall
      go_wp2_with fail
      go_ret2
      exact ⟨by rw [HG2.out]; unfold all3; rw [HALL.out]; rfl, bwC hbx hb⟩
set_option maxHeartbeats 2000000 in
set_option maxRecDepth 100000 in
theorem sglob_c {p : Int} {s x : Value} {st : List Int} {A B C : List (List Int)} {w : World} (hd : Dok p st) (hs : El w s st) (hx : Tv w x A B C) (mA : matB p (sz st.length) A = true) (mB : matB p (sz st.length) B = true) (mC : matB p (sz st.length) C = true) :
    Calls Tryz.prog 25 #[.agg #[.int .i64 p, s], x] w fun e w' => e = .returned (.bool (globB p st A B C)) /\ Below w.heap.size w w' := by
  obtain ⟨a0, c0, rfl, _⟩ := id hs.op
  obtain ⟨va, vb, vc, rfl, hA, hB, hC⟩ := id hx
  obtain ⟨a1, c1, rfl, _⟩ := id hA
  obtain ⟨a2, c2, rfl, _⟩ := id hB
  obtain ⟨a3, c3, rfl, _⟩ := id hC
  clear hx
  have hp1 := hd.hp.lo; have hp2 := hd.hp.hi; have hl3 := hd.hl; have hsz := sz_le hd
  have kA := fun W h1 h2 => siso_c (w := W) (p := p) (s := .slice a0 st.length c0) (m := .slice a1 A.length c1) hd h1 h2 mA
  have kB := fun W h1 h2 => siso_c (w := W) (p := p) (s := .slice a0 st.length c0) (m := .slice a2 B.length c2) hd h1 h2 mB
  have kC := fun W h1 h2 => siso_c (w := W) (p := p) (s := .slice a0 st.length c0) (m := .slice a3 C.length c3) hd h1 h2 mC
  have hGl : globB p st A B C = (isoB p (diagF p st) A && (isoB p (diagF p st) B && (isoB p (diagF p st) C && all3 (sz st.length) (glG p st A B C)))) := rfl
  obtain ⟨zA, hzA⟩ : ∃ z, z = isoB p (diagF p st) A := ⟨_, rfl⟩
  obtain ⟨zB, hzB⟩ : ∃ z, z = isoB p (diagF p st) B := ⟨_, rfl⟩
  obtain ⟨zC, hzC⟩ : ∃ z, z = isoB p (diagF p st) C := ⟨_, rfl⟩
  simp only [<- hzA] at kA hGl; simp only [<- hzB] at kB hGl; simp only [<- hzC] at kC hGl
  have HGL := Lib.hid hGl
  clear hzA hzB hzC hGl
  cases zA with
  | false =>
    go_enter Tryz.func25, Tryz.ntmps25
    have hb0 : Below w.heap.size w ((w.alloc (.cells #[.int .i64 p, .slice a0 st.length c0] 26)).alloc (.cells #[.slice a1 A.length c1, .slice a2 B.length c2, .slice a3 C.length c3] 29)) := bwT
    have hs := hs.below hb0; have hA := hA.below hb0; have hB := hB.below hb0; have hC := hC.below hb0
    have d0 : ((w.alloc (.cells #[.int .i64 p, .slice a0 st.length c0] 26)).alloc (.cells #[.slice a1 A.length c1, .slice a2 B.length c2, .slice a3 C.length c3] 29)).cell? ⟨w.heap.size, 0, none⟩ = some (.int .i64 p) := by simp [go_sem]
    have d1 : ((w.alloc (.cells #[.int .i64 p, .slice a0 st.length c0] 26)).alloc (.cells #[.slice a1 A.length c1, .slice a2 B.length c2, .slice a3 C.length c3] 29)).cell? ⟨w.heap.size, 1, none⟩ = some (.slice a0 st.length c0) := by simp [go_sem]
    have e0 : ((w.alloc (.cells #[.int .i64 p, .slice a0 st.length c0] 26)).alloc (.cells #[.slice a1 A.length c1, .slice a2 B.length c2, .slice a3 C.length c3] 29)).cell? ⟨w.heap.size + 1, 0, none⟩ = some (.slice a1 A.length c1) := by simp [go_sem]
    have e1 : ((w.alloc (.cells #[.int .i64 p, .slice a0 st.length c0] 26)).alloc (.cells #[.slice a1 A.length c1, .slice a2 B.length c2, .slice a3 C.length c3] 29)).cell? ⟨w.heap.size + 1, 1, none⟩ = some (.slice a2 B.length c2) := by simp [go_sem]
    have e2 : ((w.alloc (.cells #[.int .i64 p, .slice a0 st.length c0] 26)).alloc (.cells #[.slice a1 A.length c1, .slice a2 B.length c2, .slice a3 C.length c3] 29)).cell? ⟨w.heap.size + 1, 2, none⟩ = some (.slice a3 C.length c3) := by simp [go_sem]
    go_wp2_with fail
    refine (kA _ hs hA).mono ?_; rintro e w1 ⟨rfl, hb1⟩
    have hs := hs.below hb1; have hA := hA.below hb1; have hB := hB.below hb1; have hC := hC.below hb1; have d0 := kept hb1 d0; have d1 := kept hb1 d1; have e0 := kept hb1 e0; have e1 := kept hb1 e1; have e2 := kept hb1 e2
    go_wp2_with fail
    go_ret
    exact ⟨by rw [HGL.out]; rfl, bwT⟩
  | true =>
   cases zB with
   | false =>
    go_enter Tryz.func25, Tryz.ntmps25
    have hb0 : Below w.heap.size w ((w.alloc (.cells #[.int .i64 p, .slice a0 st.length c0] 26)).alloc (.cells #[.slice a1 A.length c1, .slice a2 B.length c2, .slice a3 C.length c3] 29)) := bwT
    have hs := hs.below hb0; have hA := hA.below hb0; have hB := hB.below hb0; have hC := hC.below hb0
    have d0 : ((w.alloc (.cells #[.int .i64 p, .slice a0 st.length c0] 26)).alloc (.cells #[.slice a1 A.length c1, .slice a2 B.length c2, .slice a3 C.length c3] 29)).cell? ⟨w.heap.size, 0, none⟩ = some (.int .i64 p) := by simp [go_sem]
    have d1 : ((w.alloc (.cells #[.int .i64 p, .slice a0 st.length c0] 26)).alloc (.cells #[.slice a1 A.length c1, .slice a2 B.length c2, .slice a3 C.length c3] 29)).cell? ⟨w.heap.size, 1, none⟩ = some (.slice a0 st.length c0) := by simp [go_sem]
    have e0 : ((w.alloc (.cells #[.int .i64 p, .slice a0 st.length c0] 26)).alloc (.cells #[.slice a1 A.length c1, .slice a2 B.length c2, .slice a3 C.length c3] 29)).cell? ⟨w.heap.size + 1, 0, none⟩ = some (.slice a1 A.length c1) := by simp [go_sem]
    have e1 : ((w.alloc (.cells #[.int .i64 p, .slice a0 st.length c0] 26)).alloc (.cells #[.slice a1 A.length c1, .slice a2 B.length c2, .slice a3 C.length c3] 29)).cell? ⟨w.heap.size + 1, 1, none⟩ = some (.slice a2 B.length c2) := by simp [go_sem]
    have e2 : ((w.alloc (.cells #[.int .i64 p, .slice a0 st.length c0] 26)).alloc (.cells #[.slice a1 A.length c1, .slice a2 B.length c2, .slice a3 C.length c3] 29)).cell? ⟨w.heap.size + 1, 2, none⟩ = some (.slice a3 C.length c3) := by simp [go_sem]
    go_wp2_with fail
    refine (kA _ hs hA).mono ?_; rintro e w1 ⟨rfl, hb1⟩
    have hs := hs.below hb1; have hA := hA.below hb1; have hB := hB.below hb1; have hC := hC.below hb1; have d0 := kept hb1 d0; have d1 := kept hb1 d1; have e0 := kept hb1 e0; have e1 := kept hb1 e1; have e2 := kept hb1 e2
    go_wp2_with fail
    refine (kB _ hs hB).mono ?_; rintro e w2 ⟨rfl, hb2⟩
    have hs := hs.below hb2; have hA := hA.below hb2; have hB := hB.below hb2; have hC := hC.below hb2; have d0 := kept hb2 d0; have d1 := kept hb2 d1; have e0 := kept hb2 e0; have e1 := kept hb2 e1; have e2 := kept hb2 e2
    go_wp2_with fail
    go_ret
    exact ⟨by rw [HGL.out]; rfl, bwT⟩
   | true =>
    cases zC with
    | false =>
      go_enter Tryz.func25, Tryz.ntmps25
      have hb0 : Below w.heap.size w ((w.alloc (.cells #[.int .i64 p, .slice a0 st.length c0] 26)).alloc (.cells #[.slice a1 A.length c1, .slice a2 B.length c2, .slice a3 C.length c3] 29)) := bwT
      have hs := hs.below hb0; have hA := hA.below hb0; have hB := hB.below hb0; have hC := hC.below hb0
      have d0 : ((w.alloc (.cells #[.int .i64 p, .slice a0 st.length c0] 26)).alloc (.cells #[.slice a1 A.length c1, .slice a2 B.length c2, .slice a3 C.length c3] 29)).cell? ⟨w.heap.size, 0, none⟩ = some (.int .i64 p) := by simp [go_sem]
      have d1 : ((w.alloc (.cells #[.int .i64 p, .slice a0 st.length c0] 26)).alloc (.cells #[.slice a1 A.length c1, .slice a2 B.length c2, .slice a3 C.length c3] 29)).cell? ⟨w.heap.size, 1, none⟩ = some (.slice a0 st.length c0) := by simp [go_sem]
      have e0 : ((w.alloc (.cells #[.int .i64 p, .slice a0 st.length c0] 26)).alloc (.cells #[.slice a1 A.length c1, .slice a2 B.length c2, .slice a3 C.length c3] 29)).cell? ⟨w.heap.size + 1, 0, none⟩ = some (.slice a1 A.length c1) := by simp [go_sem]
      have e1 : ((w.alloc (.cells #[.int .i64 p, .slice a0 st.length c0] 26)).alloc (.cells #[.slice a1 A.length c1, .slice a2 B.length c2, .slice a3 C.length c3] 29)).cell? ⟨w.heap.size + 1, 1, none⟩ = some (.slice a2 B.length c2) := by simp [go_sem]
      have e2 : ((w.alloc (.cells #[.int .i64 p, .slice a0 st.length c0] 26)).alloc (.cells #[.slice a1 A.length c1, .slice a2 B.length c2, .slice a3 C.length c3] 29)).cell? ⟨w.heap.size + 1, 2, none⟩ = some (.slice a3 C.length c3) := by simp [go_sem]
      go_wp2_with fail
      refine (kA _ hs hA).mono ?_; rintro e w1 ⟨rfl, hb1⟩
      have hs := hs.below hb1; have hA := hA.below hb1; have hB := hB.below hb1; have hC := hC.below hb1; have d0 := kept hb1 d0; have d1 := kept hb1 d1; have e0 := kept hb1 e0; have e1 := kept hb1 e1; have e2 := kept hb1 e2
      go_wp2_with fail
      refine (kB _ hs hB).mono ?_; rintro e w2 ⟨rfl, hb2⟩
      have hs := hs.below hb2; have hA := hA.below hb2; have hB := hB.below hb2; have hC := hC.below hb2; have d0 := kept hb2 d0; have d1 := kept hb2 d1; have e0 := kept hb2 e0; have e1 := kept hb2 e1; have e2 := kept hb2 e2
      go_wp2_with fail
      refine (kC _ hs hC).mono ?_; rintro e w3 ⟨rfl, hb3⟩
      have hs := hs.below hb3; have hA := hA.below hb3; have hB := hB.below hb3; have hC := hC.below hb3; have d0 := kept hb3 d0; have d1 := kept hb3 d1; have e0 := kept hb3 e0; have e1 := kept hb3 e1; have e2 := kept hb3 e2
      go_wp2_with fail
      go_ret
      exact ⟨by rw [HGL.out]; rfl, bwT⟩
    | true =>
      have hAl := (matB_iff.1 mA).1; have hBl := (matB_iff.1 mB).1; have hCl := (matB_iff.1 mC).1
      have hAw := (matB_iff.1 mA).2; have hBw := (matB_iff.1 mB).2; have hCw := (matB_iff.1 mC).2
      have cA := fun i => colL_ev (by omega : 1 <= p) mA i
      have cB := fun i => colL_ev (by omega : 1 <= p) mB i
      have cC := fun i => colL_ev (by omega : 1 <= p) mC i
      have hAB := fun i j => mulL_ev (p := p) (st := st) (by omega) (cA i) (cB j)
      have hABC := fun i j k => mulL_ev (p := p) (st := st) (by omega) (hAB i j) (cC k)
      have htm1 := fun W x y i j (h : El W (.slice a0 st.length c0) st) (hx : El W x (colL A i)) (hy : El W y (colL B j)) => stimes_c (w := W) (p := p) hd h hx hy (cA i) (cB j)
      have htm2 := fun W x y i j k (h : El W (.slice a0 st.length c0) st) (hx : El W x (mulL p st (colL A i) (colL B j))) (hy : El W y (colL C k)) => stimes_c (w := W) (p := p) hd h hx hy (hAB i j) (cC k)
      have h3b := fun i j k => (hABC i j k).2.g0 (by omega) 0
      have h3l := fun i j k => (hABC i j k).1
      have hfrm := fun W b off c i j k h hT hi hj hk => sform_c (w := W) (b := b) (off := off) (c := c) (i := i) (j := j) (k := k) (p := p) (s := .slice a0 st.length c0) hd h rfl hT hi hj hk
      have hGd : ∀ i j k, glG p st A B C i j k = (2 * (mulL p st (mulL p st (colL A i) (colL B j)) (colL C k)).getD 0 0 % p == formF p st i j k) := fun _ _ _ => rfl
      have hGl2 : globB p st A B C = all3 (sz st.length) (glG p st A B C) := by rw [HGL.out]; simp
      have hbl : (basL p st).length = sz st.length := by unfold basL; simp
      have hbw : ∀ r ∈ basL p st, r.length = sz st.length := fun r hr => by
        unfold basL at hr
        obtain ⟨i, _, rfl⟩ := List.mem_map.1 hr
        simp
      have hbg := fun i hi k hk => bas_get (p := p) (st := st) (i := i) (k := k) hi hk
      have hbs := fun W h => sbas_c (w := W) (p := p) (s := .slice a0 st.length c0) hd h
      have hszc := fun W => ssize_c (w := W) (p := p) (a := a0) (n := st.length) (c := c0) (by omega)
      obtain ⟨G, hG⟩ : ∃ G, G = glG p st A B C := ⟨_, rfl⟩
      obtain ⟨F, hF⟩ : ∃ F, F = basF p st := ⟨_, rfl⟩
      simp only [<- hG] at hGd hGl2
      simp only [<- hF] at hfrm hbg
      obtain ⟨n, hn⟩ : ∃ n, n = sz st.length := ⟨_, rfl⟩
      simp only [<- hn] at hsz hAl hBl hCl hAw hBw hCw hGl2 hbl hbw hbg hszc hfrm h3l
      have HG2 := Lib.hid hGl2; have HGD := Lib.hid hGd; have HAL := Lib.hid hAl; have HBL := Lib.hid hBl; have HCL := Lib.hid hCl; have HBB := Lib.hid hbl; have HBW := Lib.hid hbw; have HBG := Lib.hid hbg; have H3B := Lib.hid h3b; have H3L := Lib.hid h3l
      have hAb : A.length <= 8 := by omega
      have hBb : B.length <= 8 := by omega
      have hCb : C.length <= 8 := by omega
      clear hGl2 hGd hAl hBl hCl hG hF hn cA cB cC hAB hABC hbl hbw hbg h3b h3l
      have lA := fun i (hi : i < n) (r : List Int) (h : r ∈ A) => show i < r.length by have := (hAw r h).1; omega
      have lB := fun i (hi : i < n) (r : List Int) (h : r ∈ B) => show i < r.length by have := (hBw r h).1; omega
      have lC := fun i (hi : i < n) (r : List Int) (h : r ∈ C) => show i < r.length by have := (hCw r h).1; omega
      have LA := Lib.hid lA; have LB := Lib.hid lB; have LC := Lib.hid lC
      clear lA lB lC
      go_enter Tryz.func25, Tryz.ntmps25
      have hb0 : Below w.heap.size w ((w.alloc (.cells #[.int .i64 p, .slice a0 st.length c0] 26)).alloc (.cells #[.slice a1 A.length c1, .slice a2 B.length c2, .slice a3 C.length c3] 29)) := bwT
      have hs := hs.below hb0; have hA := hA.below hb0; have hB := hB.below hb0; have hC := hC.below hb0
      have d0 : ((w.alloc (.cells #[.int .i64 p, .slice a0 st.length c0] 26)).alloc (.cells #[.slice a1 A.length c1, .slice a2 B.length c2, .slice a3 C.length c3] 29)).cell? ⟨w.heap.size, 0, none⟩ = some (.int .i64 p) := by simp [go_sem]
      have d1 : ((w.alloc (.cells #[.int .i64 p, .slice a0 st.length c0] 26)).alloc (.cells #[.slice a1 A.length c1, .slice a2 B.length c2, .slice a3 C.length c3] 29)).cell? ⟨w.heap.size, 1, none⟩ = some (.slice a0 st.length c0) := by simp [go_sem]
      have e0 : ((w.alloc (.cells #[.int .i64 p, .slice a0 st.length c0] 26)).alloc (.cells #[.slice a1 A.length c1, .slice a2 B.length c2, .slice a3 C.length c3] 29)).cell? ⟨w.heap.size + 1, 0, none⟩ = some (.slice a1 A.length c1) := by simp [go_sem]
      have e1 : ((w.alloc (.cells #[.int .i64 p, .slice a0 st.length c0] 26)).alloc (.cells #[.slice a1 A.length c1, .slice a2 B.length c2, .slice a3 C.length c3] 29)).cell? ⟨w.heap.size + 1, 1, none⟩ = some (.slice a2 B.length c2) := by simp [go_sem]
      have e2 : ((w.alloc (.cells #[.int .i64 p, .slice a0 st.length c0] 26)).alloc (.cells #[.slice a1 A.length c1, .slice a2 B.length c2, .slice a3 C.length c3] 29)).cell? ⟨w.heap.size + 1, 2, none⟩ = some (.slice a3 C.length c3) := by simp [go_sem]
      go_wp2_with fail
      refine (kA _ hs hA).mono ?_; rintro e w1 ⟨rfl, hb1⟩
      have hs := hs.below hb1; have hA := hA.below hb1; have hB := hB.below hb1; have hC := hC.below hb1; have d0 := kept hb1 d0; have d1 := kept hb1 d1; have e0 := kept hb1 e0; have e1 := kept hb1 e1; have e2 := kept hb1 e2
      go_wp2_with fail
      refine (kB _ hs hB).mono ?_; rintro e w2 ⟨rfl, hb2⟩
      have hs := hs.below hb2; have hA := hA.below hb2; have hB := hB.below hb2; have hC := hC.below hb2; have d0 := kept hb2 d0; have d1 := kept hb2 d1; have e0 := kept hb2 e0; have e1 := kept hb2 e1; have e2 := kept hb2 e2
      go_wp2_with fail
      refine (kC _ hs hC).mono ?_; rintro e w3 ⟨rfl, hb3⟩
      have hs := hs.below hb3; have hA := hA.below hb3; have hB := hB.below hb3; have hC := hC.below hb3; have d0 := kept hb3 d0; have d1 := kept hb3 d1; have e0 := kept hb3 e0; have e1 := kept hb3 e1; have e2 := kept hb3 e2
      go_wp2_with fail
      refine region_flow [(false, [(0, 1), (2, 1), (1, 5)]), (false, [(3, 4), (4, 0), (5, 0)])] (by kernel_rfl) ?_
      refine norm_K fun K hK => ?_
      change wpList _ _ _ [_, _, _] _ _
      have hb4 : Below w3.heap.size w3 w3.drew := bwT
      have hs := hs.below hb4; have hA := hA.below hb4; have hB := hB.below hb4; have hC := hC.below hb4; have d0 := kept hb4 d0; have d1 := kept hb4 d1; have e0 := kept hb4 e0; have e1 := kept hb4 e1; have e2 := kept hb4 e2
      generalize w3.drew = wq at *
      go_wp2_with fail
      refine (hbs _ hs).mono ?_; rintro e w5 ⟨vb, rfl, hT0, hb5⟩
      have hs := hs.below hb5; have hA := hA.below hb5; have hB := hB.below hb5; have hC := hC.below hb5; have d0 := kept hb5 d0; have d1 := kept hb5 d1; have e0 := kept hb5 e0; have e1 := kept hb5 e1; have e2 := kept hb5 e2
      go_wp2_with fail
      have hz0 : Below wq.heap.size wq w5 := bwT
      first | (refine hK _ _ ⟨hz0, ?_⟩; clear hK K) | refine ⟨hz0, ?_⟩
      clear hz0
      refine norm_K fun K hK => ?_
      change wpList _ _ _ [_, _, _] _ _
      obtain ⟨bb, ob, cb, rfl, hT1⟩ := Re.tb hT0 HBB.out (by omega) HBW.out
      have hT := hT1.congr (G := F) (fun i hi k hk => HBG.out i hi k hk)
      clear hT1
      go_wp2_with fail
      refine (hszc _).mono ?_; rintro e w6 ⟨rfl, hb6⟩
      have hs := hs.below hb6; have hA := hA.below hb6; have hB := hB.below hb6; have hC := hC.below hb6; have d0 := kept hb6 d0; have d1 := kept hb6 d1; have e0 := kept hb6 e0; have e1 := kept hb6 e1; have e2 := kept hb6 e2; have hT := hT.below hb6
      go_wp2_with fail
      first | (refine hK _ _ ⟨rfl, ?_⟩; clear hK K) | refine ⟨rfl, ?_⟩
      have hbx : Below w.heap.size w w6 := bwT
      clear hT0
      go_wp2_with fail
      go_loopw [7] (fun i wr => ∃ k : Nat, k <= n /\ i = .int .i64 k /\ ((List.range k).all fun i => (List.range n).all fun j => (List.range n).all (G i j)) = true /\ Below w6.heap.size w6 wr) (fun i _ => n - (intOf i).toNat)
      case atStart => exact ⟨0, Nat.zero_le _, rfl, rfl, Below.refl _ _⟩
      case round =>
        obtain ⟨k, hk, rfl, hall, hb⟩ := hrel
        by_cases hlt : k < n
        · have HALL := Lib.hid hall; clear hall
          generalize wr = wo at *
          go_wp2_with fail
          go_loopw [8] (fun i wr => ∃ j : Nat, j <= n /\ i = .int .i64 j /\ ((List.range j).all fun j => (List.range n).all (G k j)) = true /\ Below wo.heap.size wo wr) (fun i _ => n - (intOf i).toNat)
          case atStart => exact ⟨0, Nat.zero_le _, rfl, rfl, Below.refl _ _⟩
          case round =>
            obtain ⟨j, hj, rfl, hal2, hb5⟩ := hrel
            by_cases hlt2 : j < n
            · have HAL2 := Lib.hid hal2; clear hal2
              have hbc := bwC hb hb5
              have hs := hs.below hbc; have hA := hA.below hbc; have hB := hB.below hbc; have hC := hC.below hbc; have d0 := kept hbc d0; have d1 := kept hbc d1; have e0 := kept hbc e0; have e1 := kept hbc e1; have e2 := kept hbc e2; have hT := hT.below hbc
              clear hbc
              generalize wr = wp at *
              go_wp2_with fail
              go_wp2_with fail
              refine region_flow [(false, [(0, 1), (1, 0), (2, 1), (3, 0), (5, 0), (6, 1), (7, 0), (4, 5)]), (false, [(8, 5)]), (false, [(9, 4), (10, 0)])] (by kernel_rfl) ?_
              refine norm_K fun K hK => ?_
              change wpList _ _ _ [_, _, _, _, _, _, _, _] _ _
              have hb21 : Below wp.heap.size wp wp.drew := bwT
              have hs := hs.below hb21; have hA := hA.below hb21; have hB := hB.below hb21; have hC := hC.below hb21; have d0 := kept hb21 d0; have d1 := kept hb21 d1; have e0 := kept hb21 e0; have e1 := kept hb21 e1; have e2 := kept hb21 e2; have hT := hT.below hb21
              generalize wp.drew = wq at *
              go_wp2_with fail
              refine (scolumn_c hA (LA.out k hlt) (by omega)).mono ?_; rintro e w22 ⟨v1, rfl, h1, hb22⟩
              have hs := hs.below hb22; have hA := hA.below hb22; have hB := hB.below hb22; have hC := hC.below hb22; have d0 := kept hb22 d0; have d1 := kept hb22 d1; have e0 := kept hb22 e0; have e1 := kept hb22 e1; have e2 := kept hb22 e2; have hT := hT.below hb22
              go_wp2_with fail
              have hz0 : Below wq.heap.size wq w22 := bwT
              first | (refine hK _ _ ⟨hz0, ?_⟩; clear hK K) | refine ⟨hz0, ?_⟩
              clear hz0
              refine norm_K fun K hK => ?_
              change wpList _ _ _ [_] _ _
              go_wp2_with fail
              refine (scolumn_c hB (LB.out j hlt2) (by omega)).mono ?_; rintro e w23 ⟨v2, rfl, h2, hb23⟩
              have hs := hs.below hb23; have hA := hA.below hb23; have hB := hB.below hb23; have hC := hC.below hb23; have d0 := kept hb23 d0; have d1 := kept hb23 d1; have e0 := kept hb23 e0; have e1 := kept hb23 e1; have e2 := kept hb23 e2; have hT := hT.below hb23; have h1 := h1.below hb23
              go_wp2_with fail
              have hz1 : Below wq.heap.size wq w23 := bwT
              first | (refine hK _ _ ⟨hz1, ?_⟩; clear hK K) | refine ⟨hz1, ?_⟩
              clear hz1
              refine norm_K fun K hK => ?_
              change wpList _ _ _ [_, _] _ _
              go_wp2_with fail
              refine (htm1 _ _ _ k j hs h1.el h2.el).mono ?_; rintro e w24 ⟨v3, rfl, h3, hb24⟩
              have hs := hs.below hb24; have hA := hA.below hb24; have hB := hB.below hb24; have hC := hC.below hb24; have d0 := kept hb24 d0; have d1 := kept hb24 d1; have e0 := kept hb24 e0; have e1 := kept hb24 e1; have e2 := kept hb24 e2; have hT := hT.below hb24; have h1 := h1.below hb24; have h2 := h2.below hb24
              obtain ⟨g3, k3, rfl, _⟩ := id h3
              go_wp2_with fail
              first | (refine hK _ _ ⟨rfl, ?_⟩; clear hK K) | refine ⟨rfl, ?_⟩
              have hby : Below wp.heap.size wp w24 := bwT
              clear h1 h2
              go_wp2_with fail
              go_loopw [10] (fun i wr => ∃ r : Nat, r <= n /\ i = .int .i64 r /\ (List.range r).all (G k j) = true /\ Below w24.heap.size w24 wr) (fun i _ => n - (intOf i).toNat)
              case atStart => exact ⟨0, Nat.zero_le _, rfl, rfl, Below.refl _ _⟩
              case round =>
                obtain ⟨r, hr, rfl, hal3, hb6⟩ := hrel
                by_cases hlt3 : r < n
                · have HAL3 := Lib.hid hal3; clear hal3
                  have hs := hs.below hb6; have hC := hC.below hb6; have d0 := kept hb6 d0; have d1 := kept hb6 d1; have e2 := kept hb6 e2; have hT := hT.below hb6; have h3 := h3.below hb6
                  have hg := HGD.out k j r
                  have y3 := H3B.out k j r
                  have yl := H3L.out k j r
                  obtain ⟨b, hb_⟩ : ∃ b, b = G k j r := ⟨_, rfl⟩
                  rw [<- hb_] at hg
                  have HG_ := Lib.hid hg; have HB_ := Lib.hid hb_; have YL := Lib.hid yl
                  clear hb_ hg yl
                  go_wp2_with fail
                  go_wp2_with fail
                  refine region_flow [(false, [(0, 0), (1, 1), (2, 1), (3, 0), (4, 0), (5, 1), (6, 0), (13, 1), (14, 0), (15, 0), (16, 0), (17, 0), (7, 5)]), (false, [(8, 5)]), (false, [(9, 0), (10, 1), (11, 0), (12, 5)]), (false, [(18, 4), (19, 0)])] (by kernel_rfl) ?_
                  refine norm_K fun K hK => ?_
                  change wpList _ _ _ [_, _, _, _, _, _, _, _, _, _, _, _, _] _ _
                  have hb21 : Below wr.heap.size wr wr.drew := bwT
                  have hs := hs.below hb21; have hC := hC.below hb21; have d0 := kept hb21 d0; have d1 := kept hb21 d1; have e2 := kept hb21 e2; have h3 := h3.below hb21; have hT := hT.below hb21
                  generalize wr.drew = wv at *
                  go_wp2_with fail
                  refine (scolumn_c hC (LC.out r hlt3) (by omega)).mono ?_; rintro e w22 ⟨v4, rfl, h4, hb22⟩
                  have hs := hs.below hb22; have hC := hC.below hb22; have d0 := kept hb22 d0; have d1 := kept hb22 d1; have e2 := kept hb22 e2; have h3 := h3.below hb22; have hT := hT.below hb22
                  go_wp2_with fail
                  have hz0 : Below wv.heap.size wv w22 := bwT
                  first | (refine hK _ _ ⟨hz0, ?_⟩; clear hK K) | refine ⟨hz0, ?_⟩
                  clear hz0
                  refine norm_K fun K hK => ?_
                  change wpList _ _ _ [_] _ _
                  go_wp2_with fail
                  refine (htm2 _ _ _ k j r hs h3.el h4.el).mono ?_; rintro e w23 ⟨v5, rfl, h5, hb23⟩
                  have hs := hs.below hb23; have hC := hC.below hb23; have d0 := kept hb23 d0; have d1 := kept hb23 d1; have e2 := kept hb23 e2; have h3 := h3.below hb23; have hT := hT.below hb23; have h4 := h4.below hb23
                  obtain ⟨g5, k5, rfl, h5o⟩ := id h5
                  have hc5 := h5o.hold (i := 0) (by rw [YL.out]; omega)
                  obtain ⟨y, hy⟩ : ∃ y, y = (mulL p st (mulL p st (colL A k) (colL B j)) (colL C r)).getD 0 0 := ⟨_, rfl⟩
                  rw [<- hy] at hc5 y3
                  have HG2_ := Lib.hid (show b = (2 * y % p == formF p st k j r) by rw [hy]; exact HG_.out)
                  clear hy h5o
                  go_wp2_with fail
                  have hz1 : Below wv.heap.size wv w23 := bwT
                  first | (refine hK _ _ ⟨hz1, ?_⟩; clear hK K) | refine ⟨hz1, ?_⟩
                  clear hz1
                  refine norm_K fun K hK => ?_
                  change wpList _ _ _ [_, _, _, _] _ _
                  have hlen5 : 0 < (mulL p st (mulL p st (colL A k) (colL B j)) (colL C r)).length := by rw [YL.out]; omega
                  go_wp2_with fail
                  refine (smod_c (by omega) (by omega)).mono ?_; rintro e w24 ⟨rfl, rfl⟩
                  obtain ⟨t, ht⟩ : ∃ t, t = 2 * y % p := ⟨_, rfl⟩
                  have HG3 := Lib.hid (show b = (t == formF p st k j r) by rw [ht]; exact HG2_.out)
                  rw [<- ht]
                  clear ht
                  go_wp2_with fail
                  have hz2 : Below wv.heap.size wv w23 := bwT
                  first | (refine hK _ _ ⟨hz2, ?_⟩; clear hK K) | refine ⟨hz2, ?_⟩
                  clear hz2
                  refine norm_K fun K hK => ?_
                  change wpList _ _ _ [_, _] _ _
                  obtain ⟨f, hf⟩ : ∃ f, f = formF p st k j r := ⟨_, rfl⟩
                  have HN := Lib.hid (bne_not (show b = (t == f) by rw [hf]; exact HG3.out)); have HF := Lib.hid hf
                  clear hf
                  go_wp2_with fail
                  refine (hfrm _ bb ob cb k j r hs hT hlt hlt2 hlt3).mono ?_; rintro e w25 ⟨rfl, hb25⟩
                  have hs := hs.below hb25; have hC := hC.below hb25; have d0 := kept hb25 d0; have d1 := kept hb25 d1; have e2 := kept hb25 e2; have h3 := h3.below hb25; have hT := hT.below hb25; have h4 := h4.below hb25; have h5 := h5.below hb25; have hc5 := kept hb25 hc5
                  rw [<- HF.out]
                  have hbz : Below wr.heap.size wr w25 := bwT
                  cases b
                  · have hne : (t != f) = true := HN.out
                    go_wp2_with fail
                    first | (refine hK _ _ ⟨rfl, ?_⟩; clear hK K) | refine ⟨rfl, ?_⟩
                    go_wp2_with fail
                    go_ret
                    exact ⟨by rw [HG2.out, all3_no hlt hlt2 hlt3 HB_.out.symm]; rfl, bwC hbx (bwC hb (bwC hb5 (bwC hby (bwC hb6 hbz))))⟩
                  · have hne : (t != f) = false := HN.out
                    go_wp2_with fail
                    first | (refine hK _ _ ⟨rfl, ?_⟩; clear hK K) | refine ⟨rfl, ?_⟩
                    go_wp2_with fail
                    go_roundw
                    case rel => exact ⟨r + 1, by omega, by go_num, by rw [all_succ, HAL3.out, <- HB_.out]; rfl, bwC hb6 hbz⟩
                    case measure => simp [intOf]; omega
                · obtain rfl : r = n := by omega
                  have HAL3 := Lib.hid hal3; clear hal3
                  go_wp2_with fail
                  go_roundw
                  case rel => exact ⟨j + 1, by omega, by go_num, by rw [all_succ, HAL2.out, HAL3.out]; rfl, bwC hb5 (bwC hby hb6)⟩
                  case measure => simp [intOf]; omega
            · obtain rfl : j = n := by omega
              have HAL2 := Lib.hid hal2; clear hal2
              go_wp2_with fail
              go_roundw
              case rel => exact ⟨k + 1, by omega, by go_num, by rw [all_succ, HALL.out, HAL2.out]; rfl, bwC hb hb5⟩
              case measure => simp [intOf]; omega
        · obtain rfl : k = n := by omega
          have HALL := Lib.hid hall; clear hall
          go_wp2_with fail
          go_ret
          exact ⟨by rw [HG2.out]; unfold all3; rw [HALL.out]; rfl, bwC hbx hb⟩
set_option maxHeartbeats 2000000 in
theorem sIsGlobalTriple_c {p0 : Int} {x0 : Value} {st0 : List Int} {x1 : Value} {A1 B1 C1 : List (List Int)} {w : World} (hx0 : El w x0 st0) (hm0 : st0.length <= 1048576) (hx1 : Tv w x1 A1 B1 C1) (hm1 : Tsz A1 B1 C1) :
  Calls Tryz.prog 7 #[.agg #[.int .i64 p0, x0], x1] w fun e w' => e = .returned (.tuple #[.bool (RIsGlobalTriple0 p0 st0 A1 B1 C1), .int .i64 (RIsGlobalTriple1 p0 st0 A1 B1 C1)]) /\ Below w.heap.size w w' := by
 obtain ⟨a0, c0, rfl, _⟩ := id hx0.op
 obtain ⟨va, vb, vc, rfl, hA, hB, hC⟩ := id hx1
 obtain ⟨a1, c1, rfl, _⟩ := id hA
 obtain ⟨a2, c2, rfl, _⟩ := id hB
 obtain ⟨a3, c3, rfl, _⟩ := id hC
 have hchk := fun W bl k h0 l0 l1 l2 hA hB hC => sl15t_c (w := W) (bl := bl) (k := k) (p := p0) (x := .slice a0 st0.length c0) (a := .slice a1 A1.length c1) (b := .slice a2 B1.length c2) (c := .slice a3 C1.length c3) h0 l0 l1 l2 hA hB hC hm0 hm1
 by_cases h0 : chkT p0 st0 [A1, B1, C1] = 0
 case neg =>
  rw [show RIsGlobalTriple0 p0 st0 A1 B1 C1 = false from if_neg h0, show RIsGlobalTriple1 p0 st0 A1 B1 C1 = chkT p0 st0 [A1, B1, C1] from rfl]
  obtain ⟨r, hr⟩ : ∃ r, r = chkT p0 st0 [A1, B1, C1] := ⟨_, rfl⟩
  simp only [<- hr] at hchk h0 ⊢
  clear hr
  have hne : (r == 0) = false := by simpa using h0
  go_enter Tryz.func7, Tryz.ntmps7
  have hb0 : Below w.heap.size w ((w.alloc (.cells #[.int .i64 p0, .slice a0 st0.length c0] 26)).alloc (.cells #[.slice a1 A1.length c1, .slice a2 B1.length c2, .slice a3 C1.length c3] 29)) := bwT
  have hx0 := hx0.below hb0; have hA := hA.below hb0; have hB := hB.below hb0; have hC := hC.below hb0
  have d0 : ((w.alloc (.cells #[.int .i64 p0, .slice a0 st0.length c0] 26)).alloc (.cells #[.slice a1 A1.length c1, .slice a2 B1.length c2, .slice a3 C1.length c3] 29)).cell? ⟨w.heap.size, 0, none⟩ = some (.int .i64 p0) := by simp [go_sem]
  have d1 : ((w.alloc (.cells #[.int .i64 p0, .slice a0 st0.length c0] 26)).alloc (.cells #[.slice a1 A1.length c1, .slice a2 B1.length c2, .slice a3 C1.length c3] 29)).cell? ⟨w.heap.size, 1, none⟩ = some (.slice a0 st0.length c0) := by simp [go_sem]
  have e0 : ((w.alloc (.cells #[.int .i64 p0, .slice a0 st0.length c0] 26)).alloc (.cells #[.slice a1 A1.length c1, .slice a2 B1.length c2, .slice a3 C1.length c3] 29)).cell? ⟨w.heap.size + 1, 0, none⟩ = some (.slice a1 A1.length c1) := by simp [go_sem]
  have e1 : ((w.alloc (.cells #[.int .i64 p0, .slice a0 st0.length c0] 26)).alloc (.cells #[.slice a1 A1.length c1, .slice a2 B1.length c2, .slice a3 C1.length c3] 29)).cell? ⟨w.heap.size + 1, 1, none⟩ = some (.slice a2 B1.length c2) := by simp [go_sem]
  have e2 : ((w.alloc (.cells #[.int .i64 p0, .slice a0 st0.length c0] 26)).alloc (.cells #[.slice a1 A1.length c1, .slice a2 B1.length c2, .slice a3 C1.length c3] 29)).cell? ⟨w.heap.size + 1, 2, none⟩ = some (.slice a3 C1.length c3) := by simp [go_sem]
  have hb1 : Below ((w.alloc (.cells #[.int .i64 p0, .slice a0 st0.length c0] 26)).alloc (.cells #[.slice a1 A1.length c1, .slice a2 B1.length c2, .slice a3 C1.length c3] 29)).heap.size ((w.alloc (.cells #[.int .i64 p0, .slice a0 st0.length c0] 26)).alloc (.cells #[.slice a1 A1.length c1, .slice a2 B1.length c2, .slice a3 C1.length c3] 29)) (((w.alloc (.cells #[.int .i64 p0, .slice a0 st0.length c0] 26)).alloc (.cells #[.slice a1 A1.length c1, .slice a2 B1.length c2, .slice a3 C1.length c3] 29)).alloc (.cells #[.slice a1 A1.length c1, .slice a2 B1.length c2, .slice a3 C1.length c3] 29)) := bwT
  have hx0 := hx0.below hb1; have hA := hA.below hb1; have hB := hB.below hb1; have hC := hC.below hb1; have d0 := kept hb1 d0; have d1 := kept hb1 d1; have e0 := kept hb1 e0; have e1 := kept hb1 e1; have e2 := kept hb1 e2
  have l0 : (((w.alloc (.cells #[.int .i64 p0, .slice a0 st0.length c0] 26)).alloc (.cells #[.slice a1 A1.length c1, .slice a2 B1.length c2, .slice a3 C1.length c3] 29)).alloc (.cells #[.slice a1 A1.length c1, .slice a2 B1.length c2, .slice a3 C1.length c3] 29)).cell? ⟨w.heap.size + 1 + 1, 0, none⟩ = some (.slice a1 A1.length c1) := by simp [go_sem]
  have l1 : (((w.alloc (.cells #[.int .i64 p0, .slice a0 st0.length c0] 26)).alloc (.cells #[.slice a1 A1.length c1, .slice a2 B1.length c2, .slice a3 C1.length c3] 29)).alloc (.cells #[.slice a1 A1.length c1, .slice a2 B1.length c2, .slice a3 C1.length c3] 29)).cell? ⟨w.heap.size + 1 + 1, 1, none⟩ = some (.slice a2 B1.length c2) := by simp [go_sem]
  have l2 : (((w.alloc (.cells #[.int .i64 p0, .slice a0 st0.length c0] 26)).alloc (.cells #[.slice a1 A1.length c1, .slice a2 B1.length c2, .slice a3 C1.length c3] 29)).alloc (.cells #[.slice a1 A1.length c1, .slice a2 B1.length c2, .slice a3 C1.length c3] 29)).cell? ⟨w.heap.size + 1 + 1, 2, none⟩ = some (.slice a3 C1.length c3) := by simp [go_sem]
  go_wp2_with fail
  refine (hchk _ _ _ hx0 l0 l1 l2 hA hB hC).mono ?_; rintro e w2 ⟨rfl, hb2⟩
  have hx0 := hx0.below hb2; have hA := hA.below hb2; have hB := hB.below hb2; have hC := hC.below hb2; have d0 := kept hb2 d0; have d1 := kept hb2 d1; have e0 := kept hb2 e0; have e1 := kept hb2 e1; have e2 := kept hb2 e2; have l0 := kept hb2 l0; have l1 := kept hb2 l1; have l2 := kept hb2 l2
  go_wp2_with fail
  go_ret2
  exact ⟨rfl, bwT⟩
 obtain ⟨hd, mA, mB, mC⟩ := chkT_ok h0
 rw [show RIsGlobalTriple0 p0 st0 A1 B1 C1 = globB p0 st0 A1 B1 C1 from if_pos h0, show RIsGlobalTriple1 p0 st0 A1 B1 C1 = 0 from h0]
 simp only [h0] at hchk
 clear h0
 have hglob := fun W h1 h2 => sglob_c (w := W) (p := p0) (s := .slice a0 st0.length c0) (x := .agg #[.slice a1 A1.length c1, .slice a2 B1.length c2, .slice a3 C1.length c3]) hd h1 h2 mA mB mC
 obtain ⟨q, hq⟩ : ∃ q, q = globB p0 st0 A1 B1 C1 := ⟨_, rfl⟩
 simp only [<- hq] at hglob ⊢
 clear hq
 go_enter Tryz.func7, Tryz.ntmps7
 have hb0 : Below w.heap.size w ((w.alloc (.cells #[.int .i64 p0, .slice a0 st0.length c0] 26)).alloc (.cells #[.slice a1 A1.length c1, .slice a2 B1.length c2, .slice a3 C1.length c3] 29)) := bwT
 have hx0 := hx0.below hb0; have hx1 := hx1.below hb0; have hA := hA.below hb0; have hB := hB.below hb0; have hC := hC.below hb0
 have d0 : ((w.alloc (.cells #[.int .i64 p0, .slice a0 st0.length c0] 26)).alloc (.cells #[.slice a1 A1.length c1, .slice a2 B1.length c2, .slice a3 C1.length c3] 29)).cell? ⟨w.heap.size, 0, none⟩ = some (.int .i64 p0) := by simp [go_sem]
 have d1 : ((w.alloc (.cells #[.int .i64 p0, .slice a0 st0.length c0] 26)).alloc (.cells #[.slice a1 A1.length c1, .slice a2 B1.length c2, .slice a3 C1.length c3] 29)).cell? ⟨w.heap.size, 1, none⟩ = some (.slice a0 st0.length c0) := by simp [go_sem]
 have e0 : ((w.alloc (.cells #[.int .i64 p0, .slice a0 st0.length c0] 26)).alloc (.cells #[.slice a1 A1.length c1, .slice a2 B1.length c2, .slice a3 C1.length c3] 29)).cell? ⟨w.heap.size + 1, 0, none⟩ = some (.slice a1 A1.length c1) := by simp [go_sem]
 have e1 : ((w.alloc (.cells #[.int .i64 p0, .slice a0 st0.length c0] 26)).alloc (.cells #[.slice a1 A1.length c1, .slice a2 B1.length c2, .slice a3 C1.length c3] 29)).cell? ⟨w.heap.size + 1, 1, none⟩ = some (.slice a2 B1.length c2) := by simp [go_sem]
 have e2 : ((w.alloc (.cells #[.int .i64 p0, .slice a0 st0.length c0] 26)).alloc (.cells #[.slice a1 A1.length c1, .slice a2 B1.length c2, .slice a3 C1.length c3] 29)).cell? ⟨w.heap.size + 1, 2, none⟩ = some (.slice a3 C1.length c3) := by simp [go_sem]
 have hb1 : Below ((w.alloc (.cells #[.int .i64 p0, .slice a0 st0.length c0] 26)).alloc (.cells #[.slice a1 A1.length c1, .slice a2 B1.length c2, .slice a3 C1.length c3] 29)).heap.size ((w.alloc (.cells #[.int .i64 p0, .slice a0 st0.length c0] 26)).alloc (.cells #[.slice a1 A1.length c1, .slice a2 B1.length c2, .slice a3 C1.length c3] 29)) (((w.alloc (.cells #[.int .i64 p0, .slice a0 st0.length c0] 26)).alloc (.cells #[.slice a1 A1.length c1, .slice a2 B1.length c2, .slice a3 C1.length c3] 29)).alloc (.cells #[.slice a1 A1.length c1, .slice a2 B1.length c2, .slice a3 C1.length c3] 29)) := bwT
 have hx0 := hx0.below hb1; have hx1 := hx1.below hb1; have hA := hA.below hb1; have hB := hB.below hb1; have hC := hC.below hb1; have d0 := kept hb1 d0; have d1 := kept hb1 d1; have e0 := kept hb1 e0; have e1 := kept hb1 e1; have e2 := kept hb1 e2
 have l0 : (((w.alloc (.cells #[.int .i64 p0, .slice a0 st0.length c0] 26)).alloc (.cells #[.slice a1 A1.length c1, .slice a2 B1.length c2, .slice a3 C1.length c3] 29)).alloc (.cells #[.slice a1 A1.length c1, .slice a2 B1.length c2, .slice a3 C1.length c3] 29)).cell? ⟨w.heap.size + 1 + 1, 0, none⟩ = some (.slice a1 A1.length c1) := by simp [go_sem]
 have l1 : (((w.alloc (.cells #[.int .i64 p0, .slice a0 st0.length c0] 26)).alloc (.cells #[.slice a1 A1.length c1, .slice a2 B1.length c2, .slice a3 C1.length c3] 29)).alloc (.cells #[.slice a1 A1.length c1, .slice a2 B1.length c2, .slice a3 C1.length c3] 29)).cell? ⟨w.heap.size + 1 + 1, 1, none⟩ = some (.slice a2 B1.length c2) := by simp [go_sem]
 have l2 : (((w.alloc (.cells #[.int .i64 p0, .slice a0 st0.length c0] 26)).alloc (.cells #[.slice a1 A1.length c1, .slice a2 B1.length c2, .slice a3 C1.length c3] 29)).alloc (.cells #[.slice a1 A1.length c1, .slice a2 B1.length c2, .slice a3 C1.length c3] 29)).cell? ⟨w.heap.size + 1 + 1, 2, none⟩ = some (.slice a3 C1.length c3) := by simp [go_sem]
 go_wp2_with fail
 refine (hchk _ _ _ hx0 l0 l1 l2 hA hB hC).mono ?_; rintro e w2 ⟨rfl, hb2⟩
 have hx0 := hx0.below hb2; have hx1 := hx1.below hb2; have hA := hA.below hb2; have hB := hB.below hb2; have hC := hC.below hb2; have d0 := kept hb2 d0; have d1 := kept hb2 d1; have e0 := kept hb2 e0; have e1 := kept hb2 e1; have e2 := kept hb2 e2; have l0 := kept hb2 l0; have l1 := kept hb2 l1; have l2 := kept hb2 l2
 go_wp2_with fail
 refine (hglob _ hx0 hx1).mono ?_; rintro e w3 ⟨rfl, hb3⟩
 have hx0 := hx0.below hb3; have hx1 := hx1.below hb3; have hA := hA.below hb3; have hB := hB.below hb3; have hC := hC.below hb3; have d0 := kept hb3 d0; have d1 := kept hb3 d1; have e0 := kept hb3 e0; have e1 := kept hb3 e1; have e2 := kept hb3 e2; have l0 := kept hb3 l0; have l1 := kept hb3 l1; have l2 := kept hb3 l2
 go_wp2_with fail
 go_ret2
 exact ⟨rfl, bwT⟩
end Go.Proofs.YteaaepbnoiecoaaGreat
