/-
  Conjugations: the program's.
-/
import Derived.Test.YtgkceadllcjeoaaAuA
import Derived.Test.YtgkceadllcjeoaaAfB
import Derived.Test.YtgkceadllcjeoaaJbf
namespace Go.Proofs.Ytgkceadllcjeoaa
open Go.RowKit

def cjB (p : Int) (st a : List Int) : List Int := scaleL p (conjL p a) (invL p (normL p st a))
def cjF (p : Int) (st a b : List Int) (i : Nat) : List Int := mulL p st (mulL p st a (oneL (sz st.length) i)) b
def cjM (p : Int) (st a : List Int) : List (List Int) := trL ((List.range (sz st.length)).map (cjF p st a (cjB p st a))) (sz st.length)
def RCj1 (p : Int) (st a : List Int) : Int := if chk3 p st [a] = 0 then (if normL p st a = 0 ∨ st.length = 3 then 5 else 0) else chk3 p st [a]
def RCj0 (p : Int) (st a : List Int) : List (List Int) := if RCj1 p st a = 0 then cjM p st a else []
section
variable {p : Int} {s x : Value} {st xs : List Int} {w : World}
set_option maxHeartbeats 2000000 in
set_option maxRecDepth 100000 in
theorem dinv_c (hd : Dok p st) (hs : El w s st) (hx : El w x xs) (ex : Ev p (sz st.length) xs) :
    Calls Try.prog 61 #[.agg #[.int .i64 p, s], x] w fun e w' => (normL p st xs = 0 → e = .returned (.tuple #[.slice none 0 0, .int .i64 5])) ∧ (normL p st xs ≠ 0 → ∃ v, e = .returned (.tuple #[v, .int .i64 0]) ∧ FrI w' w.heap.size v (cjB p st xs)) ∧ Below w.heap.size w w' := by
  obtain ⟨a0, c0, rfl, _⟩ := id hs.op
  obtain ⟨a2, c2, rfl, _⟩ := id hx.op
  have hp := hd.hp.lo; have hp2 := hd.hp.hi; have h8 := (sz_le hd).2; have h81 := (sz_le hd).1; have hl3 := hd.hl
  have hel := fun W l (h1 : El W (.slice a0 st.length c0) st) (h2 : Re W l [xs]) => chkel_c (w := W) (p := p) h1 h2 (by omega) (by simp) (fun ys h => by rw [List.mem_singleton.1 h, ex.1]; omega)
  have hE : chkE p st [xs] = 0 := chkE_ok hd.is (List.all_eq_true.2 fun ys h => by rw [List.mem_singleton.1 h]; exact isE_iff.2 ex)
  simp only [hE] at hel
  have hnb : 0 ≤ normL p st xs ∧ normL p st xs < p := normL_fp (by omega)
  have hno := fun W (h1 : El W (.slice a0 st.length c0) st) (h2 : El W (.slice a2 xs.length c2) xs) => norm_c (w := W) (p := p) hd h1 h2 ex
  have hcB : cjB p st xs = scaleL p (conjL p xs) (invL p (normL p st xs)) := rfl
  have hcl := ex.conj (show 1 ≤ p by omega)
  have hib := invL_fp (p := p) (a := normL p st xs) (by omega)
  obtain ⟨N, hN⟩ : ∃ N, N = normL p st xs := ⟨_, rfl⟩
  rw [← hN] at hnb hcB hib ⊢
  simp only [← hN] at hno
  clear hE hN
  obtain ⟨V, hV⟩ : ∃ V, V = invL p N := ⟨_, rfl⟩
  rw [← hV] at hcB hib
  have hiv := fun W => inv_c (w := W) (p := p) (a := N) (by omega) (by omega) (by omega) (by omega)
  simp only [← hV] at hiv
  have HV := Lib.hid hV; clear hV
  have HE1 := Lib.hid ex; have HC := Lib.hid (And.intro hcB hcl); clear hcB
  go_enter Try.func61, Try.ntmps61
  have hb0 : Below w.heap.size w (w.alloc (.cells #[.int .i64 p, .slice a0 st.length c0] 26)) := (by repeat (first | exact .refl _ _ | apply bwD | apply bwA | (refine bwS ?_ (by first | omega | simp <;> omega) _) | refine bwC ?_ (by assumption)))
  have hs := hs.below hb0; have hx := hx.below hb0
  have d0 : (w.alloc (.cells #[.int .i64 p, .slice a0 st.length c0] 26)).cell? ⟨w.heap.size, 0, none⟩ = some (.int .i64 p) := by simp [go_sem]
  have d1 : (w.alloc (.cells #[.int .i64 p, .slice a0 st.length c0] 26)).cell? ⟨w.heap.size, 1, none⟩ = some (.slice a0 st.length c0) := by simp [go_sem]
  have hl1 := Re.oneL (k := w.heap.size + 1) hx (by simp)
  have hb1 : Below (w.alloc (.cells #[.int .i64 p, .slice a0 st.length c0] 26)).heap.size (w.alloc (.cells #[.int .i64 p, .slice a0 st.length c0] 26)) ((w.alloc (.cells #[.int .i64 p, .slice a0 st.length c0] 26)).alloc (.cells #[.slice a2 xs.length c2] 24)) := (by repeat (first | exact .refl _ _ | apply bwD | apply bwA | (refine bwS ?_ (by first | omega | simp <;> omega) _) | refine bwC ?_ (by assumption)))
  have hs := hs.below hb1; have hx := hx.below hb1; have d0 := kept hb1 d0; have d1 := kept hb1 d1
  have cx0 : ((w.alloc (.cells #[.int .i64 p, .slice a0 st.length c0] 26)).alloc (.cells #[.slice a2 xs.length c2] 24)).cell? ⟨w.heap.size + 1, 0, none⟩ = some (.slice a2 xs.length c2) := by simp [go_sem]
  go_wp2_with fail
  refine (hel _ _ hs hl1).mono ?_; rintro e w2 ⟨rfl, hb2⟩
  have hs := hs.below hb2; have hx := hx.below hb2; have d0 := kept hb2 d0; have d1 := kept hb2 d1; have cx0 := kept hb2 cx0; have hl1 := hl1.below hb2
  go_wp2_with fail
  refine (hno _ hs hx).mono ?_; rintro e w3 ⟨rfl, hb3⟩
  have hs := hs.below hb3; have hx := hx.below hb3; have d0 := kept hb3 d0; have d1 := kept hb3 d1; have cx0 := kept hb3 cx0; have hl1 := hl1.below hb3
  by_cases h0 : N = 0
  · have hb0 : (N == 0) = true := by simpa using h0
    have H0 := Lib.hid h0; clear h0
    go_wp2_with fail
    go_ret2
    exact ⟨fun _ => rfl, fun h => absurd H0.out h, (by repeat (first | exact .refl _ _ | apply bwD | apply bwA | (refine bwS ?_ (by first | omega | simp <;> omega) _) | refine bwC ?_ (by assumption)))⟩
  · have hb0 : (N == 0) = false := by simpa using h0
    have H0 := Lib.hid h0; clear h0
    have hbq : Below w.heap.size w w3 := (by repeat (first | exact .refl _ _ | apply bwD | apply bwA | (refine bwS ?_ (by first | omega | simp <;> omega) _) | refine bwC ?_ (by assumption)))
    go_wp2_with fail
    refine region_flow [(false, [(0, 1), (2, 1), (4, 0), (6, 1), (8, 1), (9, 0), (1, 5)]), (false, [(3, 5)]), (false, [(5, 5)]), (false, [(7, 5)]), (false, [(10, 4), (11, 4), (12, 4), (13, 0), (14, 0)])] (by kernel_rfl) ?_
    refine norm_K fun K hK => ?_
    change wpList _ _ _ [_, _, _, _, _, _, _] _ _
    have hb4 : Below w3.heap.size w3 w3.drew := (by repeat (first | exact .refl _ _ | apply bwD | apply bwA | (refine bwS ?_ (by first | omega | simp <;> omega) _) | refine bwC ?_ (by assumption)))
    have hs := hs.below hb4; have hx := hx.below hb4; have d0 := kept hb4 d0; have d1 := kept hb4 d1; have cx0 := kept hb4 cx0; have hl1 := hl1.below hb4
    generalize w3.drew = wq at *
    have hbq2 : Below w.heap.size w wq := hbq.trans (Below.mono (by assumption) hbq.size)
    go_wp2_with fail
    refine (dfield_c).mono ?_; rintro e w5 ⟨rfl, hb5⟩
    have hs := hs.below hb5; have hx := hx.below hb5; have d0 := kept hb5 d0; have d1 := kept hb5 d1; have cx0 := kept hb5 cx0; have hl1 := hl1.below hb5
    go_wp2_with fail
    have hz0 : Below wq.heap.size wq w5 := (by repeat (first | exact .refl _ _ | apply bwD | apply bwA | (refine bwS ?_ (by first | omega | simp <;> omega) _) | refine bwC ?_ (by assumption)))
    first | (refine hK _ _ ⟨hz0, ?_⟩; clear hK K) | refine ⟨hz0, ?_⟩
    clear hz0
    refine norm_K fun K hK => ?_
    change wpList _ _ _ [_] _ _
    go_wp2_with fail
    refine (dfield_c).mono ?_; rintro e w6 ⟨rfl, hb6⟩
    have hs := hs.below hb6; have hx := hx.below hb6; have d0 := kept hb6 d0; have d1 := kept hb6 d1; have cx0 := kept hb6 cx0; have hl1 := hl1.below hb6
    go_wp2_with fail
    have hz1 : Below wq.heap.size wq w6 := (by repeat (first | exact .refl _ _ | apply bwD | apply bwA | (refine bwS ?_ (by first | omega | simp <;> omega) _) | refine bwC ?_ (by assumption)))
    first | (refine hK _ _ ⟨hz1, ?_⟩; clear hK K) | refine ⟨hz1, ?_⟩
    clear hz1
    refine norm_K fun K hK => ?_
    change wpList _ _ _ [_] _ _
    go_wp2_with fail
    refine (conj_c (by omega) (by omega) hx (by rw [HE1.out.1]; omega) HE1.out.2 (by rw [HE1.out.1]; omega)).mono ?_; rintro e w7 ⟨vc, rfl, hcj, hb7⟩
    have hs := hs.below hb7; have hx := hx.below hb7; have d0 := kept hb7 d0; have d1 := kept hb7 d1; have cx0 := kept hb7 cx0; have hl1 := hl1.below hb7
    go_wp2_with fail
    have hz2 : Below wq.heap.size wq w7 := (by repeat (first | exact .refl _ _ | apply bwD | apply bwA | (refine bwS ?_ (by first | omega | simp <;> omega) _) | refine bwC ?_ (by assumption)))
    first | (refine hK _ _ ⟨hz2, ?_⟩; clear hK K) | refine ⟨hz2, ?_⟩
    clear hz2
    refine norm_K fun K hK => ?_
    change wpList _ _ _ [_] _ _
    obtain ⟨a4, c4, rfl, _⟩ := id hcj.el.op
    go_wp2_with fail
    refine (dfield_c).mono ?_; rintro e w8 ⟨rfl, hb8⟩
    have hs := hs.below hb8; have hx := hx.below hb8; have d0 := kept hb8 d0; have d1 := kept hb8 d1; have cx0 := kept hb8 cx0; have hl1 := hl1.below hb8; have hcj := hcj.below hb8
    go_wp2_with fail
    have hz3 : Below wq.heap.size wq w8 := (by repeat (first | exact .refl _ _ | apply bwD | apply bwA | (refine bwS ?_ (by first | omega | simp <;> omega) _) | refine bwC ?_ (by assumption)))
    first | (refine hK _ _ ⟨hz3, ?_⟩; clear hK K) | refine ⟨hz3, ?_⟩
    clear hz3
    refine norm_K fun K hK => ?_
    change wpList _ _ _ [_, _, _, _, _] _ _
    go_wp2_with fail
    refine (hno _ hs hx).mono ?_; rintro e w9 ⟨rfl, hb9⟩
    have hs := hs.below hb9; have hx := hx.below hb9; have d0 := kept hb9 d0; have d1 := kept hb9 d1; have cx0 := kept hb9 cx0; have hl1 := hl1.below hb9; have hcj := hcj.below hb9
    go_wp2_with fail
    refine (hiv _).mono ?_; rintro e w10 ⟨rfl, rfl⟩
    have hsc := scaled_c (p := p) (k := V) (by omega) (by omega) (by omega) (by omega) hcj.sl (fun y hy => by have := hcl.2 y hy; omega) (by rw [hcl.1]; omega)
    go_wp2_with fail
    refine (hsc).mono ?_; rintro e w40 ⟨v5, rfl, h5, hb40⟩
    obtain ⟨a5, c5, rfl, _⟩ := id h5.el.op
    go_wp2_with fail
    first | (refine hK _ _ ⟨rfl, ?_⟩; clear hK K) | refine ⟨rfl, ?_⟩
    go_wp2_with fail
    go_ret2
    have hbf : Below w.heap.size w w40 := (by repeat (first | exact .refl _ _ | apply bwD | apply bwA | (refine bwS ?_ (by first | omega | simp <;> omega) _) | refine bwC ?_ (by assumption)))
    refine ⟨fun h => absurd h H0.out, fun _ => ⟨_, rfl, ?_⟩, hbf⟩
    rw [HC.out.1]
    exact h5.more (show w.heap.size ≤ _ from below_le (show Below w.heap.size w _ from (by repeat (first | exact .refl _ _ | apply bwD | apply bwA | (refine bwS ?_ (by first | omega | simp <;> omega) _) | refine bwC ?_ (by assumption)))))
end
set_option maxRecDepth 100000 in
theorem cjf_c {p : Int} {s va vb z : Value} {q2 q3 q7 : Nat} {st A B Z : List Int} {w : World} (hd : Dok p st) (c20 : w.cell? ⟨q2, 0, none⟩ = some (.int .i64 p)) (c21 : w.cell? ⟨q2, 1, none⟩ = some s) (c30 : w.cell? ⟨q3, 0, none⟩ = some va) (c70 : w.cell? ⟨q7, 0, none⟩ = some vb)
    (hs : El w s st) (ha : El w va A) (hb : El w vb B) (hz : El w z Z) (eA : Ev p (sz st.length) A) (eB : Ev p (sz st.length) B) (eZ : Ev p (sz st.length) Z) :
    Calls Try.prog 63 #[z, .pointer (some ⟨q2, 0, none⟩), .pointer (some ⟨q3, 0, none⟩), .pointer (some ⟨q7, 0, none⟩)] w fun e w' => ∃ v, e = .returned v ∧ FrI w' w.heap.size v (mulL p st (mulL p st A Z) B) ∧ Below w.heap.size w w' := by
  obtain ⟨a0, c0, rfl, _⟩ := id hs.op; obtain ⟨a1, c1, rfl, _⟩ := id ha.op; obtain ⟨a2, c2, rfl, _⟩ := id hb.op; obtain ⟨a3, c3, rfl, _⟩ := id hz.op
  have hp := hd.hp.lo
  have HA := Lib.hid eA; have HB := Lib.hid eB; have HZ := Lib.hid eZ
  have HM := Lib.hid (mulL_ev (p := p) (st := st) (by omega) eA eZ)
  clear eA eB eZ
  go_enter Try.func63, Try.ntmps63
  have hb0 : Below w.heap.size w w := Below.refl _ _
  go_wp2_with fail
  refine region_flow [(false, [(0, 1), (1, 1), (2, 1), (3, 0), (5, 1), (4, 5)]), (false, [(6, 4), (7, 0)])] (by kernel_rfl) ?_
  refine norm_K fun K hK => ?_
  change wpList _ _ _ [_, _, _, _, _, _] _ _
  have hb21 : Below w.heap.size w w.drew := (by repeat (first | exact .refl _ _ | apply bwD | apply bwA | (refine bwS ?_ (by first | omega | simp <;> omega) _) | refine bwC ?_ (by assumption)))
  have hs := hs.below hb21; have ha := ha.below hb21; have hb := hb.below hb21; have hz := hz.below hb21; have c20 := kept hb21 c20; have c21 := kept hb21 c21; have c30 := kept hb21 c30; have c70 := kept hb21 c70
  generalize w.drew = wq at *
  have hbq : Below w.heap.size w wq := by assumption
  go_wp2_with fail
  refine (times_c hd hs ha hz HA.out HZ.out).mono ?_; rintro e w22 ⟨v1, rfl, h1, hb22⟩
  have hs := hs.below hb22; have ha := ha.below hb22; have hb := hb.below hb22; have hz := hz.below hb22; have c20 := kept hb22 c20; have c21 := kept hb22 c21; have c30 := kept hb22 c30; have c70 := kept hb22 c70
  go_wp2_with fail
  have hz0 : Below wq.heap.size wq w22 := (by repeat (first | exact .refl _ _ | apply bwD | apply bwA | (refine bwS ?_ (by first | omega | simp <;> omega) _) | refine bwC ?_ (by assumption)))
  first | (refine hK _ _ ⟨hz0, ?_⟩; clear hK K) | refine ⟨hz0, ?_⟩
  clear hz0
  refine norm_K fun K hK => ?_
  change wpList _ _ _ [_, _] _ _
  obtain ⟨a5, c5, rfl, _⟩ := id h1.el.op
  have hbq2 : Below w.heap.size w w22 := (by repeat (first | exact .refl _ _ | apply bwD | apply bwA | (refine bwS ?_ (by first | omega | simp <;> omega) _) | refine bwC ?_ (by assumption)))
  go_wp2_with fail
  refine (times_c hd hs h1.el hb HM.out HB.out).mono ?_; rintro e w40 ⟨v2, rfl, h2, hb40⟩
  obtain ⟨a6, c6, rfl, _⟩ := id h2.el.op
  go_wp2_with fail
  first | (refine hK _ _ ⟨rfl, ?_⟩; clear hK K) | refine ⟨rfl, ?_⟩
  go_wp2_with fail
  go_ret
  exact ⟨_, rfl, h2.more hbq2.size, hbq2.trans (hb40.mono hbq2.size)⟩
set_option maxHeartbeats 4000000 in
set_option maxRecDepth 100000 in
theorem cjmat_c {p : Int} {s va vb : Value} {q2 q3 q7 : Nat} {st A B : List Int} {w : World} (hd : Dok p st) (hs : El w s st) (c20 : w.cell? ⟨q2, 0, none⟩ = some (.int .i64 p)) (c21 : w.cell? ⟨q2, 1, none⟩ = some s) (c30 : w.cell? ⟨q3, 0, none⟩ = some va) (c70 : w.cell? ⟨q7, 0, none⟩ = some vb) (ha : El w va A) (hbv : El w vb B) (evA : Ev p (sz st.length) A) (evB : Ev p (sz st.length) B) :
    Calls Try.prog 62 #[.agg #[.int .i64 p, s], .func (Fn.func 63) #[] #[.pointer (some ⟨q2, 0, none⟩), .pointer (some ⟨q3, 0, none⟩), .pointer (some ⟨q7, 0, none⟩)]] w fun e w' => ∃ v, e = .returned v ∧ ReR w' w.heap.size v (trL ((List.range (sz st.length)).map (cjF p st A B)) (sz st.length)) ∧ Below w.heap.size w w' := by
  obtain ⟨a0, c0, rfl, _⟩ := id hs.op
  have hl3 := hd.hl; have hsz := sz_le hd; have hp1 := hd.hp.lo
  have hszc := fun W => size_c (w := W) (p := p) (a := a0) (n := st.length) (c := c0) (by omega)
  obtain ⟨n, hn⟩ : ∃ n, n = sz st.length := ⟨_, rfl⟩
  simp only [← hn] at hszc
  have hn1 : 1 ≤ n := by omega
  have hn8 : n ≤ 8 := by omega
  have hevg : ∀ i, Ev p n ((cjF p st A B) i) := fun i => by rw [hn]; exact mulL_ev (by omega) (mulL_ev (by omega) evA (Ev.one (by omega))) evB
  have htr := fun W m (h : Re W m ((List.range n).map (cjF p st A B))) => transp_c (w := W) (n := n) h (fun r hr => by obtain ⟨i, _, rfl⟩ := List.mem_map.1 hr; exact (hevg i).1) (by simp; omega) (by simp; omega) (by omega)
  rw [← hn]
  have HN := Lib.hid hn; clear hn hevg
  go_enter Try.func62, Try.ntmps62
  go_wp2_with fail
  obtain ⟨W0, hW0⟩ : ∃ x, x = (w.alloc (.cells #[.int .i64 p, .slice a0 st.length c0] 26)) := ⟨_, rfl⟩
  have hb0 : Below w.heap.size w W0 := by rw [hW0]; exact (by repeat (first | exact .refl _ _ | apply bwD | apply bwA | (refine bwS ?_ (by first | omega | simp <;> omega) _) | refine bwC ?_ (by assumption)))
  have hz0 : W0.heap.size = w.heap.size + 1 := by rw [hW0]; simp
  have d0 : W0.cell? ⟨w.heap.size, 0, none⟩ = some (.int .i64 p) := by rw [hW0]; simp [go_sem]
  have d1 : W0.cell? ⟨w.heap.size, 1, none⟩ = some (.slice a0 st.length c0) := by rw [hW0]; simp [go_sem]
  have hl := LsR.new (w := W0) (B := W0.heap.size) (Nat.le_refl _)
  rw [hz0] at hl
  rw [← hW0]; clear hW0
  have hb1 : Below W0.heap.size W0 (W0.alloc (.cells #[] 24)) := (by repeat (first | exact .refl _ _ | apply bwD | apply bwA | (refine bwS ?_ (by first | omega | simp <;> omega) _) | refine bwC ?_ (by assumption)))
  have hz1 : (W0.alloc (.cells #[] 24)).heap.size = w.heap.size + 1 + 1 := by simp [hz0]
  rw [hz0] at hb1
  have HZ0 := Lib.hid hz0; clear hz0
  generalize W0.alloc (.cells #[] 24) = W1 at *
  have HZ1 := Lib.hid hz1; clear hz1
  refine (hszc _).mono ?_; rintro e w2 ⟨rfl, hb2⟩
  go_wp2_with fail
  refine (unito_c (by omega) (by omega)).mono ?_; rintro e w3 ⟨g1, k1, rfl, hU, hb3⟩
  have hU := hU
  have hw13 : Below W1.heap.size W1 w3 := hb2.trans (hb3.mono hb2.size)
  have hl := hl.below hw13
  have hbw : Below (w.heap.size + 1) W0 w3 := hb1.trans (hw13.mono (by rw [HZ1.out]; omega))
  have hU0 : w.heap.size + 1 + 1 ≤ w2.heap.size := by have := hb2.size; rw [HZ1.out] at this; exact this
  have hw3 : w.heap.size + 1 + 1 ≤ w3.heap.size := by have := hb3.size; omega
  clear hb1 hb2 hb3 hw13 hszc
  go_wp2_with fail
  go_loopw [5, 13] (fun o q wr => ∃ (k gl cl : Nat) (us : List Value), k ≤ n ∧ q = .int .i64 k ∧ o = .slice (some ⟨gl, 0, none⟩) us.length cl ∧ (gl = w.heap.size + 1 ∨ w3.heap.size ≤ gl) ∧ LsR wr (w.heap.size + 1) (.slice (some ⟨gl, 0, none⟩) us.length cl) us ((List.range k).map (cjF p st A B)) ∧ Chg (w.heap.size + 1) (w.heap.size + 1 + 1) w3 wr) (fun _ q _ => n - (intOf q).toNat)
  case atStart => exact ⟨0, _, _, [], Nat.zero_le _, rfl, rfl, .inl rfl, hl, Chg.refl⟩
  case round =>
    clear hl
    obtain ⟨k, gl, cl, us, hk, rfl, rfl, hgl, hl, hch⟩ := hrel
    have HUL := Lib.hid (show us.length = k by have h := hl.len; simp at h; exact h)
    have hbr : Below (w.heap.size + 1) W0 wr := below_bchg hbw hch (Nat.le_refl _) (by omega)
    have hbo : Below w.heap.size w wr := hb0.trans (hbr.mono (by omega))
    by_cases hlt : k < n
    · have hlti : (k : Int) < n := by omega
      obtain ⟨_, hUj⟩ := hU.chg hch (by omega)
      obtain ⟨gj, cj, hcj, hoj⟩ := hUj k hlt
      have hsW := hs.below hbo
      have hzj := hoj.el
      have hcal := cjf_c hd (kept hbo c20) (kept hbo c21) (kept hbo c30) (kept hbo c70) hsW (ha.below hbo) (hbv.below hbo) hzj evA evB (by rw [← HN.out]; exact Ev.one (by omega))
      rw [show mulL p st (mulL p st A (oneL n k)) B = (cjF p st A B) k by rw [HN.out]; rfl] at hcal
      go_wp2_with fail
      refine hcal.mono ?_; rintro e w5 ⟨z, rfl, hz, hb5⟩
      have hzn := hl.fresh hz.elr
      have hl5 := hl.below hb5
      have hz5 := hz.elr.more (show w.heap.size + 1 ≤ wr.heap.size by have := hch.size; omega)
      have hch5 := hch.bl (hb5.mono hch.size)
      have hs5 := hch5.size
      obtain ⟨az, cz, rfl, _⟩ := id hz.el.op
      clear hl hch hz hb5 hcj hoj hzj hUj hcal hsW
      go_wp2_with (at_builtin; refine appr_one rfl _ _ rfl w5 (w.heap.size + 1) _ rfl (.slice (some ⟨gl, 0, none⟩) us.length cl) us rfl (.slice az ((cjF p st A B) k).length cz) 1 rfl rfl hl5.own (by omega) (by have := HUL.out; omega) ?_; intro g' cap' w8 hown' hgb' hg' hge)
      have hl8 := hl5.snoc hz5 hzn (nv := .slice (some ⟨g', 0, none⟩) (us.length + 1) cap') rfl hown' hgb' hg' hge
      have hch8 := grow_chg (g := gl) hch5 hg' (by rcases hgl with h | h; exact .inl ⟨by omega, by omega⟩; exact .inr h)
      have hgl8 : g' = w.heap.size + 1 ∨ w3.heap.size ≤ g' := by
        rcases hge with h | h
        · cases h; exact hgl
        · right; omega
      go_roundw
      case rel => exact ⟨k + 1, g', cap', us ++ [.slice az ((cjF p st A B) k).length cz], by omega, by go_num, by rw [List.length_append]; rfl, hgl8, by rw [List.range_succ, List.map_append, List.length_append]; exact hl8, hch8⟩
      case measure => simp [intOf]; omega
    · obtain rfl : k = n := by omega
      have hlf : ¬ (k : Int) < k := by omega
      go_wp2_with fail
      refine (htr _ _ hl.rer.re).mono ?_; rintro e w6 ⟨v6, rfl, hv6, hb6⟩
      obtain ⟨a6, c6, rfl⟩ := hv6.shapeA
      go_wp2_with fail
      go_ret
      exact ⟨_, rfl, hv6.more hbo.size, hbo.trans (hb6.mono hbo.size)⟩
set_option maxHeartbeats 4000000 in
set_option maxRecDepth 100000 in
theorem icj_c {p : Int} {s x : Value} {st xs : List Int} {w : World} (hs : El w s st) (hm : st.length ≤ 1048576) (hx : El w x xs) (hxl : xs.length ≤ 1048576) :
    Calls Try.prog 19 #[.agg #[.int .i64 p, s], x] w fun e w' => OutM w (RCj0 p st xs) (RCj1 p st xs) e w' := by
  obtain ⟨a0, c0, rfl, _⟩ := id hs.op
  obtain ⟨a1, c1, rfl, _⟩ := id hx.op
  have hchk := fun W l (h1 : El W (.slice a0 st.length c0) st) (h2 : Re W l [xs]) => chk3_c (w := W) (p := p) h1 h2 hm (by simp) (fun ys h => by rw [List.mem_singleton.1 h]; exact hxl)
  obtain ⟨K, hK⟩ : ∃ K, K = chk3 p st [xs] := ⟨_, rfl⟩
  simp only [← hK] at hchk
  have HK := Lib.hid hK; clear hK
  obtain ⟨R1, hR1⟩ : ∃ r, r = RCj1 p st xs := ⟨_, rfl⟩; obtain ⟨R0, hR0⟩ : ∃ r, r = RCj0 p st xs := ⟨_, rfl⟩
  rw [← hR1, ← hR0]
  have HR := Lib.hid (And.intro hR1 hR0); clear hR1 hR0
  go_enter Try.func19, Try.ntmps19
  have hb0 : Below w.heap.size w ((w.alloc (.cells #[.int .i64 p, .slice a0 st.length c0] 26)).alloc (.cells #[.slice a1 xs.length c1] 24)) := (by repeat (first | exact .refl _ _ | apply bwD | apply bwA | (refine bwS ?_ (by first | omega | simp <;> omega) _) | refine bwC ?_ (by assumption)))
  have hs := hs.below hb0; have hx := hx.below hb0
  have d0 : ((w.alloc (.cells #[.int .i64 p, .slice a0 st.length c0] 26)).alloc (.cells #[.slice a1 xs.length c1] 24)).cell? ⟨w.heap.size, 0, none⟩ = some (.int .i64 p) := by simp [go_sem]
  have d1 : ((w.alloc (.cells #[.int .i64 p, .slice a0 st.length c0] 26)).alloc (.cells #[.slice a1 xs.length c1] 24)).cell? ⟨w.heap.size, 1, none⟩ = some (.slice a0 st.length c0) := by simp [go_sem]
  have e0 : ((w.alloc (.cells #[.int .i64 p, .slice a0 st.length c0] 26)).alloc (.cells #[.slice a1 xs.length c1] 24)).cell? ⟨w.heap.size + 1, 0, none⟩ = some (.slice a1 xs.length c1) := by simp [go_sem]
  have hl1 := Re.oneL (k := w.heap.size + 1 + 1) hx (by simp)
  have hb1 : Below ((w.alloc (.cells #[.int .i64 p, .slice a0 st.length c0] 26)).alloc (.cells #[.slice a1 xs.length c1] 24)).heap.size ((w.alloc (.cells #[.int .i64 p, .slice a0 st.length c0] 26)).alloc (.cells #[.slice a1 xs.length c1] 24)) (((w.alloc (.cells #[.int .i64 p, .slice a0 st.length c0] 26)).alloc (.cells #[.slice a1 xs.length c1] 24)).alloc (.cells #[.slice a1 xs.length c1] 24)) := (by repeat (first | exact .refl _ _ | apply bwD | apply bwA | (refine bwS ?_ (by first | omega | simp <;> omega) _) | refine bwC ?_ (by assumption)))
  have hs := hs.below hb1; have hx := hx.below hb1; have d0 := kept hb1 d0; have d1 := kept hb1 d1; have e0 := kept hb1 e0
  have cx0 : (((w.alloc (.cells #[.int .i64 p, .slice a0 st.length c0] 26)).alloc (.cells #[.slice a1 xs.length c1] 24)).alloc (.cells #[.slice a1 xs.length c1] 24)).cell? ⟨w.heap.size + 1 + 1, 0, none⟩ = some (.slice a1 xs.length c1) := by simp [go_sem]
  go_wp2_with fail
  refine (hchk _ _ hs hl1).mono ?_; rintro e w2 ⟨rfl, hb2⟩
  have hs := hs.below hb2; have hx := hx.below hb2; have d0 := kept hb2 d0; have d1 := kept hb2 d1; have e0 := kept hb2 e0; have cx0 := kept hb2 cx0; have hl1 := hl1.below hb2
  have hbx : Below w.heap.size w w2 := (by repeat (first | exact .refl _ _ | apply bwD | apply bwA | (refine bwS ?_ (by first | omega | simp <;> omega) _) | refine bwC ?_ (by assumption)))
  clear hchk
  by_cases hk0 : K = 0
  case neg =>
    have hkb : (K != 0) = true := by simpa using hk0
    have E := Lib.hid (show RCj1 p st xs = K by unfold RCj1; rw [← HK.out, if_neg hk0])
    have E2 := Lib.hid (show RCj0 p st xs = [] by unfold RCj0; rw [E.out, if_neg hk0])
    obtain rfl := HR.out.1.trans E.out; obtain rfl := HR.out.2.trans E2.out
    go_wp2_with fail
    go_ret2
    exact ⟨_, rfl, ReR.nilA (by decide), hbx⟩
  subst hk0
  obtain ⟨hd, hev⟩ := chk3_posA HK.out.symm
  have hev := hev xs (by simp)
  have hl3 := hd.hl; have hsz := sz_le hd; have hp1 := hd.hp.lo
  have h1f : RCj1 p st xs = if normL p st xs = 0 ∨ st.length = 3 then 5 else 0 := by unfold RCj1; rw [← HK.out, if_pos rfl]
  have HEV := Lib.hid hev; clear hev
  go_wp2_with fail
  refine (dinv_c hd hs hx HEV.out).mono ?_; rintro e w9 ⟨hz0, hz1, hb9⟩
  have hs := hs.below hb9; have hx := hx.below hb9; have d0 := kept hb9 d0; have d1 := kept hb9 d1; have e0 := kept hb9 e0; have cx0 := kept hb9 cx0; have hl1 := hl1.below hb9
  have hbx9 := hbx.trans (hb9.mono hbx.size)
  clear hbx hb9
  by_cases hn0 : normL p st xs = 0
  · have E := Lib.hid (show RCj1 p st xs = 5 by rw [h1f, if_pos (.inl hn0)])
    have E2 := Lib.hid (show RCj0 p st xs = [] by unfold RCj0; rw [E.out, if_neg (by decide)])
    obtain rfl := HR.out.1.trans E.out; obtain rfl := HR.out.2.trans E2.out
    have he := hz0 hn0
    subst he
    clear hz0 hz1 hn0 h1f
    have hbf : Below w.heap.size w (w9.alloc (.cells #[.slice none 0 0] 24)) := hbx9.trans ((show Below w9.heap.size w9 _ from (by repeat (first | exact .refl _ _ | apply bwD | apply bwA | (refine bwS ?_ (by first | omega | simp <;> omega) _) | refine bwC ?_ (by assumption)))).mono hbx9.size)
    go_wp2_with fail
    go_ret2
    exact ⟨_, rfl, ReR.nilA (by decide), hbf⟩
  obtain ⟨vb, rfl, hvb⟩ := hz1 hn0
  obtain ⟨ab, cb, rfl, _⟩ := id hvb.el.op
  have evB : Ev p (sz st.length) (cjB p st xs) := Ev.scale (by omega) (HEV.out.conj (by omega))
  obtain ⟨Bv, hBv⟩ : ∃ B, B = cjB p st xs := ⟨_, rfl⟩
  rw [← hBv] at hvb evB ⊢
  have HB := Lib.hid hBv; clear hBv
  have HEB := Lib.hid evB
  have hbf : Below w9.heap.size w9 (w9.alloc (.cells #[.slice ab Bv.length cb] 24)) := (by repeat (first | exact .refl _ _ | apply bwD | apply bwA | (refine bwS ?_ (by first | omega | simp <;> omega) _) | refine bwC ?_ (by assumption)))
  have hvbE := hvb.el
  have hbx7 := hbx9.trans (hbf.mono hbx9.size)
  have hs7 := hs.below hbf; have hx7 := hx.below hbf; have hvb7 := hvbE.below hbf; have d07 := kept hbf d0; have d17 := kept hbf d1; have e07 := kept hbf e0
  by_cases h3 : st.length = 3
  · have E := Lib.hid (show RCj1 p st xs = 5 by rw [h1f, if_pos (.inr h3)])
    have E2 := Lib.hid (show RCj0 p st xs = [] by unfold RCj0; rw [E.out, if_neg (by decide)])
    obtain rfl := HR.out.1.trans E.out; obtain rfl := HR.out.2.trans E2.out
    have h3b : ((st.length : Int) == 3) = true := by simp; omega
    clear hz0 hz1 hn0 h1f h3
    go_wp2_with fail
    go_ret2
    exact ⟨_, rfl, ReR.nilA (by decide), hbx7⟩
  have E := Lib.hid (show RCj1 p st xs = 0 by rw [h1f, if_neg (by rintro (h | h); exact hn0 h; exact h3 h)])
  have E2 := Lib.hid (show RCj0 p st xs = cjM p st xs by unfold RCj0; rw [E.out, if_pos rfl])
  obtain rfl := HR.out.1.trans E.out; obtain rfl := HR.out.2.trans E2.out
  have h3b : ((st.length : Int) == 3) = false := by simp; omega
  clear hz0 hz1 hn0 h1f
  have c70 : (w9.alloc (.cells #[.slice ab Bv.length cb] 24)).cell? ⟨w9.heap.size, 0, none⟩ = some (.slice ab Bv.length cb) := by simp [go_sem]
  have hcm := cjmat_c (q3 := w.heap.size + 1) hd hs7 d07 d17 e07 c70 hx7 hvb7 HEV.out HEB.out
  go_wp2_with fail
  refine hcm.mono ?_; rintro e w10 ⟨v10, rfl, h10, hb10⟩
  obtain ⟨a10, c10, rfl⟩ := h10.shapeA
  have h10' : ReR w10 w.heap.size (.slice a10 (trL ((List.range (sz st.length)).map (cjF p st xs Bv)) (sz st.length)).length c10) (cjM p st xs) := by
    have h := h10.more hbx7.size
    rw [HB.out] at h ⊢
    exact h
  have hbe := hbx7.trans (hb10.mono hbx7.size)
  clear h10 hb10
  go_wp2_with fail
  go_ret2
  exact ⟨_, rfl, h10', hbe⟩
end Go.Proofs.Ytgkceadllcjeoaa
