/-
  Checked functions of the program on what passes their checks: images, norms, products; and a drawn element.
-/
import Derived.Test.YtgkceadllcjeoaaJbm
import Derived.Test.YtgkceadllcjeoaaTgB
import Derived.Test.YtgkceadllcjeoaaJbd
namespace Go.Proofs.Ytgkceadllcjeoaa
open Go.RowKit

theorem sumL_bd {M : List (List Int)} {k : Nat} (h : ∀ r ∈ M, r.length ≤ k) : sumL M ≤ M.length * k := by
  induction M with
  | nil => simp [sumL]
  | cons r M ih =>
    have h1 := h r (List.mem_cons_self ..)
    have h2 := ih fun x hx => h x (List.mem_cons_of_mem _ hx)
    have e : sumL (r :: M) = r.length + sumL M := by simp [sumL]
    rw [e, List.length_cons, Nat.add_mul]
    omega
theorem mat_msz {p : Int} {st : List Int} {M : List (List Int)} (hd : Dok p st) (h : matB p (sz st.length) M = true) : Msz M := by
  obtain ⟨h1, h2⟩ := matB_iff.1 h
  have h8 := (sz_le hd).2
  have hs := sumL_bd (M := M) (k := 8) fun r hr => by have := (h2 r hr).1; omega
  exact ⟨by omega, fun r hr => by have := (h2 r hr).1; omega, (by have : M.length * 8 ≤ 64 := (by omega); omega)⟩
theorem Ml.one {w : World} {m : Value} {M : List (List Int)} {k : Nat} (h : Re w m M) (hk : w.heap.size = k) : Ml (w.alloc (.cells #[m] 27)) (.slice (some ⟨k, 0, none⟩) 1 1) [M] := by
  subst hk
  refine ⟨w.heap.size, 1, rfl, fun j hj => ?_⟩
  obtain rfl : j = 0 := by simpa using hj
  exact ⟨m, by simp [go_sem], h.below (by repeat (first | exact .refl _ _ | apply bwD | apply bwA | (refine bwS ?_ (by first | omega | simp <;> omega) _) | refine bwC ?_ (by assumption)))⟩
theorem Re.oneL {w : World} {x : Value} {xs : List Int} {k : Nat} (h : El w x xs) (hk : w.heap.size = k) : Re (w.alloc (.cells #[x] 24)) (.slice (some ⟨k, 0, none⟩) 1 1) [xs] := by
  subst hk
  refine ⟨_, 1, rfl, by simp, by decide, .inr ⟨w.heap.size, 0, rfl, fun j hj => ?_⟩⟩
  obtain rfl : j = 0 := by simpa using hj
  exact ⟨x, by simp [go_sem], h.below (by repeat (first | exact .refl _ _ | apply bwD | apply bwA | (refine bwS ?_ (by first | omega | simp <;> omega) _) | refine bwC ?_ (by assumption)))⟩
theorem Re.twoL {w : World} {x y : Value} {xs ys : List Int} (h : El w x xs) {k : Nat} (h2 : El w y ys) (hk : w.heap.size = k) : Re (w.alloc (.cells #[x, y] 24)) (.slice (some ⟨k, 0, none⟩) 2 2) [xs, ys] := by
  subst hk
  refine ⟨_, 2, rfl, by simp, by decide, .inr ⟨w.heap.size, 0, rfl, fun j hj => ?_⟩⟩
  rcases (show j = 0 ∨ j = 1 by simp at hj; omega) with rfl | rfl
  · exact ⟨x, by simp [go_sem], h.below (by repeat (first | exact .refl _ _ | apply bwD | apply bwA | (refine bwS ?_ (by first | omega | simp <;> omega) _) | refine bwC ?_ (by assumption)))⟩
  · exact ⟨y, by simp [go_sem], h2.below (by repeat (first | exact .refl _ _ | apply bwD | apply bwA | (refine bwS ?_ (by first | omega | simp <;> omega) _) | refine bwC ?_ (by assumption)))⟩
theorem chkok_c {p : Int} {x l m : Value} {st : List Int} {xss : List (List Int)} {Ms : List (List (List Int))} {w : World} (hd : Dok p st) (hx : El w x st) (hl : Re w l xss) (hv : ∀ xs ∈ xss, Ev p (sz st.length) xs) (hn : xss.length ≤ 1000)
    (hm : Ml w m Ms) (hm1 : Ms.length ≤ 1000) (hM : ∀ M ∈ Ms, matB p (sz st.length) M = true) :
    Calls Try.prog 38 #[.agg #[.int .i64 p, x], l, m] w fun e w' => e = .returned (.int .i64 0) ∧ Below w.heap.size w w' := by
  obtain ⟨a, c, rfl, _⟩ := id hx.op
  obtain ⟨a2, c2, rfl, _⟩ := id hl
  obtain ⟨b3, c3, rfl, _⟩ := id hm
  have hst : st.length ≤ 1048576 := by have := hd.hl; omega
  have h8 := (sz_le hd).2
  have hl3 := hd.hl
  have hw : ∀ xs ∈ xss, xs.length ≤ 1048576 := fun xs h => by have := (hv xs h).1; omega
  have hel := fun W h1 h2 => chkel_c (w := W) (p := p) (x := .slice a st.length c) (l := .slice a2 xss.length c2) h1 h2 hst (by omega) hw
  have hE : chkE p st xss = 0 := chkE_ok hd.is (List.all_eq_true.2 fun xs h => isE_iff.2 (hv xs h))
  simp only [hE] at hel
  have hcon := fun W q h0 h1 h2 h3 => conm_c (w := W) (q := q) (p := p) (x := .slice a st.length c) (l := .slice (some ⟨b3, 0, none⟩) Ms.length c3) h0 h1 hd h2 h3 (by omega) (fun M h => mat_msz hd (hM M h))
  have hA : Ms.all (matB p (sz st.length)) = true := List.all_eq_true.2 hM
  simp only [hA, Bool.not_true] at hcon
  have his := hd.is
  clear hE hA hM hv hw
  go_enter Try.func38, Try.ntmps38
  have hb0 : Below w.heap.size w (w.alloc (.cells #[.int .i64 p, .slice a st.length c] 26)) := (by repeat (first | exact .refl _ _ | apply bwD | apply bwA | (refine bwS ?_ (by first | omega | simp <;> omega) _) | refine bwC ?_ (by assumption)))
  have hx := hx.below hb0; have hl := hl.below hb0; have hm := hm.below hb0
  have d0 : (w.alloc (.cells #[.int .i64 p, .slice a st.length c] 26)).cell? ⟨w.heap.size, 0, none⟩ = some (.int .i64 p) := by simp [go_sem]
  have d1 : (w.alloc (.cells #[.int .i64 p, .slice a st.length c] 26)).cell? ⟨w.heap.size, 1, none⟩ = some (.slice a st.length c) := by simp [go_sem]
  go_wp2_with fail
  refine (isdbl_c hx.sl hst).mono ?_; rintro e w1 ⟨rfl, hb1⟩
  have hx := hx.below hb1; have hl := hl.below hb1; have hm := hm.below hb1; have d0 := kept hb1 d0; have d1 := kept hb1 d1
  rw [his]
  go_wp2_with fail
  refine (hel _ hx hl).mono ?_; rintro e w2 ⟨rfl, hb2⟩
  have hx := hx.below hb2; have hl := hl.below hb2; have hm := hm.below hb2; have d0 := kept hb2 d0; have d1 := kept hb2 d1
  go_wp2_with fail
  refine (hcon _ _ d0 d1 hx hm).mono ?_; rintro e w9 ⟨rfl, hb9⟩
  go_wp2_with fail
  go_ret
  exact ⟨rfl, (by repeat (first | exact .refl _ _ | apply bwD | apply bwA | (refine bwS ?_ (by first | omega | simp <;> omega) _) | refine bwC ?_ (by assumption)))⟩
theorem chkokm_c {p : Int} {x m : Value} {st : List Int} {Ms : List (List (List Int))} {w : World} (hd : Dok p st) (hx : El w x st) (hm : Ml w m Ms) (hm1 : Ms.length ≤ 1000) (hM : ∀ M ∈ Ms, matB p (sz st.length) M = true) :
    Calls Try.prog 38 #[.agg #[.int .i64 p, x], .slice none 0 0, m] w fun e w' => e = .returned (.int .i64 0) ∧ Below w.heap.size w w' :=
  chkok_c (xss := []) hd hx (Re.nil w) (by simp) (by simp) hm hm1 hM
section
variable {p : Int} {s m x y : Value} {st xs ys : List Int} {M : List (List Int)} {w : World}
set_option maxHeartbeats 2000000 in
set_option maxRecDepth 100000 in
theorem mimg_c (hd : Dok p st) (hs : El w s st) (hr : Re w m M) (hM : matB p (sz st.length) M = true) (hx : El w x xs) (ex : Ev p (sz st.length) xs) :
    Calls Try.prog 12 #[.agg #[.int .i64 p, s], m, x] w fun e w' => ∃ v, e = .returned (.tuple #[v, .int .i64 0]) ∧ FrI w' w.heap.size v (applyL p M xs) ∧ Below w.heap.size w w' := by
  obtain ⟨a0, c0, rfl, _⟩ := id hs.op
  have hp := hd.hp.lo; have hp2 := hd.hp.hi; have h8 := (sz_le hd).2; have hl3 := hd.hl
  obtain ⟨a1, c1, rfl, _⟩ := id hr
  obtain ⟨a2, c2, rfl, _⟩ := id hx.op
  obtain ⟨hMl, hMw⟩ := matB_iff.1 hM
  have hap := fun W (h1 : Re W (.slice a1 M.length c1) M) (h2 : El W (.slice a2 xs.length c2) xs) => apply_c (w := W) (p := p) (n := sz st.length) (by omega) (by omega) h1 hMw h2 ex (by omega) (by omega)
  have HV := Lib.hid (show ∀ ys ∈ [xs], Ev p (sz st.length) ys from fun ys h => by rw [List.mem_singleton.1 h]; exact ex)
  have HM1 := Lib.hid (show ∀ N ∈ [M], matB p (sz st.length) N = true from fun N h => by rw [List.mem_singleton.1 h]; exact hM)
  clear hMl hMw
  go_enter Try.func12, Try.ntmps12
  have hb0 : Below w.heap.size w (w.alloc (.cells #[.int .i64 p, .slice a0 st.length c0] 26)) := (by repeat (first | exact .refl _ _ | apply bwD | apply bwA | (refine bwS ?_ (by first | omega | simp <;> omega) _) | refine bwC ?_ (by assumption)))
  have hs := hs.below hb0; have hr := hr.below hb0; have hx := hx.below hb0
  have d0 : (w.alloc (.cells #[.int .i64 p, .slice a0 st.length c0] 26)).cell? ⟨w.heap.size, 0, none⟩ = some (.int .i64 p) := by simp [go_sem]
  have d1 : (w.alloc (.cells #[.int .i64 p, .slice a0 st.length c0] 26)).cell? ⟨w.heap.size, 1, none⟩ = some (.slice a0 st.length c0) := by simp [go_sem]
  have hl1 := Re.oneL (k := w.heap.size + 1) hx (by simp)
  have hb1 : Below (w.alloc (.cells #[.int .i64 p, .slice a0 st.length c0] 26)).heap.size (w.alloc (.cells #[.int .i64 p, .slice a0 st.length c0] 26)) ((w.alloc (.cells #[.int .i64 p, .slice a0 st.length c0] 26)).alloc (.cells #[.slice a2 xs.length c2] 24)) := (by repeat (first | exact .refl _ _ | apply bwD | apply bwA | (refine bwS ?_ (by first | omega | simp <;> omega) _) | refine bwC ?_ (by assumption)))
  have hs := hs.below hb1; have hr := hr.below hb1; have hx := hx.below hb1; have d0 := kept hb1 d0; have d1 := kept hb1 d1
  have cx0 : ((w.alloc (.cells #[.int .i64 p, .slice a0 st.length c0] 26)).alloc (.cells #[.slice a2 xs.length c2] 24)).cell? ⟨w.heap.size + 1, 0, none⟩ = some (.slice a2 xs.length c2) := by simp [go_sem]
  have hm1 := Ml.one (k := w.heap.size + 1 + 1) hr (by simp)
  have hb2 : Below ((w.alloc (.cells #[.int .i64 p, .slice a0 st.length c0] 26)).alloc (.cells #[.slice a2 xs.length c2] 24)).heap.size ((w.alloc (.cells #[.int .i64 p, .slice a0 st.length c0] 26)).alloc (.cells #[.slice a2 xs.length c2] 24)) (((w.alloc (.cells #[.int .i64 p, .slice a0 st.length c0] 26)).alloc (.cells #[.slice a2 xs.length c2] 24)).alloc (.cells #[.slice a1 M.length c1] 27)) := (by repeat (first | exact .refl _ _ | apply bwD | apply bwA | (refine bwS ?_ (by first | omega | simp <;> omega) _) | refine bwC ?_ (by assumption)))
  have hs := hs.below hb2; have hr := hr.below hb2; have hx := hx.below hb2; have d0 := kept hb2 d0; have d1 := kept hb2 d1; have cx0 := kept hb2 cx0; have hl1 := hl1.below hb2
  have cm0 : (((w.alloc (.cells #[.int .i64 p, .slice a0 st.length c0] 26)).alloc (.cells #[.slice a2 xs.length c2] 24)).alloc (.cells #[.slice a1 M.length c1] 27)).cell? ⟨w.heap.size + 1 + 1, 0, none⟩ = some (.slice a1 M.length c1) := by simp [go_sem]
  go_wp2_with fail
  refine (chkok_c hd hs hl1 HV.out (by simp) hm1 (by simp) HM1.out).mono ?_; rintro e w3 ⟨rfl, hb3⟩
  have hs := hs.below hb3; have hr := hr.below hb3; have hx := hx.below hb3; have d0 := kept hb3 d0; have d1 := kept hb3 d1; have cx0 := kept hb3 cx0; have hl1 := hl1.below hb3; have cm0 := kept hb3 cm0; have hm1 := hm1.below hb3
  go_wp2_with fail
  refine (dfield_c).mono ?_; rintro e w4 ⟨rfl, hb4⟩
  have hs := hs.below hb4; have hr := hr.below hb4; have hx := hx.below hb4; have d0 := kept hb4 d0; have d1 := kept hb4 d1; have cx0 := kept hb4 cx0; have hl1 := hl1.below hb4; have cm0 := kept hb4 cm0; have hm1 := hm1.below hb4
  have hbq : Below w.heap.size w w4 := (by repeat (first | exact .refl _ _ | apply bwD | apply bwA | (refine bwS ?_ (by first | omega | simp <;> omega) _) | refine bwC ?_ (by assumption)))
  go_wp2_with fail
  refine (hap _ hr hx).mono ?_; rintro e w5 ⟨v, rfl, hv, hb5⟩
  have hs := hs.below hb5; have hr := hr.below hb5; have hx := hx.below hb5; have d0 := kept hb5 d0; have d1 := kept hb5 d1; have cx0 := kept hb5 cx0; have hl1 := hl1.below hb5; have cm0 := kept hb5 cm0; have hm1 := hm1.below hb5
  obtain ⟨a9, c9, rfl, _⟩ := id hv.el.op
  have hv := hv.more hbq.size
  go_wp2_with fail
  go_ret2
  exact ⟨_, rfl, hv, (by repeat (first | exact .refl _ _ | apply bwD | apply bwA | (refine bwS ?_ (by first | omega | simp <;> omega) _) | refine bwC ?_ (by assumption)))⟩
set_option maxHeartbeats 2000000 in
set_option maxRecDepth 100000 in
theorem iaut1_c (hd : Dok p st) (hs : El w s st) (hr : Re w m M) (hM : matB p (sz st.length) M = true) :
    Calls Try.prog 15 #[.agg #[.int .i64 p, s], m] w fun e w' => e = .returned (.tuple #[.bool (autK p st M), .int .i64 0]) ∧ Below w.heap.size w w' := by
  obtain ⟨a0, c0, rfl, _⟩ := id hs.op
  have hp := hd.hp.lo; have hp2 := hd.hp.hi; have h8 := (sz_le hd).2; have hl3 := hd.hl
  obtain ⟨a1, c1, rfl, _⟩ := id hr
  have HM := Lib.hid hM
  have HM1 := Lib.hid (show ∀ N ∈ [M], matB p (sz st.length) N = true from fun N h => by rw [List.mem_singleton.1 h]; exact hM)
  clear hM
  go_enter Try.func15, Try.ntmps15
  have hb0 : Below w.heap.size w (w.alloc (.cells #[.int .i64 p, .slice a0 st.length c0] 26)) := (by repeat (first | exact .refl _ _ | apply bwD | apply bwA | (refine bwS ?_ (by first | omega | simp <;> omega) _) | refine bwC ?_ (by assumption)))
  have hs := hs.below hb0; have hr := hr.below hb0
  have d0 : (w.alloc (.cells #[.int .i64 p, .slice a0 st.length c0] 26)).cell? ⟨w.heap.size, 0, none⟩ = some (.int .i64 p) := by simp [go_sem]
  have d1 : (w.alloc (.cells #[.int .i64 p, .slice a0 st.length c0] 26)).cell? ⟨w.heap.size, 1, none⟩ = some (.slice a0 st.length c0) := by simp [go_sem]
  have hm1 := Ml.one (k := w.heap.size + 1) hr (by simp)
  have hb1 : Below (w.alloc (.cells #[.int .i64 p, .slice a0 st.length c0] 26)).heap.size (w.alloc (.cells #[.int .i64 p, .slice a0 st.length c0] 26)) ((w.alloc (.cells #[.int .i64 p, .slice a0 st.length c0] 26)).alloc (.cells #[.slice a1 M.length c1] 27)) := (by repeat (first | exact .refl _ _ | apply bwD | apply bwA | (refine bwS ?_ (by first | omega | simp <;> omega) _) | refine bwC ?_ (by assumption)))
  have hs := hs.below hb1; have hr := hr.below hb1; have d0 := kept hb1 d0; have d1 := kept hb1 d1
  have cm0 : ((w.alloc (.cells #[.int .i64 p, .slice a0 st.length c0] 26)).alloc (.cells #[.slice a1 M.length c1] 27)).cell? ⟨w.heap.size + 1, 0, none⟩ = some (.slice a1 M.length c1) := by simp [go_sem]
  go_wp2_with fail
  refine (chkokm_c hd hs hm1 (by simp) HM1.out).mono ?_; rintro e w2 ⟨rfl, hb2⟩
  have hs := hs.below hb2; have hr := hr.below hb2; have d0 := kept hb2 d0; have d1 := kept hb2 d1; have cm0 := kept hb2 cm0; have hm1 := hm1.below hb2
  go_wp2_with fail
  refine (isaut_c hd hs hr HM.out).mono ?_; rintro e w3 ⟨rfl, hb3⟩
  have hs := hs.below hb3; have hr := hr.below hb3; have d0 := kept hb3 d0; have d1 := kept hb3 d1; have cm0 := kept hb3 cm0; have hm1 := hm1.below hb3
  go_wp2_with fail
  go_ret2
  exact ⟨rfl, (by repeat (first | exact .refl _ _ | apply bwD | apply bwA | (refine bwS ?_ (by first | omega | simp <;> omega) _) | refine bwC ?_ (by assumption)))⟩
set_option maxHeartbeats 2000000 in
set_option maxRecDepth 100000 in
theorem keep1_c (hd : Dok p st) (hs : El w s st) (hr : Re w m M) (hM : matB p (sz st.length) M = true) :
    Calls Try.prog 16 #[.agg #[.int .i64 p, s], m] w fun e w' => e = .returned (.tuple #[.bool (isoK p (diagF p st) M), .int .i64 0]) ∧ Below w.heap.size w w' := by
  obtain ⟨a0, c0, rfl, _⟩ := id hs.op
  have hp := hd.hp.lo; have hp2 := hd.hp.hi; have h8 := (sz_le hd).2; have hl3 := hd.hl
  obtain ⟨a1, c1, rfl, _⟩ := id hr
  have HM := Lib.hid hM
  have HM1 := Lib.hid (show ∀ N ∈ [M], matB p (sz st.length) N = true from fun N h => by rw [List.mem_singleton.1 h]; exact hM)
  clear hM
  go_enter Try.func16, Try.ntmps16
  have hb0 : Below w.heap.size w (w.alloc (.cells #[.int .i64 p, .slice a0 st.length c0] 26)) := (by repeat (first | exact .refl _ _ | apply bwD | apply bwA | (refine bwS ?_ (by first | omega | simp <;> omega) _) | refine bwC ?_ (by assumption)))
  have hs := hs.below hb0; have hr := hr.below hb0
  have d0 : (w.alloc (.cells #[.int .i64 p, .slice a0 st.length c0] 26)).cell? ⟨w.heap.size, 0, none⟩ = some (.int .i64 p) := by simp [go_sem]
  have d1 : (w.alloc (.cells #[.int .i64 p, .slice a0 st.length c0] 26)).cell? ⟨w.heap.size, 1, none⟩ = some (.slice a0 st.length c0) := by simp [go_sem]
  have hm1 := Ml.one (k := w.heap.size + 1) hr (by simp)
  have hb1 : Below (w.alloc (.cells #[.int .i64 p, .slice a0 st.length c0] 26)).heap.size (w.alloc (.cells #[.int .i64 p, .slice a0 st.length c0] 26)) ((w.alloc (.cells #[.int .i64 p, .slice a0 st.length c0] 26)).alloc (.cells #[.slice a1 M.length c1] 27)) := (by repeat (first | exact .refl _ _ | apply bwD | apply bwA | (refine bwS ?_ (by first | omega | simp <;> omega) _) | refine bwC ?_ (by assumption)))
  have hs := hs.below hb1; have hr := hr.below hb1; have d0 := kept hb1 d0; have d1 := kept hb1 d1
  have cm0 : ((w.alloc (.cells #[.int .i64 p, .slice a0 st.length c0] 26)).alloc (.cells #[.slice a1 M.length c1] 27)).cell? ⟨w.heap.size + 1, 0, none⟩ = some (.slice a1 M.length c1) := by simp [go_sem]
  go_wp2_with fail
  refine (chkokm_c hd hs hm1 (by simp) HM1.out).mono ?_; rintro e w2 ⟨rfl, hb2⟩
  have hs := hs.below hb2; have hr := hr.below hb2; have d0 := kept hb2 d0; have d1 := kept hb2 d1; have cm0 := kept hb2 cm0; have hm1 := hm1.below hb2
  go_wp2_with fail
  refine (keeps_c hd hs hr HM.out).mono ?_; rintro e w3 ⟨rfl, hb3⟩
  have hs := hs.below hb3; have hr := hr.below hb3; have d0 := kept hb3 d0; have d1 := kept hb3 d1; have cm0 := kept hb3 cm0; have hm1 := hm1.below hb3
  go_wp2_with fail
  go_ret2
  exact ⟨rfl, (by repeat (first | exact .refl _ _ | apply bwD | apply bwA | (refine bwS ?_ (by first | omega | simp <;> omega) _) | refine bwC ?_ (by assumption)))⟩
set_option maxHeartbeats 2000000 in
set_option maxRecDepth 100000 in
theorem dnorm_c (hd : Dok p st) (hs : El w s st) (hx : El w x xs) (ex : Ev p (sz st.length) xs) :
    Calls Try.prog 14 #[.agg #[.int .i64 p, s], x] w fun e w' => e = .returned (.tuple #[.int .i64 (normL p st xs), .int .i64 0]) ∧ Below w.heap.size w w' := by
  obtain ⟨a0, c0, rfl, _⟩ := id hs.op
  have hp := hd.hp.lo; have hp2 := hd.hp.hi; have h8 := (sz_le hd).2; have hl3 := hd.hl
  obtain ⟨a2, c2, rfl, _⟩ := id hx.op
  have hel := fun W l (h1 : El W (.slice a0 st.length c0) st) (h2 : Re W l [xs]) => chkel_c (w := W) (p := p) h1 h2 (by omega) (by simp) (fun ys h => by rw [List.mem_singleton.1 h, ex.1]; omega)
  have hE : chkE p st [xs] = 0 := chkE_ok hd.is (List.all_eq_true.2 fun ys h => by rw [List.mem_singleton.1 h]; exact isE_iff.2 ex)
  simp only [hE] at hel
  clear hE
  go_enter Try.func14, Try.ntmps14
  have hb0 : Below w.heap.size w (w.alloc (.cells #[.int .i64 p, .slice a0 st.length c0] 26)) := (by repeat (first | exact .refl _ _ | apply bwD | apply bwA | (refine bwS ?_ (by first | omega | simp <;> omega) _) | refine bwC ?_ (by assumption)))
  have hs := hs.below hb0; have hx := hx.below hb0
  have d0 : (w.alloc (.cells #[.int .i64 p, .slice a0 st.length c0] 26)).cell? ⟨w.heap.size, 0, none⟩ = some (.int .i64 p) := by simp [go_sem]
  have d1 : (w.alloc (.cells #[.int .i64 p, .slice a0 st.length c0] 26)).cell? ⟨w.heap.size, 1, none⟩ = some (.slice a0 st.length c0) := by simp [go_sem]
  have hl1 := Re.oneL (k := w.heap.size + 1) hx (by simp)
  have hb1 : Below (w.alloc (.cells #[.int .i64 p, .slice a0 st.length c0] 26)).heap.size (w.alloc (.cells #[.int .i64 p, .slice a0 st.length c0] 26)) ((w.alloc (.cells #[.int .i64 p, .slice a0 st.length c0] 26)).alloc (.cells #[.slice a2 xs.length c2] 24)) := (by repeat (first | exact .refl _ _ | apply bwD | apply bwA | (refine bwS ?_ (by first | omega | simp <;> omega) _) | refine bwC ?_ (by assumption)))
  have hs := hs.below hb1; have hx := hx.below hb1; have d0 := kept hb1 d0; have d1 := kept hb1 d1
  have cx0 : ((w.alloc (.cells #[.int .i64 p, .slice a0 st.length c0] 26)).alloc (.cells #[.slice a2 xs.length c2] 24)).cell? ⟨w.heap.size + 1, 0, none⟩ = some (.slice a2 xs.length c2) := by simp [go_sem]
  go_wp2_with fail
  refine (hel _ _ hs hl1).mono ?_; rintro e w2 ⟨rfl, hb2⟩
  have hs := hs.below hb2; have hx := hx.below hb2; have d0 := kept hb2 d0; have d1 := kept hb2 d1; have cx0 := kept hb2 cx0; have hl1 := hl1.below hb2
  go_wp2_with fail
  refine (norm_c hd hs hx ex).mono ?_; rintro e w3 ⟨rfl, hb3⟩
  have hs := hs.below hb3; have hx := hx.below hb3; have d0 := kept hb3 d0; have d1 := kept hb3 d1; have cx0 := kept hb3 cx0; have hl1 := hl1.below hb3
  go_wp2_with fail
  go_ret2
  exact ⟨rfl, (by repeat (first | exact .refl _ _ | apply bwD | apply bwA | (refine bwS ?_ (by first | omega | simp <;> omega) _) | refine bwC ?_ (by assumption)))⟩
set_option maxHeartbeats 2000000 in
set_option maxRecDepth 100000 in
theorem dtimes_c (hd : Dok p st) (hs : El w s st) (hx : El w x xs) (ex : Ev p (sz st.length) xs) (hy : El w y ys) (ey : Ev p (sz st.length) ys) :
    Calls Try.prog 56 #[.agg #[.int .i64 p, s], x, y] w fun e w' => ∃ v, e = .returned (.tuple #[v, .int .i64 0]) ∧ FrI w' w.heap.size v (mulL p st xs ys) ∧ Below w.heap.size w w' := by
  obtain ⟨a0, c0, rfl, _⟩ := id hs.op
  have hp := hd.hp.lo; have hp2 := hd.hp.hi; have h8 := (sz_le hd).2; have hl3 := hd.hl
  obtain ⟨a2, c2, rfl, _⟩ := id hx.op
  obtain ⟨a3, c3, rfl, _⟩ := id hy.op
  have hel := fun W l (h1 : El W (.slice a0 st.length c0) st) (h2 : Re W l [xs, ys]) => chkel_c (w := W) (p := p) h1 h2 (by omega) (by simp) (fun zs h => by simp at h; rcases h with rfl | rfl; rw [ex.1]; omega; rw [ey.1]; omega)
  have hE : chkE p st [xs, ys] = 0 := chkE_ok hd.is (List.all_eq_true.2 fun zs h => by simp at h; rcases h with rfl | rfl; exact isE_iff.2 ex; exact isE_iff.2 ey)
  simp only [hE] at hel
  clear hE
  go_enter Try.func56, Try.ntmps56
  have hb0 : Below w.heap.size w (w.alloc (.cells #[.int .i64 p, .slice a0 st.length c0] 26)) := (by repeat (first | exact .refl _ _ | apply bwD | apply bwA | (refine bwS ?_ (by first | omega | simp <;> omega) _) | refine bwC ?_ (by assumption)))
  have hs := hs.below hb0; have hx := hx.below hb0; have hy := hy.below hb0
  have d0 : (w.alloc (.cells #[.int .i64 p, .slice a0 st.length c0] 26)).cell? ⟨w.heap.size, 0, none⟩ = some (.int .i64 p) := by simp [go_sem]
  have d1 : (w.alloc (.cells #[.int .i64 p, .slice a0 st.length c0] 26)).cell? ⟨w.heap.size, 1, none⟩ = some (.slice a0 st.length c0) := by simp [go_sem]
  have hl1 := Re.twoL (k := w.heap.size + 1) hx hy (by simp)
  have hb1 : Below (w.alloc (.cells #[.int .i64 p, .slice a0 st.length c0] 26)).heap.size (w.alloc (.cells #[.int .i64 p, .slice a0 st.length c0] 26)) ((w.alloc (.cells #[.int .i64 p, .slice a0 st.length c0] 26)).alloc (.cells #[.slice a2 xs.length c2, .slice a3 ys.length c3] 24)) := (by repeat (first | exact .refl _ _ | apply bwD | apply bwA | (refine bwS ?_ (by first | omega | simp <;> omega) _) | refine bwC ?_ (by assumption)))
  have hs := hs.below hb1; have hx := hx.below hb1; have hy := hy.below hb1; have d0 := kept hb1 d0; have d1 := kept hb1 d1
  have cx0 : ((w.alloc (.cells #[.int .i64 p, .slice a0 st.length c0] 26)).alloc (.cells #[.slice a2 xs.length c2, .slice a3 ys.length c3] 24)).cell? ⟨w.heap.size + 1, 0, none⟩ = some (.slice a2 xs.length c2) := by simp [go_sem]
  have cx1 : ((w.alloc (.cells #[.int .i64 p, .slice a0 st.length c0] 26)).alloc (.cells #[.slice a2 xs.length c2, .slice a3 ys.length c3] 24)).cell? ⟨w.heap.size + 1, 1, none⟩ = some (.slice a3 ys.length c3) := by simp [go_sem]
  go_wp2_with fail
  refine (hel _ _ hs hl1).mono ?_; rintro e w2 ⟨rfl, hb2⟩
  have hs := hs.below hb2; have hx := hx.below hb2; have hy := hy.below hb2; have d0 := kept hb2 d0; have d1 := kept hb2 d1; have cx0 := kept hb2 cx0; have cx1 := kept hb2 cx1; have hl1 := hl1.below hb2
  have hbq : Below w.heap.size w w2 := (by repeat (first | exact .refl _ _ | apply bwD | apply bwA | (refine bwS ?_ (by first | omega | simp <;> omega) _) | refine bwC ?_ (by assumption)))
  go_wp2_with fail
  refine (times_c hd hs hx hy ex ey).mono ?_; rintro e w3 ⟨v, rfl, hv, hb3⟩
  have hs := hs.below hb3; have hx := hx.below hb3; have hy := hy.below hb3; have d0 := kept hb3 d0; have d1 := kept hb3 d1; have cx0 := kept hb3 cx0; have cx1 := kept hb3 cx1; have hl1 := hl1.below hb3
  obtain ⟨a9, c9, rfl, _⟩ := id hv.el.op
  have hv := hv.more hbq.size
  go_wp2_with fail
  go_ret2
  exact ⟨_, rfl, hv, (by repeat (first | exact .refl _ _ | apply bwD | apply bwA | (refine bwS ?_ (by first | omega | simp <;> omega) _) | refine bwC ?_ (by assumption)))⟩
set_option maxHeartbeats 2000000 in
set_option maxRecDepth 100000 in
theorem ltimes9_c (hd : Dok p st) (hs : El w s st) (hx : El w x xs) (ex : Ev p (sz st.length) xs) (hy : El w y ys) (ey : Ev p (sz st.length) ys) :
    Calls Try.prog 13 #[.agg #[.int .i64 p, s], x, y] w fun e w' => ∃ v, e = .returned v ∧ FrI w' w.heap.size v (mulL p st xs ys) ∧ Below w.heap.size w w' := by
  obtain ⟨a0, c0, rfl, _⟩ := id hs.op
  have hp := hd.hp.lo; have hp2 := hd.hp.hi; have h8 := (sz_le hd).2; have hl3 := hd.hl
  obtain ⟨a2, c2, rfl, _⟩ := id hx.op
  obtain ⟨a3, c3, rfl, _⟩ := id hy.op
  go_enter Try.func13, Try.ntmps13
  have hb0 : Below w.heap.size w (w.alloc (.cells #[.int .i64 p, .slice a0 st.length c0] 26)) := (by repeat (first | exact .refl _ _ | apply bwD | apply bwA | (refine bwS ?_ (by first | omega | simp <;> omega) _) | refine bwC ?_ (by assumption)))
  have hs := hs.below hb0; have hx := hx.below hb0; have hy := hy.below hb0
  have d0 : (w.alloc (.cells #[.int .i64 p, .slice a0 st.length c0] 26)).cell? ⟨w.heap.size, 0, none⟩ = some (.int .i64 p) := by simp [go_sem]
  have d1 : (w.alloc (.cells #[.int .i64 p, .slice a0 st.length c0] 26)).cell? ⟨w.heap.size, 1, none⟩ = some (.slice a0 st.length c0) := by simp [go_sem]
  have hbq : Below w.heap.size w (w.alloc (.cells #[.int .i64 p, .slice a0 st.length c0] 26)) := (by repeat (first | exact .refl _ _ | apply bwD | apply bwA | (refine bwS ?_ (by first | omega | simp <;> omega) _) | refine bwC ?_ (by assumption)))
  go_wp2_with fail
  refine (dtimes_c hd hs hx ex hy ey).mono ?_; rintro e w1 ⟨v, rfl, hv, hb1⟩
  have hs := hs.below hb1; have hx := hx.below hb1; have hy := hy.below hb1; have d0 := kept hb1 d0; have d1 := kept hb1 d1
  obtain ⟨a9, c9, rfl, _⟩ := id hv.el.op
  have hv := hv.more hbq.size
  go_wp2_with fail
  go_ret
  exact ⟨_, rfl, hv, (by repeat (first | exact .refl _ _ | apply bwD | apply bwA | (refine bwS ?_ (by first | omega | simp <;> omega) _) | refine bwC ?_ (by assumption)))⟩
end
end Go.Proofs.Ytgkceadllcjeoaa
