/- Texts joined for a claim: LawTr, TgD, TgE. -/
import Derived.Test.YtfcdhdkhfdhjfaaJbd
import Derived.Test.YtfcdhdkhfdhjfaaTgC
import Derived.Test.YtfcdhdkhfdhjfaaTrB
import Derived.Test.YtfcdhdkhfdhjfaaJaj
import Derived.Test.YtfcdhdkhfdhjfaaJba
/-
  The laws' helpers over triples of matrices that are parameters: sizes, copies, comparison.
-/
namespace Go.Proofs.Ytfcdhdkhfdhjfaa
open Go.RowKit

def Tri (w : World) (v : Value) (A B C : List (List Int)) : Prop := ∃ a b c, v = .agg #[a, b, c] ∧ Rs w a A ∧ Rs w b B ∧ Rs w c C
def Tv (w : World) (v : Value) (A B C : List (List Int)) : Prop := ∃ a b c, v = .agg #[a, b, c] ∧ Re w a A ∧ Re w b B ∧ Re w c C
structure Tsz (A B C : List (List Int)) : Prop where
  a : Msz A
  b : Msz B
  c : Msz C
section
variable {w w' : World} {v : Value} {A B C : List (List Int)}
theorem Tri.below (h : Tri w v A B C) (hb : Below w.heap.size w w') : Tri w' v A B C := by
  obtain ⟨a, b, c, rfl, h1, h2, h3⟩ := h
  exact ⟨a, b, c, rfl, h1.below hb, h2.below hb, h3.below hb⟩
theorem Tv.below (h : Tv w v A B C) (hb : Below w.heap.size w w') : Tv w' v A B C := by
  obtain ⟨a, b, c, rfl, h1, h2, h3⟩ := h
  exact ⟨a, b, c, rfl, h1.below hb, h2.below hb, h3.below hb⟩
theorem Tv.tr (h : Tv w v A B C) : Tri w v A B C := by
  obtain ⟨a, b, c, rfl, h1, h2, h3⟩ := h
  exact ⟨a, b, c, rfl, h1.rs, h2.rs, h3.rs⟩
end
def Bt (w : World) (b : Nat) (x y z : Value) : Prop := w.heap[b]? = some (.cells #[x, y, z] 29 (0, 0))
section
variable {w w' : World} {b : Nat} {x y z : Value}
theorem Bt.lt (h : Bt w b x y z) : b < w.heap.size := (Array.getElem?_eq_some_iff.1 h).1
theorem Bt.c0 (h : Bt w b x y z) : w.cell? ⟨b, 0, none⟩ = some x := by
  unfold Bt at h; simp [World.cell?, h]
theorem Bt.c1 (h : Bt w b x y z) : w.cell? ⟨b, 1, none⟩ = some y := by
  unfold Bt at h; simp [World.cell?, h]
theorem Bt.c2 (h : Bt w b x y z) : w.cell? ⟨b, 2, none⟩ = some z := by
  unfold Bt at h; simp [World.cell?, h]
theorem Bt.f (h : Bt w b x y z) (i : Nat) : w.frozen? ⟨b, i, none⟩ = false := frozen_of_row _ _ _ _ _ h
theorem Bt.below (h : Bt w b x y z) (hb : Below w.heap.size w w') : Bt w' b x y z := by
  have hl := h.lt
  unfold Bt at h ⊢
  rw [hb.block b hl]; exact h
theorem Bt.set0 (h : Bt w b x y z) (v : Value) : Bt (w.setCell ⟨b, 0, none⟩ v) b v y z := heap_setCell_same _ _ _ _ _ _ h
theorem Bt.set1 (h : Bt w b x y z) (v : Value) : Bt (w.setCell ⟨b, 1, none⟩ v) b x v z := heap_setCell_same _ _ _ _ _ _ h
theorem Bt.set2 (h : Bt w b x y z) (v : Value) : Bt (w.setCell ⟨b, 2, none⟩ v) b x y v := heap_setCell_same _ _ _ _ _ _ h
theorem Bt.far (h : Bt w b x y z) {p : Addr} (hp : b ≠ p.block) (v : Value) : Bt (w.setCell p v) b x y z := by
  unfold Bt at h ⊢
  rw [Below.heap_setCell _ _ _ _ hp]; exact h
end
theorem eqt_c {x y : Value} {A B C : List (List Int)} {w : World} (hx : Tri w x A B C) (hy : Tri w y A B C) (hm : Tsz A B C) :
    Calls Try.prog 10 #[x, y] w fun e w' => e = .returned (.bool true) ∧ Below w.heap.size w w' := by
  obtain ⟨a, b, c, rfl, h1, h2, h3⟩ := hx
  obtain ⟨a', b', c', rfl, h4, h5, h6⟩ := hy
  obtain ⟨a1, c1, rfl, _⟩ := id h1
  obtain ⟨a2, c2, rfl, _⟩ := id h2
  obtain ⟨a3, c3, rfl, _⟩ := id h3
  obtain ⟨a4, c4, rfl, _⟩ := id h4
  obtain ⟨a5, c5, rfl, _⟩ := id h5
  obtain ⟨a6, c6, rfl, _⟩ := id h6
  go_enter Try.func10, Try.ntmps10
  have hb0 : Below w.heap.size w ((w.alloc (.cells #[.slice a1 A.length c1, .slice a2 B.length c2, .slice a3 C.length c3] 29)).alloc (.cells #[.slice a4 A.length c4, .slice a5 B.length c5, .slice a6 C.length c6] 29)) := (by repeat (first | exact .refl _ _ | apply bwD | apply bwA | (refine bwS ?_ (by first | omega | simp <;> omega) _) | refine bwC ?_ (by assumption)))
  have h1 := h1.below hb0; have h2 := h2.below hb0; have h3 := h3.below hb0; have h4 := h4.below hb0; have h5 := h5.below hb0; have h6 := h6.below hb0
  have d0 : ((w.alloc (.cells #[.slice a1 A.length c1, .slice a2 B.length c2, .slice a3 C.length c3] 29)).alloc (.cells #[.slice a4 A.length c4, .slice a5 B.length c5, .slice a6 C.length c6] 29)).cell? ⟨w.heap.size, 0, none⟩ = some (.slice a1 A.length c1) := by simp [go_sem]
  have d1 : ((w.alloc (.cells #[.slice a1 A.length c1, .slice a2 B.length c2, .slice a3 C.length c3] 29)).alloc (.cells #[.slice a4 A.length c4, .slice a5 B.length c5, .slice a6 C.length c6] 29)).cell? ⟨w.heap.size, 1, none⟩ = some (.slice a2 B.length c2) := by simp [go_sem]
  have d2 : ((w.alloc (.cells #[.slice a1 A.length c1, .slice a2 B.length c2, .slice a3 C.length c3] 29)).alloc (.cells #[.slice a4 A.length c4, .slice a5 B.length c5, .slice a6 C.length c6] 29)).cell? ⟨w.heap.size, 2, none⟩ = some (.slice a3 C.length c3) := by simp [go_sem]
  have e0 : ((w.alloc (.cells #[.slice a1 A.length c1, .slice a2 B.length c2, .slice a3 C.length c3] 29)).alloc (.cells #[.slice a4 A.length c4, .slice a5 B.length c5, .slice a6 C.length c6] 29)).cell? ⟨w.heap.size + 1, 0, none⟩ = some (.slice a4 A.length c4) := by simp [go_sem]
  have e1 : ((w.alloc (.cells #[.slice a1 A.length c1, .slice a2 B.length c2, .slice a3 C.length c3] 29)).alloc (.cells #[.slice a4 A.length c4, .slice a5 B.length c5, .slice a6 C.length c6] 29)).cell? ⟨w.heap.size + 1, 1, none⟩ = some (.slice a5 B.length c5) := by simp [go_sem]
  have e2 : ((w.alloc (.cells #[.slice a1 A.length c1, .slice a2 B.length c2, .slice a3 C.length c3] 29)).alloc (.cells #[.slice a4 A.length c4, .slice a5 B.length c5, .slice a6 C.length c6] 29)).cell? ⟨w.heap.size + 1, 2, none⟩ = some (.slice a6 C.length c6) := by simp [go_sem]
  go_wp2_with fail
  refine (eqm_c h1 h4 hm.a).mono ?_; rintro e w1 ⟨rfl, hb1⟩
  have h1 := h1.below hb1; have h2 := h2.below hb1; have h3 := h3.below hb1; have h4 := h4.below hb1; have h5 := h5.below hb1; have h6 := h6.below hb1; have d0 := kept hb1 d0; have d1 := kept hb1 d1; have d2 := kept hb1 d2; have e0 := kept hb1 e0; have e1 := kept hb1 e1; have e2 := kept hb1 e2
  go_wp2_with fail
  refine (eqm_c h2 h5 hm.b).mono ?_; rintro e w2 ⟨rfl, hb2⟩
  have h1 := h1.below hb2; have h2 := h2.below hb2; have h3 := h3.below hb2; have h4 := h4.below hb2; have h5 := h5.below hb2; have h6 := h6.below hb2; have d0 := kept hb2 d0; have d1 := kept hb2 d1; have d2 := kept hb2 d2; have e0 := kept hb2 e0; have e1 := kept hb2 e1; have e2 := kept hb2 e2
  go_wp2_with fail
  refine (eqm_c h3 h6 hm.c).mono ?_; rintro e w3 ⟨rfl, hb3⟩
  have h1 := h1.below hb3; have h2 := h2.below hb3; have h3 := h3.below hb3; have h4 := h4.below hb3; have h5 := h5.below hb3; have h6 := h6.below hb3; have d0 := kept hb3 d0; have d1 := kept hb3 d1; have d2 := kept hb3 d2; have e0 := kept hb3 e0; have e1 := kept hb3 e1; have e2 := kept hb3 e2
  go_wp2_with fail
  go_ret
  exact ⟨rfl, (by repeat (first | exact .refl _ _ | apply bwD | apply bwA | (refine bwS ?_ (by first | omega | simp <;> omega) _) | refine bwC ?_ (by assumption)))⟩
end Go.Proofs.Ytfcdhdkhfdhjfaa
/-
  The checks of triples: program and reference.
-/
namespace Go.Proofs.Ytfcdhdkhfdhjfaa
open Go.RowKit

def chkT (p : Int) (st : List Int) (Ms : List (List (List Int))) : Int := if chk3 p st [] = 0 then (if Ms.all (matB p (sz st.length)) = true then 0 else 2) else chk3 p st []
def Ml (w : World) (v : Value) (Ms : List (List (List Int))) : Prop := ∃ b c, v = .slice (some ⟨b, 0, none⟩) Ms.length c ∧ ∀ j (h : j < Ms.length), ∃ u, w.cell? ⟨b, j, none⟩ = some u ∧ Re w u Ms[j]
theorem Ml.below {w w' : World} {v : Value} {Ms : List (List (List Int))} (h : Ml w v Ms) (hb : Below w.heap.size w w') : Ml w' v Ms := by
  obtain ⟨b, c, rfl, h⟩ := h
  refine ⟨b, c, rfl, fun j hj => ?_⟩
  obtain ⟨u, h1, h2⟩ := h j hj
  exact ⟨u, kept hb h1, h2.below hb⟩
theorem Ml.get {w : World} {b m : Nat} {Ms : List (List (List Int))} (h : ∀ j (h : j < Ms.length), ∃ u, w.cell? ⟨b, j, none⟩ = some u ∧ Re w u Ms[j]) (hm : m < Ms.length) :
    ∃ a c M, M ∈ Ms ∧ w.cell? ⟨b, m, none⟩ = some (.slice a M.length c) ∧ Re w (.slice a M.length c) M ∧ Ms.take (m + 1) = Ms.take m ++ [M] := by
  obtain ⟨u, h1, h2⟩ := h m hm
  obtain ⟨a, c, rfl, _⟩ := id h2
  exact ⟨a, c, Ms[m], List.getElem_mem hm, h1, h2, List.take_succ_eq_append_getElem hm⟩
section
variable {ops : Array Oper} {rest : List Oper} {o : Oper} {a : Act} {Q : Exit → Act → World → Prop}
end
theorem chkm1_c {p : Int} {x m : Value} {q : Nat} {st : List Int} {M : List (List Int)} {w : World} (h0 : w.cell? ⟨q, 0, none⟩ = some (.int .i64 p)) (h1 : w.cell? ⟨q, 1, none⟩ = some x) (hd : Dok p st) (hx : El w x st) (hr : Re w m M) (hm : Msz M) :
    Calls Try.prog 51 #[m, .pointer (some ⟨q, 0, none⟩)] w fun e w' => e = .returned (.bool (!matB p (sz st.length) M)) ∧ Below w.heap.size w w' := by
  obtain ⟨a, c, rfl, _⟩ := id hx.op
  obtain ⟨ar, cr, rfl, _⟩ := id hr
  have hcon := fun W h1 h2 => ismatrix_c (w := W) (p := p) (s := .slice a st.length c) (m := .slice ar M.length cr) hd h1 h2 hm.h3 hm.h2
  obtain ⟨b, hb⟩ : ∃ b, b = matB p (sz st.length) M := ⟨_, rfl⟩
  simp only [← hb] at hcon ⊢
  clear hb
  go_enter Try.func51, Try.ntmps51
  go_wp2_with fail
  refine (hcon _ hx hr).mono ?_; rintro e w1 ⟨rfl, hb1⟩
  go_wp2_with fail
  go_ret
  exact ⟨rfl, hb1⟩
theorem idxm_c {p : Int} {x l : Value} {q : Nat} {st : List Int} {Ms : List (List (List Int))} {w : World} (h0 : w.cell? ⟨q, 0, none⟩ = some (.int .i64 p)) (h1 : w.cell? ⟨q, 1, none⟩ = some x) (hd : Dok p st) (hx : El w x st) (hl : Ml w l Ms)
    (hm1 : Ms.length ≤ 1048576) (hm : ∀ M ∈ Ms, Msz M) :
    Calls Try.prog 73 #[l, .func (Fn.func 51) #[] #[.pointer (some ⟨q, 0, none⟩)]] w fun e w' =>
      ∃ k : Int, e = .returned (.int .i64 k) ∧ Found k (!Ms.all (matB p (sz st.length))) ∧ -1 ≤ k ∧ k ≤ 1048576 ∧ Below w.heap.size w w' := by
  obtain ⟨b, c, rfl, hl⟩ := hl
  go_enter Try.func73, Try.ntmps73
  go_wp2
  go_loopw [8] (fun i wr => ∃ k : Nat, k ≤ Ms.length ∧ i = .int .i64 k ∧ (Ms.take k).all (matB p (sz st.length)) = true ∧ Below w.heap.size w wr) (fun i _ => Ms.length - (intOf i).toNat)
  case atStart => exact ⟨0, Nat.zero_le _, rfl, rfl, Below.refl _ _⟩
  case round =>
    obtain ⟨k, hk, rfl, hr, hb⟩ := hrel
    by_cases hlt : k < Ms.length
    · obtain ⟨a1, c1, M, hM, hc0, hs0, ht⟩ := Ml.get hl hlt
      have hc := kept hb hc0
      have hs := hs0.below hb
      have g0 := kept hb h0
      have g1 := kept hb h1
      have gx := hx.below hb
      have hmx := hm M hM
      have H := Lib.hid (And.intro (all_snoc hr ht) (@all_no _ (matB p (sz st.length)) _ _ hM)); clear hr ht
      cases hv : matB p (sz st.length) M
      · go_wp2_with (go_at_call 51; refine (chkm1_c g0 g1 hd gx hs hmx).mono ?_; rintro e w1 ⟨rfl, hb1⟩; simp only [hv])
        go_ret
        exact ⟨_, rfl, by rw [H.out.2 hv]; unfold Found; simp, by omega, by omega, bwC hb hb1⟩
      · go_wp2_with (go_at_call 51; refine (chkm1_c g0 g1 hd gx hs hmx).mono ?_; rintro e w1 ⟨rfl, hb1⟩; simp only [hv])
        go_roundw
        case rel => exact ⟨k + 1, by omega, by go_num, by rw [H.out.1, hv], bwC hb hb1⟩
        case measure => simp [intOf]; omega
    · have e : Ms.take k = Ms := take_all (by omega)
      rw [e] at hr
      have H := Lib.hid hr; clear hr e
      go_wp2
      go_ret
      exact ⟨_, rfl, by rw [H.out]; unfold Found; rfl, by decide, by decide, hb⟩
theorem conm_c {p : Int} {x l : Value} {q : Nat} {st : List Int} {Ms : List (List (List Int))} {w : World} (h0 : w.cell? ⟨q, 0, none⟩ = some (.int .i64 p)) (h1 : w.cell? ⟨q, 1, none⟩ = some x) (hd : Dok p st) (hx : El w x st) (hl : Ml w l Ms)
    (hm1 : Ms.length ≤ 1048576) (hm : ∀ M ∈ Ms, Msz M) :
    Calls Try.prog 50 #[l, .func (Fn.func 51) #[] #[.pointer (some ⟨q, 0, none⟩)]] w fun e w' =>
      e = .returned (.bool (!Ms.all (matB p (sz st.length)))) ∧ Below w.heap.size w w' := by
  obtain ⟨a2, c2, rfl, _⟩ := id hl
  go_enter Try.func50, Try.ntmps50
  go_wp2_with (go_at_call 73; refine (idxm_c h0 h1 hd hx hl hm1 hm).mono ?_; rintro e w1 ⟨k, rfl, hk, hk1, hk2, hb1⟩; unfold Found at hk; have H := Lib.hid hk; clear hk)
  go_ret
  exact ⟨by rw [← H.out]; rfl, hb1⟩
theorem chkt_c {p : Int} {x l : Value} {st : List Int} {Ms : List (List (List Int))} {w : World} (hx : El w x st) (hl : Ml w l Ms) (hm : st.length ≤ 1048576) (hm1 : Ms.length ≤ 1000) (hm2 : ∀ M ∈ Ms, Msz M) :
    Calls Try.prog 26 #[.agg #[.int .i64 p, x], .slice none 0 0, l] w fun e w' => e = .returned (.int .i64 (chkT p st Ms)) ∧ Below w.heap.size w w' := by
  obtain ⟨a, c, rfl, _⟩ := id hx.op
  obtain ⟨a2, c2, rfl, _⟩ := id hl
  have hx1 := hx.below (w' := w.alloc (.cells #[.int .i64 p, .slice a st.length c] 32)) (by repeat (first | exact .refl _ _ | apply bwD | apply bwA | (refine bwS ?_ (by first | omega | simp <;> omega) _) | refine bwC ?_ (by assumption)))
  have hl1 := hl.below (w' := w.alloc (.cells #[.int .i64 p, .slice a st.length c] 32)) (by repeat (first | exact .refl _ _ | apply bwD | apply bwA | (refine bwS ?_ (by first | omega | simp <;> omega) _) | refine bwC ?_ (by assumption)))
  cases h1 : isD p st
  · rw [show chkT p st Ms = 1 by unfold chkT; rw [chk3_no h1]; rfl]
    go_enter Try.func26, Try.ntmps26
    go_wp2_with (go_at_call 48; refine (isdbl_c hx1.sl hm).mono ?_; rintro e w1 ⟨rfl, hb1⟩; simp only [h1])
    go_ret
    exact ⟨rfl, (by repeat (first | exact .refl _ _ | apply bwD | apply bwA | (refine bwS ?_ (by first | omega | simp <;> omega) _) | refine bwC ?_ (by assumption)))⟩
  by_cases h2 : 3 < st.length
  · rw [show chkT p st Ms = 3 by unfold chkT; rw [chk3_lim h1 h2]; rfl]
    go_enter Try.func26, Try.ntmps26
    go_wp2_with (go_at_call 48; refine (isdbl_c hx1.sl hm).mono ?_; rintro e w1 ⟨rfl, hb1⟩; simp only [h1]; obtain ⟨d0, d1⟩ := boxed hb1)
    go_ret
    exact ⟨rfl, (by repeat (first | exact .refl _ _ | apply bwD | apply bwA | (refine bwS ?_ (by first | omega | simp <;> omega) _) | refine bwC ?_ (by assumption)))⟩
  have hd : Dok p st := chk3_dok (chk3_ok h1 h2 rfl)
  have hv := chkE_ok (xss := []) h1 rfl
  have hT : chkT p st Ms = if Ms.all (matB p (sz st.length)) = true then 0 else 2 := by unfold chkT; rw [chk3_ok h1 h2 rfl]; rfl
  have hcon := fun W q h0 h1 h2 h3 => conm_c (w := W) (q := q) (p := p) (x := .slice a st.length c) (l := .slice (some ⟨a2, 0, none⟩) Ms.length c2) h0 h1 hd h2 h3 (by omega) hm2
  rw [hT]
  clear hT
  obtain ⟨b, hb⟩ : ∃ b, b = Ms.all (matB p (sz st.length)) := ⟨_, rfl⟩
  simp only [← hb] at hcon ⊢
  clear hb
  have hel := fun W h1 => chkel_c (w := W) (p := p) (x := .slice a st.length c) h1 (Re.nil W) hm (by simp) (fun xs h => by simp at h)
  simp only [hv] at hel
  clear hv
  cases b
  all_goals
    go_enter Try.func26, Try.ntmps26
    go_wp2_with fail
    refine (isdbl_c hx1.sl hm).mono ?_; rintro e w1 ⟨rfl, hb1⟩; simp only [h1]; obtain ⟨d0, d1⟩ := boxed hb1
    have hx2 := hx1.below hb1; have hl2 := hl1.below hb1
    go_wp2_with fail
    refine (hel _ hx2).mono ?_; rintro e w3 ⟨rfl, hb3⟩
    have d0 := kept hb3 d0; have d1 := kept hb3 d1
    go_wp2_with fail
    refine (hcon _ _ d0 d1 (hx2.below hb3) (hl2.below hb3)).mono ?_; rintro e w4 ⟨rfl, hb4⟩
    go_wp2_with fail
    go_ret
    exact ⟨rfl, (by repeat (first | exact .refl _ _ | apply bwD | apply bwA | (refine bwS ?_ (by first | omega | simp <;> omega) _) | refine bwC ?_ (by assumption)))⟩
end Go.Proofs.Ytfcdhdkhfdhjfaa
/-
  Global triples: what is told, and the contracts of the program's function and of the reference's.
-/
namespace Go.Proofs.Ytfcdhdkhfdhjfaa
open Go.RowKit

theorem bne_not {a b : Int} {q : Bool} (h : q = (a == b)) : (a != b) = !q := by rw [h]; rfl
end Go.Proofs.Ytfcdhdkhfdhjfaa
