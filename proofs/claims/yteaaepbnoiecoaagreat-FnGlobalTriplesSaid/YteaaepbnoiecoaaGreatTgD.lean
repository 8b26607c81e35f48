import Derived.Test.YteaaepbnoiecoaaGreatJay
import Derived.Test.YteaaepbnoiecoaaGreatTrB
import Derived.Test.YteaaepbnoiecoaaGreatJaf
namespace Go.Proofs.YteaaepbnoiecoaaGreat
open Go.RowKit
def chkT (p : Int) (st : List Int) (Ms : List (List (List Int))) : Int := if chk3 p st [] = 0 then (if Ms.all (matB p (sz st.length)) = true then 0 else 2) else chk3 p st []
def Ml (w : World) (v : Value) (Ms : List (List (List Int))) : Prop := ∃ b c, v = .slice (some ⟨b, 0, none⟩) Ms.length c /\ ∀ j (h : j < Ms.length), ∃ u, w.cell? ⟨b, j, none⟩ = some u /\ Re w u Ms[j]
theorem Ml.below {w w' : World} {v : Value} {Ms : List (List (List Int))} (h : Ml w v Ms) (hb : Below w.heap.size w w') : Ml w' v Ms := by
 obtain ⟨b, c, rfl, h⟩ := h
 refine ⟨b, c, rfl, fun j hj => ?_⟩
 obtain ⟨u, h1, h2⟩ := h j hj
 exact ⟨u, kept hb h1, h2.below hb⟩
theorem Ml.get {w : World} {b m : Nat} {Ms : List (List (List Int))} (h : ∀ j (h : j < Ms.length), ∃ u, w.cell? ⟨b, j, none⟩ = some u /\ Re w u Ms[j]) (hm : m < Ms.length) :
  ∃ a c M, M ∈ Ms /\ w.cell? ⟨b, m, none⟩ = some (.slice a M.length c) /\ Re w (.slice a M.length c) M /\ Ms.take (m + 1) = Ms.take m ++ [M] := by
 obtain ⟨u, h1, h2⟩ := h m hm
 obtain ⟨a, c, rfl, _⟩ := id h2
 exact ⟨a, c, Ms[m], List.getElem_mem hm, h1, h2, List.take_succ_eq_append_getElem hm⟩
section
variable {ops : Array Oper} {rest : List Oper} {o : Oper} {a : Act} {Q : Exit -> Act -> World -> Prop}
theorem appm_three (hgd : o.guard = none) (s x : Operand)
  (ho : o.op = .call { callee := .builtin .append, args := #[s, x], argTypes := #[45, 45] })
  (W : World) (B H : Nat) (hH : W.heap.size = H) (v : Value) (us : List Value) (hs : a.eval s = v) (z1 z2 z3 : Value) (c : Nat) (hx : a.eval x = .slice (some ⟨H, 0, none⟩) 3 c) (hz1 : z1.oneCell' = true) (hz2 : z2.oneCell' = true) (hz3 : z3.oneCell' = true)
  (hown : OwM W B v us) (hB : B <= W.heap.size) (hm : us.length <= 100000000)
  (h : ∀ g' cap' w', OwM w' B (.slice (some ⟨g', 0, none⟩) (us.length + 3) cap') (us ++ [z1, z2, z3]) -> Below B W w' -> W.grownBy w' v.ownBlock -> wpList Tryz.prog ops Q rest (a.put o.dst (.slice (some ⟨g', 0, none⟩) (us.length + 3) cap')) w') :
  wpList Tryz.prog ops Q (o :: rest) a (W.alloc (.cells #[z1, z2, z3] 27)) := by
 subst hH
 obtain ⟨i0, hi, hz0, hzs, hzb⟩ := info_parts infoM
 refine wpList_append_lies (W.alloc (.cells #[z1, z2, z3] 27)) hgd s x 45 ho B 27 i0 (.slice none 0 0) 1 24 Tryz.underlying45 hi hz0 hzs hzb rfl (by decide) v us.length us hs (World.ownsRow.alloc hown _) ⟨W.heap.size, 0, none⟩ 3 c [z1, z2, z3] hx rfl ?_ ?_ (by decide) (by simp only [maxLen]; omega) (by omega) (by simp; omega) _ rfl ?_
 ·intro j u hu
  rw [addz]
  rcases j with _ | _ | _ | j
  ·simp at hu; subst hu; simp [go_sem]
  ·simp at hu; subst hu; simp [go_sem]
  ·simp at hu; subst hu; simp [go_sem]
  ·simp at hu
 ·intro u hu
  simp at hu
  rcases hu with rfl | rfl | rfl <;> assumption
 ·intro g cap w' h1 h2 _ _
  refine h g cap w' (by simpa [OwM] using h1) (((Below.refl B W).alloc hB _).grown h2 (by simp; omega) fun k hk => (World.ownsRow.lt hown k hk).1) ⟨h2.os, h2.tape, h2.output, by have := h2.size; simp at this; omega, fun k hk hne => ?_⟩
  rw [h2.block k (by simp; omega) hne]
  exact Below.heap_alloc _ _ _ hk
end
theorem chkm1_c {p : Int} {x m : Value} {q : Nat} {st : List Int} {M : List (List Int)} {w : World} (h0 : w.cell? ⟨q, 0, none⟩ = some (.int .i64 p)) (h1 : w.cell? ⟨q, 1, none⟩ = some x) (hd : Dok p st) (hx : El w x st) (hr : Re w m M) (hm : Msz M) :
  Calls Tryz.prog 79 #[m, .pointer (some ⟨q, 0, none⟩)] w fun e w' => e = .returned (.bool (!matB p (sz st.length) M)) /\ Below w.heap.size w w' := by
 obtain ⟨a, c, rfl, _⟩ := id hx.op
 obtain ⟨ar, cr, rfl, _⟩ := id hr
 have hcon := fun W h1 h2 => ismatrix_c (w := W) (p := p) (s := .slice a st.length c) (m := .slice ar M.length cr) hd h1 h2 hm.h3 hm.h2
 obtain ⟨b, hb⟩ : ∃ b, b = matB p (sz st.length) M := ⟨_, rfl⟩
 simp only [<- hb] at hcon ⊢
 clear hb
 go_enter Tryz.func79, Tryz.ntmps79
 go_wp2_with fail
 refine (hcon _ hx hr).mono ?_; rintro e w1 ⟨rfl, hb1⟩
 go_wp2_with fail
 go_ret
 exact ⟨rfl, hb1⟩
theorem idxm_c {p : Int} {x l : Value} {q : Nat} {st : List Int} {Ms : List (List (List Int))} {w : World} (h0 : w.cell? ⟨q, 0, none⟩ = some (.int .i64 p)) (h1 : w.cell? ⟨q, 1, none⟩ = some x) (hd : Dok p st) (hx : El w x st) (hl : Ml w l Ms)
  (hm1 : Ms.length <= 1048576) (hm : ∀ M ∈ Ms, Msz M) :
  Calls Tryz.prog 106 #[l, .func (Fn.func 79) #[] #[.pointer (some ⟨q, 0, none⟩)]] w fun e w' =>
   ∃ k : Int, e = .returned (.int .i64 k) /\ Found k (!Ms.all (matB p (sz st.length))) /\ -1 <= k /\ k <= 1048576 /\ Below w.heap.size w w' := by
 obtain ⟨b, c, rfl, hl⟩ := hl
 go_enter Tryz.func106, Tryz.ntmps106
 go_wp2
 go_loopw [8] (fun i wr => ∃ k : Nat, k <= Ms.length /\ i = .int .i64 k /\ (Ms.take k).all (matB p (sz st.length)) = true /\ Below w.heap.size w wr) (fun i _ => Ms.length - (intOf i).toNat)
 case atStart => exact ⟨0, Nat.zero_le _, rfl, rfl, Below.refl _ _⟩
 case round =>
  obtain ⟨k, hk, rfl, hr, hb⟩ := hrel
  by_cases hlt : k < Ms.length
  ·obtain ⟨a1, c1, M, hM, hc0, hs0, ht⟩ := Ml.get hl hlt
   have hc := kept hb hc0
   have hs := hs0.below hb
   have g0 := kept hb h0
   have g1 := kept hb h1
   have gx := hx.below hb
   have hmx := hm M hM
   have H := Lib.hid (And.intro (all_snoc hr ht) (@all_no _ (matB p (sz st.length)) _ _ hM)); clear hr ht
   cases hv : matB p (sz st.length) M
   ·go_wp2_with (go_at_call 79; refine (chkm1_c g0 g1 hd gx hs hmx).mono ?_; rintro e w1 ⟨rfl, hb1⟩; simp only [hv])
    go_ret
    exact ⟨_, rfl, by rw [H.out.2 hv]; unfold Found; simp, by omega, by omega, bwC hb hb1⟩
   ·go_wp2_with (go_at_call 79; refine (chkm1_c g0 g1 hd gx hs hmx).mono ?_; rintro e w1 ⟨rfl, hb1⟩; simp only [hv])
    go_roundw
    case rel => exact ⟨k + 1, by omega, by go_num, by rw [H.out.1, hv], bwC hb hb1⟩
    case measure => simp [intOf]; omega
  ·have e : Ms.take k = Ms := take_all (by omega)
   rw [e] at hr
   have H := Lib.hid hr; clear hr e
   go_wp2
   go_ret
   exact ⟨_, rfl, by rw [H.out]; unfold Found; rfl, by decide, by decide, hb⟩
theorem conm_c {p : Int} {x l : Value} {q : Nat} {st : List Int} {Ms : List (List (List Int))} {w : World} (h0 : w.cell? ⟨q, 0, none⟩ = some (.int .i64 p)) (h1 : w.cell? ⟨q, 1, none⟩ = some x) (hd : Dok p st) (hx : El w x st) (hl : Ml w l Ms)
  (hm1 : Ms.length <= 1048576) (hm : ∀ M ∈ Ms, Msz M) :
  Calls Tryz.prog 78 #[l, .func (Fn.func 79) #[] #[.pointer (some ⟨q, 0, none⟩)]] w fun e w' =>
   e = .returned (.bool (!Ms.all (matB p (sz st.length)))) /\ Below w.heap.size w w' := by
 obtain ⟨a2, c2, rfl, _⟩ := id hl
 go_enter Tryz.func78, Tryz.ntmps78
 go_wp2_with (go_at_call 106; refine (idxm_c h0 h1 hd hx hl hm1 hm).mono ?_; rintro e w1 ⟨k, rfl, hk, hk1, hk2, hb1⟩; unfold Found at hk; have H := Lib.hid hk; clear hk)
 go_ret
 exact ⟨by rw [<- H.out]; rfl, hb1⟩
theorem chkt_c {p : Int} {x l : Value} {st : List Int} {Ms : List (List (List Int))} {w : World} (hx : El w x st) (hl : Ml w l Ms) (hm : st.length <= 1048576) (hm1 : Ms.length <= 1000) (hm2 : ∀ M ∈ Ms, Msz M) :
  Calls Tryz.prog 39 #[.agg #[.int .i64 p, x], .slice none 0 0, l] w fun e w' => e = .returned (.int .i64 (chkT p st Ms)) /\ Below w.heap.size w w' := by
 obtain ⟨a, c, rfl, _⟩ := id hx.op
 obtain ⟨a2, c2, rfl, _⟩ := id hl
 have hx1 := hx.below (w' := w.alloc (.cells #[.int .i64 p, .slice a st.length c] 26)) bwT
 have hl1 := hl.below (w' := w.alloc (.cells #[.int .i64 p, .slice a st.length c] 26)) bwT
 cases h1 : isD p st
 ·rw [show chkT p st Ms = 1 by unfold chkT; rw [chk3_no h1]; rfl]
  go_enter Tryz.func39, Tryz.ntmps39
  go_wp2_with (go_at_call 76; refine (isdbl_c hx1.sl hm).mono ?_; rintro e w1 ⟨rfl, hb1⟩; simp only [h1])
  go_ret
  exact ⟨rfl, bwT⟩
 by_cases h2 : 3 < st.length
 ·rw [show chkT p st Ms = 3 by unfold chkT; rw [chk3_lim h1 h2]; rfl]
  go_enter Tryz.func39, Tryz.ntmps39
  go_wp2_with (go_at_call 76; refine (isdbl_c hx1.sl hm).mono ?_; rintro e w1 ⟨rfl, hb1⟩; simp only [h1]; obtain ⟨d0, d1⟩ := boxed hb1)
  go_ret
  exact ⟨rfl, bwT⟩
 have hd : Dok p st := chk3_dok (chk3_ok h1 h2 rfl)
 have hv := chkE_ok (xss := []) h1 rfl
 have hT : chkT p st Ms = if Ms.all (matB p (sz st.length)) = true then 0 else 2 := by unfold chkT; rw [chk3_ok h1 h2 rfl]; rfl
 have hcon := fun W q h0 h1 h2 h3 => conm_c (w := W) (q := q) (p := p) (x := .slice a st.length c) (l := .slice (some ⟨a2, 0, none⟩) Ms.length c2) h0 h1 hd h2 h3 (by omega) hm2
 rw [hT]
 clear hT
 obtain ⟨b, hb⟩ : ∃ b, b = Ms.all (matB p (sz st.length)) := ⟨_, rfl⟩
 simp only [<- hb] at hcon ⊢
 clear hb
 have hel := fun W h1 => chkel_c (w := W) (p := p) (x := .slice a st.length c) h1 (Re.nil W) hm (by simp) (fun xs h => by simp at h)
 simp only [hv] at hel
 clear hv
 cases b
 all_goals
  go_enter Tryz.func39, Tryz.ntmps39
  go_wp2_with fail
  refine (isdbl_c hx1.sl hm).mono ?_; rintro e w1 ⟨rfl, hb1⟩; simp only [h1]; obtain ⟨d0, d1⟩ := boxed hb1
  have hx2 := hx1.below hb1; have hl2 := hl1.below hb1
  go_wp2_with fail
  refine (hel _ hx2).mono ?_; rintro e w3 ⟨rfl, hb3⟩
  have d0 := kept hb3 d0; have d1 := kept hb3 d1
  go_wp2_with fail
  refine (hcon _ _ d0 d1 (hx2.below hb3) (hl2.below hb3)).mono ?_; rintro e w4 ⟨rfl, hb4⟩
  go_wp2_with fail
  go_ret
  exact ⟨rfl, bwT⟩
set_option maxHeartbeats 1000000 in
theorem chktr_c {p : Int} {x a b c : Value} {bl k : Nat} {st : List Int} {A B C : List (List Int)} {w : World} (hx : El w x st) (h0 : w.cell? ⟨bl, 0, none⟩ = some a) (h1 : w.cell? ⟨bl, 1, none⟩ = some b) (h2 : w.cell? ⟨bl, 2, none⟩ = some c)
  (hA : Re w a A) (hB : Re w b B) (hC : Re w c C) (hm : st.length <= 1048576) (hz : Tsz A B C) :
  Calls Tryz.prog 18 #[.agg #[.int .i64 p, x], .slice (some ⟨bl, 0, none⟩) 1 k] w fun e w' => e = .returned (.int .i64 (chkT p st [A, B, C])) /\ Below w.heap.size w w' := by
 obtain ⟨a0, c0, rfl, _⟩ := id hx.op
 obtain ⟨a1, c1, rfl, _⟩ := id hA
 obtain ⟨a2, c2, rfl, _⟩ := id hB
 obtain ⟨a3, c3, rfl, _⟩ := id hC
 have hcon := fun W l h1 h2 => chkt_c (w := W) (p := p) (x := .slice a0 st.length c0) (l := l) (Ms := [A, B, C]) h1 h2 hm (by simp) (fun M hM => by simp at hM; rcases hM with rfl | rfl | rfl; exact hz.a; exact hz.b; exact hz.c)
 obtain ⟨r, hr⟩ : ∃ r, r = chkT p st [A, B, C] := ⟨_, rfl⟩
 simp only [<- hr] at hcon ⊢
 clear hr
 have hxo := hx; have hAo := hA; have hBo := hB; have hCo := hC
 go_enter Tryz.func18, Tryz.ntmps18
 have hb0 : Below w.heap.size w (w.alloc (.cells #[.int .i64 p, .slice a0 st.length c0] 26)) := bwT
 have hx := hx.below hb0; have hA := hA.below hb0; have hB := hB.below hb0; have hC := hC.below hb0; have h0 := kept hb0 h0; have h1 := kept hb0 h1; have h2 := kept hb0 h2
 have d0 : (w.alloc (.cells #[.int .i64 p, .slice a0 st.length c0] 26)).cell? ⟨w.heap.size, 0, none⟩ = some (.int .i64 p) := by simp [go_sem]
 have d1 : (w.alloc (.cells #[.int .i64 p, .slice a0 st.length c0] 26)).cell? ⟨w.heap.size, 1, none⟩ = some (.slice a0 st.length c0) := by simp [go_sem]
 have hO : OwM ((w.alloc (.cells #[.int .i64 p, .slice a0 st.length c0] 26)).alloc (.cells #[] 27)) w.heap.size (.slice (some ⟨w.heap.size + 1, 0, none⟩) 0 0) [] := by
  have h := OwM.new (w := w.alloc (.cells #[.int .i64 p, .slice a0 st.length c0] 26)) (B := w.heap.size) (by simp)
  simpa using h
 have hb1 : Below (w.alloc (.cells #[.int .i64 p, .slice a0 st.length c0] 26)).heap.size (w.alloc (.cells #[.int .i64 p, .slice a0 st.length c0] 26)) ((w.alloc (.cells #[.int .i64 p, .slice a0 st.length c0] 26)).alloc (.cells #[] 27)) := bwT
 have hx := hx.below hb1; have hA := hA.below hb1; have hB := hB.below hb1; have hC := hC.below hb1; have h0 := kept hb1 h0; have h1 := kept hb1 h1; have h2 := kept hb1 h2; have d0 := kept hb1 d0; have d1 := kept hb1 d1
 have hzz : ((w.alloc (.cells #[.int .i64 p, .slice a0 st.length c0] 26)).alloc (.cells #[] 27)).heap.size = w.heap.size + 1 + 1 := by simp
 go_wp2_with fail
 obtain ⟨u, hu⟩ : ∃ u, u = (w.alloc (.cells #[.int .i64 p, .slice a0 st.length c0] 26)).alloc (.cells #[] 27) := ⟨_, rfl⟩
 have hbu : Below w.heap.size w u := by rw [hu]; exact bwT
 rw [<- hu] at hx hA hB hC h0 h1 h2 d0 d1 hO hzz ⊢
 have HZ := Lib.hid hzz
 clear hu hzz
 obtain ⟨W, hW⟩ : ∃ W, W = u.alloc (.cells #[.slice a1 A.length c1, .slice a2 B.length c2, .slice a3 C.length c3] 29) := ⟨_, rfl⟩
 have hbW : Below u.heap.size u W := by rw [hW]; exact bwT
 have hOW := hO.below hbW
 have d0W := kept hbW d0; have d1W := kept hbW d1
 have hB0 : w.heap.size <= W.heap.size := by have := hbu.size; have := hbW.size; omega
 have HW := Lib.hid hW
 refine wp_loop_rounds 2 ?_; rw [rounds_succ]
 go_wp2_with (at_builtin; rw [<- HW.out]; refine appm_three rfl _ _ rfl W w.heap.size (u.heap.size + 1) (by rw [HW.out]; simp) (.slice (some ⟨w.heap.size + 1, 0, none⟩) 0 0) [] rfl (.slice a1 A.length c1) (.slice a2 B.length c2) (.slice a3 C.length c3) 3 rfl rfl rfl rfl hOW hB0 (by simp) ?_; intro g' cap' w' ho' hb' hg')
 have d0 := farc hg' d0W (by intro e; have e2 : w.heap.size = w.heap.size + 1 := Option.some.inj e; omega)
 have d1 := farc hg' d1W (by intro e; have e2 : w.heap.size = w.heap.size + 1 := Option.some.inj e; omega)
 have hbz : Below w.heap.size w w' := ((show Below w.heap.size w W from bwC hbu hbW)).trans hb'
 have hxz := hxo.below hbz; have hAz := hAo.below hbz; have hBz := hBo.below hbz; have hCz := hCo.below hbz
 have hM : Ml w' (.slice (some ⟨g', 0, none⟩) 3 cap') [A, B, C] := by
  refine ⟨g', cap', rfl, fun j hj => ?_⟩
  have hc := World.ownsRow.cells ho' (g := g') rfl
  simp at hj
  rcases (show j = 0 \/ j = 1 \/ j = 2 by omega) with rfl | rfl | rfl
  ·have := hc 0 _ rfl; rw [addz] at this; exact ⟨_, this, hAz⟩
  ·have := hc 1 _ rfl; rw [addz] at this; exact ⟨_, this, hBz⟩
  ·have := hc 2 _ rfl; rw [addz] at this; exact ⟨_, this, hCz⟩
 clear hx hA hB hC h0 h1 h2 hO hOW d0W d1W
 rw [rounds_succ]
 go_wp2_with fail
 refine (hcon _ _ hxz hM).mono ?_; rintro e w9 ⟨rfl, hb9⟩
 go_wp2_with fail
 go_ret
 exact ⟨rfl, bwC hbz hb9⟩
set_option maxHeartbeats 1000000 in
theorem sl15t_c {p : Int} {x a b c : Value} {bl k : Nat} {st : List Int} {A B C : List (List Int)} {w : World} (hx : El w x st) (h0 : w.cell? ⟨bl, 0, none⟩ = some a) (h1 : w.cell? ⟨bl, 1, none⟩ = some b) (h2 : w.cell? ⟨bl, 2, none⟩ = some c)
  (hA : Re w a A) (hB : Re w b B) (hC : Re w c C) (hm : st.length <= 1048576) (hz : Tsz A B C) :
  Calls Tryz.prog 24 #[.agg #[.int .i64 p, x], .slice (some ⟨bl, 0, none⟩) 1 k] w fun e w' => e = .returned (.int .i64 (chkT p st [A, B, C])) /\ Below w.heap.size w w' := by
 obtain ⟨a0, c0, rfl, _⟩ := id hx.op
 obtain ⟨a1, c1, rfl, _⟩ := id hA
 obtain ⟨a2, c2, rfl, _⟩ := id hB
 obtain ⟨a3, c3, rfl, _⟩ := id hC
 have hcon := fun W h => sl14_c (w := W) (p := p) (x := .slice a0 st.length c0) h hm
 by_cases hk : chk3 p st [] = 0
 case neg =>
  rw [show chkT p st [A, B, C] = chk3 p st [] from if_neg hk]
  obtain ⟨r, hr⟩ : ∃ r, r = chk3 p st [] := ⟨_, rfl⟩
  simp only [<- hr] at hcon hk ⊢
  clear hr
  have hne : (r == 0) = false := by simpa using hk
  go_enter Tryz.func24, Tryz.ntmps24
  have hb0 : Below w.heap.size w (w.alloc (.cells #[.int .i64 p, .slice a0 st.length c0] 26)) := bwT
  have hx := hx.below hb0
  have d0 : (w.alloc (.cells #[.int .i64 p, .slice a0 st.length c0] 26)).cell? ⟨w.heap.size, 0, none⟩ = some (.int .i64 p) := by simp [go_sem]
  have d1 : (w.alloc (.cells #[.int .i64 p, .slice a0 st.length c0] 26)).cell? ⟨w.heap.size, 1, none⟩ = some (.slice a0 st.length c0) := by simp [go_sem]
  go_wp2_with fail
  refine (hcon _ hx).mono ?_; rintro e w1 ⟨rfl, hb1⟩
  have hx := hx.below hb1; have d0 := kept hb1 d0; have d1 := kept hb1 d1
  go_wp2_with fail
  go_ret
  exact ⟨rfl, bwT⟩
 have hd := chk3_dok hk
 have hT : chkT p st [A, B, C] = if (matB p (sz st.length) A && (matB p (sz st.length) B && matB p (sz st.length) C)) = true then 0 else 2 := by
  unfold chkT
  rw [if_pos hk]
  simp only [List.all_cons, List.all_nil, Bool.and_true]
 simp only [hk] at hcon
 have kA := fun W h1 h2 => smatrix_c (w := W) (p := p) (s := .slice a0 st.length c0) (m := .slice a1 A.length c1) hd h1 h2 hz.a.h3 hz.a.h2
 have kB := fun W h1 h2 => smatrix_c (w := W) (p := p) (s := .slice a0 st.length c0) (m := .slice a2 B.length c2) hd h1 h2 hz.b.h3 hz.b.h2
 have kC := fun W h1 h2 => smatrix_c (w := W) (p := p) (s := .slice a0 st.length c0) (m := .slice a3 C.length c3) hd h1 h2 hz.c.h3 hz.c.h2
 rw [hT]
 obtain ⟨zA, hzA⟩ : ∃ z, z = matB p (sz st.length) A := ⟨_, rfl⟩
 obtain ⟨zB, hzB⟩ : ∃ z, z = matB p (sz st.length) B := ⟨_, rfl⟩
 obtain ⟨zC, hzC⟩ : ∃ z, z = matB p (sz st.length) C := ⟨_, rfl⟩
 simp only [<- hzA] at kA ⊢; simp only [<- hzB] at kB ⊢; simp only [<- hzC] at kC ⊢
 clear hT hzA hzB hzC hk
 cases zA with
 | false =>
  rw [if_neg (by simp)]
  go_enter Tryz.func24, Tryz.ntmps24
  have hb0 : Below w.heap.size w (w.alloc (.cells #[.int .i64 p, .slice a0 st.length c0] 26)) := bwT
  have hx := hx.below hb0; have hA := hA.below hb0; have h0 := kept hb0 h0; have h1 := kept hb0 h1; have h2 := kept hb0 h2
  have d0 : (w.alloc (.cells #[.int .i64 p, .slice a0 st.length c0] 26)).cell? ⟨w.heap.size, 0, none⟩ = some (.int .i64 p) := by simp [go_sem]
  have d1 : (w.alloc (.cells #[.int .i64 p, .slice a0 st.length c0] 26)).cell? ⟨w.heap.size, 1, none⟩ = some (.slice a0 st.length c0) := by simp [go_sem]
  go_wp2_with fail
  refine (hcon _ hx).mono ?_; rintro e w1 ⟨rfl, hb1⟩
  have hx := hx.below hb1; have hA := hA.below hb1; have h0 := kept hb1 h0; have h1 := kept hb1 h1; have h2 := kept hb1 h2; have d0 := kept hb1 d0; have d1 := kept hb1 d1
  go_wp2_with fail
  refine wp_loop_rounds 2 ?_; rw [rounds_succ]
  go_wp2_with fail
  refine region_flowP [(6, 0, []), (6, 5, []), (15, 0, [8, 6]), (15, 5, [8, 6]), (15, 9, []), (15, 14, []), (25, 0, [18, 15, 8, 6]), (25, 5, [18, 15, 8, 6]), (25, 9, [18, 15]), (25, 14, [18, 15]), (25, 19, []), (25, 24, [])] [(false, [(0, 1), (1, 0), (2, 0), (3, 0), (4, 0), (5, 1), (6, 4), (7, 0), (8, 0), (9, 1), (10, 0), (11, 0), (12, 0), (13, 0), (14, 1), (15, 4), (16, 0), (17, 0), (18, 0), (19, 1), (20, 0), (21, 0), (22, 0), (23, 0), (24, 1), (25, 4), (26, 0), (27, 0)])] (by kernel_rfl) ?_
  refine norm_K fun K hK => ?_
  change wpList _ _ _ [_, _, _, _, _, _, _, _, _, _, _, _, _, _, _, _, _, _, _, _, _, _, _, _, _, _, _, _] _ _
  have hb2 : Below w1.heap.size w1 w1.drew := bwT
  have hx := hx.below hb2; have hA := hA.below hb2; have h0 := kept hb2 h0; have h1 := kept hb2 h1; have h2 := kept hb2 h2; have d0 := kept hb2 d0; have d1 := kept hb2 d1
  generalize w1.drew = wq at *
  go_wp2_with fail
  refine (kA _ hx hA).mono ?_; rintro e w3 ⟨rfl, hb3⟩
  have hx := hx.below hb3; have hA := hA.below hb3; have h0 := kept hb3 h0; have h1 := kept hb3 h1; have h2 := kept hb3 h2; have d0 := kept hb3 d0; have d1 := kept hb3 d1
  go_wp2_with fail
  first | (refine hK _ _ ⟨rfl, ?_⟩; clear hK K) | refine ⟨rfl, ?_⟩
  go_wp2_with fail
  go_ret
  exact ⟨rfl, bwT⟩
 | true =>
  cases zB with
  | false =>
   rw [if_neg (by simp)]
   go_enter Tryz.func24, Tryz.ntmps24
   have hb0 : Below w.heap.size w (w.alloc (.cells #[.int .i64 p, .slice a0 st.length c0] 26)) := bwT
   have hx := hx.below hb0; have hA := hA.below hb0; have hB := hB.below hb0; have h0 := kept hb0 h0; have h1 := kept hb0 h1; have h2 := kept hb0 h2
   have d0 : (w.alloc (.cells #[.int .i64 p, .slice a0 st.length c0] 26)).cell? ⟨w.heap.size, 0, none⟩ = some (.int .i64 p) := by simp [go_sem]
   have d1 : (w.alloc (.cells #[.int .i64 p, .slice a0 st.length c0] 26)).cell? ⟨w.heap.size, 1, none⟩ = some (.slice a0 st.length c0) := by simp [go_sem]
   go_wp2_with fail
   refine (hcon _ hx).mono ?_; rintro e w1 ⟨rfl, hb1⟩
   have hx := hx.below hb1; have hA := hA.below hb1; have hB := hB.below hb1; have h0 := kept hb1 h0; have h1 := kept hb1 h1; have h2 := kept hb1 h2; have d0 := kept hb1 d0; have d1 := kept hb1 d1
   go_wp2_with fail
   refine wp_loop_rounds 2 ?_; rw [rounds_succ]
   go_wp2_with fail
   refine region_flowP [(6, 0, []), (6, 5, []), (15, 0, [8, 6]), (15, 5, [8, 6]), (15, 9, []), (15, 14, []), (25, 0, [18, 15, 8, 6]), (25, 5, [18, 15, 8, 6]), (25, 9, [18, 15]), (25, 14, [18, 15]), (25, 19, []), (25, 24, [])] [(false, [(0, 1), (1, 0), (2, 0), (3, 0), (4, 0), (5, 1), (6, 4), (7, 0), (8, 0), (9, 1), (10, 0), (11, 0), (12, 0), (13, 0), (14, 1), (15, 4), (16, 0), (17, 0), (18, 0), (19, 1), (20, 0), (21, 0), (22, 0), (23, 0), (24, 1), (25, 4), (26, 0), (27, 0)])] (by kernel_rfl) ?_
   refine norm_K fun K hK => ?_
   change wpList _ _ _ [_, _, _, _, _, _, _, _, _, _, _, _, _, _, _, _, _, _, _, _, _, _, _, _, _, _, _, _] _ _
   have hb2 : Below w1.heap.size w1 w1.drew := bwT
   have hx := hx.below hb2; have hA := hA.below hb2; have hB := hB.below hb2; have h0 := kept hb2 h0; have h1 := kept hb2 h1; have h2 := kept hb2 h2; have d0 := kept hb2 d0; have d1 := kept hb2 d1
   generalize w1.drew = wq at *
   go_wp2_with fail
   refine (kA _ hx hA).mono ?_; rintro e w3 ⟨rfl, hb3⟩
   have hx := hx.below hb3; have hA := hA.below hb3; have hB := hB.below hb3; have h0 := kept hb3 h0; have h1 := kept hb3 h1; have h2 := kept hb3 h2; have d0 := kept hb3 d0; have d1 := kept hb3 d1
   go_wp2_with fail
   refine (kB _ hx hB).mono ?_; rintro e w4 ⟨rfl, hb4⟩
   have hx := hx.below hb4; have hA := hA.below hb4; have hB := hB.below hb4; have h0 := kept hb4 h0; have h1 := kept hb4 h1; have h2 := kept hb4 h2; have d0 := kept hb4 d0; have d1 := kept hb4 d1
   go_wp2_with fail
   first | (refine hK _ _ ⟨rfl, ?_⟩; clear hK K) | refine ⟨rfl, ?_⟩
   go_wp2_with fail
   go_ret
   exact ⟨rfl, bwT⟩
  | true =>
   cases zC with
   | false =>
    rw [if_neg (by simp)]
    go_enter Tryz.func24, Tryz.ntmps24
    have hb0 : Below w.heap.size w (w.alloc (.cells #[.int .i64 p, .slice a0 st.length c0] 26)) := bwT
    have hx := hx.below hb0; have hA := hA.below hb0; have hB := hB.below hb0; have hC := hC.below hb0; have h0 := kept hb0 h0; have h1 := kept hb0 h1; have h2 := kept hb0 h2
    have d0 : (w.alloc (.cells #[.int .i64 p, .slice a0 st.length c0] 26)).cell? ⟨w.heap.size, 0, none⟩ = some (.int .i64 p) := by simp [go_sem]
    have d1 : (w.alloc (.cells #[.int .i64 p, .slice a0 st.length c0] 26)).cell? ⟨w.heap.size, 1, none⟩ = some (.slice a0 st.length c0) := by simp [go_sem]
    go_wp2_with fail
    refine (hcon _ hx).mono ?_; rintro e w1 ⟨rfl, hb1⟩
    have hx := hx.below hb1; have hA := hA.below hb1; have hB := hB.below hb1; have hC := hC.below hb1; have h0 := kept hb1 h0; have h1 := kept hb1 h1; have h2 := kept hb1 h2; have d0 := kept hb1 d0; have d1 := kept hb1 d1
    go_wp2_with fail
    refine wp_loop_rounds 2 ?_; rw [rounds_succ]
    go_wp2_with fail
    refine region_flowP [(6, 0, []), (6, 5, []), (15, 0, [8, 6]), (15, 5, [8, 6]), (15, 9, []), (15, 14, []), (25, 0, [18, 15, 8, 6]), (25, 5, [18, 15, 8, 6]), (25, 9, [18, 15]), (25, 14, [18, 15]), (25, 19, []), (25, 24, [])] [(false, [(0, 1), (1, 0), (2, 0), (3, 0), (4, 0), (5, 1), (6, 4), (7, 0), (8, 0), (9, 1), (10, 0), (11, 0), (12, 0), (13, 0), (14, 1), (15, 4), (16, 0), (17, 0), (18, 0), (19, 1), (20, 0), (21, 0), (22, 0), (23, 0), (24, 1), (25, 4), (26, 0), (27, 0)])] (by kernel_rfl) ?_
    refine norm_K fun K hK => ?_
    change wpList _ _ _ [_, _, _, _, _, _, _, _, _, _, _, _, _, _, _, _, _, _, _, _, _, _, _, _, _, _, _, _] _ _
    have hb2 : Below w1.heap.size w1 w1.drew := bwT
    have hx := hx.below hb2; have hA := hA.below hb2; have hB := hB.below hb2; have hC := hC.below hb2; have h0 := kept hb2 h0; have h1 := kept hb2 h1; have h2 := kept hb2 h2; have d0 := kept hb2 d0; have d1 := kept hb2 d1
    generalize w1.drew = wq at *
    go_wp2_with fail
    refine (kA _ hx hA).mono ?_; rintro e w3 ⟨rfl, hb3⟩
    have hx := hx.below hb3; have hA := hA.below hb3; have hB := hB.below hb3; have hC := hC.below hb3; have h0 := kept hb3 h0; have h1 := kept hb3 h1; have h2 := kept hb3 h2; have d0 := kept hb3 d0; have d1 := kept hb3 d1
    go_wp2_with fail
    refine (kB _ hx hB).mono ?_; rintro e w4 ⟨rfl, hb4⟩
    have hx := hx.below hb4; have hA := hA.below hb4; have hB := hB.below hb4; have hC := hC.below hb4; have h0 := kept hb4 h0; have h1 := kept hb4 h1; have h2 := kept hb4 h2; have d0 := kept hb4 d0; have d1 := kept hb4 d1
    go_wp2_with fail
    refine (kC _ hx hC).mono ?_; rintro e w5 ⟨rfl, hb5⟩
    have hx := hx.below hb5; have hA := hA.below hb5; have hB := hB.below hb5; have hC := hC.below hb5; have h0 := kept hb5 h0; have h1 := kept hb5 h1; have h2 := kept hb5 h2; have d0 := kept hb5 d0; have d1 := kept hb5 d1
    go_wp2_with fail
    first | (refine hK _ _ ⟨rfl, ?_⟩; clear hK K) | refine ⟨rfl, ?_⟩
    go_wp2_with fail
    go_ret
    exact ⟨rfl, bwT⟩
   | true =>
    rw [if_pos (by simp)]
    go_enter Tryz.func24, Tryz.ntmps24
    have hb0 : Below w.heap.size w (w.alloc (.cells #[.int .i64 p, .slice a0 st.length c0] 26)) := bwT
    have hx := hx.below hb0; have hA := hA.below hb0; have hB := hB.below hb0; have hC := hC.below hb0; have h0 := kept hb0 h0; have h1 := kept hb0 h1; have h2 := kept hb0 h2
    have d0 : (w.alloc (.cells #[.int .i64 p, .slice a0 st.length c0] 26)).cell? ⟨w.heap.size, 0, none⟩ = some (.int .i64 p) := by simp [go_sem]
    have d1 : (w.alloc (.cells #[.int .i64 p, .slice a0 st.length c0] 26)).cell? ⟨w.heap.size, 1, none⟩ = some (.slice a0 st.length c0) := by simp [go_sem]
    go_wp2_with fail
    refine (hcon _ hx).mono ?_; rintro e w1 ⟨rfl, hb1⟩
    have hx := hx.below hb1; have hA := hA.below hb1; have hB := hB.below hb1; have hC := hC.below hb1; have h0 := kept hb1 h0; have h1 := kept hb1 h1; have h2 := kept hb1 h2; have d0 := kept hb1 d0; have d1 := kept hb1 d1
    go_wp2_with fail
    refine wp_loop_rounds 2 ?_; rw [rounds_succ]
    go_wp2_with fail
    refine region_flowP [(6, 0, []), (6, 5, []), (15, 0, [8, 6]), (15, 5, [8, 6]), (15, 9, []), (15, 14, []), (25, 0, [18, 15, 8, 6]), (25, 5, [18, 15, 8, 6]), (25, 9, [18, 15]), (25, 14, [18, 15]), (25, 19, []), (25, 24, [])] [(false, [(0, 1), (1, 0), (2, 0), (3, 0), (4, 0), (5, 1), (6, 4), (7, 0), (8, 0), (9, 1), (10, 0), (11, 0), (12, 0), (13, 0), (14, 1), (15, 4), (16, 0), (17, 0), (18, 0), (19, 1), (20, 0), (21, 0), (22, 0), (23, 0), (24, 1), (25, 4), (26, 0), (27, 0)])] (by kernel_rfl) ?_
    refine norm_K fun K hK => ?_
    change wpList _ _ _ [_, _, _, _, _, _, _, _, _, _, _, _, _, _, _, _, _, _, _, _, _, _, _, _, _, _, _, _] _ _
    have hb2 : Below w1.heap.size w1 w1.drew := bwT
    have hx := hx.below hb2; have hA := hA.below hb2; have hB := hB.below hb2; have hC := hC.below hb2; have h0 := kept hb2 h0; have h1 := kept hb2 h1; have h2 := kept hb2 h2; have d0 := kept hb2 d0; have d1 := kept hb2 d1
    generalize w1.drew = wq at *
    go_wp2_with fail
    refine (kA _ hx hA).mono ?_; rintro e w3 ⟨rfl, hb3⟩
    have hx := hx.below hb3; have hA := hA.below hb3; have hB := hB.below hb3; have hC := hC.below hb3; have h0 := kept hb3 h0; have h1 := kept hb3 h1; have h2 := kept hb3 h2; have d0 := kept hb3 d0; have d1 := kept hb3 d1
    go_wp2_with fail
    refine (kB _ hx hB).mono ?_; rintro e w4 ⟨rfl, hb4⟩
    have hx := hx.below hb4; have hA := hA.below hb4; have hB := hB.below hb4; have hC := hC.below hb4; have h0 := kept hb4 h0; have h1 := kept hb4 h1; have h2 := kept hb4 h2; have d0 := kept hb4 d0; have d1 := kept hb4 d1
    go_wp2_with fail
    refine (kC _ hx hC).mono ?_; rintro e w5 ⟨rfl, hb5⟩
    have hx := hx.below hb5; have hA := hA.below hb5; have hB := hB.below hb5; have hC := hC.below hb5; have h0 := kept hb5 h0; have h1 := kept hb5 h1; have h2 := kept hb5 h2; have d0 := kept hb5 d0; have d1 := kept hb5 d1
    go_wp2_with fail
    first | (refine hK _ _ ⟨rfl, ?_⟩; clear hK K) | refine ⟨rfl, ?_⟩
    go_wp2_with fail
    rw [rounds_succ]
    go_wp2_with fail
    go_ret
    exact ⟨rfl, bwT⟩
end Go.Proofs.YteaaepbnoiecoaaGreat
