/- Texts joined for a claim: DbB, DbS. -/
import Derived.Test.YteaaepbnoiecoaaGreatJae
namespace Go.Proofs.YteaaepbnoiecoaaGreat
open Go.RowKit
theorem chkel1_c {p : Int} {x y : Value} {q : Nat} {st xs : List Int} {w : World} (h0 : w.cell? ⟨q, 0, none⟩ = some (.int .i64 p)) (h1 : w.cell? ⟨q, 1, none⟩ = some x) (hx : El w x st) (hy : El w y xs) (hl : st.length <= 4) (hm : xs.length <= 1048576) (hp : 0 <= p) (hp2 : p <= 1000) :
  Calls Tryz.prog 105 #[y, .pointer (some ⟨q, 0, none⟩)] w fun e w' => e = .returned (.bool (!isE p (sz st.length) xs)) /\ Below w.heap.size w w' := by
 obtain ⟨a, c, rfl, _⟩ := id hx.op
 obtain ⟨a2, c2, rfl, _⟩ := id hy.op
 have hpw := pow_le hl
 by_cases hln : xs.length = sz st.length
 ·have e : isE p (sz st.length) xs = isL p xs := by simp [isE, hln]
  have E := Lib.hid e; clear e
  have hne : ((xs.length : Int) != ((sz st.length : Nat) : Int)) = false := by rw [hln]; simp
  have HN := Lib.hid hln; clear hln
  cases hv : isL p xs
  all_goals
   go_enter Tryz.func105, Tryz.ntmps105
   go_wp2_with fail
   refine (size_c hl).mono ?_; rintro e w1 ⟨rfl, hb1⟩
   have h0 := kept hb1 h0; have h1 := kept hb1 h1; have hy := hy.below hb1
   go_wp2_with fail
   refine dfield_c.mono ?_; rintro e w2 ⟨rfl, hb2⟩
   have h0 := kept hb2 h0; have h1 := kept hb2 h1; have hy := hy.below hb2
   go_wp2_with fail
   refine (is_c hp hp2 hy.sl hm).mono ?_; rintro e w3 ⟨rfl, rfl⟩
   simp only [hv]
   go_wp2_with fail
   go_ret
   exact ⟨by rw [E.out, hv]; rfl, bwT⟩
 ·have e : isE p (sz st.length) xs = false := by simp [isE, hln]
  have E := Lib.hid e; clear e
  have hne : ((xs.length : Int) != ((sz st.length : Nat) : Int)) = true := by rw [bne_iff_ne]; omega
  go_enter Tryz.func105, Tryz.ntmps105
  go_wp2_with fail
  refine (size_c hl).mono ?_; rintro e w1 ⟨rfl, hb1⟩
  go_wp2_with fail
  go_ret
  exact ⟨by rw [E.out]; rfl, bwT⟩
theorem idxel_c {p : Int} {x l : Value} {q : Nat} {st : List Int} {xss : List (List Int)} {w : World} (h0 : w.cell? ⟨q, 0, none⟩ = some (.int .i64 p)) (h1 : w.cell? ⟨q, 1, none⟩ = some x) (hx : El w x st) (hlen : st.length <= 4) (hl : Re w l xss)
  (hm1 : xss.length <= 1048576) (hm : ∀ xs ∈ xss, xs.length <= 1048576) (hp : 0 <= p) (hp2 : p <= 1000) :
  Calls Tryz.prog 69 #[l, .func (Fn.func 105) #[] #[.pointer (some ⟨q, 0, none⟩)]] w fun e w' =>
   ∃ k : Int, e = .returned (.int .i64 k) /\ Found k (!xss.all (isE p (sz st.length))) /\ -1 <= k /\ k <= 1048576 /\ Below w.heap.size w w' := by
 obtain ⟨a, c, rfl, _, _, rfl | ⟨b, off, rfl, hl⟩⟩ := hl
 ·go_enter Tryz.func69, Tryz.ntmps69
  go_wp2
  refine wp_loop_rounds 1 ?_; rw [rounds_succ]
  go_wp2; go_ret; exact ⟨_, rfl, (rfl : decide _ = _), by decide, by decide, Below.refl _ _⟩
 go_enter Tryz.func69, Tryz.ntmps69
 go_wp2
 go_loopw [8] (fun i wr => ∃ k : Nat, k <= xss.length /\ i = .int .i64 k /\ (xss.take k).all (isE p (sz st.length)) = true /\ Below w.heap.size w wr) (fun i _ => xss.length - (intOf i).toNat)
 case atStart => exact ⟨0, Nat.zero_le _, rfl, rfl, Below.refl _ _⟩
 case round =>
  obtain ⟨k, hk, rfl, hr, hb⟩ := hrel
  by_cases hlt : k < xss.length
  ·obtain ⟨a1, c1, xs, hxs, hc0, hs0, ht⟩ := Re.get hl hlt
   have hc := kept hb hc0
   have hs := hs0.below hb
   have g0 := kept hb h0
   have g1 := kept hb h1
   have gx := hx.below hb
   have hmx := hm xs hxs
   have H := Lib.hid (And.intro (all_snoc hr ht) (@all_no _ (isE p (sz st.length)) _ _ hxs)); clear hr ht
   cases hv : isE p (sz st.length) xs
   ·go_wp2_with (go_at_call 105; refine (chkel1_c g0 g1 gx hs hlen hmx hp hp2).mono ?_; rintro e w1 ⟨rfl, hb1⟩; simp only [hv])
    go_ret
    exact ⟨_, rfl, by rw [H.out.2 hv]; unfold Found; simp, by omega, by omega, bwC hb hb1⟩
   ·go_wp2_with (go_at_call 105; refine (chkel1_c g0 g1 gx hs hlen hmx hp hp2).mono ?_; rintro e w1 ⟨rfl, hb1⟩; simp only [hv])
    go_roundw
    case rel => exact ⟨k + 1, by omega, by go_num, by rw [H.out.1, hv], bwC hb hb1⟩
    case measure => simp [intOf]; omega
  ·have e : xss.take k = xss := take_all (by omega)
   rw [e] at hr
   have H := Lib.hid hr; clear hr e
   go_wp2
   go_ret
   exact ⟨_, rfl, by rw [H.out]; unfold Found; rfl, by decide, by decide, hb⟩
theorem conel_c {p : Int} {x l : Value} {q : Nat} {st : List Int} {xss : List (List Int)} {w : World} (h0 : w.cell? ⟨q, 0, none⟩ = some (.int .i64 p)) (h1 : w.cell? ⟨q, 1, none⟩ = some x) (hx : El w x st) (hlen : st.length <= 4) (hl : Re w l xss)
  (hm1 : xss.length <= 1048576) (hm : ∀ xs ∈ xss, xs.length <= 1048576) (hp : 0 <= p) (hp2 : p <= 1000) :
  Calls Tryz.prog 27 #[l, .func (Fn.func 105) #[] #[.pointer (some ⟨q, 0, none⟩)]] w fun e w' =>
   e = .returned (.bool (!xss.all (isE p (sz st.length)))) /\ Below w.heap.size w w' := by
 obtain ⟨a2, c2, rfl, _⟩ := id hl
 go_enter Tryz.func27, Tryz.ntmps27
 go_wp2_with (go_at_call 69; refine (idxel_c h0 h1 hx hlen hl hm1 hm hp hp2).mono ?_; rintro e w1 ⟨k, rfl, hk, hk1, hk2, hb1⟩; unfold Found at hk; have H := Lib.hid hk; clear hk)
 go_ret
 exact ⟨by rw [<- H.out]; rfl, hb1⟩
theorem chkel_c {p : Int} {x l : Value} {st : List Int} {xss : List (List Int)} {w : World} (hx : El w x st) (hl : Re w l xss) (hm : st.length <= 1048576) (hm1 : xss.length <= 1048576) (hm2 : ∀ xs ∈ xss, xs.length <= 1048576) :
  Calls Tryz.prog 77 #[.agg #[.int .i64 p, x], l] w fun e w' => e = .returned (.int .i64 (chkE p st xss)) /\ Below w.heap.size w w' := by
 obtain ⟨a, c, rfl, _⟩ := id hx.op
 obtain ⟨a2, c2, rfl, _⟩ := id hl
 have hx1 := hx.below (w' := w.alloc (.cells #[.int .i64 p, .slice a st.length c] 26)) bwT
 have hl1 := hl.below (w' := w.alloc (.cells #[.int .i64 p, .slice a st.length c] 26)) bwT
 obtain ⟨r, hr⟩ : ∃ r, r = chkE p st xss := ⟨_, rfl⟩
 rw [<- hr]
 unfold chkE at hr
 have H := Lib.hid hr; clear hr
 cases h1 : isD p st
 ·obtain rfl : r = 1 := by rw [H.out, h1]; rfl
  go_enter Tryz.func77, Tryz.ntmps77
  go_wp2_with (go_at_call 76; refine (isdbl_c hx1.sl hm).mono ?_; rintro e w1 ⟨rfl, hb1⟩; simp only [h1])
  go_ret
  exact ⟨rfl, bwT⟩
 ·obtain ⟨hp, hl4, _⟩ := isD_iff.1 h1
  have hp1 := hp.lo
  have hp2 := hp.hi
  cases h2 : xss.all (isE p (sz st.length))
  ·obtain rfl : r = 2 := by rw [H.out, h1, h2]; rfl
   go_enter Tryz.func77, Tryz.ntmps77
   go_wp2_with (first
    | (go_at_call 76; refine (isdbl_c hx1.sl hm).mono ?_; rintro e w1 ⟨rfl, hb1⟩; simp only [h1]; obtain ⟨d0, d1⟩ := boxed hb1)
    | (go_at_call 27; refine (conel_c d0 d1 (hx1.below hb1) hl4 (hl1.below hb1) hm1 hm2 (by omega) (by omega)).mono ?_; rintro e w2 ⟨rfl, hb2⟩; simp only [h2]))
   go_ret
   exact ⟨rfl, bwT⟩
  ·obtain rfl : r = 0 := by rw [H.out, h1, h2]; rfl
   go_enter Tryz.func77, Tryz.ntmps77
   go_wp2_with (first
    | (go_at_call 76; refine (isdbl_c hx1.sl hm).mono ?_; rintro e w1 ⟨rfl, hb1⟩; simp only [h1]; obtain ⟨d0, d1⟩ := boxed hb1)
    | (go_at_call 27; refine (conel_c d0 d1 (hx1.below hb1) hl4 (hl1.below hb1) hm1 hm2 (by omega) (by omega)).mono ?_; rintro e w2 ⟨rfl, hb2⟩; simp only [h2]))
   go_ret
   exact ⟨rfl, bwT⟩
theorem connil_c {f : Value} {w : World} :
  Calls Tryz.prog 78 #[.slice none 0 0, f] w fun e w' => e = .returned (.bool false) /\ w = w' := by
 have h : ∀ (w : World), Calls Tryz.prog 106 #[.slice none 0 0, f] w fun e w' => e = .returned (.int .i64 (-1)) /\ w = w' := fun w => by
  go_enter Tryz.func106, Tryz.ntmps106
  go_wp2
  refine wp_loop_rounds 1 ?_; rw [rounds_succ]
  go_wp2; go_ret; exact ⟨rfl, rfl⟩
 go_enter Tryz.func78, Tryz.ntmps78
 go_wp2_with (go_at_call 106; refine (h _).mono ?_; rintro e w1 ⟨rfl, rfl⟩)
 go_ret
 exact ⟨rfl, rfl⟩
theorem chk3_no {p : Int} {st : List Int} {xss : List (List Int)} (h : isD p st = false) : chk3 p st xss = 1 := by unfold chk3; rw [h]; rfl
theorem chk3_lim {p : Int} {st : List Int} {xss : List (List Int)} (h : isD p st = true) (h2 : 3 < st.length) : chk3 p st xss = 3 := by unfold chk3; rw [h, if_pos rfl, if_pos h2]
theorem chk3_ran {p : Int} {st : List Int} {xss : List (List Int)} (h : isD p st = true) (h2 : ¬ 3 < st.length) (h3 : xss.all (isE p (sz st.length)) = false) : chk3 p st xss = 2 := by unfold chk3; rw [h, if_pos rfl, if_neg h2, h3]; rfl
theorem chk3_ok {p : Int} {st : List Int} {xss : List (List Int)} (h : isD p st = true) (h2 : ¬ 3 < st.length) (h3 : xss.all (isE p (sz st.length)) = true) : chk3 p st xss = 0 := by unfold chk3; rw [h, if_pos rfl, if_neg h2, h3]; rfl
theorem chkE_no {p : Int} {st : List Int} {xss : List (List Int)} (h : isD p st = false) : chkE p st xss = 1 := by unfold chkE; rw [h]; rfl
theorem chkE_ran {p : Int} {st : List Int} {xss : List (List Int)} (h : isD p st = true) (h3 : xss.all (isE p (sz st.length)) = false) : chkE p st xss = 2 := by unfold chkE; rw [h, if_pos rfl, h3]; rfl
theorem chkE_ok {p : Int} {st : List Int} {xss : List (List Int)} (h : isD p st = true) (h3 : xss.all (isE p (sz st.length)) = true) : chkE p st xss = 0 := by unfold chkE; rw [h, if_pos rfl, h3]; rfl
theorem chk3_c {p : Int} {x l : Value} {st : List Int} {xss : List (List Int)} {w : World} (hx : El w x st) (hl : Re w l xss) (hm : st.length <= 1048576) (hm1 : xss.length <= 1048576) (hm2 : ∀ xs ∈ xss, xs.length <= 1048576) :
  Calls Tryz.prog 39 #[.agg #[.int .i64 p, x], l, .slice none 0 0] w fun e w' => e = .returned (.int .i64 (chk3 p st xss)) /\ Below w.heap.size w w' := by
 obtain ⟨a, c, rfl, _⟩ := id hx.op
 obtain ⟨a2, c2, rfl, _⟩ := id hl
 have hx1 := hx.below (w' := w.alloc (.cells #[.int .i64 p, .slice a st.length c] 26)) bwT
 have hl1 := hl.below (w' := w.alloc (.cells #[.int .i64 p, .slice a st.length c] 26)) bwT
 cases h1 : isD p st
 ·rw [chk3_no h1]
  go_enter Tryz.func39, Tryz.ntmps39
  go_wp2_with (go_at_call 76; refine (isdbl_c hx1.sl hm).mono ?_; rintro e w1 ⟨rfl, hb1⟩; simp only [h1])
  go_ret
  exact ⟨rfl, bwT⟩
 by_cases h2 : 3 < st.length
 ·rw [chk3_lim h1 h2]
  go_enter Tryz.func39, Tryz.ntmps39
  go_wp2_with (go_at_call 76; refine (isdbl_c hx1.sl hm).mono ?_; rintro e w1 ⟨rfl, hb1⟩; simp only [h1]; obtain ⟨d0, d1⟩ := boxed hb1)
  go_ret
  exact ⟨rfl, bwT⟩
 cases h3 : xss.all (isE p (sz st.length))
 ·have hv := chkE_ran h1 h3
  rw [chk3_ran h1 h2 h3]
  go_enter Tryz.func39, Tryz.ntmps39
  go_wp2_with (first
   | (go_at_call 76; refine (isdbl_c hx1.sl hm).mono ?_; rintro e w1 ⟨rfl, hb1⟩; simp only [h1]; obtain ⟨d0, d1⟩ := boxed hb1)
   | (go_at_call 77; refine (chkel_c (hx1.below hb1) (hl1.below hb1) hm hm1 hm2).mono ?_; rintro e w3 ⟨rfl, hb3⟩; simp only [hv]))
  go_ret
  exact ⟨rfl, bwT⟩
 ·have hv := chkE_ok h1 h3
  rw [chk3_ok h1 h2 h3]
  go_enter Tryz.func39, Tryz.ntmps39
  go_wp2_with (first
   | (go_at_call 76; refine (isdbl_c hx1.sl hm).mono ?_; rintro e w1 ⟨rfl, hb1⟩; simp only [h1]; obtain ⟨d0, d1⟩ := boxed hb1)
   | (go_at_call 77; refine (chkel_c (hx1.below hb1) (hl1.below hb1) hm hm1 hm2).mono ?_; rintro e w3 ⟨rfl, hb3⟩; simp only [hv])
   | (go_at_call 78; refine connil_c.mono ?_; rintro e w4 ⟨rfl, rfl⟩))
  go_ret
  exact ⟨rfl, bwT⟩
def okS (p : Int) (st : List Int) : Bool := st.all fun s => inR s 1 (p - 1)
theorem isD_ok {p : Int} {st : List Int} (h : prB p = true) (h2 : st.length <= 4) : isD p st = okS p st := by
 unfold isD okS
 rw [h, decide_eq_true h2]; rfl
theorem sisd_c {p : Int} {x : Value} {st : List Int} {w : World} (hx : Sl w x st) (hm : st.length <= 1048576) :
  Calls Tryz.prog 35 #[.agg #[.int .i64 p, x]] w fun e w' => e = .returned (.bool (isD p st)) /\ Below w.heap.size w w' := by
 obtain ⟨a, c, rfl, hx'⟩ := id hx
 cases h1 : prB p
 ·have HS := Lib.hid (isD_no1 (st := st) h1)
  go_enter Tryz.func35, Tryz.ntmps35
  go_wp2_with (go_at_call 73; refine sprime_c.mono ?_; rintro e w1 ⟨rfl, rfl⟩; simp only [h1])
  go_ret
  exact ⟨by rw [HS.out]; rfl, bwT⟩
 have hp := prB_iff.1 h1
 have hp1 := hp.lo
 have hp2 := hp.hi
 by_cases h2 : st.length <= 4
 case neg =>
  have HS := Lib.hid (isD_no2 (p := p) h2)
  have h2' : decide ((4 : Int) < (st.length : Int)) = true := by simp; omega
  go_enter Tryz.func35, Tryz.ntmps35
  go_wp2_with (go_at_call 73; refine sprime_c.mono ?_; rintro e w1 ⟨rfl, rfl⟩; simp only [h1])
  go_ret
  exact ⟨by rw [HS.out]; rfl, bwT⟩
 have h2' : decide ((4 : Int) < (st.length : Int)) = false := by simp; omega
 have HS := Lib.hid (isD_ok h1 h2)
 rcases hx' with rfl | ⟨b, off, rfl, hA⟩
 ·go_enter Tryz.func35, Tryz.ntmps35
  go_wp2_with (go_at_call 73; refine sprime_c.mono ?_; rintro e w1 ⟨rfl, rfl⟩; simp only [h1])
  refine wp_loop_rounds 1 ?_; rw [rounds_succ]
  go_wp2_with fail
  go_ret
  exact ⟨by rw [HS.out]; rfl, bwT⟩
 have hW : Below w.heap.size w (w.alloc (.cells #[.int .i64 p, .slice (some ⟨b, off, none⟩) st.length c] 26)) := bwT
 have hA := hA.below hW
 have d0 : (w.alloc (.cells #[.int .i64 p, .slice (some ⟨b, off, none⟩) st.length c] 26)).cell? ⟨w.heap.size, 0, none⟩ = some (.int .i64 p) := by simp [go_sem]
 have d1 : (w.alloc (.cells #[.int .i64 p, .slice (some ⟨b, off, none⟩) st.length c] 26)).cell? ⟨w.heap.size, 1, none⟩ = some (.slice (some ⟨b, off, none⟩) st.length c) := by simp [go_sem]
 obtain ⟨W, hWe⟩ : ∃ W, W = w.alloc (.cells #[.int .i64 p, .slice (some ⟨b, off, none⟩) st.length c] 26) := ⟨_, rfl⟩
 have HW := Lib.hid hWe
 rw [<- hWe] at hA d0 d1 hW
 clear hWe
 go_enter Tryz.func35, Tryz.ntmps35
 go_wp2_with (go_at_call 73; refine sprime_c.mono ?_; rintro e w1 ⟨rfl, rfl⟩; simp only [h1])
 rw [<- HW.out]
 go_loopw [3] (fun i wr => ∃ k : Nat, k <= st.length /\ i = .int .i64 k /\ okS p (st.take k) = true /\ Below W.heap.size W wr) (fun i _ => st.length - (intOf i).toNat)
 case atStart => exact ⟨0, Nat.zero_le _, rfl, rfl, Below.refl _ _⟩
 case round =>
  obtain ⟨k, hk, rfl, hr, hb⟩ := hrel
  have g0 := kept hb d0
  have g1 := kept hb d1
  by_cases hlt : k < st.length
  ·obtain ⟨z, hz, hc, ht⟩ := (hA.below hb).get hlt
   have H := Lib.hid (And.intro (all_snoc (f := fun s => inR s 1 (p - 1)) hr ht) (@all_no _ (fun s => inR s 1 (p - 1)) _ _ hz)); clear hr ht
   cases hv : inR z 1 (p - 1)
   ·go_wp2
    refine region_flow [(false, [(0, 0), (1, 1), (2, 0), (3, 0), (4, 1), (5, 0), (6, 1), (7, 0), (8, 4), (9, 0)])] (by kernel_rfl) ?_
    refine norm_K fun K hK => ?_
    change wpList _ _ _ [_, _, _, _, _, _, _, _, _, _] _ _
    go_wp2_with fail
    refine sin_c.mono ?_; rintro e w2 ⟨rfl, rfl⟩; simp only [hv]
    go_wp2_with fail
    first | (refine hK _ _ ⟨rfl, ?_⟩; clear hK K) | refine ⟨rfl, ?_⟩
    go_wp2_with fail
    go_ret
    exact ⟨by rw [HS.out, show okS p st = false from H.out.2 hv]; rfl, bwC hW hb.drew⟩
   ·go_wp2
    refine region_flow [(false, [(0, 0), (1, 1), (2, 0), (3, 0), (4, 1), (5, 0), (6, 1), (7, 0), (8, 4), (9, 0)])] (by kernel_rfl) ?_
    refine norm_K fun K hK => ?_
    change wpList _ _ _ [_, _, _, _, _, _, _, _, _, _] _ _
    go_wp2_with fail
    refine sin_c.mono ?_; rintro e w2 ⟨rfl, rfl⟩; simp only [hv]
    go_wp2_with fail
    first | (refine hK _ _ ⟨rfl, ?_⟩; clear hK K) | refine ⟨rfl, ?_⟩
    go_wp2_with fail
    go_roundw
    case rel => exact ⟨k + 1, by omega, by go_num, by unfold okS; rw [H.out.1, hv], hb.drew⟩
    case measure => simp [intOf]; omega
  ·have e : st.take k = st := take_all (by omega)
   rw [e] at hr
   have H := Lib.hid hr; clear hr e
   go_wp2
   go_ret
   exact ⟨by rw [HS.out, H.out]; rfl, bwC hW hb⟩
theorem selem_c {p : Int} {x y : Value} {st xs : List Int} {w : World} (hx : El w x st) (hy : El w y xs) (hl : st.length <= 4) (hm : xs.length <= 1048576) (hp : 0 <= p) (hp2 : p <= 1000) :
  Calls Tryz.prog 97 #[.agg #[.int .i64 p, x], y] w fun e w' => e = .returned (.bool (isE p (sz st.length) xs)) /\ Below w.heap.size w w' := by
 obtain ⟨a0, c0, rfl, _⟩ := id hx.op
 obtain ⟨a, c, rfl, _, _, hy'⟩ := id hy.op
 have hpw := pow_le hl
 have hE : isE p (sz st.length) xs = (decide (xs.length = sz st.length) && isL p xs) := rfl
 obtain ⟨s, hs⟩ : ∃ s, s = decide (xs.length = sz st.length) := ⟨_, rfl⟩
 have hcmp : ((xs.length : Int) == ((sz st.length : Nat) : Int)) = s := by
  rw [hs, Bool.eq_iff_iff, beq_iff_eq, decide_eq_true_eq]; omega
 rw [<- hs] at hE
 have HE := Lib.hid hE; clear hE hs
 rcases hy' with rfl | ⟨b, off, rfl, hy'⟩
 ·have HE2 := Lib.hid (show isE p (sz st.length) [] = s by rw [HE.out]; exact Bool.and_true _)
  go_enter Tryz.func97, Tryz.ntmps97
  go_wp2
  refine wp_loop_rounds 1 ?_; rw [rounds_succ]
  go_wp2_with fail
  refine (ssize_c hl).mono ?_; rintro e w1 ⟨rfl, hb1⟩
  have hcmp := hcmp
  go_wp2_with fail
  go_ret
  exact ⟨by rw [HE2.out]; simpa using hcmp, bwT⟩
 have hW : Below w.heap.size w (w.alloc (.cells #[.int .i64 p, .slice a0 st.length c0] 26)) := bwT
 have hy := hy'.below hW
 have d0 : (w.alloc (.cells #[.int .i64 p, .slice a0 st.length c0] 26)).cell? ⟨w.heap.size, 0, none⟩ = some (.int .i64 p) := by simp [go_sem]
 have d1 : (w.alloc (.cells #[.int .i64 p, .slice a0 st.length c0] 26)).cell? ⟨w.heap.size, 1, none⟩ = some (.slice a0 st.length c0) := by simp [go_sem]
 obtain ⟨W, hWe⟩ : ∃ W, W = w.alloc (.cells #[.int .i64 p, .slice a0 st.length c0] 26) := ⟨_, rfl⟩
 have HW := Lib.hid hWe
 rw [<- hWe] at hy d0 d1 hW
 clear hWe
 go_enter Tryz.func97, Tryz.ntmps97
 go_wp2
 rw [<- HW.out]
 go_loopw [5] (fun i wr => ∃ k : Nat, k <= xs.length /\ i = .int .i64 k /\ isL p (xs.take k) = true /\ Below W.heap.size W wr) (fun i _ => xs.length - (intOf i).toNat)
 case atStart => exact ⟨0, Nat.zero_le _, rfl, rfl, Below.refl _ _⟩
 case round =>
  obtain ⟨k, hk, rfl, hr, hb⟩ := hrel
  have g0 := kept hb d0
  have g1 := kept hb d1
  by_cases hlt : k < xs.length
  ·obtain ⟨z, hz, hc, ht⟩ := (hy.below hb).get hlt
   have H := Lib.hid (And.intro (all_snoc (f := fun n => inR n 0 (p - 1)) hr ht) (@all_no _ (fun n => inR n 0 (p - 1)) _ _ hz)); clear hr ht
   cases hv : inR z 0 (p - 1)
   ·go_wp2
    refine region_flow [(false, [(0, 0), (1, 0), (2, 0), (3, 1), (4, 0), (5, 1), (6, 0), (7, 4), (8, 0)])] (by kernel_rfl) ?_
    refine norm_K fun K hK => ?_
    change wpList _ _ _ [_, _, _, _, _, _, _, _, _] _ _
    go_wp2_with fail
    refine sin_c.mono ?_; rintro e w2 ⟨rfl, rfl⟩; simp only [hv]
    go_wp2_with fail
    first | (refine hK _ _ ⟨rfl, ?_⟩; clear hK K) | refine ⟨rfl, ?_⟩
    go_wp2_with fail
    go_ret
    exact ⟨by rw [HE.out, show isL p xs = false from H.out.2 hv, Bool.and_false]; rfl, bwC hW hb.drew⟩
   ·go_wp2
    refine region_flow [(false, [(0, 0), (1, 0), (2, 0), (3, 1), (4, 0), (5, 1), (6, 0), (7, 4), (8, 0)])] (by kernel_rfl) ?_
    refine norm_K fun K hK => ?_
    change wpList _ _ _ [_, _, _, _, _, _, _, _, _] _ _
    go_wp2_with fail
    refine sin_c.mono ?_; rintro e w2 ⟨rfl, rfl⟩; simp only [hv]
    go_wp2_with fail
    first | (refine hK _ _ ⟨rfl, ?_⟩; clear hK K) | refine ⟨rfl, ?_⟩
    go_wp2_with fail
    go_roundw
    case rel => exact ⟨k + 1, by omega, by go_num, by unfold isL; rw [H.out.1, hv], hb.drew⟩
    case measure => simp [intOf]; omega
  ·have e : xs.take k = xs := take_all (by omega)
   rw [e] at hr
   have H := Lib.hid hr; clear hr e
   go_wp2_with fail
   refine (ssize_c hl).mono ?_; rintro e w1 ⟨rfl, hb1⟩
   go_wp2_with fail
   go_ret
   exact ⟨by rw [HE.out, H.out, Bool.and_true]; rfl, bwC hW (bwC hb hb1)⟩
theorem sl11_c {p : Int} {x l : Value} {st : List Int} {xss : List (List Int)} {w : World} (hx : El w x st) (hl : Re w l xss) (hm : st.length <= 1048576) (hm1 : xss.length <= 1048576) (hm2 : ∀ xs ∈ xss, xs.length <= 1048576) :
  Calls Tryz.prog 83 #[.agg #[.int .i64 p, x], l] w fun e w' => e = .returned (.int .i64 (chkE p st xss)) /\ Below w.heap.size w w' := by
 obtain ⟨a, c, rfl, _⟩ := id hx.op
 obtain ⟨a2, c2, rfl, _, _, hl2⟩ := id hl
 have hx1 := hx.below (w' := w.alloc (.cells #[.int .i64 p, .slice a st.length c] 26)) bwT
 cases h1 : isD p st
 ·rw [chkE_no h1]
  go_enter Tryz.func83, Tryz.ntmps83
  go_wp2_with (go_at_call 35; refine (sisd_c hx1.sl hm).mono ?_; rintro e w1 ⟨rfl, hb1⟩; simp only [h1])
  go_ret
  exact ⟨rfl, bwT⟩
 obtain ⟨hp, hl4, _⟩ := isD_iff.1 h1
 have hp1 := hp.lo
 have hp2 := hp.hi
 rcases hl2 with rfl | ⟨b, off, rfl, hl2⟩
 ·rw [chkE_ok h1 rfl]
  go_enter Tryz.func83, Tryz.ntmps83
  go_wp2_with (go_at_call 35; refine (sisd_c hx1.sl hm).mono ?_; rintro e w1 ⟨rfl, hb1⟩; simp only [h1]; obtain ⟨d0, d1⟩ := boxed hb1)
  refine wp_loop_rounds 1 ?_; rw [rounds_succ]
  go_wp2_with fail
  go_ret
  exact ⟨rfl, bwT⟩
 go_enter Tryz.func83, Tryz.ntmps83
 go_wp2_with (go_at_call 35; refine (sisd_c hx1.sl hm).mono ?_; rintro e w1 ⟨rfl, hb1⟩; simp only [h1]; obtain ⟨d0, d1⟩ := boxed hb1)
 have hx2 := hx1.below hb1
 have hwb : Below w.heap.size w w1 := bwT
 go_loopw [5] (fun i wr => ∃ k : Nat, k <= xss.length /\ i = .int .i64 k /\ (xss.take k).all (isE p (sz st.length)) = true /\ Below w1.heap.size w1 wr) (fun i _ => xss.length - (intOf i).toNat)
 case atStart => exact ⟨0, Nat.zero_le _, rfl, rfl, Below.refl _ _⟩
 case round =>
  obtain ⟨k, hk, rfl, hr, hb⟩ := hrel
  by_cases hlt : k < xss.length
  ·obtain ⟨a1, c1, xs, hxs, hc0, hs0, ht⟩ := Re.get hl2 hlt
   have hbw := bwC hwb hb
   have hc := kept hbw hc0
   have hs := hs0.below hbw
   have g0 := kept hb d0
   have g1 := kept hb d1
   have gx := hx2.below hb
   have hmx := hm2 xs hxs
   have H := Lib.hid (And.intro (all_snoc hr ht) (@all_no _ (isE p (sz st.length)) _ _ hxs)); clear hr ht
   cases hv : isE p (sz st.length) xs
   ·go_wp2
    refine region_flow [(false, [(0, 1), (1, 0), (2, 0), (3, 0), (4, 1), (5, 4), (6, 0)])] (by kernel_rfl) ?_
    refine norm_K fun K hK => ?_
    change wpList _ _ _ [_, _, _, _, _, _, _] _ _
    go_wp2_with fail
    refine (selem_c (gx.below bwT) (hs.below bwT) hl4 hmx (by omega) (by omega)).mono ?_; rintro e w2 ⟨rfl, hb2⟩; simp only [hv]
    go_wp2_with fail
    first | (refine hK _ _ ⟨rfl, ?_⟩; clear hK K) | refine ⟨rfl, ?_⟩
    go_wp2_with fail
    go_ret
    exact ⟨by rw [chkE_ran h1 (H.out.2 hv)]; rfl, bwC hbw.drew hb2⟩
   ·go_wp2
    refine region_flow [(false, [(0, 1), (1, 0), (2, 0), (3, 0), (4, 1), (5, 4), (6, 0)])] (by kernel_rfl) ?_
    refine norm_K fun K hK => ?_
    change wpList _ _ _ [_, _, _, _, _, _, _] _ _
    go_wp2_with fail
    refine (selem_c (gx.below bwT) (hs.below bwT) hl4 hmx (by omega) (by omega)).mono ?_; rintro e w2 ⟨rfl, hb2⟩; simp only [hv]
    go_wp2_with fail
    first | (refine hK _ _ ⟨rfl, ?_⟩; clear hK K) | refine ⟨rfl, ?_⟩
    go_wp2_with fail
    go_roundw
    case rel => exact ⟨k + 1, by omega, by go_num, by rw [H.out.1, hv], bwC hb.drew hb2⟩
    case measure => simp [intOf]; omega
  ·have e : xss.take k = xss := take_all (by omega)
   rw [e] at hr
   have H := Lib.hid hr; clear hr e
   go_wp2
   go_ret
   exact ⟨by rw [chkE_ok h1 H.out]; rfl, bwC hwb hb⟩
theorem sl14_c {p : Int} {x : Value} {st : List Int} {w : World} (hx : El w x st) (hm : st.length <= 1048576) :
  Calls Tryz.prog 58 #[.agg #[.int .i64 p, x]] w fun e w' => e = .returned (.int .i64 (chk3 p st [])) /\ Below w.heap.size w w' := by
 obtain ⟨a, c, rfl, _⟩ := id hx.op
 have hx1 := hx.below (w' := w.alloc (.cells #[.int .i64 p, .slice a st.length c] 26)) bwT
 cases h1 : isD p st
 ·rw [chk3_no h1]
  go_enter Tryz.func58, Tryz.ntmps58
  go_wp2_with (go_at_call 35; refine (sisd_c hx1.sl hm).mono ?_; rintro e w1 ⟨rfl, hb1⟩; simp only [h1])
  go_ret
  exact ⟨rfl, bwT⟩
 by_cases h2 : 3 < st.length
 ·rw [chk3_lim h1 h2]
  go_enter Tryz.func58, Tryz.ntmps58
  go_wp2_with (go_at_call 35; refine (sisd_c hx1.sl hm).mono ?_; rintro e w1 ⟨rfl, hb1⟩; simp only [h1]; obtain ⟨d0, d1⟩ := boxed hb1)
  go_ret
  exact ⟨rfl, bwT⟩
 ·rw [chk3_ok h1 h2 rfl]
  go_enter Tryz.func58, Tryz.ntmps58
  go_wp2_with (go_at_call 35; refine (sisd_c hx1.sl hm).mono ?_; rintro e w1 ⟨rfl, hb1⟩; simp only [h1]; obtain ⟨d0, d1⟩ := boxed hb1)
  go_ret
  exact ⟨rfl, bwT⟩
theorem chk3_E {p : Int} {st : List Int} {xss : List (List Int)} (h : chk3 p st [] = 0) : chk3 p st xss = chkE p st xss := by
 unfold chk3 at h ⊢
 unfold chkE
 split at h
 ·rename_i h1
  split at h
  ·cases h
  ·rename_i h2
   rw [if_pos h1, if_neg h2, if_pos h1]
 ·cases h
theorem chk3_non {p : Int} {st : List Int} {xss : List (List Int)} (h : chk3 p st [] ≠ 0) : chk3 p st xss = chk3 p st [] := by
 cases h1 : isD p st
 ·rw [chk3_no h1, chk3_no h1]
 ·by_cases h2 : 3 < st.length
  ·rw [chk3_lim h1 h2, chk3_lim h1 h2]
  ·exact absurd (chk3_ok h1 h2 rfl) h
theorem sl14e_c {p : Int} {x l : Value} {st : List Int} {xss : List (List Int)} {w : World} (hx : El w x st) (hl : Re w l xss) (hm : st.length <= 1048576) (hm1 : xss.length <= 1048576) (hm2 : ∀ xs ∈ xss, xs.length <= 1048576) :
  Calls Tryz.prog 46 #[.agg #[.int .i64 p, x], l] w fun e w' => e = .returned (.int .i64 (chk3 p st xss)) /\ Below w.heap.size w w' := by
 obtain ⟨a, c, rfl, _⟩ := id hx.op
 obtain ⟨a2, c2, rfl, _⟩ := id hl
 have hx1 := hx.below (w' := w.alloc (.cells #[.int .i64 p, .slice a st.length c] 26)) bwT
 have hl1 := hl.below (w' := w.alloc (.cells #[.int .i64 p, .slice a st.length c] 26)) bwT
 have hcon := fun W hx => sl14_c (w := W) (p := p) (x := .slice a st.length c) hx hm
 obtain ⟨k, hk⟩ : ∃ k, k = chk3 p st [] := ⟨_, rfl⟩
 by_cases h0 : chk3 p st [] = 0
 ·rw [chk3_E h0]
  rw [h0] at hk
  subst hk
  simp only [h0] at hcon
  go_enter Tryz.func46, Tryz.ntmps46
  go_wp2_with fail
  refine (hcon _ hx1).mono ?_; rintro e w1 ⟨rfl, hb1⟩
  obtain ⟨d0, d1⟩ := boxed hb1
  go_wp2_with fail
  refine (sl11_c (hx1.below hb1) (hl1.below hb1) hm hm1 hm2).mono ?_; rintro e w2 ⟨rfl, hb2⟩
  go_wp2_with fail
  go_ret
  exact ⟨rfl, bwT⟩
 ·rw [chk3_non h0]
  simp only [<- hk] at hcon h0 ⊢
  clear hk
  have hne : (k == 0) = false := by simpa using h0
  go_enter Tryz.func46, Tryz.ntmps46
  go_wp2_with fail
  refine (hcon _ hx1).mono ?_; rintro e w1 ⟨rfl, hb1⟩
  go_wp2_with fail
  go_ret
  exact ⟨rfl, bwT⟩
end Go.Proofs.YteaaepbnoiecoaaGreat
