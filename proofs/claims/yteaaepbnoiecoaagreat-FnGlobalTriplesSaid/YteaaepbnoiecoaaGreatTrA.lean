import Derived.Test.YteaaepbnoiecoaaGreatJal
import Derived.Test.YteaaepbnoiecoaaGreatDbT
namespace Go.Proofs.YteaaepbnoiecoaaGreat
open Go.RowKit
theorem Sl.cellat {w : World} {a : Option Addr} {c : Nat} {xs : List Int} {i : Nat} (h : Sl w (.slice a xs.length c) xs) (hi : i < xs.length) : ∃ b off, a = some ⟨b, off, none⟩ /\ w.cell? ⟨b, off + i, none⟩ = some (.int .i64 (xs.getD i 0)) := by
 obtain ⟨a', c', e, h⟩ := h
 cases e
 rcases h with h | ⟨b, off, rfl, h⟩
 ·rw [h] at hi; simp at hi
 ·exact ⟨b, off, rfl, h i hi⟩
theorem col_take {L : List (List Int)} {s : List Int} {k i : Nat} (h : L.take (k + 1) = L.take k ++ [s]) : colL (L.take (k + 1)) i = colL (L.take k) i ++ [s.getD i 0] := by
 rw [h]; unfold colL; simp
theorem app_take {p : Int} {L : List (List Int)} {s v : List Int} {k : Nat} (h : L.take (k + 1) = L.take k ++ [s]) : applyL p (L.take (k + 1)) v = applyL p (L.take k) v ++ [dotL p s v] := by
 rw [h]; unfold applyL; simp
def tabF (p : Int) (m : Nat) (r : List Int) : Bool := decide (r.length = m) && decide (1 <= r.length) && decide (r.length <= 16) && isL p r
theorem tab_def {p : Int} {L : List (List Int)} : tabB p L = (decide (L.length <= 16) && L.all (tabF p (L.getD 0 []).length)) := rfl
theorem tab_no {p : Int} {L : List (List Int)} {s : List Int} (h : s ∈ L) (hf : tabF p (L.getD 0 []).length s = false) : tabB p L = false := by
 rw [tab_def]
 have : L.all (tabF p (L.getD 0 []).length) = false := List.all_eq_false.2 ⟨s, h, by rw [hf]; decide⟩
 rw [this, Bool.and_false]
theorem column_c {M : Value} {L : List (List Int)} {i : Nat} {w : World} (hr : Re w M L) (hL : ∀ r ∈ L, i < r.length) (hn : L.length <= 1000000) :
  Calls Tryz.prog 22 #[M, .int .i64 i] w fun e w' => ∃ v, e = .returned v /\ FrI w' w.heap.size v (colL L i) /\ Below w.heap.size w w' := by
 obtain ⟨ar, cr, rfl, hr1, hr2, hR⟩ := hr
 go_enter Tryz.func22, Tryz.ntmps22
 go_wp2_with fail
 have hb0 : Below w.heap.size w (w.alloc (.cells #[] 2)) := bwT
 go_loopw [5, 11] (fun o q wr => ∃ (k g cap : Nat), k <= L.length /\ q = .int .i64 k /\ o = .slice (some ⟨g, 0, none⟩) k cap /\ OwnI wr w.heap.size g k cap (colL (L.take k) i) /\ Below w.heap.size w wr)
  (fun _ q _ => L.length - (intOf q).toNat)
 case atStart => exact ⟨0, w.heap.size, 0, Nat.zero_le _, rfl, rfl, OwnI.new (Nat.le_refl _), hb0⟩
 case round =>
  obtain ⟨k, g, cap, hk, rfl, rfl, hown, hbr⟩ := hrel
  by_cases hlt : k < L.length
  ·obtain ⟨b, off, rfl, hcell⟩ := hR.resolve_left (fun e => by rw [e] at hlt; simp at hlt)
   obtain ⟨a2, c2, s, hs, hc, hE, ht⟩ := Re.get hcell hlt
   have hsl := hL s hs
   obtain ⟨b2, o2, rfl, hx⟩ := Sl.cellat hE.sl hsl
   have hc := kept hbr hc
   have hx := kept hbr hx
   have HT := Lib.hid (col_take (i := i) ht); clear ht
   obtain ⟨z, hz⟩ : ∃ z, z = s.getD i 0 := ⟨_, rfl⟩
   rw [<- hz] at hx HT
   clear hz
   go_wp2_with (at_builtin; refine app_one rfl _ _ rfl wr w.heap.size g k cap _ rfl z _ rfl hown hbr.size (by omega) ?_; intro g' cap' w' hown' hb' hg' hgg)
   go_roundw
   case rel => exact ⟨k + 1, g', cap', by omega, by go_num, rfl, by rw [HT.out]; exact hown', hbr.trans hb'⟩
   case measure => simp [intOf]; omega
  ·obtain rfl : k = L.length := by omega
   rw [take_all (Nat.le_refl _)] at hown
   go_wp2_with fail
   go_ret
   exact ⟨_, rfl, hown.fr, hbr⟩
theorem scolumn_c {M : Value} {L : List (List Int)} {i : Nat} {w : World} (hr : Re w M L) (hL : ∀ r ∈ L, i < r.length) (hn : L.length <= 1000000) :
  Calls Tryz.prog 64 #[M, .int .i64 i] w fun e w' => ∃ v, e = .returned v /\ FrI w' w.heap.size v (colL L i) /\ Below w.heap.size w w' := by
 obtain ⟨ar, cr, rfl, hr1, hr2, hR⟩ := hr
 go_enter Tryz.func64, Tryz.ntmps64
 go_wp2_with fail
 have hb0 : Below w.heap.size w (w.alloc (.cells #[] 2)) := bwT
 go_loopw [5, 6] (fun o q wr => ∃ (k g cap : Nat), k <= L.length /\ q = .int .i64 k /\ o = .slice (some ⟨g, 0, none⟩) k cap /\ OwnI wr w.heap.size g k cap (colL (L.take k) i) /\ Below w.heap.size w wr)
  (fun _ q _ => L.length - (intOf q).toNat)
 case atStart => exact ⟨0, w.heap.size, 0, Nat.zero_le _, rfl, rfl, OwnI.new (Nat.le_refl _), hb0⟩
 case round =>
  obtain ⟨k, g, cap, hk, rfl, rfl, hown, hbr⟩ := hrel
  by_cases hlt : k < L.length
  ·obtain ⟨b, off, rfl, hcell⟩ := hR.resolve_left (fun e => by rw [e] at hlt; simp at hlt)
   obtain ⟨a2, c2, s, hs, hc, hE, ht⟩ := Re.get hcell hlt
   have hsl := hL s hs
   obtain ⟨b2, o2, rfl, hx⟩ := Sl.cellat hE.sl hsl
   have hc := kept hbr hc
   have hx := kept hbr hx
   have HT := Lib.hid (col_take (i := i) ht); clear ht
   obtain ⟨z, hz⟩ : ∃ z, z = s.getD i 0 := ⟨_, rfl⟩
   rw [<- hz] at hx HT
   clear hz
   go_wp2_with (at_builtin; refine app_one rfl _ _ rfl wr w.heap.size g k cap _ rfl z _ rfl hown hbr.size (by omega) ?_; intro g' cap' w' hown' hb' hg' hgg)
   go_roundw
   case rel => exact ⟨k + 1, g', cap', by omega, by go_num, rfl, by rw [HT.out]; exact hown', hbr.trans hb'⟩
   case measure => simp [intOf]; omega
  ·obtain rfl : k = L.length := by omega
   rw [take_all (Nat.le_refl _)] at hown
   go_wp2_with fail
   go_ret
   exact ⟨_, rfl, hown.fr, hbr⟩
theorem apply_c {p : Int} {m v : Value} {n : Nat} {L : List (List Int)} {xs : List Int} {w : World} (hp : 1 <= p) (hp2 : p <= 1000) (hr : Re w m L) (hL : Rw p n L) (hv : El w v xs) (ev : Ev p n xs) (hn : n <= 100000) (hl : L.length <= 1000000) :
  Calls Tryz.prog 91 #[.int .i64 p, m, v] w fun e w' => ∃ u, e = .returned u /\ FrI w' w.heap.size u (applyL p L xs) /\ Below w.heap.size w w' := by
 obtain ⟨ar, cr, rfl, hr1, hr2, hR⟩ := hr
 go_enter Tryz.func91, Tryz.ntmps91
 go_wp2_with fail
 have hb0 : Below w.heap.size w (w.alloc (.cells #[] 2)) := bwT
 go_loopw [7, 13] (fun o q wr => ∃ (k g cap : Nat), k <= L.length /\ q = .int .i64 k /\ o = .slice (some ⟨g, 0, none⟩) k cap /\ OwnI wr w.heap.size g k cap (applyL p (L.take k) xs) /\ Below w.heap.size w wr)
  (fun _ q _ => L.length - (intOf q).toNat)
 case atStart => exact ⟨0, w.heap.size, 0, Nat.zero_le _, rfl, rfl, OwnI.new (Nat.le_refl _), hb0⟩
 case round =>
  obtain ⟨k, g, cap, hk, rfl, rfl, hown, hbr⟩ := hrel
  by_cases hlt : k < L.length
  ·obtain ⟨b, off, rfl, hcell⟩ := hR.resolve_left (fun e => by rw [e] at hlt; simp at hlt)
   obtain ⟨a2, c2, s, hs, hc, hE, ht⟩ := Re.get hcell hlt
   have es := hL s hs
   have hc := kept hbr hc
   have hE := hE.below hbr
   have hv := hv.below hbr
   have HT := Lib.hid (app_take (p := p) (v := xs) ht); clear ht
   have hdot := dot_c (w := wr) hp hp2 hE.sl hv.sl (es.2.sm (by omega) (by omega)) (ev.2.sm (by omega) (by omega)) (ev.1.trans es.1.symm) (by have := es.1; omega)
   obtain ⟨z, hz⟩ : ∃ z, z = dotL p s xs := ⟨_, rfl⟩
   rw [<- hz] at hdot HT
   clear hz
   have ES := Lib.hid es; clear es
   go_wp2_with fail
   refine hdot.mono ?_; rintro e w1 ⟨rfl, rfl⟩
   go_wp2_with (at_builtin; refine app_one rfl _ _ rfl wr w.heap.size g k cap _ rfl z _ rfl hown hbr.size (by omega) ?_; intro g' cap' w' hown' hb' hg' hgg)
   go_roundw
   case rel => exact ⟨k + 1, g', cap', by omega, by go_num, rfl, by rw [HT.out]; exact hown', hbr.trans hb'⟩
   case measure => simp [intOf]; omega
  ·obtain rfl : k = L.length := by omega
   rw [take_all (Nat.le_refl _)] at hown
   go_wp2_with fail
   go_ret
   exact ⟨_, rfl, hown.fr, hbr⟩
set_option maxHeartbeats 1000000 in
theorem sapply_c {p : Int} {m v : Value} {n : Nat} {L : List (List Int)} {xs : List Int} {w : World} (hp : 1 <= p) (hp2 : p <= 1000) (hr : Re w m L) (hL : Rw p n L) (hv : El w v xs) (ev : Ev p n xs) (hn1 : 1 <= n) (hn : n <= 100000) (hl : L.length <= 1000000) :
  Calls Tryz.prog 124 #[.int .i64 p, m, v] w fun e w' => ∃ u, e = .returned u /\ FrI w' w.heap.size u (applyL p L xs) /\ Below w.heap.size w w' := by
 obtain ⟨ar, cr, rfl, hr1, hr2, hR⟩ := hr
 obtain ⟨av, cv, rfl, _⟩ := id hv.op
 have hxl := ev.1
 have sx := ev.2.sm (M := 1000) (by omega) (by omega)
 have hvs := hv.sl
 obtain ⟨bv, ov, rfl, hA⟩ : ∃ b off, av = some ⟨b, off, none⟩ /\ At w b off xs := by
  obtain ⟨a', c', e, h⟩ := hvs
  cases e
  rcases h with h | ⟨b, off, rfl, h⟩
  ·rw [h] at hxl; simp at hxl; omega
  ·exact ⟨b, off, rfl, h⟩
 have HXL := Lib.hid hxl; clear hxl hvs hv
 go_enter Tryz.func124, Tryz.ntmps124
 go_wp2_with fail
 have hb0 : Below w.heap.size w (w.alloc (.cells #[] 2)) := bwT
 go_loopw [7, 8] (fun o q wr => ∃ (k g cap : Nat), k <= L.length /\ q = .int .i64 k /\ o = .slice (some ⟨g, 0, none⟩) k cap /\ OwnI wr w.heap.size g k cap (applyL p (L.take k) xs) /\ Below w.heap.size w wr)
  (fun _ q _ => L.length - (intOf q).toNat)
 case atStart => exact ⟨0, w.heap.size, 0, Nat.zero_le _, rfl, rfl, OwnI.new (Nat.le_refl _), hb0⟩
 case round =>
  obtain ⟨k, g, cap, hk, rfl, rfl, hown, hbr⟩ := hrel
  by_cases hlt : k < L.length
  ·obtain ⟨b, off, rfl, hcell⟩ := hR.resolve_left (fun e => by rw [e] at hlt; simp at hlt)
   obtain ⟨a2, c2, s, hs, hc, hE, ht⟩ := Re.get hcell hlt
   have es := hL s hs
   have ss := es.2.sm (M := 1000) (by omega) (by omega)
   have hsl := es.1
   obtain ⟨b2, o2, rfl, hB⟩ : ∃ b off, a2 = some ⟨b, off, none⟩ /\ At w b off s := by
    obtain ⟨a', c', e, h⟩ := hE.sl
    cases e
    rcases h with h | ⟨b, off, rfl, h⟩
    ·rw [h] at hsl; simp at hsl; omega
    ·exact ⟨b, off, rfl, h⟩
   have hc := kept hbr hc
   have hA1 := hA.below hbr
   have hB1 := hB.below hbr
   have HT := Lib.hid (app_take (p := p) (v := xs) ht); have HS := Lib.hid hsl; clear ht hsl
   generalize wr = wo at *
   go_wp2_with fail
   go_loopw [9, 10] (fun o q wr => ∃ (j : Nat), j <= xs.length /\ q = .int .i64 j /\ o = .int .i64 (dotS (s.take j) (xs.take j)) /\ Below wo.heap.size wo wr)
    (fun _ q _ => xs.length - (intOf q).toNat)
   case atStart => exact ⟨0, Nat.zero_le _, rfl, rfl, Below.refl _ _⟩
   case round =>
    obtain ⟨j, hj, rfl, rfl, hb5⟩ := hrel
    have hjb : j <= 100000 := by have := HXL.out; omega
    have hjs : j <= s.length := by have := HS.out; have := HXL.out; omega
    have hb := dotS_bd (by omega) (by omega) (sm_take ss j) (sm_take sx j)
    rw [List.length_take, Nat.min_eq_left hjs] at hb
    obtain ⟨q, hq⟩ : ∃ q, q = dotS (s.take j) (xs.take j) := ⟨_, rfl⟩
    rw [<- hq] at hb ⊢
    by_cases hlt2 : j < xs.length
    ·have hlt3 : j < s.length := by have := HS.out; have := HXL.out; omega
     obtain ⟨z, hz, hcx, htx⟩ := (hA1.below hb5).get hlt2
     obtain ⟨u, hu, hcs, hts⟩ := (hB1.below hb5).get hlt3
     have hss := dotS_snoc (x := u) (y := z) (xs := s.take j) (ys := xs.take j) (by simp; omega)
     have H := Lib.hid (And.intro hq (And.intro htx (And.intro hts hss))); clear hq htx hts hss
     have s1 := sx z hz
     have s2 := ss u hu
     have s3 := mulb s2.1 s2.2 s1.1 s1.2
     have hc := kept hb5 hc
     have hbd : Below wr.heap.size wr wr.drew := bwT
     have hc := kept hbd hc; have hcx := kept hbd hcx; have hcs := kept hbd hcs
     go_wp2_with fail
     refine region_flow [(false, [(0, 0), (1, 0), (2, 0), (3, 0), (4, 1), (5, 0), (6, 0), (7, 1), (8, 0), (9, 0), (10, 0), (11, 1), (12, 0), (13, 0), (14, 0)])] (by kernel_rfl) ?_
     refine norm_K fun K hK => ?_
     change wpList _ _ _ [_, _, _, _, _, _, _, _, _, _, _, _, _, _, _] _ _
     go_wp2_with fail
     first | (refine hK _ _ ⟨rfl, ?_⟩; clear hK K) | refine ⟨rfl, ?_⟩
     go_wp2_with fail
     go_roundw
     case rel => exact ⟨j + 1, by omega, by go_num, by rw [H.out.2.1, H.out.2.2.1, H.out.2.2.2, <- H.out.1], bwC hb5 hbd⟩
     case measure => simp [intOf]; omega
    ·have hjl : j = xs.length := by omega
     rw [take_all (by have := HS.out; have := HXL.out; omega), take_all (by omega)] at hq
     obtain ⟨z, hz⟩ : ∃ z, z = dotL p s xs := ⟨_, rfl⟩
     have hzq : z = q % p := by rw [hz, hq]; rfl
     rw [<- hz] at HT
     have HZ := Lib.hid hzq
     clear hz hq hzq
     have hown := hown.below hb5
     have hbx := bwC hbr hb5
     go_wp2_with fail
     refine (smod_c hp hp2).mono ?_; rintro e w1 ⟨rfl, rfl⟩
     rw [<- HZ.out]
     go_wp2_with (at_builtin; refine app_one rfl _ _ rfl _ w.heap.size g k cap _ rfl z _ rfl hown hbx.size (by omega) ?_; intro g' cap' w' hown' hb' hg' hgg)
     go_roundw
     case rel => exact ⟨k + 1, g', cap', by omega, by go_num, rfl, by rw [HT.out]; exact hown', hbx.trans hb'⟩
     case measure => simp [intOf]; omega
  ·obtain rfl : k = L.length := by omega
   rw [take_all (Nat.le_refl _)] at hown
   go_wp2_with fail
   go_ret
   exact ⟨_, rfl, hown.fr, hbr⟩
theorem smatrix_c {p : Int} {s m : Value} {st : List Int} {L : List (List Int)} {w : World} (hd : Dok p st) (hs : El w s st) (hr : Re w m L) (hL : ∀ r ∈ L, r.length <= 1048576) (hn : L.length <= 1048576) :
  Calls Tryz.prog 59 #[.agg #[.int .i64 p, s], m] w fun e w' => e = .returned (.bool (matB p (sz st.length) L)) /\ Below w.heap.size w w' := by
 have hp1 := hd.hp.lo; have hp2 := hd.hp.hi; have hl3 := hd.hl
 obtain ⟨a0, c0, rfl, _⟩ := id hs.op
 obtain ⟨ar, cr, rfl, hr1, hr2, hR⟩ := hr
 have hcmp : ((L.length : Int) == ((sz st.length : Nat) : Int)) = decide (L.length = sz st.length) := by
  rw [Bool.eq_iff_iff, beq_iff_eq, decide_eq_true_eq]; omega
 obtain ⟨q, hq⟩ : ∃ q, q = decide (L.length = sz st.length) := ⟨_, rfl⟩
 have hm : matB p (sz st.length) L = (q && L.all (isE p (sz st.length))) := by rw [hq]; rfl
 rw [<- hq] at hcmp
 have HM := Lib.hid hm; clear hm hq
 have hno : ∀ r ∈ L, isE p (sz st.length) r = false -> (L.all (isE p (sz st.length))) = false := fun r hr h => List.all_eq_false.2 ⟨r, hr, by rw [h]; decide⟩
 have HNO := Lib.hid hno; clear hno
 have hbW : Below w.heap.size w (w.alloc (.cells #[.int .i64 p, .slice a0 st.length c0] 26)) := bwT
 have hs := hs.below hbW
 have d0 : (w.alloc (.cells #[.int .i64 p, .slice a0 st.length c0] 26)).cell? ⟨w.heap.size, 0, none⟩ = some (.int .i64 p) := by simp [go_sem]
 have d1 : (w.alloc (.cells #[.int .i64 p, .slice a0 st.length c0] 26)).cell? ⟨w.heap.size, 1, none⟩ = some (.slice a0 st.length c0) := by simp [go_sem]
 obtain ⟨W, hWe⟩ : ∃ W, W = w.alloc (.cells #[.int .i64 p, .slice a0 st.length c0] 26) := ⟨_, rfl⟩
 have HW := Lib.hid hWe
 rw [<- hWe] at hs d0 d1 hbW
 clear hWe
 go_enter Tryz.func59, Tryz.ntmps59
 go_wp2
 rw [<- HW.out]
 go_loopw [5] (fun i wr => ∃ k : Nat, k <= L.length /\ i = .int .i64 k /\ (L.take k).all (isE p (sz st.length)) = true /\ Below W.heap.size W wr) (fun i _ => L.length - (intOf i).toNat)
 case atStart => exact ⟨0, Nat.zero_le _, rfl, rfl, Below.refl _ _⟩
 case round =>
  obtain ⟨k, hk, rfl, hall, hb⟩ := hrel
  have hs := hs.below hb; have d0 := kept hb d0; have d1 := kept hb d1
  have hbx := bwC hbW hb
  by_cases hlt : k < L.length
  ·obtain ⟨b, off, rfl, hcell⟩ := hR.resolve_left (fun e => by rw [e] at hlt; simp at hlt)
   obtain ⟨a2, c2, r, hr, hc, hE, ht⟩ := Re.get hcell hlt
   have hc := kept hbx hc
   have hE := hE.below hbx
   have hrl := hL r hr
   have hbd : Below wr.heap.size wr wr.drew := bwT
   have hs := hs.below hbd; have d0 := kept hbd d0; have d1 := kept hbd d1; have hc := kept hbd hc; have hE := hE.below hbd
   have HT := Lib.hid ht; have HA := Lib.hid hall; clear ht hall
   go_wp2_with fail
   refine region_flow [(false, [(0, 1), (1, 0), (2, 0), (3, 0), (4, 1), (5, 4), (6, 0)])] (by kernel_rfl) ?_
   refine norm_K fun K hK => ?_
   change wpList _ _ _ [_, _, _, _, _, _, _] _ _
   go_wp2_with fail
   refine (selem_c hs hE (by omega) hrl (by omega) (by omega)).mono ?_; rintro e w1 ⟨rfl, hb1⟩
   cases hv : isE p (sz st.length) r
   ·go_wp2_with fail
    first | (refine hK _ _ ⟨rfl, ?_⟩; clear hK K) | refine ⟨rfl, ?_⟩
    go_wp2_with fail
    go_ret
    exact ⟨by rw [HM.out, HNO.out r hr hv, Bool.and_false]; rfl, bwC (bwC hbx hbd) hb1⟩
   ·go_wp2_with fail
    first | (refine hK _ _ ⟨rfl, ?_⟩; clear hK K) | refine ⟨rfl, ?_⟩
    go_wp2_with fail
    go_roundw
    case rel => exact ⟨k + 1, by omega, by go_num, by rw [HT.out, List.all_append, HA.out]; simp [hv], bwC (bwC hb hbd) hb1⟩
    case measure => simp [intOf]; omega
  ·obtain rfl : k = L.length := by omega
   rw [take_all (Nat.le_refl _)] at hall
   have HA := Lib.hid hall; clear hall
   go_wp2_with fail
   refine (ssize_c (by omega)).mono ?_; rintro e w1 ⟨rfl, hb1⟩
   go_wp2_with fail
   go_ret
   exact ⟨by rw [HM.out, HA.out, Bool.and_true]; simp, bwC hbx hb1⟩
theorem istable_c {p : Int} {m : Value} {L : List (List Int)} {w : World} (hp : 0 <= p) (hp2 : p <= 1000) (hr : Re w m L) (hL : ∀ r ∈ L, r.length <= 1048576) (hn : L.length <= 1048576) :
  Calls Tryz.prog 117 #[.int .i64 p, m] w fun e w' => e = .returned (.bool (tabB p L)) /\ w = w' := by
 obtain ⟨ar, cr, rfl, _, _, hR⟩ := hr
 by_cases h16 : 16 < L.length
 ·have e : tabB p L = false := by unfold tabB; rw [decide_eq_false (by omega)]; rfl
  have E := Lib.hid e; clear e
  go_enter Tryz.func117, Tryz.ntmps117
  go_wp2
  go_ret
  exact ⟨by rw [E.out]; rfl, rfl⟩
 rcases hR with rfl | ⟨b, off, rfl, hcell⟩
 ·go_enter Tryz.func117, Tryz.ntmps117
  go_wp2
  refine wp_loop_rounds 1 ?_; rw [rounds_succ]
  go_wp2
  go_ret
  exact ⟨by simp [tabB], rfl⟩
 obtain ⟨m0, hm0⟩ : ∃ m, m = (L.getD 0 []).length := ⟨_, rfl⟩
 have hdef : tabB p L = L.all (tabF p m0) := by rw [tab_def, decide_eq_true (by omega), hm0]; rfl
 have hno : ∀ s ∈ L, tabF p m0 s = false -> tabB p L = false := fun s hs h => tab_no hs (by rw [<- hm0]; exact h)
 have hfirst : 0 < L.length -> ∃ a c, w.cell? ⟨b, off, none⟩ = some (.slice a m0 c) := fun h => by
  obtain ⟨u, h1, h2⟩ := hcell 0 h
  obtain ⟨a, c, rfl, _⟩ := h2.op
  refine ⟨a, c, ?_⟩
  rw [hm0, show L.getD 0 [] = L[0] by simp [List.getD_eq_getElem?_getD, h]]
  exact h1
 have HDEF := Lib.hid hdef; have HNO := Lib.hid hno; have HF := Lib.hid hfirst
 clear hdef hno hfirst hm0
 go_enter Tryz.func117, Tryz.ntmps117
 go_wp2
 go_loop [12] (fun i => ∃ k : Nat, k <= L.length /\ i = .int .i64 k /\ (L.take k).all (tabF p m0) = true) (fun i => L.length - (intOf i).toNat)
 case atStart => exact ⟨0, Nat.zero_le _, rfl, rfl⟩
 case round =>
  obtain ⟨k, hk, rfl, hall⟩ := hrel
  by_cases hlt : k < L.length
  ·obtain ⟨a2, c2, s, hs, hc, hE, ht⟩ := Re.get hcell hlt
   obtain ⟨a3, c3, hc0⟩ := HF.out (by omega)
   have hrl := hL s hs
   have HT := Lib.hid ht; have HA := Lib.hid hall; clear ht hall
   have hdF : tabF p m0 s = (decide (s.length = m0) && decide (1 <= s.length) && decide (s.length <= 16) && isL p s) := rfl
   by_cases e1 : s.length = m0
   case neg =>
    have E := Lib.hid (HNO.out s hs (by rw [hdF, decide_eq_false e1]; rfl)); clear hdF
    have hne : ((s.length : Int) != (m0 : Int)) = true := by rw [bne_iff_ne]; omega
    go_wp2
    go_ret
    exact ⟨by rw [E.out]; rfl, rfl⟩
   have hne : ((s.length : Int) != (m0 : Int)) = false := by rw [e1]; simp
   rw [decide_eq_true e1, Bool.true_and] at hdF
   have E1 := Lib.hid e1; clear e1
   by_cases e2 : 1 <= s.length
   case neg =>
    have E := Lib.hid (HNO.out s hs (by rw [hdF, decide_eq_false e2]; rfl)); clear hdF
    go_wp2
    go_ret
    exact ⟨by rw [E.out]; rfl, rfl⟩
   rw [decide_eq_true e2, Bool.true_and] at hdF
   by_cases e3 : s.length <= 16
   case neg =>
    have E := Lib.hid (HNO.out s hs (by rw [hdF, decide_eq_false e3]; rfl)); clear hdF
    go_wp2
    go_ret
    exact ⟨by rw [E.out]; rfl, rfl⟩
   rw [decide_eq_true e3, Bool.true_and] at hdF
   cases hv : isL p s
   ·have E := Lib.hid (HNO.out s hs (by rw [hdF, hv])); clear hdF
    go_wp2_with fail
    refine (is_c hp hp2 hE.sl hrl).mono ?_; rintro e w1 ⟨rfl, rfl⟩
    simp only [hv]
    go_wp2
    go_ret
    exact ⟨by rw [E.out]; rfl, rfl⟩
   ·rw [hv] at hdF
    have HD := Lib.hid hdF; clear hdF
    go_wp2_with fail
    refine (is_c hp hp2 hE.sl hrl).mono ?_; rintro e w1 ⟨rfl, rfl⟩
    simp only [hv]
    go_wp2
    go_round
    case rel => exact ⟨k + 1, by omega, by go_num, by rw [HT.out, List.all_append, HA.out]; simp [HD.out]⟩
    case measure => simp [intOf]; omega
  ·obtain rfl : k = L.length := by omega
   rw [take_all (Nat.le_refl _)] at hall
   have HA := Lib.hid hall; clear hall
   go_wp2
   go_ret
   exact ⟨by rw [HDEF.out, HA.out]; rfl, rfl⟩
theorem fismatrix_c {p : Int} {m : Value} {L : List (List Int)} {w : World} (hp : 0 <= p) (hp2 : p <= 1000) (hr : Re w m L) (hL : ∀ r ∈ L, r.length <= 1048576) (hn : L.length <= 1048576) :
  Calls Tryz.prog 107 #[.int .i64 p, m] w fun e w' => e = .returned (.bool (decide (0 < L.length) && tabB p L)) /\ w = w' := by
 have hcon := fun W h => istable_c (w := W) hp hp2 h hL hn (m := m)
 obtain ⟨ar, cr, rfl, _⟩ := id hr
 obtain ⟨q, hq⟩ : ∃ q, q = tabB p L := ⟨_, rfl⟩
 simp only [<- hq] at hcon ⊢
 clear hq
 by_cases h0 : 0 < L.length
 ·rw [decide_eq_true h0, Bool.true_and]
  go_enter Tryz.func107, Tryz.ntmps107
  go_wp2_with fail
  refine (hcon _ hr).mono ?_; rintro e w1 ⟨rfl, rfl⟩
  go_wp2
  go_ret
  exact ⟨rfl, rfl⟩
 ·rw [decide_eq_false h0, Bool.false_and]
  go_enter Tryz.func107, Tryz.ntmps107
  go_wp2
  go_ret
  exact ⟨rfl, rfl⟩
end Go.Proofs.YteaaepbnoiecoaaGreat
