/- Texts joined for a claim: LawH, LawE, HfL, Mark, MarkH, MarkI, HcC. -/
import Derived.Test.YtilgbekffbphgaaGreatJaj
import Derived.Deep.DeepCutAuto
namespace Go.Proofs.YtilgbekffbphgaaGreat
open Go.RowKit
def Rs (w : World) (v : Value) (xss : List (List Int)) : Prop :=
 ∃ a c, v = .slice a xss.length c /\ (xss = [] \/ ∃ b off, a = some ⟨b, off, none⟩ /\ ∀ j (h : j < xss.length), ∃ u, w.cell? ⟨b, off + j, none⟩ = some u /\ Sl w u xss[j])
theorem Rs.below {w w' : World} {v : Value} {xss : List (List Int)} (h : Rs w v xss) (hb : Below w.heap.size w w') : Rs w' v xss := by
 obtain ⟨a, c, rfl, h⟩ := h
 refine ⟨a, c, rfl, ?_⟩
 rcases h with h | ⟨b, off, ha, h⟩
 ·exact .inl h
 ·refine .inr ⟨b, off, ha, fun j hj => ?_⟩
  obtain ⟨u, h1, h2⟩ := h j hj
  exact ⟨u, kept hb h1, h2.below hb⟩
theorem Re.rs {w : World} {v : Value} {xss : List (List Int)} (h : Re w v xss) : Rs w v xss := by
 obtain ⟨a, c, rfl, _, _, h⟩ := h
 refine ⟨a, c, rfl, ?_⟩
 rcases h with h | ⟨b, off, ha, h⟩
 ·exact .inl h
 ·refine .inr ⟨b, off, ha, fun j hj => ?_⟩
  obtain ⟨u, h1, h2⟩ := h j hj
  exact ⟨u, h1, h2.sl⟩
def Hr (w : World) (v : Value) (X : Her) : Prop := ∃ d u, v = .agg #[d, u] /\ Sl w d X.dg /\ Rs w u X.up
theorem Hv.hr {w : World} {v : Value} {X : Her} (h : Hv w v X) : Hr w v X := by
 obtain ⟨d, u, rfl, h1, h2⟩ := h
 exact ⟨d, u, rfl, h1.sl, h2.rs⟩
/-! ### Sizes -/
/-! ### Copies -/

theorem like_c0 {x y : Value} {xs ys : List Int} {w : World} (hx : Sl w x xs) (hy : Sl w y ys) (hm : xs.length <= 1048576) :
  Calls Tryz.prog 14 #[x, y] w fun e w' => e = .returned (.bool (decide (xs = ys))) /\ Below w.heap.size w w' := by
 by_cases hl : ys.length = xs.length
 ·rcases two_rows hx hy hl with ⟨rfl, rfl, a, c, a2, c2, rfl, rfl⟩ | ⟨b, off, c, b2, off2, c2, rfl, rfl, hx, hy⟩
  ·go_enter Tryz.func14, Tryz.ntmps14
   go_wp2
   refine wp_loop_rounds 1 ?_; rw [rounds_succ]
   go_wp2
   go_ret
   exact ⟨rfl, Below.refl _ _⟩
  have HL := Lib.hid hl; clear hl
  go_enter Tryz.func14, Tryz.ntmps14
  go_wp2
  go_loopw [5] (fun i wr => ∃ m : Nat, m <= xs.length /\ i = .int .i64 m /\ xs.take m = ys.take m /\ Below w.heap.size w wr)
   (fun i _ => xs.length - (intOf i).toNat)
  case atStart => exact ⟨0, Nat.zero_le _, rfl, rfl, Below.refl _ _⟩
  case round =>
   obtain ⟨m, hm', rfl, heq, hb⟩ := hrel
   by_cases hlt : m < xs.length
   ·obtain ⟨u, hxm, hcx, htx⟩ := (hx.below hb).get hlt
    have hlt2 : m < ys.length := by rw [HL.out]; exact hlt
    obtain ⟨z, hym, hcy, hty⟩ := (hy.below hb).get hlt2
    have H := Lib.hid (And.intro htx (And.intro hty heq)); clear htx hty heq
    by_cases huz : u = z
    ·subst huz
     go_wp2
     refine region_flow [(false, [(0, 0), (1, 0), (2, 0), (3, 1), (4, 0), (5, 0), (6, 0), (7, 1), (8, 0)])] (by kernel_rfl) ?_
     refine norm_K fun K hK => ?_
     change wpList _ _ _ [_, _, _, _, _, _, _, _, _] _ _
     go_wp2
     first | (refine hK _ _ ⟨rfl, ?_⟩; clear hK K) | refine ⟨rfl, ?_⟩
     go_wp2
     go_roundw
     case rel => exact ⟨m + 1, by omega, by go_num, by rw [H.out.1, H.out.2.1, H.out.2.2], hb.drew⟩
     case measure => simp [intOf]; omega
    ·have hd : decide (xs = ys) = false := by
      refine decide_eq_false fun he => huz ?_
      have h1 : xs.take (m + 1) = ys.take (m + 1) := by rw [he]
      rw [H.out.1, H.out.2.1, H.out.2.2] at h1
      have h2 := congrArg List.getLast? (List.append_cancel_left h1)
      simpa using h2
     have hne : (u != z) = true := by simpa using huz
     have HD := Lib.hid hd; clear hd
     go_wp2
     refine region_flow [(false, [(0, 0), (1, 0), (2, 0), (3, 1), (4, 0), (5, 0), (6, 0), (7, 1), (8, 0)])] (by kernel_rfl) ?_
     refine norm_K fun K hK => ?_
     change wpList _ _ _ [_, _, _, _, _, _, _, _, _] _ _
     go_wp2
     first | (refine hK _ _ ⟨rfl, ?_⟩; clear hK K) | refine ⟨rfl, ?_⟩
     go_wp2
     go_ret
     exact ⟨by rw [HD.out]; rfl, hb.drew⟩
   ·obtain rfl : m = xs.length := by omega
    rw [take_all (Nat.le_refl _), take_all (by rw [HL.out]; exact Nat.le_refl _)] at heq
    have hd : decide (xs = ys) = true := decide_eq_true heq
    have HD := Lib.hid hd; clear hd heq
    go_wp2
    go_ret
    exact ⟨by rw [HD.out]; rfl, hb⟩
 ·obtain ⟨a, c, rfl, _⟩ := hx
  obtain ⟨a2, c2, rfl, _⟩ := hy
  have hd : decide (xs = ys) = false := decide_eq_false fun he => hl (by rw [he])
  have hne : ((xs.length : Int) != (ys.length : Int)) = true := by rw [bne_iff_ne]; omega
  have HD := Lib.hid hd; clear hd
  go_enter Tryz.func14, Tryz.ntmps14
  go_wp2
  go_ret
  exact ⟨by rw [HD.out]; rfl, Below.refl _ _⟩
theorem like_c {x y : Value} {xs : List Int} {w : World} (hx : Sl w x xs) (hy : Sl w y xs) (hm : xs.length <= 1048576) :
  Calls Tryz.prog 14 #[x, y] w fun e w' => e = .returned (.bool true) /\ Below w.heap.size w w' := by
 have h := like_c0 hx hy hm
 rwa [decide_eq_true rfl] at h
theorem same9_c {x y : Value} {xss : List (List Int)} {w : World} (hx : Rs w x xss) (hy : Rs w y xss) (hm : xss.length <= 1048576) (hr : ∀ xs ∈ xss, xs.length <= 1048576) :
  Calls Tryz.prog 30 #[x, y] w fun e w' => e = .returned (.bool true) /\ Below w.heap.size w w' := by
 obtain ⟨a, c, rfl, hx⟩ := hx
 obtain ⟨a2, c2, rfl, hy⟩ := hy
 rcases hx with rfl | ⟨b, off, rfl, hx⟩
 ·go_enter Tryz.func30, Tryz.ntmps30
  go_wp2
  refine wp_loop_rounds 1 ?_; rw [rounds_succ]
  go_wp2
  go_ret
  exact ⟨rfl, Below.refl _ _⟩
 rcases hy with rfl | ⟨b2, off2, rfl, hy⟩
 ·go_enter Tryz.func30, Tryz.ntmps30
  go_wp2
  refine wp_loop_rounds 1 ?_; rw [rounds_succ]
  go_wp2
  go_ret
  exact ⟨rfl, Below.refl _ _⟩
 go_enter Tryz.func30, Tryz.ntmps30
 go_wp2
 go_loopw [5] (fun i wr => ∃ m : Nat, m <= xss.length /\ i = .int .i64 m /\ Below w.heap.size w wr)
  (fun i _ => xss.length - (intOf i).toNat)
 case atStart => exact ⟨0, Nat.zero_le _, rfl, Below.refl _ _⟩
 case round =>
  obtain ⟨m, hm', rfl, hb⟩ := hrel
  by_cases hlt : m < xss.length
  ·obtain ⟨u, hc, hs⟩ := hx m hlt
   obtain ⟨u2, hc2, hs2⟩ := hy m hlt
   have hc := kept hb hc
   have hs := hs.below hb
   have hc2 := kept hb hc2
   have hs2 := hs2.below hb
   have hxl := hr _ (List.getElem_mem hlt)
   obtain ⟨q, hq⟩ : ∃ q, q = xss[m] := ⟨_, rfl⟩
   rw [<- hq] at hs hs2 hxl
   clear hq
   go_wp2
   refine region_flow [(false, [(0, 0), (1, 0), (2, 0), (3, 1), (4, 0), (5, 0), (6, 0), (7, 1), (8, 4), (9, 0)])] (by kernel_rfl) ?_
   refine norm_K fun K hK => ?_
   change wpList _ _ _ [_, _, _, _, _, _, _, _, _, _] _ _
   go_wp2_with fail
   refine (like_c (hs.below bwT) (hs2.below bwT) hxl).mono ?_; rintro e w2 ⟨rfl, hb2⟩
   go_wp2_with fail
   first | (refine hK _ _ ⟨rfl, ?_⟩; clear hK K) | refine ⟨rfl, ?_⟩
   go_wp2
   go_roundw
   case rel => exact ⟨m + 1, by omega, by go_num, bwC hb.drew hb2⟩
   case measure => simp [intOf]; omega
  ·obtain rfl : m = xss.length := by omega
   go_wp2
   go_ret
   exact ⟨rfl, hb⟩
structure Chg (lo hi : Nat) (w w' : World) : Prop where
 os : w'.os = w.os
 tape : w'.tape = w.tape
 output : w'.output = w.output
 size : w.heap.size <= w'.heap.size
 block : ∀ k, k < w.heap.size -> (k < lo \/ hi <= k) -> w'.heap[k]? = w.heap[k]?
section
variable {lo hi lo' hi' B : Nat} {a w w' w2 : World} {v : Value} {xs : List Int}
theorem Chg.refl : Chg lo hi w w := ⟨rfl, rfl, rfl, Nat.le_refl _, fun _ _ _ => rfl⟩
theorem Chg.trans (h : Chg lo hi w w') (k : Chg lo hi w' w2) : Chg lo hi w w2 :=
 ⟨k.os.trans h.os, k.tape.trans h.tape, k.output.trans h.output, Nat.le_trans h.size k.size, fun j hj hr => (k.block j (Nat.lt_of_lt_of_le hj h.size) hr).trans (h.block j hj hr)⟩
theorem Chg.wide (h : Chg lo hi w w') (h1 : lo' <= lo) (h2 : hi <= hi') : Chg lo' hi' w w' := ⟨h.os, h.tape, h.output, h.size, fun k hk hr => h.block k hk (by omega)⟩
theorem Chg.below (h : Below w.heap.size w w') : Chg lo hi w w' := ⟨h.os, h.tape, h.output, h.size, fun k hk _ => h.block k hk⟩
theorem Chg.cell (h : Chg lo hi w w') {b o : Nat} (hc : w.cell? ⟨b, o, none⟩ = some v) (hr : b < lo \/ hi <= b) : w'.cell? ⟨b, o, none⟩ = some v := by
 rw [World.cell?_of_block (w := w) (h.block b (World.block_lt_of_cell? w _ hc) hr)]; exact hc
theorem ownsRow_chg {E : TypeId} {n : Nat} {zs : List Value} (h : Chg lo hi w w') (ho : w.ownsRow B E 1 v n zs) (hr : ∀ g, v.ownBlock = some g -> g < lo \/ hi <= g) : w'.ownsRow B E 1 v n zs := by
 refine ⟨ho.1, ?_⟩
 rcases ho.2 with h2 | ⟨g', cap', cur, rfl, h3, hh, h4⟩
 ·exact .inl h2
 ·exact .inr ⟨g', cap', cur, rfl, h3, by rw [h.block g' (Array.getElem?_eq_some_iff.1 hh).1 (hr g' rfl)]; exact hh, h4⟩
theorem OwnI.chg {g n cap : Nat} (h : Chg lo hi w w') (ho : OwnI w B g n cap xs) (hr : g < lo \/ hi <= g) : OwnI w' B g n cap xs :=
 ownsRow_chg h ho (fun j hj => by have e : g = j := Option.some.inj hj; omega)
end
/-! ### Marked rows -/
def sumL : List (List Int) -> Nat
 | [] => 0
 | x :: xs => x.length + sumL xs

structure Hs (X : Her) : Prop extends Hsz X where
 sum : sumL X.up <= 10000000
theorem Hv.op3 {w : World} {x : Value} {X : Her} {p : Int} {n : Nat} (h : Hv w x X) (hX : isH p n X = true) :
  ∃ a b c u v t bd od cd bu ou cu r s q, X = ⟨[a, b, c], [u, v, t]⟩ /\ x = .agg #[.slice (some ⟨bd, od, none⟩) 3 cd, .slice (some ⟨bu, ou, none⟩) 3 cu] /\
   (0 <= a /\ a < p) /\ (0 <= b /\ b < p) /\ (0 <= c /\ c < p) /\ Ev p n u /\ Ev p n v /\ Ev p n t /\
   w.cell? ⟨bd, od, none⟩ = some (.int .i64 a) /\ w.cell? ⟨bd, od + 1, none⟩ = some (.int .i64 b) /\ w.cell? ⟨bd, od + 2, none⟩ = some (.int .i64 c) /\
   w.cell? ⟨bu, ou, none⟩ = some r /\ w.cell? ⟨bu, ou + 1, none⟩ = some s /\ w.cell? ⟨bu, ou + 2, none⟩ = some q /\ El w r u /\ El w s v /\ El w q t /\ (3 <= cd /\ cd <= 9223372036854775807) /\ (3 <= cu /\ cu <= 9223372036854775807) := by
 obtain ⟨a, b, c, u, v, t, rfl, h1, h2, h3, h4, h5, h6, eu, ev, et⟩ := isH_op hX
 obtain ⟨d, y, rfl, hd, hy⟩ := h
 obtain ⟨bd, od, cd, rfl, k1, k2, hA⟩ := hd.op1 (by simp)
 obtain ⟨ay, cu, rfl, k3, k4, hR⟩ := hy
 rcases hR with h0 | ⟨bu, ou, rfl, hR⟩
 ·simp at h0
 obtain ⟨r, r1, r2⟩ := hR 0 (by simp)
 obtain ⟨s, s1, s2⟩ := hR 1 (by simp)
 obtain ⟨q, q1, q2⟩ := hR 2 (by simp)
 exact ⟨a, b, c, u, v, t, bd, od, cd, bu, ou, cu, r, s, q, rfl, rfl, ⟨h1, h2⟩, ⟨h3, h4⟩, ⟨h5, h6⟩, eu, ev, et, by simpa using hA 0 (by simp), by simpa using hA 1 (by simp), by simpa using hA 2 (by simp), by simpa using r1, s1, q1, r2, s2, q2, ⟨k1, k2⟩, ⟨k3, k4⟩⟩
theorem jtrace_c {p : Int} {s x : Value} {st : List Int} {X : Her} {w : World} (hd : Dok p st) (hs : El w s st) (hx : Hv w x X) (hX : isH p (sz st.length) X = true) :
  Calls Tryz.prog 36 #[.agg #[.int .i64 p, s], x] w fun e w' => e = .returned (.int .i64 (traceH p X)) /\ Below w.heap.size w w' := by
 have hp1 := hd.hp.lo
 have hp2 := hd.hp.hi
 obtain ⟨a0, c0, rfl, _⟩ := id hs.op
 obtain ⟨a1, b1, c1, u1, v1, t1, bd1, od1, cd1, bu1, ou1, cu1, r1, s1, q1, rfl, rfl, ba1, bb1, bc1, eu1, ev1, et1, ca1, cb1, cc1, cr1, cs1, cq1, er1, es1, eq1, kd1, ku1⟩ := Hv.op3 hx hX
 rw [show traceH p ⟨[a1, b1, c1], [u1, v1, t1]⟩ = (a1 + b1 + c1) % p from rfl]
 go_enter Tryz.func36, Tryz.ntmps36
 have hb0 : Below w.heap.size w ((w.alloc (.cells #[.int .i64 p, .slice a0 st.length c0] 26)).alloc (.cells #[.slice (some ⟨bd1, od1, none⟩) 3 cd1, .slice (some ⟨bu1, ou1, none⟩) 3 cu1] 29)) := bwT
 have hs := hs.below hb0; have ca1 := kept hb0 ca1; have cb1 := kept hb0 cb1; have cc1 := kept hb0 cc1
 have d0 : ((w.alloc (.cells #[.int .i64 p, .slice a0 st.length c0] 26)).alloc (.cells #[.slice (some ⟨bd1, od1, none⟩) 3 cd1, .slice (some ⟨bu1, ou1, none⟩) 3 cu1] 29)).cell? ⟨w.heap.size, 0, none⟩ = some (.int .i64 p) := by simp [go_sem]
 have d1 : ((w.alloc (.cells #[.int .i64 p, .slice a0 st.length c0] 26)).alloc (.cells #[.slice (some ⟨bd1, od1, none⟩) 3 cd1, .slice (some ⟨bu1, ou1, none⟩) 3 cu1] 29)).cell? ⟨w.heap.size, 1, none⟩ = some (.slice a0 st.length c0) := by simp [go_sem]
 have e0 : ((w.alloc (.cells #[.int .i64 p, .slice a0 st.length c0] 26)).alloc (.cells #[.slice (some ⟨bd1, od1, none⟩) 3 cd1, .slice (some ⟨bu1, ou1, none⟩) 3 cu1] 29)).cell? ⟨w.heap.size + 1, 0, none⟩ = some (.slice (some ⟨bd1, od1, none⟩) 3 cd1) := by simp [go_sem]
 have e1 : ((w.alloc (.cells #[.int .i64 p, .slice a0 st.length c0] 26)).alloc (.cells #[.slice (some ⟨bd1, od1, none⟩) 3 cd1, .slice (some ⟨bu1, ou1, none⟩) 3 cu1] 29)).cell? ⟨w.heap.size + 1, 1, none⟩ = some (.slice (some ⟨bu1, ou1, none⟩) 3 cu1) := by simp [go_sem]
 go_wp2_with fail
 refine region_flow [(false, [(0, 1), (2, 0), (3, 1), (4, 0), (5, 1), (6, 0), (7, 1), (8, 0), (9, 1), (10, 0), (11, 0), (12, 1), (13, 0), (14, 1), (15, 0), (1, 5)]), (false, [(16, 4), (17, 0)])] (by kernel_rfl) ?_
 refine norm_K fun K hK => ?_
 change wpList _ _ _ [_, _, _, _, _, _, _, _, _, _, _, _, _, _, _, _] _ _
 have hb1 : Below ((w.alloc (.cells #[.int .i64 p, .slice a0 st.length c0] 26)).alloc (.cells #[.slice (some ⟨bd1, od1, none⟩) 3 cd1, .slice (some ⟨bu1, ou1, none⟩) 3 cu1] 29)).heap.size ((w.alloc (.cells #[.int .i64 p, .slice a0 st.length c0] 26)).alloc (.cells #[.slice (some ⟨bd1, od1, none⟩) 3 cd1, .slice (some ⟨bu1, ou1, none⟩) 3 cu1] 29)) ((w.alloc (.cells #[.int .i64 p, .slice a0 st.length c0] 26)).alloc (.cells #[.slice (some ⟨bd1, od1, none⟩) 3 cd1, .slice (some ⟨bu1, ou1, none⟩) 3 cu1] 29)).drew := bwT
 have hs := hs.below hb1; have ca1 := kept hb1 ca1; have cb1 := kept hb1 cb1; have cc1 := kept hb1 cc1; have d0 := kept hb1 d0; have d1 := kept hb1 d1; have e0 := kept hb1 e0; have e1 := kept hb1 e1
 go_wp2_with fail
 refine (dfield_c).mono ?_; rintro e w2 ⟨rfl, hb2⟩
 have hs := hs.below hb2; have ca1 := kept hb2 ca1; have cb1 := kept hb2 cb1; have cc1 := kept hb2 cc1; have d0 := kept hb2 d0; have d1 := kept hb2 d1; have e0 := kept hb2 e0; have e1 := kept hb2 e1
 go_wp2_with fail
 have hz0 : Below ((w.alloc (.cells #[.int .i64 p, .slice a0 st.length c0] 26)).alloc (.cells #[.slice (some ⟨bd1, od1, none⟩) 3 cd1, .slice (some ⟨bu1, ou1, none⟩) 3 cu1] 29)).drew.heap.size ((w.alloc (.cells #[.int .i64 p, .slice a0 st.length c0] 26)).alloc (.cells #[.slice (some ⟨bd1, od1, none⟩) 3 cd1, .slice (some ⟨bu1, ou1, none⟩) 3 cu1] 29)).drew w2 := bwT
 first | (refine hK _ _ ⟨hz0, ?_⟩; clear hK K) | refine ⟨hz0, ?_⟩
 clear hz0
 refine norm_K fun K hK => ?_
 change wpList _ _ _ [_, _] _ _
 go_wp2_with fail
 refine (num_c (by omega) (by omega)).mono ?_; rintro e w3 ⟨rfl, rfl⟩
 go_wp2_with fail
 first | (refine hK _ _ ⟨rfl, ?_⟩; clear hK K) | refine ⟨rfl, ?_⟩
 go_wp2_with fail
 go_ret
 exact ⟨rfl, bwT⟩
end Go.Proofs.YtilgbekffbphgaaGreat
