/- Texts joined for a claim: HcA, HcB, HcC, HcE, Out, HcL, HcM, HcS, HcD, HcF, HcG, HcI, HcJ, Tree, HcQ, HcR, HcT, HcK, HcU. -/
import Derived.Test.YteaaepbnoiecoaaGreatJaj
import Derived.Lib.AppendZeros
import Derived.Test.YteaaepbnoiecoaaGreatFlow
import Derived.Deep.DeepCutAuto
namespace Go.Proofs.YteaaepbnoiecoaaGreat
open Go.RowKit
theorem Dok.is {p : Int} {st : List Int} (h : Dok p st) : isD p st = true := isD_iff.2 ⟨h.hp, by have := h.hl; omega, h.hs⟩
structure Hsz (X : Her) : Prop where
 h1 : X.dg.length <= 1048576
 h2 : X.up.length <= 1048576
 h3 : ∀ xs ∈ X.up, xs.length <= 1048576
def Lh (w : World) (v : Value) (l : List Her) : Prop :=
 ∃ a c, v = .slice a l.length c /\ (l = [] \/ ∃ b off, a = some ⟨b, off, none⟩ /\ ∀ j (h : j < l.length), ∃ d u, w.cell? ⟨b, off + j * 2, none⟩ = some d /\ w.cell? ⟨b, off + j * 2 + 1, none⟩ = some u /\ Hv w (.agg #[d, u]) l[j])
theorem Lh.below {w w' : World} {v : Value} {l : List Her} (h : Lh w v l) (hb : Below w.heap.size w w') : Lh w' v l := by
 obtain ⟨a, c, rfl, h⟩ := h
 refine ⟨a, c, rfl, ?_⟩
 rcases h with h | ⟨b, off, ha, h⟩
 ·exact .inl h
 ·refine .inr ⟨b, off, ha, fun j hj => ?_⟩
  obtain ⟨d, u, h1, h2, h3⟩ := h j hj
  exact ⟨d, u, kept hb h1, kept hb h2, h3.below hb⟩
theorem Lh.get {w : World} {b off : Nat} {l : List Her} (h : ∀ j (h : j < l.length), ∃ d u, w.cell? ⟨b, off + j * 2, none⟩ = some d /\ w.cell? ⟨b, off + j * 2 + 1, none⟩ = some u /\ Hv w (.agg #[d, u]) l[j]) {m : Nat} (hm : m < l.length) :
  ∃ d u X, X ∈ l /\ w.cell? ⟨b, off + m * 2, none⟩ = some d /\ w.cell? ⟨b, off + m * 2 + 1, none⟩ = some u /\ Hv w (.agg #[d, u]) X /\ l.take (m + 1) = l.take m ++ [X] := by
 obtain ⟨d, u, h1, h2, h3⟩ := h m hm
 exact ⟨d, u, l[m], List.getElem_mem hm, h1, h2, h3, List.take_succ_eq_append_getElem hm⟩
theorem Lh.one {w : World} {d u : Value} {X : Her} {b c : Nat} (h : Hv w (.agg #[d, u]) X) (h0 : w.cell? ⟨b, 0, none⟩ = some d) (h1 : w.cell? ⟨b, 1, none⟩ = some u) : Lh w (.slice (some ⟨b, 0, none⟩) 1 c) [X] := by
 refine ⟨_, c, rfl, .inr ⟨b, 0, rfl, fun j hj => ?_⟩⟩
 obtain rfl : j = 0 := by simpa using hj
 exact ⟨d, u, h0, h1, h⟩
theorem Lh.two {w : World} {d u d' u' : Value} {X Y : Her} {b c : Nat} (h : Hv w (.agg #[d, u]) X) (h0 : w.cell? ⟨b, 0, none⟩ = some d) (h1 : w.cell? ⟨b, 1, none⟩ = some u)
  (k : Hv w (.agg #[d', u']) Y) (h2 : w.cell? ⟨b, 2, none⟩ = some d') (h3 : w.cell? ⟨b, 3, none⟩ = some u') : Lh w (.slice (some ⟨b, 0, none⟩) 2 c) [X, Y] := by
 refine ⟨_, c, rfl, .inr ⟨b, 0, rfl, fun j hj => ?_⟩⟩
 simp at hj
 rcases (show j = 0 \/ j = 1 by omega) with rfl | rfl
 ·exact ⟨d, u, h0, h1, h⟩
 ·exact ⟨d', u', h2, h3, k⟩
theorem chk3_dok {p : Int} {st : List Int} (h : chk3 p st [] = 0) : Dok p st := by
 unfold chk3 at h
 split at h
 ·rename_i h1
  split at h
  ·cases h
  ·exact Dok.of h1 (by assumption)
 ·cases h


theorem FrH.mk_ {w1 w2 : World} {B : Nat} {d u : Value} {us : List Value} {dg : List Int} {up : List (List Int)} (h1 : FrI w1 B d dg) (hb : Below w1.heap.size w1 w2) (h2 : FrR w2 w1.heap.size u us up) (hB : B <= w1.heap.size) : FrH w2 B (.agg #[d, u]) ⟨dg, up⟩ := by
 refine ⟨d, u, us, rfl, h1.below hb, h2.more hB, fun z hz e => ?_⟩
 obtain ⟨g, hg, hg1, _⟩ : ∃ g, z.ownBlock = some g /\ w1.heap.size <= g /\ g < w2.heap.size := by
  obtain ⟨_, _, _, _, h4, h5, h6⟩ := h2
  exact RowsA.mem ⟨h4, h5, h6⟩ hz
 obtain ⟨gd, hgd, _, hgd2⟩ := h1.blk
 rw [hg, hgd] at e
 cases e
 omega
theorem FrI.set_ {w : World} {B : Nat} {v : Value} {xs : List Int} (h : FrI w B v xs) {p : Addr} (hp : p.block < B) (u : Value) : FrI (w.setCell p u) B v xs := by
 obtain ⟨g, cap, rfl, h⟩ := h
 exact ⟨g, cap, rfl, h.other (by have := h.lt.1; omega) u⟩
theorem FrR.set_ {w : World} {B : Nat} {v : Value} {us : List Value} {xss : List (List Int)} (h : FrR w B v us xss) {p : Addr} (hp : p.block < B) (u : Value) : FrR (w.setCell p u) B v us xss := by
 obtain ⟨g0, cap0, e0, hB, hs, _⟩ := h.lt
 obtain ⟨g, cap, rfl, h1, h2, h3, h4⟩ := h
 cases e0
 exact ⟨g0, cap0, rfl, ownsRow_of h1 (Below.heap_setCell _ _ _ _ (by omega)) hB, h2, fun j a b => (h3 j a b).set_ hp u, h4⟩
theorem FrH.set_ {w : World} {B : Nat} {v : Value} {X : Her} (h : FrH w B v X) {p : Addr} (hp : p.block < B) (u : Value) : FrH (w.setCell p u) B v X := by
 obtain ⟨d, u', us, rfl, h1, h2, h3⟩ := h
 exact ⟨d, u', us, rfl, h1.set_ hp u, h2.set_ hp u, h3⟩
theorem zero_size (n : Nat) : (Builtin.zeroCells #[Value.int .i64 0] n).size = n := by
 unfold Builtin.zeroCells
 simp
set_option maxRecDepth 100000 in
theorem grow_c {n : Nat} {w : World} (h0 : 0 < n) (hn : n <= 1000) :
  Calls Tryz.prog 100 #[.slice none 0 0, .int .i64 n] w fun e w' => ∃ g cap, e = .returned (.slice (some ⟨g, 0, none⟩) 0 cap) /\ OwnI w' w.heap.size g 0 cap [] /\ Below w.heap.size w w' := by
 obtain ⟨i0, hi, hz0, hz1, hz2⟩ := info_parts infoI
 have hrun := fun W => Lib.run_append_nil_zeros (P := Tryz.prog) W 24 3 24 2 i0 (.int .i64 0) .i64 .i64 Tryz.underlying24 Tryz.underlying3 hi hz0 n h0 (by omega) (by omega) (by rw [hz2]; omega)
 have hcap := grownCap_ge w n 0 2
 have hcap2 := grownCap_le_maxLen w n 0 2 (by simp only [maxLen]; omega)
 have hcs := zero_size
 obtain ⟨C, hC⟩ : ∃ C, C = Builtin.zeroCells #[Value.int .i64 0] n ++ Builtin.zeroCells #[Value.int .i64 0] (grownCap w n 0 2 - n) := ⟨_, rfl⟩
 have hsz : C.size = grownCap w n 0 2 := by rw [hC, Array.size_append, hcs, hcs]; omega
 have hr := hrun w
 rw [show (Value.int .i64 0).cells = #[Value.int .i64 0] from rfl, <- hC] at hr
 obtain ⟨k, hk⟩ : ∃ k, k = grownCap w n 0 2 := ⟨_, rfl⟩
 rw [<- hk] at hcap hcap2 hsz hr
 simp only [maxLen] at hcap2
 have HR := Lib.hid hr; have HS := Lib.hid hsz
 clear hrun hcs hC hr hk hsz
 go_enter Tryz.func100, Tryz.ntmps100
 go_wp2_with (at_builtin; refine Lib.wpList_append_run _ rfl _ _ _ _ rfl (.slice none 0 0) (.int .i64 n) rfl rfl _ _ HR.out ?_)
 go_ret
 exact ⟨_, _, rfl, OwnI.mk_ (cur := C) (Nat.le_refl _) (heap_alloc_new w.drew _) HS.out (by simp) (Nat.zero_le _) (by simp only [maxLen]; omega), bwT⟩
def Bx (w : World) (b : Nat) (x y : Value) : Prop := w.heap[b]? = some (.cells #[x, y] 7777 (0, 0))
section
variable {w w' : World} {b : Nat} {x y : Value}
theorem Bx.lt (h : Bx w b x y) : b < w.heap.size := (Array.getElem?_eq_some_iff.1 h).1
theorem Bx.c0 (h : Bx w b x y) : w.cell? ⟨b, 0, none⟩ = some x := by
 unfold Bx at h; simp [World.cell?, h]
theorem Bx.c1 (h : Bx w b x y) : w.cell? ⟨b, 1, none⟩ = some y := by
 unfold Bx at h; simp [World.cell?, h]
theorem Bx.f0 (h : Bx w b x y) : w.frozen? ⟨b, 0, none⟩ = false := frozen_of_row _ _ _ _ _ h
theorem Bx.f1 (h : Bx w b x y) : w.frozen? ⟨b, 1, none⟩ = false := frozen_of_row _ _ _ _ _ h
theorem Bx.bl {B : Nat} (h : Bx w b x y) (hb : Below B w w') (hl : b < B) : Bx w' b x y := by
 unfold Bx at h ⊢
 rw [hb.block b hl]; exact h
theorem Bx.below (h : Bx w b x y) (hb : Below w.heap.size w w') : Bx w' b x y := h.bl hb h.lt
theorem Bx.set0 (h : Bx w b x y) (v : Value) : Bx (w.setCell ⟨b, 0, none⟩ v) b v y := heap_setCell_same _ _ _ _ _ _ h
theorem Bx.set1 (h : Bx w b x y) (v : Value) : Bx (w.setCell ⟨b, 1, none⟩ v) b x v := heap_setCell_same _ _ _ _ _ _ h
theorem Bx.far (h : Bx w b x y) {p : Addr} (hp : b ≠ p.block) (v : Value) : Bx (w.setCell p v) b x y := by
 unfold Bx at h ⊢
 rw [Below.heap_setCell _ _ _ _ hp]; exact h
end
section
variable {w : World} {B : Nat} {v : Value} {xs : List Int} {us : List Value} {xss : List (List Int)}
theorem ownsRow_set {E : TypeId} {n : Nat} {zs : List Value} (h : w.ownsRow B E 1 v n zs) {p : Addr} (hp : p.block < B) (u : Value) : (w.setCell p u).ownsRow B E 1 v n zs := by
 cases hv : v.ownBlock with
 | none =>
  refine ⟨h.1, ?_⟩
  rcases h.2 with h2 | ⟨g', cap', cur, rfl, _⟩
  ·exact .inl h2
  ·cases hv
 | some g =>
  refine ⟨h.1, ?_⟩
  rcases h.2 with h2 | ⟨g', cap', cur, rfl, h3, hh, h4⟩
  ·exact .inl h2
  ·exact .inr ⟨g', cap', cur, rfl, h3, by rw [Below.heap_setCell _ _ _ _ (by omega)]; exact hh, h4⟩
theorem OwN.set_ (h : OwN w B v xs) {p : Addr} (hp : p.block < B) (u : Value) : OwN (w.setCell p u) B v xs := ownsRow_set h hp u
theorem OwV.set_ (h : OwV w B v us) {p : Addr} (hp : p.block < B) (u : Value) : OwV (w.setCell p u) B v us := ownsRow_set h hp u
theorem RowsA.set_ (h : RowsA w B us xss) {p : Addr} (hp : p.block < B) (u : Value) : RowsA (w.setCell p u) B us xss := ⟨h.1, fun j a b => (h.2.1 j a b).set_ hp u, h.2.2⟩
end
structure Out (w : World) (N : Nat) (dv uv : Value) (us : List Value) (dg : List Int) (up : List (List Int)) : Prop where
 bx : Bx w N dv uv
 od : OwN w (N + 1) dv dg
 ou : OwV w (N + 1) uv us
 rows : RowsA w (N + 1) us up
 ne : ∀ z ∈ us, z.ownBlock ≠ dv.ownBlock
section
variable {w w' : World} {N : Nat} {dv uv : Value} {us : List Value} {dg : List Int} {up : List (List Int)}
theorem Out.below (h : Out w N dv uv us dg up) (hb : Below w.heap.size w w') : Out w' N dv uv us dg up := ⟨h.bx.below hb, h.od.below hb, h.ou.below hb, h.rows.below hb, h.ne⟩
theorem Out.row {W : World} (h : Out W N dv uv us dg up) {z nv : Value} {xs : List Int} (hz : FrI W (N + 1) z xs) (hne : ∀ y ∈ us, y.ownBlock ≠ z.ownBlock) (hnd : z.ownBlock ≠ dv.ownBlock) (ho : OwV w' (N + 1) nv (us ++ [z])) (hb : Below (N + 1) W w') (hg : W.grownBy w' uv.ownBlock) :
  Out (w'.setCell ⟨N, 1, none⟩ nv) N dv nv (us ++ [z]) dg (up ++ [xs]) := by
 refine ⟨(h.bx.bl hb (Nat.lt_succ_self _)).set1 nv, (h.od.kept hg (apart h.od h.ou)).set_ (Nat.lt_succ_self _) _, ho.set_ (Nat.lt_succ_self _) _, ((h.rows.app h.ou hg).snoc (hz.app h.ou hg) hne).set_ (Nat.lt_succ_self _) _, fun y hy => ?_⟩
 rcases List.mem_append.1 hy with hy | hy
 ·exact h.ne y hy
 ·rw [List.mem_singleton.1 hy]; exact hnd
theorem Out.fresh (h : Out w N dv uv us dg up) {z : Value} {xs : List Int} (hz : FrI w' w.heap.size z xs) : (∀ y ∈ us, y.ownBlock ≠ z.ownBlock) /\ z.ownBlock ≠ dv.ownBlock := by
 refine ⟨h.rows.fresh hz, fun e => ?_⟩
 obtain ⟨g, hg, hg1, _⟩ := hz.blk
 rw [hg] at e
 have := (h.od.lt g e.symm).2
 omega
end
structure OutU (w : World) (N : Nat) (dv uv : Value) (us : List Value) (up : List (List Int)) : Prop where
 bx : Bx w N dv uv
 ou : OwV w (N + 1) uv us
 rows : RowsA w (N + 1) us up
theorem OutU.below {w w' : World} {N : Nat} {dv uv : Value} {us : List Value} {up : List (List Int)} (h : OutU w N dv uv us up) (hb : Below w.heap.size w w') : OutU w' N dv uv us up := ⟨h.bx.below hb, h.ou.below hb, h.rows.below hb⟩
theorem OutU.row {W w' : World} {N : Nat} {dv uv : Value} {us : List Value} {up : List (List Int)} (h : OutU W N dv uv us up) {z nv : Value} {xs : List Int} (hz : FrI W (N + 1) z xs) (hne : ∀ y ∈ us, y.ownBlock ≠ z.ownBlock) (ho : OwV w' (N + 1) nv (us ++ [z])) (hb : Below (N + 1) W w') (hg : W.grownBy w' uv.ownBlock) :
  OutU (w'.setCell ⟨N, 1, none⟩ nv) N dv nv (us ++ [z]) (up ++ [xs]) :=
 ⟨(h.bx.bl hb (Nat.lt_succ_self _)).set1 nv, ho.set_ (Nat.lt_succ_self _) _, ((h.rows.app h.ou hg).snoc (hz.app h.ou hg) hne).set_ (Nat.lt_succ_self _) _⟩

theorem flat_le {xss : List (List Int)} : ∀ k, (xss.take k).flatten.length <= xss.flatten.length := by
 intro k
 have h := congrArg List.flatten (List.take_append_drop k xss)
 rw [List.flatten_append] at h
 rw [<- h, List.length_append]; omega
def totN (xss : List (List Int)) : Nat := xss.flatten.length
theorem totN_snoc {xss : List (List Int)} {xs : List Int} : totN (xss ++ [xs]) = totN xss + xs.length := by unfold totN; rw [List.flatten_append, List.length_append]; simp
set_option maxHeartbeats 1000000 in
set_option maxRecDepth 100000 in
theorem concat_c {x : Value} {xss : List (List Int)} {w : World} (hx : Re w x xss) (hne : ∀ xs ∈ xss, 0 < xs.length) (hn : 0 < xss.length) (hm : xss.flatten.length <= 1000) (hm2 : xss.length <= 1000) :
  Calls Tryz.prog 67 #[x] w fun e w' => ∃ v, e = .returned v /\ FrI w' w.heap.size v xss.flatten /\ Below w.heap.size w w' := by
 obtain ⟨a, c, rfl, h1, h2, hx⟩ := hx
 rcases hx with rfl | ⟨b, off, rfl, hx⟩
 ·simp at hn
 have hpos : 0 < xss.flatten.length := by
  match xss, hn with
  | y :: ys, _ => have := hne y (by simp); simp; omega
 have hle := Lib.hid (show ∀ k, totN (xss.take k) <= totN xss from flat_le (xss := xss))
 change 0 < totN xss at hpos; change totN xss <= 1000 at hm
 have hx0 : ∀ j (h : j < xss.length), ∃ u, w.cell? ⟨b, off + j, none⟩ = some u /\ El w u xss[j] := hx
 have HX := Lib.hid hx; clear hx
 go_enter Tryz.func67, Tryz.ntmps67
 go_wp2
 go_loop [3, 11] (fun q i => ∃ k : Nat, k <= xss.length /\ i = .int .i64 k /\ q = .int .i64 (totN (xss.take k) : Nat)) (fun _ i => xss.length - (intOf i).toNat)
 case atStart => exact ⟨0, Nat.zero_le _, rfl, rfl⟩
 case round =>
  obtain ⟨k, hk, rfl, rfl⟩ := hrel
  by_cases hlt : k < xss.length
  ·obtain ⟨a1, c1, xs, hxs, hc, he, ht⟩ := Re.get HX.out hlt
   have hf := hle.out (k + 1)
   rw [ht, totN_snoc] at hf
   have hxl : xs.length <= 1000 := by omega
   obtain ⟨m, hmm⟩ : ∃ m, m = totN (xss.take k) := ⟨_, rfl⟩
   rw [<- hmm] at hf ⊢
   have HT := Lib.hid ht; have HMM := Lib.hid hmm; clear ht hmm
   have hneg : ¬ ((m : Int) + (xs.length : Int) < 0) := by omega
   go_wp2
   go_round
   case rel => exact ⟨k + 1, by omega, by go_num, by rw [HT.out, totN_snoc, <- HMM.out]; go_num⟩
   case measure => simp [intOf]; omega
  ·obtain rfl : k = xss.length := by omega
   rw [show totN (xss.take xss.length) = totN xss by rw [List.take_length]]
   obtain ⟨S, hS⟩ : ∃ S, S = totN xss := ⟨_, rfl⟩
   rw [<- hS] at hpos hm ⊢
   have HS := Lib.hid hS; clear hS
   go_wp2_with fail
   refine (grow_c hpos hm).mono ?_; rintro e w1 ⟨g, cap, rfl, ho, hb⟩
   go_wp2
   go_loopw [6, 27] (fun q i wr => ∃ (k g cap m : Nat), k <= xss.length /\ i = .int .i64 k /\ q = .slice (some ⟨g, 0, none⟩) m cap /\ m = totN (xss.take k) /\ OwnI wr w.heap.size g m cap (xss.take k).flatten /\ Below w.heap.size w wr) (fun _ i _ => xss.length - (intOf i).toNat)
   case atStart => exact ⟨0, g, cap, 0, Nat.zero_le _, rfl, rfl, rfl, ho, hb⟩
   case round =>
    clear ho hb
    obtain ⟨k, gg, cc, m, hk, rfl, rfl, hmk, ho, hb⟩ := hrel
    by_cases hlt : k < xss.length
    ·obtain ⟨a1, c1, xs, hxs, hc, he, ht⟩ := Re.get HX.out hlt
     have hf := hle.out (k + 1)
     rw [ht, totN_snoc, <- hmk, <- HS.out] at hf
     have hxp := hne xs hxs
     have hc := kept hb hc
     obtain ⟨b1, o1, c2, e2, _, _, hA⟩ := (he.below hb).op1 hxp
     cases e2
     have HT := Lib.hid ht; have HMM := Lib.hid hmk; clear ht hmk
     obtain ⟨ys, hys⟩ : ∃ ys, ys = (xss.take k).flatten := ⟨_, rfl⟩
     rw [<- hys] at ho
     have HYS := Lib.hid hys; clear hys
     go_wp2_with (at_builtin; refine app_int rfl _ _ rfl wr w.heap.size gg m cc ys rfl b1 o1 xs.length c1 xs rfl ho hb.size hA rfl hxp (by omega) ?_; intro g' cap' w' ho' hg' hge)
     go_roundw
     case rel => exact ⟨k + 1, g', cap', m + xs.length, by omega, by go_num, rfl, by rw [HT.out, totN_snoc, <- HMM.out], by rw [HT.out, List.flatten_append, <- HYS.out]; simpa using ho', blw_grown hb hg' ho.lt.1⟩
     case measure => simp [intOf]; omega
    ·obtain rfl : k = xss.length := by omega
     have e : xss.take xss.length = xss := List.take_length
     rw [e] at hmk ho
     clear e
     have HMM := Lib.hid hmk; clear hmk
     go_wp2
     go_ret
     refine ⟨_, rfl, ⟨gg, cc, ?_, ?_⟩, hb⟩
     ·rw [HMM.out]; rfl
     ·have e := HMM.out; subst e; exact ho

theorem Ev.plus {p k : Int} {n : Nat} {xs ys : List Int} (hp : 1 <= p) (h : Ev p n xs) (h' : Ev p n ys) : Ev p n (plusL p xs ys k) := ⟨by rw [plusL_len (by rw [h.1, h'.1])]; exact h.1, plusL_fp hp⟩
theorem Ev.scale {p k : Int} {n : Nat} {xs : List Int} (hp : 1 <= p) (h : Ev p n xs) : Ev p n (scaleL p xs k) := ⟨by rw [scaleL_len]; exact h.1, scaleL_fp hp⟩
theorem Ev.zero {p : Int} {n : Nat} (hp : 1 <= p) : Ev p n (List.replicate n 0) := ⟨List.length_replicate, fun x hx => by have := List.eq_of_mem_replicate hx; omega⟩
theorem Ev.one {p : Int} {n i : Nat} (hp : 2 <= p) : Ev p n (oneL n i) := ⟨oneL_len, oneL_fp hp⟩



section
variable {P : Program} {ops : Array Oper}
inductive Tr where
 | lin (segs : List (Bool × List (Nat × Nat)))
 | two (i m : Nat) (s : Tr) (j n : Nat) (t : Tr)
def Tr.lenOk : Tr -> Nat -> Bool
 | .lin segs, k => (flat segs).length == k
 | .two _ _ _ _ _ _, 0 => false
 | .two _ _ s _ _ t, k + 1 => s.lenOk k && t.lenOk k
def Tr.acts : Tr -> Nat -> Bool
 | .lin segs, i => (flat segs).any fun p => p.1 == i && decide (2 <= p.2)
 | .two i _ s j _ t, k => i == k || j == k || s.acts k || t.acts k
end


def sumR (p : Int) (xss : List (List Int)) (k : Int) (yss : List (List Int)) : List (List Int) := List.zipWith (fun x y => plusL p x y k) xss yss
theorem sumR_take {p k : Int} : ∀ {xss yss : List (List Int)} {m : Nat} (h : m < xss.length) (h' : m < yss.length), sumR p (xss.take (m + 1)) k (yss.take (m + 1)) = sumR p (xss.take m) k (yss.take m) ++ [plusL p xss[m] yss[m] k]
 | x :: xs, y :: ys, 0, _, _ => rfl
 | x :: xs, y :: ys, m + 1, h, h' => by
  have := sumR_take (p := p) (k := k) (xss := xs) (yss := ys) (m := m) (by simpa using h) (by simpa using h')
  simp only [sumR, List.take_succ_cons, List.zipWith_cons_cons, List.getElem_cons_succ] at this ⊢
  rw [this]; rfl
set_option maxHeartbeats 1000000 in
set_option maxRecDepth 100000 in
theorem sl15_c {p k : Int} {x y : Value} {xss yss : List (List Int)} {n : Nat} {w : World} (hp : 1 <= p) (hp2 : p <= 1000) (hk1 : -1000000 <= k) (hk2 : k <= 1000000) (hx : Re w x xss) (hy : Re w y yss)
  (hX : ∀ xs ∈ xss, Ev p n xs) (hY : ∀ xs ∈ yss, Ev p n xs) (hl : yss.length = xss.length) (hn : n <= 1000) (hm : xss.length <= 1000) :
  Calls Tryz.prog 121 #[.int .i64 p, x, .int .i64 k, y] w fun e w' => ∃ v us, e = .returned v /\ OwV w' w.heap.size v us /\ RowsA w' w.heap.size us (sumR p xss k yss) /\ (0 < xss.length -> ∃ g cap, v = .slice (some ⟨g, 0, none⟩) us.length cap) /\ Below w.heap.size w w' := by
 obtain ⟨a, c, rfl, h1, h2, hx⟩ := hx
 obtain ⟨a2, c2, rfl, h3, h4, hy⟩ := hy
 rcases hx with rfl | ⟨b, off, rfl, hx⟩
 ·obtain rfl : yss = [] := List.length_eq_zero_iff.1 hl
  go_enter Tryz.func121, Tryz.ntmps121
  go_wp2
  refine wp_loop_rounds 1 ?_; rw [rounds_succ]
  go_wp2
  go_ret
  exact ⟨_, [], rfl, OwV.new (Nat.le_refl _), RowsA.nil _ _, fun h => by simp at h, bwT⟩
 rcases hy with rfl | ⟨b2, off2, rfl, hy⟩
 ·obtain rfl : xss = [] := List.length_eq_zero_iff.1 hl.symm
  go_enter Tryz.func121, Tryz.ntmps121
  go_wp2
  refine wp_loop_rounds 1 ?_; rw [rounds_succ]
  go_wp2
  go_ret
  exact ⟨_, [], rfl, OwV.new (Nat.le_refl _), RowsA.nil _ _, fun h => by simp at h, bwT⟩
 have HL := Lib.hid hl
 have HX := Lib.hid hx; have HY := Lib.hid hy
 have hst := fun m h h' => sumR_take (p := p) (k := k) (xss := xss) (yss := yss) (m := m) h h'
 have HST := Lib.hid hst
 clear hst hx hy hl
 go_enter Tryz.func121, Tryz.ntmps121
 go_wp2
 go_loopw [9, 10] (fun o i wr => ∃ (m g cap : Nat) (us : List Value), m <= xss.length /\ i = .int .i64 m /\ o = .slice (some ⟨g, 0, none⟩) m cap /\ us.length = m /\ OwV wr w.heap.size (.slice (some ⟨g, 0, none⟩) m cap) us /\ RowsA wr w.heap.size us (sumR p (xss.take m) k (yss.take m)) /\ Below w.heap.size w wr)
  (fun _ i _ => xss.length - (intOf i).toNat)
 case atStart => exact ⟨0, w.heap.size, 0, [], Nat.zero_le _, rfl, rfl, rfl, OwV.new (Nat.le_refl _), RowsA.nil _ _, bwT⟩
 case round =>
  obtain ⟨m, g, cap, us, hm', rfl, rfl, hul, ho, hr, hb⟩ := hrel
  have HU := Lib.hid hul; clear hul
  by_cases hlt : m < xss.length
  ·have hlt2 : m < yss.length := by rw [HL.out]; exact hlt
   obtain ⟨u1, hc1, he1⟩ := HX.out m hlt
   obtain ⟨u2, hc2, he2⟩ := HY.out m hlt2
   have hs := HST.out m hlt hlt2
   have ex := hX _ (List.getElem_mem hlt)
   have ey := hY _ (List.getElem_mem hlt2)
   obtain ⟨xs, hxs⟩ : ∃ q, q = xss[m] := ⟨_, rfl⟩
   obtain ⟨ys, hys⟩ : ∃ q, q = yss[m] := ⟨_, rfl⟩
   rw [<- hxs, <- hys] at hs
   rw [<- hxs] at he1 ex
   rw [<- hys] at he2 ey
   clear hxs hys
   have e1 := Lib.hid ex.1; have e2 := Lib.hid ey.1
   have sx := ex.sm (M := 1000000) (by omega) (by omega)
   have sy := ey.sm (M := 1000000) (by omega) (by omega)
   have LS := Lib.hid (scaleL_len (p := p) (xs := ys) (k := k))
   have SS := (scaleL_fp (p := p) (xs := ys) (k := k) hp).sm (M := 1000000) (by omega) (by omega)
   have HS := Lib.hid hs
   have hps := Lib.hid (plus_scale (p := p) (k := k) (xs := xs) (ys := ys))
   clear hs ex ey
   obtain ⟨a3, c3, rfl, _⟩ := he1.op
   obtain ⟨a4, c4, rfl, _⟩ := he2.op
   have hc1 := kept hb hc1; have hc2 := kept hb hc2; have he1 := he1.below hb; have he2 := he2.below hb
   go_wp2_with fail
   go_wp2_with fail
   refine region_flow [(false, [(0, 0), (1, 0), (2, 0), (3, 0), (4, 0), (5, 1), (6, 0), (7, 0), (8, 0), (9, 0), (10, 0), (11, 1), (12, 5)]), (false, [(13, 4), (14, 4), (15, 4), (16, 0)])] (by kernel_rfl) ?_
   refine norm_K fun K hK => ?_
   change wpList _ _ _ [_, _, _, _, _, _, _, _, _, _, _, _, _] _ _
   have hb21 : Below wr.heap.size wr wr.drew := bwT
   have hc1 := kept hb21 hc1; have hc2 := kept hb21 hc2; have he1 := he1.below hb21; have he2 := he2.below hb21; have ho := ho.below hb21; have hr := hr.below hb21
   generalize wr.drew = wq at *
   go_wp2_with fail
   refine (sscale_c (k := k) hp hp2 hk1 hk2 he2.sl sy (by rw [e2.out]; omega)).mono ?_; rintro e w22 ⟨z1, rfl, f1, hb22⟩
   have hc1 := kept hb22 hc1; have hc2 := kept hb22 hc2; have he1 := he1.below hb22; have he2 := he2.below hb22; have ho := ho.below hb22; have hr := hr.below hb22
   go_wp2_with fail
   have hz0 : Below wq.heap.size wq w22 := bwT
   first | (refine hK _ _ ⟨hz0, ?_⟩; clear hK K) | refine ⟨hz0, ?_⟩
   clear hz0
   refine norm_K fun K hK => ?_
   change wpList _ _ _ [_, _, _, _] _ _
   have hr1 := hr
   go_wp2_with fail
   refine (sadd_c hp hp2 he1.sl f1.sl sx SS (by rw [LS.out, e1.out, e2.out]) (by rw [e1.out]; omega)).mono ?_; rintro e w23 ⟨z2, rfl, f2, hb23⟩
   have hc1 := kept hb23 hc1; have hc2 := kept hb23 hc2; have he1 := he1.below hb23; have he2 := he2.below hb23; have ho := ho.below hb23; have hr := hr.below hb23; have f1 := f1.below hb23
   rw [hps.out] at f2
   have hbw : Below w.heap.size w (w22) := bwT
   have hf := hr1.fresh f2
   obtain ⟨g2, cap2, rfl, _⟩ := id f2
   have ho0 := ho; have hr0 := hr
   have hbd : Below w.heap.size w (w23) := bwT
   obtain rfl := HU.out
   go_wp2_with (at_builtin; refine appr_one rfl _ _ rfl (w23) w.heap.size (w23).heap.size rfl (.slice (some ⟨g, 0, none⟩) us.length cap) us rfl (.slice (some ⟨g2, 0, none⟩) _ cap2) 1 rfl rfl ho0 hbd.size (by omega) ?_; intro g' cap' w' ho' hb' hg' hge)
   first | (refine hK _ _ ⟨rfl, ?_⟩; clear hK K) | refine ⟨rfl, ?_⟩
   go_wp2_with fail
   go_roundw
   case rel =>
    refine ⟨us.length + 1, g', cap', us ++ [_], by omega, by go_num, rfl, by simp, ho', ?_, hbd.trans hb'⟩
    rw [HS.out]
    exact (hr0.app ho0 hg').snoc ((f2.more hbw.size).app ho0 hg') hf
   case measure => simp [intOf]; omega
  ·obtain rfl : m = xss.length := by omega
   have e1 : xss.take xss.length = xss := List.take_length
   have e2 : yss.take xss.length = yss := by rw [<- HL.out]; exact List.take_length
   rw [e1, e2] at hr
   clear e1 e2
   go_wp2
   go_ret
   exact ⟨_, us, rfl, ho, hr, fun _ => ⟨_, _, by rw [HU.out]; rfl⟩, hb⟩

def leadN : List Int -> Nat
 | [] => 0
 | x :: xs => if x = 0 then leadN xs + 1 else 0
end Go.Proofs.YteaaepbnoiecoaaGreat
