/- Texts joined for a claim: HeD, HeL. -/
import Derived.Test.YtilgbekffbphgaaGreatHeC
import Derived.Test.YtilgbekffbphgaaGreatHeK
namespace Go.Proofs.YtilgbekffbphgaaGreat
open Go.RowKit
theorem Co.wide {w : World} {q q' n : Nat} {v : Value} (h : Co w q v n) (hq : q <= q') : Co w q' v n := by
 obtain ⟨a, c, rfl, hn, h⟩ := h
 refine ⟨a, c, rfl, hn, ?_⟩
 rcases h with h | ⟨b, off, ha, hb, h⟩
 ·exact .inl h
 ·exact .inr ⟨b, off, ha, by omega, h⟩
def HvK (w : World) (lo hi : Nat) (v : Value) (X : Her) : Prop := ∃ W, HvR W lo v X /\ W.heap.size = hi /\ hi <= w.heap.size /\ ∀ b, lo <= b -> b < hi -> w.heap[b]? = W.heap[b]?
theorem HvK.hvr {w : World} {lo hi : Nat} {v : Value} {X : Her} (h : HvK w lo hi v X) : HvR w lo v X := by
 obtain ⟨W, h1, rfl, h3, h4⟩ := h
 exact h1.keep h3 h4
theorem HvK.keep {w w' : World} {lo hi : Nat} {v : Value} {X : Her} (h : HvK w lo hi v X) (hz : w.heap.size <= w'.heap.size) (hk : ∀ b, lo <= b -> b < hi -> w'.heap[b]? = w.heap[b]?) : HvK w' lo hi v X := by
 obtain ⟨W, h1, h2, h3, h4⟩ := h
 exact ⟨W, h1, h2, Nat.le_trans h3 hz, fun b hb1 hb2 => (hk b hb1 hb2).trans (h4 b hb1 hb2)⟩
theorem HvR.hvk {w : World} {lo : Nat} {v : Value} {X : Her} (h : HvR w lo v X) : HvK w lo w.heap.size v X := ⟨w, h, rfl, Nat.le_refl _, fun _ _ _ => rfl⟩
theorem HvK.chg {w w' : World} {lo hi a b : Nat} {v : Value} {X : Her} (h : HvK w lo hi v X) (hc : Chg a b w w') (hr : b <= lo) : HvK w' lo hi v X := by
 have hh := h
 obtain ⟨W, h1, h2, h3, h4⟩ := hh
 exact h.keep hc.size fun k h1 h2 => hc.block k (by omega) (.inr (by omega))
theorem ownsRow_same {w w' : World} {B s n : Nat} {E : TypeId} {v : Value} {zs : List Value} (h : w.ownsRow B E s v n zs) (hk : ∀ g, v.ownBlock = some g -> w'.heap[g]? = w.heap[g]?) : w'.ownsRow B E s v n zs := by
 refine ⟨h.1, ?_⟩
 rcases h.2 with h2 | ⟨g, cap, cur, rfl, h3, hh, h4⟩
 ·exact .inl h2
 ·exact .inr ⟨g, cap, cur, rfl, h3, by rw [hk g rfl]; exact hh, h4⟩
structure Lst (w : World) (B : Nat) (v : Value) (zs : List Value) (Xs : List Her) : Prop where
 own : w.ownsRow B 29 2 v Xs.length zs
 els : ∀ j (h : j < Xs.length), ∃ d u lo hi, zs[2 * j]? = some d /\ zs[2 * j + 1]? = some u /\ B <= lo /\ HvK w lo hi (.agg #[d, u]) Xs[j] /\ (∀ g, v.ownBlock = some g -> g < lo \/ hi <= g)
 sz : ∀ X ∈ Xs, Hsz X
section
variable {w w' : World} {B : Nat} {v : Value} {zs : List Value} {Xs : List Her}
theorem Lst.lt (h : Lst w B v zs Xs) : ∀ g, v.ownBlock = some g -> B <= g /\ g < w.heap.size := World.ownsRow.lt h.own
theorem Lst.chg {lo hi : Nat} (h : Lst w B v zs Xs) (hc : Chg lo hi w w') (hr : hi <= B) : Lst w' B v zs Xs := by
 refine ⟨ownsRow_same h.own (fun g hg => hc.block g (h.lt g hg).2 (.inr (Nat.le_trans hr (h.lt g hg).1))), fun j hj => ?_, h.sz⟩
 obtain ⟨d, u, l, m, h1, h2, h3, h4, h5⟩ := h.els j hj
 exact ⟨d, u, l, m, h1, h2, h3, h4.chg hc (by omega), h5⟩
theorem Lst.more {B' : Nat} (h : Lst w B v zs Xs) (hB : B' <= B) : Lst w B' v zs Xs := by
 refine ⟨?_, fun j hj => ?_, h.sz⟩
 ·refine ⟨h.own.1, ?_⟩
  rcases h.own.2 with h2 | ⟨g, cap, cur, e, h3, h4⟩
  ·exact .inl h2
  ·exact .inr ⟨g, cap, cur, e, Nat.le_trans hB h3, h4⟩
 ·obtain ⟨d, u, l, m, h1, h2, h3, h4, h5⟩ := h.els j hj
  exact ⟨d, u, l, m, h1, h2, Nat.le_trans hB h3, h4, h5⟩
theorem Lst.below (h : Lst w B v zs Xs) (hb : Below w.heap.size w w') : Lst w' B v zs Xs := by
 refine ⟨World.ownsRow.kept h.own (row := none) ⟨hb.os, hb.tape, hb.output, hb.size, fun i hi _ => hb.block i hi⟩ (by cases v.ownBlock <;> simp), fun j hj => ?_, h.sz⟩
 obtain ⟨d, u, l, m, h1, h2, h3, h4, h5⟩ := h.els j hj
 refine ⟨d, u, l, m, h1, h2, h3, h4.keep hb.size fun b hb1 hb2 => hb.block b ?_, h5⟩
 obtain ⟨W, _, _, h6, _⟩ := h4
 omega
theorem Lst.start (hB : B <= w.heap.size) : Lst (w.alloc (.cells #[] 29)) B (.slice (some ⟨w.heap.size, 0, none⟩) 0 0) [] [] :=
 ⟨World.ownsRow_made _ _ _ hB (by decide) rfl, fun j h => by simp at h, fun X h => by cases h⟩
theorem Lst.snoc {W : World} (h : Lst W B v zs Xs) {d u nv : Value} {X : Her} {lo g' : Nat} (hX : HvR W lo (.agg #[d, u]) X) (hz : Hsz X) (hB : B <= lo) (hlo : ∀ g, v.ownBlock = some g -> g < lo) (hn : nv.ownBlock = some g')
  (ho : w'.ownsRow B 29 2 nv (Xs.length + 1) (zs ++ [d, u])) (hb : Below B W w') (hg : W.grownBy w' v.ownBlock) (hge : v.ownBlock = some g' \/ g' = W.heap.size + 1) : Lst w' B nv (zs ++ [d, u]) (Xs ++ [X]) := by
 have hlen := h.own.1
 refine ⟨by rw [List.length_append]; exact ho, fun j hj => ?_, fun Y hY => ?_⟩
 ·rw [List.length_append] at hj
  simp at hj
  by_cases hj2 : j < Xs.length
  ·obtain ⟨d1, u1, l, m, h1, h2, h3, h4, h5⟩ := h.els j hj2
   have hm : m <= W.heap.size := by obtain ⟨_, _, _, h6, _⟩ := h4; exact h6
   refine ⟨d1, u1, l, m, by rw [List.getElem?_append_left (by omega)]; exact h1, by rw [List.getElem?_append_left (by omega)]; exact h2, h3, ?_, fun g hgn => ?_⟩
   ·rw [List.getElem_append_left hj2]
    exact h4.keep hb.size fun b hb1 hb2 => hg.block b (by omega) (fun e => by have := h5 b e.symm; omega)
   ·rw [hn] at hgn
    cases hgn
    rcases hge with e | e
    ·exact h5 _ e
    ·right; omega
  ·obtain rfl : j = Xs.length := by omega
   refine ⟨d, u, lo, W.heap.size, by rw [List.getElem?_append_right (by omega)]; simp [show 2 * Xs.length - zs.length = 0 by omega], by rw [List.getElem?_append_right (by omega)]; simp [show 2 * Xs.length + 1 - zs.length = 1 by omega], hB, ?_, fun g hgn => ?_⟩
   ·have e : (Xs ++ [X])[Xs.length]'(by simp) = X := by simp
    rw [e]
    exact hX.hvk.keep hb.size fun b hb1 hb2 => hg.block b hb2 (fun e => by have := hlo b e.symm; omega)
   ·rw [hn] at hgn
    cases hgn
    rcases hge with e | e
    ·exact .inl (hlo _ e)
    ·right; omega
 ·rcases List.mem_append.1 hY with hY | hY
  ·exact h.sz Y hY
  ·rw [List.mem_singleton.1 hY]; exact hz
theorem Lst.get (h : Lst w B v zs Xs) {j : Nat} (hj : j < Xs.length) : ∃ g cap d u, v = .slice (some ⟨g, 0, none⟩) Xs.length cap /\ B <= g /\ g < w.heap.size /\ (∃ cs T fr, w.heap[g]? = some (.cells cs T fr)) /\ w.cell? ⟨g, 2 * j, none⟩ = some d /\ w.cell? ⟨g, 2 * j + 1, none⟩ = some u /\ HvR w B (.agg #[d, u]) Xs[j] := by
 obtain ⟨d, u, l, m, h1, h2, h3, h4, h5⟩ := h.els j hj
 rcases h.own.2 with ⟨_, h6⟩ | ⟨g, cap, cur, e, hg, hh, _⟩
 ·omega
 ·subst e
  have hl := h.lt g rfl
  have c1 := World.ownsRow.cells h.own (g := g) rfl (2 * j) d h1
  have c2 := World.ownsRow.cells h.own (g := g) rfl (2 * j + 1) u h2
  rw [addz] at c1 c2
  exact ⟨g, cap, d, u, rfl, hg, hl.2, ⟨_, _, _, hh⟩, c1, c2, h4.hvr.more h3⟩
end
theorem infoH : (Tryz.prog.info? 29).map (fun i => (i.zero, i.size, i.bytes)) = some (some (.agg #[.slice none 0 0, .slice none 0 0]), 2, 48) := by kernel_rfl
section
variable {ops : Array Oper} {rest : List Oper} {o : Oper} {a : Act} {Q : Exit -> Act -> World -> Prop}
theorem apph_one (hgd : o.guard = none) (s x : Operand)
  (ho : o.op = .call { callee := .builtin .append, args := #[s, x], argTypes := #[77, 77] })
  (W : World) (B H : Nat) (hH : W.heap.size = H) (v : Value) (zs : List Value) (n : Nat) (hs : a.eval s = v) (d u : Value) (c : Nat) (hx : a.eval x = .slice (some ⟨H, 0, none⟩) 1 c) (hd : d.oneCell' = true) (hu : u.oneCell' = true)
  (hown : W.ownsRow B 29 2 v n zs) (hB : B <= W.heap.size) (hm : n <= 100000000)
  (h : ∀ g' cap' w', w'.ownsRow B 29 2 (.slice (some ⟨g', 0, none⟩) (n + 1) cap') (n + 1) (zs ++ [d, u]) -> Below B W w' -> W.grownBy w' v.ownBlock -> (v.ownBlock = some g' \/ g' = H + 1) -> wpList Tryz.prog ops Q rest (a.put o.dst (.slice (some ⟨g', 0, none⟩) (n + 1) cap')) w') :
  wpList Tryz.prog ops Q (o :: rest) a (W.alloc (.cells #[d, u] 29)) := by
 subst hH
 obtain ⟨i0, hi, hz0, hz1, hz2⟩ := info_parts infoH
 refine wpList_append_lies (W.alloc (.cells #[d, u] 29)) hgd s x 77 ho B 29 i0 (.agg #[.slice none 0 0, .slice none 0 0]) 2 48 Tryz.underlying77 hi hz0 hz1 hz2 rfl (by decide) v n zs hs (World.ownsRow.alloc hown _) ⟨W.heap.size, 0, none⟩ 1 c [d, u] hx rfl ?_ ?_ (by decide) (by simp only [maxLen]; omega) (by omega) (by simp; omega) _ rfl ?_
 ·intro j y hy
  rw [addz]
  rcases j with _ | _ | j
  ·simp at hy
   subst hy
   simp [go_sem]
  ·simp at hy
   subst hy
   simp [go_sem]
  ·simp at hy
 ·intro y hy
  simp at hy
  rcases hy with rfl | rfl <;> assumption
 ·intro g cap w' h1 h2 h3 _
  refine h g cap w' h1 (((Below.refl B W).alloc hB _).grown h2 (by simp; omega) fun k hk => (World.ownsRow.lt hown k hk).1) ⟨h2.os, h2.tape, h2.output, by have := h2.size; simp at this; omega, fun k hk hne => ?_⟩ (by simpa using h3)
  rw [h2.block k (by simp; omega) hne]
  exact Below.heap_alloc _ _ _ hk
end
def DrL (w : World) (n : Nat) (e : Ending) (w' : World) : Prop := ∃ (p : Int) (v l : Value) (st : List Int) (zs : List Value) (Xs : List Her), e = .returned (.tuple #[.agg #[.int .i64 p, v], l]) /\ 0 <= p /\ p <= 17 /\ st.length <= 5 /\ ElR w' w.heap.size v st /\ Lst w' w.heap.size l zs Xs /\ Xs.length = n /\ Below w.heap.size w w'
set_option maxHeartbeats 8000000 in
set_option maxRecDepth 100000 in
theorem sdraw16_c {v : Value} {n m : Nat} {w : World} (hc : Co w w.heap.size v n) (hm : m <= 3) :
  Calls Tryz.prog 70 #[v, .int .i64 m] w fun e w' => DrL w m e w' := by
 obtain ⟨a, c, rfl, _⟩ := id hc
 go_enter Tryz.func70, Tryz.ntmps70
 go_wp2_with fail
 have hb1 : Below w.heap.size w (w.alloc (.cells #[.int .i64 0, .slice none 0 0] 26)) := bwT
 have hr1 : Bd (w.alloc (.cells #[.int .i64 0, .slice none 0 0] 26)) w.heap.size (.int .i64 0) (.slice none 0 0) := heap_alloc_new w _
 have hz1 : (w.alloc (.cells #[.int .i64 0, .slice none 0 0] 26)).heap.size = w.heap.size + 1 := by simp
 have hc1 := hc.below hb1
 generalize w.alloc (.cells #[.int .i64 0, .slice none 0 0] 26) = W1 at *
 refine (sfrom_c (hc1.wide (by omega))).mono ?_; rintro e w2 ⟨rfl, hs2, hz2, hb2⟩
 have hr2 := hr1.below hb2
 have hbw2 := hb1.trans (hb2.mono (by omega))
 obtain ⟨q, hq⟩ : ∃ q, q = W1.heap.size := ⟨_, rfl⟩
 rw [<- hq] at hs2 ⊢
 have hqw : w.heap.size + 1 = q := by omega
 have HQ := Lib.hid hqw
 have hq2 : q + 1 = w2.heap.size := by omega
 have HQ2 := Lib.hid hq2
 clear hq hqw hq2 hz1 hz2 hc1 hb1 hb2 hr1 hc
 go_wp2_with fail
 refine (snext_c hs2 (by decide) (by decide)).mono ?_; rintro e w3 ⟨x, rfl, hx0, hx1, hs3, hc3, hz3⟩
 have hr3 := hr2.chg hc3 (.inl (by have := HQ.out; omega))
 have hcw3 : Chg q (q + 1) w2 w3 := hc3
 clear hz3 hc3 hs2 hr2
 have hx2 : x <= 23 := by omega
 clear hx1
 go_wp2_with fail
 refine (sdrawany_c hs3 (by omega) (by omega)).mono ?_; rintro e w4 ⟨p, v4, st, rfl, hp1, hp2, hl5, ho, hs4, hc4⟩
 have hr4 := hr3.chg hc4 (.inl (by have := HQ.out; omega))
 have hz3 := hcw3.size
 have hE4 := ho.elr
 obtain ⟨av, nv, cv, rfl⟩ := ho.form
 obtain rfl : nv = st.length := ho.len
 have hcw4 := hcw3.trans hc4
 have hz4 := hc4.size
 clear hc4 hs3 hr3 hcw3 ho
 go_upto_region 3 with fail
 have hb5 : Below w4.heap.size w4 (w4.alloc (.cells #[.int .i64 p, .slice av st.length cv] 26)) := bwT
 have hd5 : Bd (w4.alloc (.cells #[.int .i64 p, .slice av st.length cv] 26)) w4.heap.size (.int .i64 p) (.slice av st.length cv) := heap_alloc_new w4 _
 have hz5 : (w4.alloc (.cells #[.int .i64 p, .slice av st.length cv] 26)).heap.size = w4.heap.size + 1 := by simp
 have hr5 := hr4.below hb5; have hs5 := hs4.below hb5; have hcw5 : Chg q (q + 1) w4 _ := (Chg.refl (w := w4)).bl hb5
 obtain ⟨M, hM⟩ : ∃ M, M = w4.heap.size := ⟨_, rfl⟩
 rw [<- hM] at hd5 hz5 ⊢
 generalize w4.alloc (.cells #[.int .i64 p, .slice av st.length cv] 26) = W5 at *
 have hMq : q + 1 <= M := by have := HQ2.out; omega
 have hEq : ElR w4 (q + 1) (.slice av st.length cv) st := hE4.more (by have := HQ2.out; omega)
 have hbw4 : Below w.heap.size w w4 := below_bchg hbw2 hcw4 (by have := HQ.out; omega) hbw2.size
 have hwz4 : w4.heap.size = M := hM.symm
 have HM := Lib.hid hwz4
 clear hwz4 hM hb5 hr4 hE4 hs4 hcw4 hz3 hz4 hbw2
 have hb6 : Below W5.heap.size W5 (W5.alloc (.cells #[] 29)) := bwT
 have hl6 := Lst.start (w := W5) (B := M + 1) (by omega)
 have hd6 := hd5.below hb6; have hr6 := hr5.below hb6; have hs6 := hs5.below hb6; have hcw6 := hcw5.bl (hb6.mono hcw5.size)
 have hz6 : M + 1 <= (W5.alloc (.cells #[] 29)).heap.size := by simp; omega
 clear hb6 hd5 hr5 hs5 hcw5
 have HZ5 := Lib.hid hz5; clear hz5
 go_wp2_with fail
 go_loopw [1, 8] (fun cv_ lv wr => ∃ (k : Nat) (zs : List Value) (Xs : List Her), k <= m /\ cv_ = .int .i64 ((m : Int) - k) /\ Xs.length = k /\ Lst wr (M + 1) lv zs Xs /\ Bd wr M (.int .i64 p) (.slice av st.length cv) /\ Bd wr w.heap.size (.int .i64 0) (.slice none 0 0) /\ Src wr q /\ Chg q (q + 1) w4 wr /\ M + 1 <= wr.heap.size) (fun cv_ _ _ => (intOf cv_).toNat)
 case atStart => exact ⟨0, [], [], Nat.zero_le _, by simp, rfl, hl6, hd6, hr6, hs6, hcw6, hz6⟩
 case round =>
  clear hl6 hd6 hr6 hs6 hcw6 hz6
  obtain ⟨k, zs, Xs, hk, rfl, hXl, hl, hd, hr, hsr, hcw, hz⟩ := hrel
  have HXL := Lib.hid hXl; clear hXl
  have e0 := hd.c0; have e1 := hd.c1
  by_cases hlt : k < m
  ·have hE := hEq.chg hcw (Nat.le_refl _)
   have hpos : 0 < (m : Int) - k := by omega
   go_wp2_with fail
   refine (sdrawone_c hsr hE (by omega) hp1 hp2 (by omega)).mono ?_; rintro e w7 ⟨x7, X7, rfl, hv7, hz7, hs7, hc7⟩
   have hl7 := hl.chg hc7 (by omega); have hd7 := hd.chg hc7 (.inr (by omega)); have hr7 := hr.chg hc7 (.inl (by have := HQ.out; omega))
   have hcw7 := hcw.trans hc7
   have hs7z := hc7.size
   have hlo := fun g hg => (hl.lt g hg).2
   clear hl hd hr hE hsr hcw hc7 e0 e1
   obtain ⟨d7, u7, rfl, hda, hua⟩ := id hv7
   obtain ⟨a7, c7, rfl, _⟩ := hda.1.op
   obtain ⟨b7, f7, rfl, _⟩ := id hua
   clear hda hua
   have hform : ∃ ab cb, u8 = .slice ab Xs.length cb := by
    rcases hl7.own.2 with ⟨e1, e2⟩ | ⟨g, cap, cur, e, _⟩
    ·exact ⟨none, 0, by rw [e1, e2]⟩
    ·exact ⟨_, _, e⟩
   obtain ⟨ab, cb, rfl⟩ := hform
   go_wp2_with (at_builtin; refine apph_one rfl _ _ rfl w7 (M + 1) _ rfl (.slice ab Xs.length cb) zs Xs.length rfl (.slice a7 X7.dg.length c7) (.slice b7 X7.up.length f7) 1 rfl rfl rfl hl7.own (by omega) (by have := HXL.out; omega) ?_; intro g' cap' w8 hown' hgb' hg' hge)
   have hl8 := hl7.snoc hv7 hz7 (by omega) hlo (nv := .slice (some ⟨g', 0, none⟩) (Xs.length + 1) cap') rfl hown' hgb' hg' hge
   go_roundw
   case rel => exact ⟨k + 1, _, _, by omega, by go_num, by rw [List.length_append, HXL.out]; rfl, hl8, hd7.bl hgb' (by omega), hr7.bl hgb' (by have := HQ.out; omega), hs7.bl hgb' (by omega), hcw7.bl (hgb'.mono (by rw [HM.out]; omega)), by have := hgb'.size; omega⟩
   case measure => simp [intOf]; omega
  ·obtain rfl : k = m := by omega
   have hneg : ¬ 0 < (k : Int) - k := by omega
   have rc0 := hr.c0; have rc1 := hr.c1; have rf0 := hr.f 0; have rf1 := hr.f 1
   have hform : ∃ ab cb, u8 = .slice ab Xs.length cb := by
    rcases hl.own.2 with ⟨e1, e2⟩ | ⟨g, cap, cur, e, _⟩
    ·exact ⟨none, 0, by rw [e1, e2]⟩
    ·exact ⟨_, _, e⟩
   obtain ⟨ab, cb, rfl⟩ := hform
   go_wp2_with fail
   refine bodyPost_ret (v := .tuple #[.agg #[.int .i64 p, .slice av st.length cv], .slice ab Xs.length cb]) (by simp [results, Tryz.results70, go_sem, rc0, rc1]) rfl ?_
   have hE := hEq.chg hcw (Nat.le_refl _)
   have hqw := HQ.out
   have hS : Chg w.heap.size (w.heap.size + 1) wr ((wr.setCell ⟨w.heap.size, 0, none⟩ (.int .i64 p)).setCell ⟨w.heap.size, 1, none⟩ (.slice av st.length cv)) := (Chg.set _ ⟨w.heap.size, 0, none⟩ _).trans (Chg.set _ ⟨w.heap.size, 1, none⟩ _)
   refine ⟨p, _, _, st, zs, Xs, rfl, hp1, hp2, hl5, (hE.chg hS (by omega)).more (by omega), (hl.chg hS (by omega)).more (by omega), HXL.out, ?_⟩
   exact ((below_bchg hbw4 hcw (by omega) hbw4.size).setCell (p := ⟨w.heap.size, 0, none⟩) (Nat.le_refl _) _).setCell (p := ⟨w.heap.size, 1, none⟩) (Nat.le_refl _) _
end Go.Proofs.YtilgbekffbphgaaGreat
