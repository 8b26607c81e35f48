import Derived.Test.YteaaepbnoiecoaaGreatHeC
namespace Go.Proofs.YteaaepbnoiecoaaGreat
open Go.RowKit
def ElR (w : World) (B : Nat) (v : Value) (xs : List Int) : Prop := El w v xs /\ ∀ b off sp n c, v = .slice (some ⟨b, off, sp⟩) n c -> B <= b /\ b < w.heap.size
def ReR (w : World) (B : Nat) (v : Value) (xss : List (List Int)) : Prop :=
 ∃ a c, v = .slice a xss.length c /\ xss.length <= c /\ c <= 9223372036854775807 /\ (xss = [] \/ ∃ b off, a = some ⟨b, off, none⟩ /\ B <= b /\ ∀ j (h : j < xss.length), ∃ u, w.cell? ⟨b, off + j, none⟩ = some u /\ ElR w B u xss[j])
def HvR (w : World) (B : Nat) (v : Value) (X : Her) : Prop := ∃ d u, v = .agg #[d, u] /\ ElR w B d X.dg /\ ReR w B u X.up
section
variable {w w' : World} {B B' : Nat} {v : Value} {xs : List Int} {xss : List (List Int)} {X : Her}
theorem ElR.keep (h : ElR w B v xs) (hz : w.heap.size <= w'.heap.size) (hk : ∀ b off sp n c, v = .slice (some ⟨b, off, sp⟩) n c -> w'.heap[b]? = w.heap[b]?) : ElR w' B v xs := by
 obtain ⟨h1, h2⟩ := h
 refine ⟨?_, fun b off sp n c e => ⟨(h2 b off sp n c e).1, Nat.lt_of_lt_of_le (h2 b off sp n c e).2 hz⟩⟩
 obtain ⟨a, c, rfl, h3, h4, h5⟩ := h1.op
 refine El.mk_ h3 h4 ?_
 rcases h5 with h5 | ⟨b, off, rfl, h5⟩
 ·exact .inl h5
 ·exact .inr ⟨b, off, rfl, fun j hj => by rw [World.cell?_of_block (w := w) (hk b off none _ _ rfl)]; exact h5 j hj⟩
theorem ElR.below (h : ElR w B v xs) (hb : Below w.heap.size w w') : ElR w' B v xs := h.keep hb.size fun b off sp n c e => hb.block b (h.2 b off sp n c e).2
theorem ElR.chg {lo hi : Nat} (h : ElR w B v xs) (hc : Chg lo hi w w') (hr : hi <= B) : ElR w' B v xs := h.keep hc.size fun b off sp n c e => hc.block b (h.2 b off sp n c e).2 (.inr (Nat.le_trans hr (h.2 b off sp n c e).1))
theorem ElR.more (h : ElR w B v xs) (hB : B' <= B) : ElR w B' v xs := ⟨h.1, fun b off sp n c e => ⟨Nat.le_trans hB (h.2 b off sp n c e).1, (h.2 b off sp n c e).2⟩⟩
theorem ElR.set_ (h : ElR w B v xs) {p : Addr} (hp : p.block < B) (u : Value) : ElR (w.setCell p u) B v xs := h.keep (by simp) fun b off sp n c e => Below.heap_setCell _ _ _ _ (by have := (h.2 b off sp n c e).1; omega)
theorem FrI.elr (h : FrI w B v xs) : ElR w B v xs := by
 refine ⟨h.el, fun b off sp n c e => ?_⟩
 obtain ⟨g, hg, h1, h2⟩ := h.blk
 obtain ⟨g', cap, rfl, _⟩ := h
 cases e
 cases hg
 exact ⟨h1, h2⟩
theorem OwN.elr (h : OwN w B v xs) : ElR w B v xs := by
 rcases h.2 with h2 | ⟨g, cap, cur, rfl, hg, hh, h3, h4, h5, h6⟩
 ·cases xs with
  | nil => rw [h2.1]; exact ⟨El.nil w, fun b off sp n c e => by cases e⟩
  | cons x r => simp at h2
 ·have hlt : g < w.heap.size := (Array.getElem?_eq_some_iff.1 hh).1
  cases xs with
  | nil =>
   simp only [maxLen] at h4
   exact ⟨⟨⟨_, cap, rfl, .inl rfl⟩, _, _, cap, rfl, by simp, by omega⟩, fun b off sp n c e => by cases e; exact ⟨hg, hlt⟩⟩
  | cons x r => exact FrI.elr (h.fr (by simp))
theorem ReR.keep (h : ReR w B v xss) (hz : w.heap.size <= w'.heap.size) (hk : ∀ b, B <= b -> b < w.heap.size -> w'.heap[b]? = w.heap[b]?) : ReR w' B v xss := by
 obtain ⟨a, c, rfl, h1, h2, h⟩ := h
 refine ⟨a, c, rfl, h1, h2, ?_⟩
 rcases h with h | ⟨b, off, rfl, hB, h⟩
 ·exact .inl h
 ·refine .inr ⟨b, off, rfl, hB, fun j hj => ?_⟩
  obtain ⟨u, hu, he⟩ := h j hj
  have hlt := World.block_lt_of_cell? w _ hu
  exact ⟨u, by rw [World.cell?_of_block (w := w) (hk b hB hlt)]; exact hu, he.keep hz fun b' off' sp n c e => hk b' (he.2 _ _ _ _ _ e).1 (he.2 _ _ _ _ _ e).2⟩
theorem ReR.re (h : ReR w B v xss) : Re w v xss := by
 obtain ⟨a, c, rfl, h1, h2, h⟩ := h
 refine ⟨a, c, rfl, h1, h2, ?_⟩
 rcases h with h | ⟨b, off, rfl, hB, h⟩
 ·exact .inl h
 ·exact .inr ⟨b, off, rfl, fun j hj => by obtain ⟨u, hu, he⟩ := h j hj; exact ⟨u, hu, he.1⟩⟩
theorem ReR.more (h : ReR w B v xss) (hB : B' <= B) : ReR w B' v xss := by
 obtain ⟨a, c, rfl, h1, h2, h⟩ := h
 refine ⟨a, c, rfl, h1, h2, ?_⟩
 rcases h with h | ⟨b, off, rfl, hB2, h⟩
 ·exact .inl h
 ·exact .inr ⟨b, off, rfl, Nat.le_trans hB hB2, fun j hj => by obtain ⟨u, hu, he⟩ := h j hj; exact ⟨u, hu, he.more hB⟩⟩
theorem HvR.keep (h : HvR w B v X) (hz : w.heap.size <= w'.heap.size) (hk : ∀ b, B <= b -> b < w.heap.size -> w'.heap[b]? = w.heap[b]?) : HvR w' B v X := by
 obtain ⟨d, u, rfl, h1, h2⟩ := h
 exact ⟨d, u, rfl, h1.keep hz fun b off sp n c e => hk b (h1.2 _ _ _ _ _ e).1 (h1.2 _ _ _ _ _ e).2, h2.keep hz hk⟩
theorem HvR.below (h : HvR w B v X) (hb : Below w.heap.size w w') : HvR w' B v X := h.keep hb.size fun b _ hb2 => hb.block b hb2
theorem HvR.chg {lo hi : Nat} (h : HvR w B v X) (hc : Chg lo hi w w') (hr : hi <= B) : HvR w' B v X := h.keep hc.size fun b h1 h2 => hc.block b h2 (.inr (Nat.le_trans hr h1))
theorem HvR.set_ (h : HvR w B v X) {p : Addr} (hp : p.block < B) (u : Value) : HvR (w.setCell p u) B v X := h.keep (by simp) fun b h1 _ => Below.heap_setCell _ _ _ _ (by omega)
theorem HvR.more (h : HvR w B v X) (hB : B' <= B) : HvR w B' v X := by
 obtain ⟨d, u, rfl, h1, h2⟩ := h
 exact ⟨d, u, rfl, h1.more hB, h2.more hB⟩
theorem HvR.hv (h : HvR w B v X) : Hv w v X := by
 obtain ⟨d, u, rfl, h1, h2⟩ := h
 exact ⟨d, u, rfl, h1.1, h2.re⟩
theorem FrR.rer {us : List Value} (h : FrR w B v us xss) : ReR w B v xss := by
 obtain ⟨g0, cap0, e0, hB0, hs, hc1, hc2⟩ := h.lt
 obtain ⟨g, cap, rfl, h1, h2, h3, h4⟩ := h
 cases e0
 simp only [maxLen] at hc2
 refine ⟨_, cap0, by rw [h2], by omega, by omega, .inr ⟨g0, 0, rfl, hB0, fun j hj => ⟨us[j]'(by omega), ?_, (h3 j (by omega) hj).elr⟩⟩⟩
 have := World.ownsRow.cells h1 (g := g0) rfl j (us[j]'(by omega)) (by simp)
 rw [addz] at this
 rw [Nat.zero_add]; exact this
theorem FrH.hvr (h : FrH w B v X) : HvR w B v X := by
 obtain ⟨d, u, us, rfl, h1, h2, h3⟩ := h
 exact ⟨d, u, rfl, h1.elr, h2.rer⟩
end
def DrE (w : World) (q : Nat) (e : Ending) (w' : World) : Prop := ∃ (v : Value) (xs : List Int), e = .returned v /\ xs.length <= 16 /\ ElR w' w.heap.size v xs /\ Src w' q /\ Chg q (q + 1) w w'
theorem OwN.atX {w : World} {B : Nat} {v : Value} {xs : List Int} {n : Nat} (h : OwN w B v xs) (hn : xs.length = n) (h0 : 0 < n) : ∃ g cap, v = .slice (some ⟨g, 0, none⟩) n cap /\ n <= cap /\ cap <= 9223372036854775807 /\ (At w g 0 xs /\ B <= g /\ g < w.heap.size) := by
 subst hn
 obtain ⟨b, off, c, rfl, h1, h2, h3⟩ := (h.elr.1).op1 h0
 have h5 := h.elr.2 _ _ _ _ _ rfl
 rcases h.2 with h4 | ⟨g, cap, cur, e, _⟩
 ·cases h4.1
 ·cases e; exact ⟨_, _, rfl, h1, h2, h3, h5⟩
set_option maxHeartbeats 8000000 in
set_option maxRecDepth 100000 in
theorem sdrawel0_c {q c : Nat} {p : Int} {a : Option Addr} {w : World} (hs : Src w q) (hp0 : 0 <= p) (hp1 : p <= 17) :
    Calls Tryz.prog 38 #[.pointer (some ⟨q, 0, none⟩), .agg #[.int .i64 p, .slice a 0 c]] w fun e w' => DrE w q e w' := by
  have hq := hs.lt
  go_enter Tryz.func38, Tryz.ntmps38
  go_wp2_with fail
  obtain ⟨W1, hW1⟩ : ∃ x, x = ((w.alloc (.cells #[.int .i64 p, .slice a 0 c] 26)).alloc (.cells #[] 2)) := ⟨_, rfl⟩
  have hb1 : Below w.heap.size w W1 := by rw [hW1]; exact bwT
  have hz1 : W1.heap.size = w.heap.size + 1 + 1 := by rw [hW1]; simp
  have o1 : OwN W1 (w.heap.size + 1) (.slice (some ⟨w.heap.size + 1, 0, none⟩) 0 0) [] := by
    rw [hW1]
    have h := World.ownsRow_made (w.alloc (.cells #[.int .i64 p, .slice a 0 c] 26)) #[] 0 (base := w.heap.size + 1) (e := 2) (size := 1) (by simp) (by decide) rfl
    simpa [OwN] using h
  have hd1 : Bd W1 w.heap.size (.int .i64 p) (.slice a 0 c) := by rw [hW1]; exact Bd.below (heap_alloc_new w _) bwT
  rw [<- hW1]; clear hW1
  refine (snext_c (hs.bl hb1 hq) (by decide) (by decide)).mono ?_; rintro e w2 ⟨kd, rfl, hk0, hk1, hs2, hc2, hz2⟩
  have o2 := o1.chg hc2 (by omega); have hd2 := hd1.chg hc2 (.inr (by omega))
  have hcw : Chg q (q + 1) w w2 := (Chg.refl.bl hb1).trans hc2
  have hzz : w.heap.size + 1 <= w2.heap.size := by omega
  clear o1 hd1 hb1 hz1 hz2 hc2 hs hk1
  have e1 := hd2.c1
  go_wp2_with fail
  go_loopw [5, 7, 8] (fun ov iv _ wr => ∃ (k : Nat) (v : Value) (xs : List Int), k <= 1 /\ xs.length = k /\ iv = .int .i64 k /\ ov = v /\ OwN wr (w.heap.size + 1) v xs /\ Bd wr w.heap.size (.int .i64 p) (.slice a 0 c) /\ Src wr q /\ Chg q (q + 1) w wr /\ w.heap.size + 1 <= wr.heap.size) (fun _ iv _ _ => 1 - (intOf iv).toNat)
  case atStart => exact ⟨0, _, [], by omega, rfl, rfl, rfl, o2, hd2, hs2, hcw, hzz⟩
  case round =>
    clear o2 hd2 hs2 hcw hzz e1
    obtain ⟨k, v, xs, hk, hxl, rfl, hov, ho, hd, hsr, hcw, hzz⟩ := hrel
    obtain ⟨ad, nd, cd, rfl⟩ := ho.form
    subst hov
    have e0 := hd.c0; have e1 := hd.c1
    have HXL := Lib.hid hxl; clear hxl
    by_cases hlt : k < 1
    · go_wp2_with fail
      all_goals
        refine (snext_c hsr (by omega) (by omega)).mono ?_; rintro e w3 ⟨x, rfl, hx0, hx1, hs3, hc3, hz3⟩
        have hd3 := hd.chg hc3 (.inr (by omega)); have ho3 := ho.chg hc3 (by omega)
        have hcw3 := hcw.trans hc3
        have hzz3 : w.heap.size + 1 <= w3.heap.size := by omega
        have hx2 : x <= 17 := by omega
        clear hx1 hz3 hc3 hsr hcw hd ho e0 e1
        by_cases hkd : kd = 0
        · subst hkd
          go_wp2_with fail
          refine (snext_c hs3 (by decide) (by decide)).mono ?_; rintro e w4 ⟨y, rfl, hy0, hy1, hs4, hc4, hz4⟩
          have hd4 := hd3.chg hc4 (.inr (by omega)); have ho4 := ho3.chg hc4 (by omega)
          have hcw4 := hcw3.trans hc4
          have hzz4 : w.heap.size + 1 <= w4.heap.size := by omega
          clear hy1 hz4 hc4 hs3 hcw3 hd3 ho3
          by_cases hy : 0 < y
          · go_wp2_with (at_builtin; refine appn_one rfl _ _ rfl w4 (w.heap.size + 1) _ rfl (.slice ad nd cd) xs rfl 0 1 rfl ho4 (by omega) (by have := HXL.out; omega) ?_; intro g' cap' w' hown' hgb' hg' hge)
            go_roundw
            case rel =>
              refine ⟨k + 1, _, xs ++ [0], by omega, by rw [List.length_append, HXL.out]; rfl, by go_num, rfl, ?_, hd4.bl hgb' (by omega), hs4.bl hgb' (by omega), hcw4.bl (hgb'.mono (by omega)), ?_⟩
              · exact hown'
              · have := hgb'.size; omega
            case measure => simp [intOf]; omega
          · go_wp2_with (at_builtin; refine appn_one rfl _ _ rfl w4 (w.heap.size + 1) _ rfl (.slice ad nd cd) xs rfl x 1 rfl ho4 (by omega) (by have := HXL.out; omega) ?_; intro g' cap' w' hown' hgb' hg' hge)
            go_roundw
            case rel =>
              refine ⟨k + 1, _, xs ++ [x], by omega, by rw [List.length_append, HXL.out]; rfl, by go_num, rfl, ?_, hd4.bl hgb' (by omega), hs4.bl hgb' (by omega), hcw4.bl (hgb'.mono (by omega)), ?_⟩
              · exact hown'
              · have := hgb'.size; omega
            case measure => simp [intOf]; omega
        · have hkb : (kd == 0) = false := by simpa using hkd
          go_wp2_with (at_builtin; refine appn_one rfl _ _ rfl w3 (w.heap.size + 1) _ rfl (.slice ad nd cd) xs rfl x 1 rfl ho3 (by omega) (by have := HXL.out; omega) ?_; intro g' cap' w' hown' hgb' hg' hge)
          go_roundw
          case rel =>
            refine ⟨k + 1, _, xs ++ [x], by omega, by rw [List.length_append, HXL.out]; rfl, by go_num, rfl, ?_, hd3.bl hgb' (by omega), hs3.bl hgb' (by omega), hcw3.bl (hgb'.mono (by omega)), ?_⟩
            · exact hown'
            · have := hgb'.size; omega
          case measure => simp [intOf]; omega
    · obtain rfl : k = 1 := by omega
      have hlen := HXL.out
      go_wp2_with fail
      refine (snext_c hsr (by decide) (by decide)).mono ?_; rintro e w3 ⟨x, rfl, hx0, hx1, hs3, hc3, hz3⟩
      have hd3 := hd.chg hc3 (.inr (by omega)); have ho3 := ho.chg hc3 (by omega)
      have hcw3 := hcw.trans hc3
      have hzz3 : w.heap.size + 1 <= w3.heap.size := by omega
      clear hx1 hz3 hc3 hsr hcw hd ho e0 e1
      have e0 := hd3.c0
      by_cases hxa : x = 0
      · subst hxa
        go_wp2_with fail
        have hb5 : Below w3.heap.size w3 (w3.alloc (.cells #[.int .i64 (-1), .int .i64 p] 2)) := bwT
        have o5 := OwnI.lit (w := w3) (B := 0) (Nat.zero_le _) [-1, p] (by simp)
        refine (spick_c (xs := [-1, p]) (hs3.below hb5) o5 (by have := hs3.lt; omega) (by simp) (by simp)).mono ?_; rintro e w4 ⟨y, rfl, hy, hs4, hc4, hz4⟩
        have ho4 := (ho3.below hb5).chg hc4 (by omega)
        have hcw4 := (hcw3.bl (hb5.mono hcw3.size)).trans hc4
        clear hy o5 hd3 hs3 ho3
        obtain ⟨g, cap, hge, hoI⟩ := ho4.fr (by omega)
        cases hge
        rw [hlen] at hoI ⊢
        have hh := hoI.hold (i := 0) (by decide)
        have hf := hoI.free 0
        go_wp2_with fail
        go_ret
        have hst := hoI.set (i := 0) y
        refine ⟨_, xs.set 0 y, rfl, by rw [List.length_set]; omega, ?_, ?_, ?_⟩
        · exact (FrI.elr ⟨g, cd, by rw [List.length_set, hlen]; exact rfl, by rw [List.length_set, hlen]; exact hst⟩).more (by omega)
        · exact hs4.bl (B := q + 1) ((Below.refl _ _).setCell (p := ⟨g, 0, none⟩) (by show q + 1 <= g; have := hoI.lt.1; omega) _) (by omega)
        · exact hcw4.bl ((Below.refl _ _).setCell (p := ⟨g, 0, none⟩) (by show w.heap.size <= g; have := hoI.lt.1; omega) _)
      · have hxb : (x == 0) = false := by simpa using hxa
        by_cases hxc : x = 1
        · subst hxc
          obtain ⟨g, cap, hge, hcap1, hcap2, hAt⟩ := ho3.atX hlen (by decide)
          cases hge
          go_wp2_with fail
          all_goals
            go_ret
            first
            | (refine ⟨_, xs.drop 1, rfl, by rw [List.length_drop]; omega, ⟨?_, ?_⟩, hs3, hcw3⟩
               · have h := hAt.1.elD (k := 1) (n := 1 - 1) (c := cd - 1) (by omega) (by omega) (by omega)
                 simpa using h
               · intro b off sp n c e
                 cases e
                 exact ⟨by have := hAt.2.1; omega, hAt.2.2⟩)
            | (refine ⟨_, [], rfl, by simp, ⟨⟨⟨_, 0, rfl, .inl rfl⟩, _, _, 0, rfl, by decide, by decide⟩, ?_⟩, hs3, hcw3⟩
               intro b off sp n c e
               cases e
               exact ⟨by have := hAt.2.1; omega, hAt.2.2⟩)
        · have hxd : (x == 1) = false := by simpa using hxc
          go_wp2_with fail
          go_ret
          exact ⟨_, xs, rfl, by omega, ho3.elr.more (by omega), hs3, hcw3⟩
set_option maxHeartbeats 8000000 in
set_option maxRecDepth 100000 in
theorem sdrawel1_c {q c : Nat} {p : Int} {a : Option Addr} {w : World} (hs : Src w q) (hp0 : 0 <= p) (hp1 : p <= 17) :
    Calls Tryz.prog 38 #[.pointer (some ⟨q, 0, none⟩), .agg #[.int .i64 p, .slice a 1 c]] w fun e w' => DrE w q e w' := by
  have hq := hs.lt
  go_enter Tryz.func38, Tryz.ntmps38
  go_wp2_with fail
  obtain ⟨W1, hW1⟩ : ∃ x, x = ((w.alloc (.cells #[.int .i64 p, .slice a 1 c] 26)).alloc (.cells #[] 2)) := ⟨_, rfl⟩
  have hb1 : Below w.heap.size w W1 := by rw [hW1]; exact bwT
  have hz1 : W1.heap.size = w.heap.size + 1 + 1 := by rw [hW1]; simp
  have o1 : OwN W1 (w.heap.size + 1) (.slice (some ⟨w.heap.size + 1, 0, none⟩) 0 0) [] := by
    rw [hW1]
    have h := World.ownsRow_made (w.alloc (.cells #[.int .i64 p, .slice a 1 c] 26)) #[] 0 (base := w.heap.size + 1) (e := 2) (size := 1) (by simp) (by decide) rfl
    simpa [OwN] using h
  have hd1 : Bd W1 w.heap.size (.int .i64 p) (.slice a 1 c) := by rw [hW1]; exact Bd.below (heap_alloc_new w _) bwT
  rw [<- hW1]; clear hW1
  refine (snext_c (hs.bl hb1 hq) (by decide) (by decide)).mono ?_; rintro e w2 ⟨kd, rfl, hk0, hk1, hs2, hc2, hz2⟩
  have o2 := o1.chg hc2 (by omega); have hd2 := hd1.chg hc2 (.inr (by omega))
  have hcw : Chg q (q + 1) w w2 := (Chg.refl.bl hb1).trans hc2
  have hzz : w.heap.size + 1 <= w2.heap.size := by omega
  clear o1 hd1 hb1 hz1 hz2 hc2 hs hk1
  have e1 := hd2.c1
  go_wp2_with fail
  go_loopw [5, 7, 8] (fun ov iv _ wr => ∃ (k : Nat) (v : Value) (xs : List Int), k <= 2 /\ xs.length = k /\ iv = .int .i64 k /\ ov = v /\ OwN wr (w.heap.size + 1) v xs /\ Bd wr w.heap.size (.int .i64 p) (.slice a 1 c) /\ Src wr q /\ Chg q (q + 1) w wr /\ w.heap.size + 1 <= wr.heap.size) (fun _ iv _ _ => 2 - (intOf iv).toNat)
  case atStart => exact ⟨0, _, [], by omega, rfl, rfl, rfl, o2, hd2, hs2, hcw, hzz⟩
  case round =>
    clear o2 hd2 hs2 hcw hzz e1
    obtain ⟨k, v, xs, hk, hxl, rfl, hov, ho, hd, hsr, hcw, hzz⟩ := hrel
    obtain ⟨ad, nd, cd, rfl⟩ := ho.form
    subst hov
    have e0 := hd.c0; have e1 := hd.c1
    have HXL := Lib.hid hxl; clear hxl
    by_cases hlt : k < 2
    · go_wp2_with fail
      all_goals
        refine (snext_c hsr (by omega) (by omega)).mono ?_; rintro e w3 ⟨x, rfl, hx0, hx1, hs3, hc3, hz3⟩
        have hd3 := hd.chg hc3 (.inr (by omega)); have ho3 := ho.chg hc3 (by omega)
        have hcw3 := hcw.trans hc3
        have hzz3 : w.heap.size + 1 <= w3.heap.size := by omega
        have hx2 : x <= 17 := by omega
        clear hx1 hz3 hc3 hsr hcw hd ho e0 e1
        by_cases hkd : kd = 0
        · subst hkd
          go_wp2_with fail
          refine (snext_c hs3 (by decide) (by decide)).mono ?_; rintro e w4 ⟨y, rfl, hy0, hy1, hs4, hc4, hz4⟩
          have hd4 := hd3.chg hc4 (.inr (by omega)); have ho4 := ho3.chg hc4 (by omega)
          have hcw4 := hcw3.trans hc4
          have hzz4 : w.heap.size + 1 <= w4.heap.size := by omega
          clear hy1 hz4 hc4 hs3 hcw3 hd3 ho3
          by_cases hy : 0 < y
          · go_wp2_with (at_builtin; refine appn_one rfl _ _ rfl w4 (w.heap.size + 1) _ rfl (.slice ad nd cd) xs rfl 0 1 rfl ho4 (by omega) (by have := HXL.out; omega) ?_; intro g' cap' w' hown' hgb' hg' hge)
            go_roundw
            case rel =>
              refine ⟨k + 1, _, xs ++ [0], by omega, by rw [List.length_append, HXL.out]; rfl, by go_num, rfl, ?_, hd4.bl hgb' (by omega), hs4.bl hgb' (by omega), hcw4.bl (hgb'.mono (by omega)), ?_⟩
              · exact hown'
              · have := hgb'.size; omega
            case measure => simp [intOf]; omega
          · go_wp2_with (at_builtin; refine appn_one rfl _ _ rfl w4 (w.heap.size + 1) _ rfl (.slice ad nd cd) xs rfl x 1 rfl ho4 (by omega) (by have := HXL.out; omega) ?_; intro g' cap' w' hown' hgb' hg' hge)
            go_roundw
            case rel =>
              refine ⟨k + 1, _, xs ++ [x], by omega, by rw [List.length_append, HXL.out]; rfl, by go_num, rfl, ?_, hd4.bl hgb' (by omega), hs4.bl hgb' (by omega), hcw4.bl (hgb'.mono (by omega)), ?_⟩
              · exact hown'
              · have := hgb'.size; omega
            case measure => simp [intOf]; omega
        · have hkb : (kd == 0) = false := by simpa using hkd
          go_wp2_with (at_builtin; refine appn_one rfl _ _ rfl w3 (w.heap.size + 1) _ rfl (.slice ad nd cd) xs rfl x 1 rfl ho3 (by omega) (by have := HXL.out; omega) ?_; intro g' cap' w' hown' hgb' hg' hge)
          go_roundw
          case rel =>
            refine ⟨k + 1, _, xs ++ [x], by omega, by rw [List.length_append, HXL.out]; rfl, by go_num, rfl, ?_, hd3.bl hgb' (by omega), hs3.bl hgb' (by omega), hcw3.bl (hgb'.mono (by omega)), ?_⟩
            · exact hown'
            · have := hgb'.size; omega
          case measure => simp [intOf]; omega
    · obtain rfl : k = 2 := by omega
      have hlen := HXL.out
      go_wp2_with fail
      refine (snext_c hsr (by decide) (by decide)).mono ?_; rintro e w3 ⟨x, rfl, hx0, hx1, hs3, hc3, hz3⟩
      have hd3 := hd.chg hc3 (.inr (by omega)); have ho3 := ho.chg hc3 (by omega)
      have hcw3 := hcw.trans hc3
      have hzz3 : w.heap.size + 1 <= w3.heap.size := by omega
      clear hx1 hz3 hc3 hsr hcw hd ho e0 e1
      have e0 := hd3.c0
      by_cases hxa : x = 0
      · subst hxa
        go_wp2_with fail
        have hb5 : Below w3.heap.size w3 (w3.alloc (.cells #[.int .i64 (-1), .int .i64 p] 2)) := bwT
        have o5 := OwnI.lit (w := w3) (B := 0) (Nat.zero_le _) [-1, p] (by simp)
        refine (spick_c (xs := [-1, p]) (hs3.below hb5) o5 (by have := hs3.lt; omega) (by simp) (by simp)).mono ?_; rintro e w4 ⟨y, rfl, hy, hs4, hc4, hz4⟩
        have ho4 := (ho3.below hb5).chg hc4 (by omega)
        have hcw4 := (hcw3.bl (hb5.mono hcw3.size)).trans hc4
        clear hy o5 hd3 hs3 ho3
        obtain ⟨g, cap, hge, hoI⟩ := ho4.fr (by omega)
        cases hge
        rw [hlen] at hoI ⊢
        have hh := hoI.hold (i := 0) (by decide)
        have hf := hoI.free 0
        go_wp2_with fail
        go_ret
        have hst := hoI.set (i := 0) y
        refine ⟨_, xs.set 0 y, rfl, by rw [List.length_set]; omega, ?_, ?_, ?_⟩
        · exact (FrI.elr ⟨g, cd, by rw [List.length_set, hlen]; exact rfl, by rw [List.length_set, hlen]; exact hst⟩).more (by omega)
        · exact hs4.bl (B := q + 1) ((Below.refl _ _).setCell (p := ⟨g, 0, none⟩) (by show q + 1 <= g; have := hoI.lt.1; omega) _) (by omega)
        · exact hcw4.bl ((Below.refl _ _).setCell (p := ⟨g, 0, none⟩) (by show w.heap.size <= g; have := hoI.lt.1; omega) _)
      · have hxb : (x == 0) = false := by simpa using hxa
        by_cases hxc : x = 1
        · subst hxc
          obtain ⟨g, cap, hge, hcap1, hcap2, hAt⟩ := ho3.atX hlen (by decide)
          cases hge
          go_wp2_with fail
          all_goals
            go_ret
            first
            | (refine ⟨_, xs.drop 1, rfl, by rw [List.length_drop]; omega, ⟨?_, ?_⟩, hs3, hcw3⟩
               · have h := hAt.1.elD (k := 1) (n := 2 - 1) (c := cd - 1) (by omega) (by omega) (by omega)
                 simpa using h
               · intro b off sp n c e
                 cases e
                 exact ⟨by have := hAt.2.1; omega, hAt.2.2⟩)
            | (refine ⟨_, [], rfl, by simp, ⟨⟨⟨_, 0, rfl, .inl rfl⟩, _, _, 0, rfl, by decide, by decide⟩, ?_⟩, hs3, hcw3⟩
               intro b off sp n c e
               cases e
               exact ⟨by have := hAt.2.1; omega, hAt.2.2⟩)
        · have hxd : (x == 1) = false := by simpa using hxc
          go_wp2_with fail
          go_ret
          exact ⟨_, xs, rfl, by omega, ho3.elr.more (by omega), hs3, hcw3⟩
set_option maxHeartbeats 8000000 in
set_option maxRecDepth 100000 in
theorem sdrawel2_c {q c : Nat} {p : Int} {a : Option Addr} {w : World} (hs : Src w q) (hp0 : 0 <= p) (hp1 : p <= 17) :
    Calls Tryz.prog 38 #[.pointer (some ⟨q, 0, none⟩), .agg #[.int .i64 p, .slice a 2 c]] w fun e w' => DrE w q e w' := by
  have hq := hs.lt
  go_enter Tryz.func38, Tryz.ntmps38
  go_wp2_with fail
  obtain ⟨W1, hW1⟩ : ∃ x, x = ((w.alloc (.cells #[.int .i64 p, .slice a 2 c] 26)).alloc (.cells #[] 2)) := ⟨_, rfl⟩
  have hb1 : Below w.heap.size w W1 := by rw [hW1]; exact bwT
  have hz1 : W1.heap.size = w.heap.size + 1 + 1 := by rw [hW1]; simp
  have o1 : OwN W1 (w.heap.size + 1) (.slice (some ⟨w.heap.size + 1, 0, none⟩) 0 0) [] := by
    rw [hW1]
    have h := World.ownsRow_made (w.alloc (.cells #[.int .i64 p, .slice a 2 c] 26)) #[] 0 (base := w.heap.size + 1) (e := 2) (size := 1) (by simp) (by decide) rfl
    simpa [OwN] using h
  have hd1 : Bd W1 w.heap.size (.int .i64 p) (.slice a 2 c) := by rw [hW1]; exact Bd.below (heap_alloc_new w _) bwT
  rw [<- hW1]; clear hW1
  refine (snext_c (hs.bl hb1 hq) (by decide) (by decide)).mono ?_; rintro e w2 ⟨kd, rfl, hk0, hk1, hs2, hc2, hz2⟩
  have o2 := o1.chg hc2 (by omega); have hd2 := hd1.chg hc2 (.inr (by omega))
  have hcw : Chg q (q + 1) w w2 := (Chg.refl.bl hb1).trans hc2
  have hzz : w.heap.size + 1 <= w2.heap.size := by omega
  clear o1 hd1 hb1 hz1 hz2 hc2 hs hk1
  have e1 := hd2.c1
  go_wp2_with fail
  go_loopw [5, 7, 8] (fun ov iv _ wr => ∃ (k : Nat) (v : Value) (xs : List Int), k <= 4 /\ xs.length = k /\ iv = .int .i64 k /\ ov = v /\ OwN wr (w.heap.size + 1) v xs /\ Bd wr w.heap.size (.int .i64 p) (.slice a 2 c) /\ Src wr q /\ Chg q (q + 1) w wr /\ w.heap.size + 1 <= wr.heap.size) (fun _ iv _ _ => 4 - (intOf iv).toNat)
  case atStart => exact ⟨0, _, [], by omega, rfl, rfl, rfl, o2, hd2, hs2, hcw, hzz⟩
  case round =>
    clear o2 hd2 hs2 hcw hzz e1
    obtain ⟨k, v, xs, hk, hxl, rfl, hov, ho, hd, hsr, hcw, hzz⟩ := hrel
    obtain ⟨ad, nd, cd, rfl⟩ := ho.form
    subst hov
    have e0 := hd.c0; have e1 := hd.c1
    have HXL := Lib.hid hxl; clear hxl
    by_cases hlt : k < 4
    · go_wp2_with fail
      all_goals
        refine (snext_c hsr (by omega) (by omega)).mono ?_; rintro e w3 ⟨x, rfl, hx0, hx1, hs3, hc3, hz3⟩
        have hd3 := hd.chg hc3 (.inr (by omega)); have ho3 := ho.chg hc3 (by omega)
        have hcw3 := hcw.trans hc3
        have hzz3 : w.heap.size + 1 <= w3.heap.size := by omega
        have hx2 : x <= 17 := by omega
        clear hx1 hz3 hc3 hsr hcw hd ho e0 e1
        by_cases hkd : kd = 0
        · subst hkd
          go_wp2_with fail
          refine (snext_c hs3 (by decide) (by decide)).mono ?_; rintro e w4 ⟨y, rfl, hy0, hy1, hs4, hc4, hz4⟩
          have hd4 := hd3.chg hc4 (.inr (by omega)); have ho4 := ho3.chg hc4 (by omega)
          have hcw4 := hcw3.trans hc4
          have hzz4 : w.heap.size + 1 <= w4.heap.size := by omega
          clear hy1 hz4 hc4 hs3 hcw3 hd3 ho3
          by_cases hy : 0 < y
          · go_wp2_with (at_builtin; refine appn_one rfl _ _ rfl w4 (w.heap.size + 1) _ rfl (.slice ad nd cd) xs rfl 0 1 rfl ho4 (by omega) (by have := HXL.out; omega) ?_; intro g' cap' w' hown' hgb' hg' hge)
            go_roundw
            case rel =>
              refine ⟨k + 1, _, xs ++ [0], by omega, by rw [List.length_append, HXL.out]; rfl, by go_num, rfl, ?_, hd4.bl hgb' (by omega), hs4.bl hgb' (by omega), hcw4.bl (hgb'.mono (by omega)), ?_⟩
              · exact hown'
              · have := hgb'.size; omega
            case measure => simp [intOf]; omega
          · go_wp2_with (at_builtin; refine appn_one rfl _ _ rfl w4 (w.heap.size + 1) _ rfl (.slice ad nd cd) xs rfl x 1 rfl ho4 (by omega) (by have := HXL.out; omega) ?_; intro g' cap' w' hown' hgb' hg' hge)
            go_roundw
            case rel =>
              refine ⟨k + 1, _, xs ++ [x], by omega, by rw [List.length_append, HXL.out]; rfl, by go_num, rfl, ?_, hd4.bl hgb' (by omega), hs4.bl hgb' (by omega), hcw4.bl (hgb'.mono (by omega)), ?_⟩
              · exact hown'
              · have := hgb'.size; omega
            case measure => simp [intOf]; omega
        · have hkb : (kd == 0) = false := by simpa using hkd
          go_wp2_with (at_builtin; refine appn_one rfl _ _ rfl w3 (w.heap.size + 1) _ rfl (.slice ad nd cd) xs rfl x 1 rfl ho3 (by omega) (by have := HXL.out; omega) ?_; intro g' cap' w' hown' hgb' hg' hge)
          go_roundw
          case rel =>
            refine ⟨k + 1, _, xs ++ [x], by omega, by rw [List.length_append, HXL.out]; rfl, by go_num, rfl, ?_, hd3.bl hgb' (by omega), hs3.bl hgb' (by omega), hcw3.bl (hgb'.mono (by omega)), ?_⟩
            · exact hown'
            · have := hgb'.size; omega
          case measure => simp [intOf]; omega
    · obtain rfl : k = 4 := by omega
      have hlen := HXL.out
      go_wp2_with fail
      refine (snext_c hsr (by decide) (by decide)).mono ?_; rintro e w3 ⟨x, rfl, hx0, hx1, hs3, hc3, hz3⟩
      have hd3 := hd.chg hc3 (.inr (by omega)); have ho3 := ho.chg hc3 (by omega)
      have hcw3 := hcw.trans hc3
      have hzz3 : w.heap.size + 1 <= w3.heap.size := by omega
      clear hx1 hz3 hc3 hsr hcw hd ho e0 e1
      have e0 := hd3.c0
      by_cases hxa : x = 0
      · subst hxa
        go_wp2_with fail
        have hb5 : Below w3.heap.size w3 (w3.alloc (.cells #[.int .i64 (-1), .int .i64 p] 2)) := bwT
        have o5 := OwnI.lit (w := w3) (B := 0) (Nat.zero_le _) [-1, p] (by simp)
        refine (spick_c (xs := [-1, p]) (hs3.below hb5) o5 (by have := hs3.lt; omega) (by simp) (by simp)).mono ?_; rintro e w4 ⟨y, rfl, hy, hs4, hc4, hz4⟩
        have ho4 := (ho3.below hb5).chg hc4 (by omega)
        have hcw4 := (hcw3.bl (hb5.mono hcw3.size)).trans hc4
        clear hy o5 hd3 hs3 ho3
        obtain ⟨g, cap, hge, hoI⟩ := ho4.fr (by omega)
        cases hge
        rw [hlen] at hoI ⊢
        have hh := hoI.hold (i := 0) (by decide)
        have hf := hoI.free 0
        go_wp2_with fail
        go_ret
        have hst := hoI.set (i := 0) y
        refine ⟨_, xs.set 0 y, rfl, by rw [List.length_set]; omega, ?_, ?_, ?_⟩
        · exact (FrI.elr ⟨g, cd, by rw [List.length_set, hlen]; exact rfl, by rw [List.length_set, hlen]; exact hst⟩).more (by omega)
        · exact hs4.bl (B := q + 1) ((Below.refl _ _).setCell (p := ⟨g, 0, none⟩) (by show q + 1 <= g; have := hoI.lt.1; omega) _) (by omega)
        · exact hcw4.bl ((Below.refl _ _).setCell (p := ⟨g, 0, none⟩) (by show w.heap.size <= g; have := hoI.lt.1; omega) _)
      · have hxb : (x == 0) = false := by simpa using hxa
        by_cases hxc : x = 1
        · subst hxc
          obtain ⟨g, cap, hge, hcap1, hcap2, hAt⟩ := ho3.atX hlen (by decide)
          cases hge
          go_wp2_with fail
          all_goals
            go_ret
            first
            | (refine ⟨_, xs.drop 1, rfl, by rw [List.length_drop]; omega, ⟨?_, ?_⟩, hs3, hcw3⟩
               · have h := hAt.1.elD (k := 1) (n := 4 - 1) (c := cd - 1) (by omega) (by omega) (by omega)
                 simpa using h
               · intro b off sp n c e
                 cases e
                 exact ⟨by have := hAt.2.1; omega, hAt.2.2⟩)
            | (refine ⟨_, [], rfl, by simp, ⟨⟨⟨_, 0, rfl, .inl rfl⟩, _, _, 0, rfl, by decide, by decide⟩, ?_⟩, hs3, hcw3⟩
               intro b off sp n c e
               cases e
               exact ⟨by have := hAt.2.1; omega, hAt.2.2⟩)
        · have hxd : (x == 1) = false := by simpa using hxc
          go_wp2_with fail
          go_ret
          exact ⟨_, xs, rfl, by omega, ho3.elr.more (by omega), hs3, hcw3⟩
set_option maxHeartbeats 8000000 in
set_option maxRecDepth 100000 in
theorem sdrawel3_c {q c : Nat} {p : Int} {a : Option Addr} {w : World} (hs : Src w q) (hp0 : 0 <= p) (hp1 : p <= 17) :
    Calls Tryz.prog 38 #[.pointer (some ⟨q, 0, none⟩), .agg #[.int .i64 p, .slice a 3 c]] w fun e w' => DrE w q e w' := by
  have hq := hs.lt
  go_enter Tryz.func38, Tryz.ntmps38
  go_wp2_with fail
  obtain ⟨W1, hW1⟩ : ∃ x, x = ((w.alloc (.cells #[.int .i64 p, .slice a 3 c] 26)).alloc (.cells #[] 2)) := ⟨_, rfl⟩
  have hb1 : Below w.heap.size w W1 := by rw [hW1]; exact bwT
  have hz1 : W1.heap.size = w.heap.size + 1 + 1 := by rw [hW1]; simp
  have o1 : OwN W1 (w.heap.size + 1) (.slice (some ⟨w.heap.size + 1, 0, none⟩) 0 0) [] := by
    rw [hW1]
    have h := World.ownsRow_made (w.alloc (.cells #[.int .i64 p, .slice a 3 c] 26)) #[] 0 (base := w.heap.size + 1) (e := 2) (size := 1) (by simp) (by decide) rfl
    simpa [OwN] using h
  have hd1 : Bd W1 w.heap.size (.int .i64 p) (.slice a 3 c) := by rw [hW1]; exact Bd.below (heap_alloc_new w _) bwT
  rw [<- hW1]; clear hW1
  refine (snext_c (hs.bl hb1 hq) (by decide) (by decide)).mono ?_; rintro e w2 ⟨kd, rfl, hk0, hk1, hs2, hc2, hz2⟩
  have o2 := o1.chg hc2 (by omega); have hd2 := hd1.chg hc2 (.inr (by omega))
  have hcw : Chg q (q + 1) w w2 := (Chg.refl.bl hb1).trans hc2
  have hzz : w.heap.size + 1 <= w2.heap.size := by omega
  clear o1 hd1 hb1 hz1 hz2 hc2 hs hk1
  have e1 := hd2.c1
  go_wp2_with fail
  go_loopw [5, 7, 8] (fun ov iv _ wr => ∃ (k : Nat) (v : Value) (xs : List Int), k <= 8 /\ xs.length = k /\ iv = .int .i64 k /\ ov = v /\ OwN wr (w.heap.size + 1) v xs /\ Bd wr w.heap.size (.int .i64 p) (.slice a 3 c) /\ Src wr q /\ Chg q (q + 1) w wr /\ w.heap.size + 1 <= wr.heap.size) (fun _ iv _ _ => 8 - (intOf iv).toNat)
  case atStart => exact ⟨0, _, [], by omega, rfl, rfl, rfl, o2, hd2, hs2, hcw, hzz⟩
  case round =>
    clear o2 hd2 hs2 hcw hzz e1
    obtain ⟨k, v, xs, hk, hxl, rfl, hov, ho, hd, hsr, hcw, hzz⟩ := hrel
    obtain ⟨ad, nd, cd, rfl⟩ := ho.form
    subst hov
    have e0 := hd.c0; have e1 := hd.c1
    have HXL := Lib.hid hxl; clear hxl
    by_cases hlt : k < 8
    · go_wp2_with fail
      all_goals
        refine (snext_c hsr (by omega) (by omega)).mono ?_; rintro e w3 ⟨x, rfl, hx0, hx1, hs3, hc3, hz3⟩
        have hd3 := hd.chg hc3 (.inr (by omega)); have ho3 := ho.chg hc3 (by omega)
        have hcw3 := hcw.trans hc3
        have hzz3 : w.heap.size + 1 <= w3.heap.size := by omega
        have hx2 : x <= 17 := by omega
        clear hx1 hz3 hc3 hsr hcw hd ho e0 e1
        by_cases hkd : kd = 0
        · subst hkd
          go_wp2_with fail
          refine (snext_c hs3 (by decide) (by decide)).mono ?_; rintro e w4 ⟨y, rfl, hy0, hy1, hs4, hc4, hz4⟩
          have hd4 := hd3.chg hc4 (.inr (by omega)); have ho4 := ho3.chg hc4 (by omega)
          have hcw4 := hcw3.trans hc4
          have hzz4 : w.heap.size + 1 <= w4.heap.size := by omega
          clear hy1 hz4 hc4 hs3 hcw3 hd3 ho3
          by_cases hy : 0 < y
          · go_wp2_with (at_builtin; refine appn_one rfl _ _ rfl w4 (w.heap.size + 1) _ rfl (.slice ad nd cd) xs rfl 0 1 rfl ho4 (by omega) (by have := HXL.out; omega) ?_; intro g' cap' w' hown' hgb' hg' hge)
            go_roundw
            case rel =>
              refine ⟨k + 1, _, xs ++ [0], by omega, by rw [List.length_append, HXL.out]; rfl, by go_num, rfl, ?_, hd4.bl hgb' (by omega), hs4.bl hgb' (by omega), hcw4.bl (hgb'.mono (by omega)), ?_⟩
              · exact hown'
              · have := hgb'.size; omega
            case measure => simp [intOf]; omega
          · go_wp2_with (at_builtin; refine appn_one rfl _ _ rfl w4 (w.heap.size + 1) _ rfl (.slice ad nd cd) xs rfl x 1 rfl ho4 (by omega) (by have := HXL.out; omega) ?_; intro g' cap' w' hown' hgb' hg' hge)
            go_roundw
            case rel =>
              refine ⟨k + 1, _, xs ++ [x], by omega, by rw [List.length_append, HXL.out]; rfl, by go_num, rfl, ?_, hd4.bl hgb' (by omega), hs4.bl hgb' (by omega), hcw4.bl (hgb'.mono (by omega)), ?_⟩
              · exact hown'
              · have := hgb'.size; omega
            case measure => simp [intOf]; omega
        · have hkb : (kd == 0) = false := by simpa using hkd
          go_wp2_with (at_builtin; refine appn_one rfl _ _ rfl w3 (w.heap.size + 1) _ rfl (.slice ad nd cd) xs rfl x 1 rfl ho3 (by omega) (by have := HXL.out; omega) ?_; intro g' cap' w' hown' hgb' hg' hge)
          go_roundw
          case rel =>
            refine ⟨k + 1, _, xs ++ [x], by omega, by rw [List.length_append, HXL.out]; rfl, by go_num, rfl, ?_, hd3.bl hgb' (by omega), hs3.bl hgb' (by omega), hcw3.bl (hgb'.mono (by omega)), ?_⟩
            · exact hown'
            · have := hgb'.size; omega
          case measure => simp [intOf]; omega
    · obtain rfl : k = 8 := by omega
      have hlen := HXL.out
      go_wp2_with fail
      refine (snext_c hsr (by decide) (by decide)).mono ?_; rintro e w3 ⟨x, rfl, hx0, hx1, hs3, hc3, hz3⟩
      have hd3 := hd.chg hc3 (.inr (by omega)); have ho3 := ho.chg hc3 (by omega)
      have hcw3 := hcw.trans hc3
      have hzz3 : w.heap.size + 1 <= w3.heap.size := by omega
      clear hx1 hz3 hc3 hsr hcw hd ho e0 e1
      have e0 := hd3.c0
      by_cases hxa : x = 0
      · subst hxa
        go_wp2_with fail
        have hb5 : Below w3.heap.size w3 (w3.alloc (.cells #[.int .i64 (-1), .int .i64 p] 2)) := bwT
        have o5 := OwnI.lit (w := w3) (B := 0) (Nat.zero_le _) [-1, p] (by simp)
        refine (spick_c (xs := [-1, p]) (hs3.below hb5) o5 (by have := hs3.lt; omega) (by simp) (by simp)).mono ?_; rintro e w4 ⟨y, rfl, hy, hs4, hc4, hz4⟩
        have ho4 := (ho3.below hb5).chg hc4 (by omega)
        have hcw4 := (hcw3.bl (hb5.mono hcw3.size)).trans hc4
        clear hy o5 hd3 hs3 ho3
        obtain ⟨g, cap, hge, hoI⟩ := ho4.fr (by omega)
        cases hge
        rw [hlen] at hoI ⊢
        have hh := hoI.hold (i := 0) (by decide)
        have hf := hoI.free 0
        go_wp2_with fail
        go_ret
        have hst := hoI.set (i := 0) y
        refine ⟨_, xs.set 0 y, rfl, by rw [List.length_set]; omega, ?_, ?_, ?_⟩
        · exact (FrI.elr ⟨g, cd, by rw [List.length_set, hlen]; exact rfl, by rw [List.length_set, hlen]; exact hst⟩).more (by omega)
        · exact hs4.bl (B := q + 1) ((Below.refl _ _).setCell (p := ⟨g, 0, none⟩) (by show q + 1 <= g; have := hoI.lt.1; omega) _) (by omega)
        · exact hcw4.bl ((Below.refl _ _).setCell (p := ⟨g, 0, none⟩) (by show w.heap.size <= g; have := hoI.lt.1; omega) _)
      · have hxb : (x == 0) = false := by simpa using hxa
        by_cases hxc : x = 1
        · subst hxc
          obtain ⟨g, cap, hge, hcap1, hcap2, hAt⟩ := ho3.atX hlen (by decide)
          cases hge
          go_wp2_with fail
          all_goals
            go_ret
            first
            | (refine ⟨_, xs.drop 1, rfl, by rw [List.length_drop]; omega, ⟨?_, ?_⟩, hs3, hcw3⟩
               · have h := hAt.1.elD (k := 1) (n := 8 - 1) (c := cd - 1) (by omega) (by omega) (by omega)
                 simpa using h
               · intro b off sp n c e
                 cases e
                 exact ⟨by have := hAt.2.1; omega, hAt.2.2⟩)
            | (refine ⟨_, [], rfl, by simp, ⟨⟨⟨_, 0, rfl, .inl rfl⟩, _, _, 0, rfl, by decide, by decide⟩, ?_⟩, hs3, hcw3⟩
               intro b off sp n c e
               cases e
               exact ⟨by have := hAt.2.1; omega, hAt.2.2⟩)
        · have hxd : (x == 1) = false := by simpa using hxc
          go_wp2_with fail
          go_ret
          exact ⟨_, xs, rfl, by omega, ho3.elr.more (by omega), hs3, hcw3⟩
set_option maxHeartbeats 8000000 in
set_option maxRecDepth 100000 in
theorem sdrawel4_c {q c : Nat} {p : Int} {a : Option Addr} {w : World} (hs : Src w q) (hp0 : 0 <= p) (hp1 : p <= 17) :
    Calls Tryz.prog 38 #[.pointer (some ⟨q, 0, none⟩), .agg #[.int .i64 p, .slice a 4 c]] w fun e w' => DrE w q e w' := by
  have hq := hs.lt
  go_enter Tryz.func38, Tryz.ntmps38
  go_wp2_with fail
  obtain ⟨W1, hW1⟩ : ∃ x, x = ((w.alloc (.cells #[.int .i64 p, .slice a 4 c] 26)).alloc (.cells #[] 2)) := ⟨_, rfl⟩
  have hb1 : Below w.heap.size w W1 := by rw [hW1]; exact bwT
  have hz1 : W1.heap.size = w.heap.size + 1 + 1 := by rw [hW1]; simp
  have o1 : OwN W1 (w.heap.size + 1) (.slice (some ⟨w.heap.size + 1, 0, none⟩) 0 0) [] := by
    rw [hW1]
    have h := World.ownsRow_made (w.alloc (.cells #[.int .i64 p, .slice a 4 c] 26)) #[] 0 (base := w.heap.size + 1) (e := 2) (size := 1) (by simp) (by decide) rfl
    simpa [OwN] using h
  have hd1 : Bd W1 w.heap.size (.int .i64 p) (.slice a 4 c) := by rw [hW1]; exact Bd.below (heap_alloc_new w _) bwT
  rw [<- hW1]; clear hW1
  refine (snext_c (hs.bl hb1 hq) (by decide) (by decide)).mono ?_; rintro e w2 ⟨kd, rfl, hk0, hk1, hs2, hc2, hz2⟩
  have o2 := o1.chg hc2 (by omega); have hd2 := hd1.chg hc2 (.inr (by omega))
  have hcw : Chg q (q + 1) w w2 := (Chg.refl.bl hb1).trans hc2
  have hzz : w.heap.size + 1 <= w2.heap.size := by omega
  clear o1 hd1 hb1 hz1 hz2 hc2 hs hk1
  have e1 := hd2.c1
  go_wp2_with fail
  go_loopw [5, 7, 8] (fun ov iv _ wr => ∃ (k : Nat) (v : Value) (xs : List Int), k <= 16 /\ xs.length = k /\ iv = .int .i64 k /\ ov = v /\ OwN wr (w.heap.size + 1) v xs /\ Bd wr w.heap.size (.int .i64 p) (.slice a 4 c) /\ Src wr q /\ Chg q (q + 1) w wr /\ w.heap.size + 1 <= wr.heap.size) (fun _ iv _ _ => 16 - (intOf iv).toNat)
  case atStart => exact ⟨0, _, [], by omega, rfl, rfl, rfl, o2, hd2, hs2, hcw, hzz⟩
  case round =>
    clear o2 hd2 hs2 hcw hzz e1
    obtain ⟨k, v, xs, hk, hxl, rfl, hov, ho, hd, hsr, hcw, hzz⟩ := hrel
    obtain ⟨ad, nd, cd, rfl⟩ := ho.form
    subst hov
    have e0 := hd.c0; have e1 := hd.c1
    have HXL := Lib.hid hxl; clear hxl
    by_cases hlt : k < 16
    · go_wp2_with fail
      all_goals
        refine (snext_c hsr (by omega) (by omega)).mono ?_; rintro e w3 ⟨x, rfl, hx0, hx1, hs3, hc3, hz3⟩
        have hd3 := hd.chg hc3 (.inr (by omega)); have ho3 := ho.chg hc3 (by omega)
        have hcw3 := hcw.trans hc3
        have hzz3 : w.heap.size + 1 <= w3.heap.size := by omega
        have hx2 : x <= 17 := by omega
        clear hx1 hz3 hc3 hsr hcw hd ho e0 e1
        by_cases hkd : kd = 0
        · subst hkd
          go_wp2_with fail
          refine (snext_c hs3 (by decide) (by decide)).mono ?_; rintro e w4 ⟨y, rfl, hy0, hy1, hs4, hc4, hz4⟩
          have hd4 := hd3.chg hc4 (.inr (by omega)); have ho4 := ho3.chg hc4 (by omega)
          have hcw4 := hcw3.trans hc4
          have hzz4 : w.heap.size + 1 <= w4.heap.size := by omega
          clear hy1 hz4 hc4 hs3 hcw3 hd3 ho3
          by_cases hy : 0 < y
          · go_wp2_with (at_builtin; refine appn_one rfl _ _ rfl w4 (w.heap.size + 1) _ rfl (.slice ad nd cd) xs rfl 0 1 rfl ho4 (by omega) (by have := HXL.out; omega) ?_; intro g' cap' w' hown' hgb' hg' hge)
            go_roundw
            case rel =>
              refine ⟨k + 1, _, xs ++ [0], by omega, by rw [List.length_append, HXL.out]; rfl, by go_num, rfl, ?_, hd4.bl hgb' (by omega), hs4.bl hgb' (by omega), hcw4.bl (hgb'.mono (by omega)), ?_⟩
              · exact hown'
              · have := hgb'.size; omega
            case measure => simp [intOf]; omega
          · go_wp2_with (at_builtin; refine appn_one rfl _ _ rfl w4 (w.heap.size + 1) _ rfl (.slice ad nd cd) xs rfl x 1 rfl ho4 (by omega) (by have := HXL.out; omega) ?_; intro g' cap' w' hown' hgb' hg' hge)
            go_roundw
            case rel =>
              refine ⟨k + 1, _, xs ++ [x], by omega, by rw [List.length_append, HXL.out]; rfl, by go_num, rfl, ?_, hd4.bl hgb' (by omega), hs4.bl hgb' (by omega), hcw4.bl (hgb'.mono (by omega)), ?_⟩
              · exact hown'
              · have := hgb'.size; omega
            case measure => simp [intOf]; omega
        · have hkb : (kd == 0) = false := by simpa using hkd
          go_wp2_with (at_builtin; refine appn_one rfl _ _ rfl w3 (w.heap.size + 1) _ rfl (.slice ad nd cd) xs rfl x 1 rfl ho3 (by omega) (by have := HXL.out; omega) ?_; intro g' cap' w' hown' hgb' hg' hge)
          go_roundw
          case rel =>
            refine ⟨k + 1, _, xs ++ [x], by omega, by rw [List.length_append, HXL.out]; rfl, by go_num, rfl, ?_, hd3.bl hgb' (by omega), hs3.bl hgb' (by omega), hcw3.bl (hgb'.mono (by omega)), ?_⟩
            · exact hown'
            · have := hgb'.size; omega
          case measure => simp [intOf]; omega
    · obtain rfl : k = 16 := by omega
      have hlen := HXL.out
      go_wp2_with fail
      refine (snext_c hsr (by decide) (by decide)).mono ?_; rintro e w3 ⟨x, rfl, hx0, hx1, hs3, hc3, hz3⟩
      have hd3 := hd.chg hc3 (.inr (by omega)); have ho3 := ho.chg hc3 (by omega)
      have hcw3 := hcw.trans hc3
      have hzz3 : w.heap.size + 1 <= w3.heap.size := by omega
      clear hx1 hz3 hc3 hsr hcw hd ho e0 e1
      have e0 := hd3.c0
      by_cases hxa : x = 0
      · subst hxa
        go_wp2_with fail
        have hb5 : Below w3.heap.size w3 (w3.alloc (.cells #[.int .i64 (-1), .int .i64 p] 2)) := bwT
        have o5 := OwnI.lit (w := w3) (B := 0) (Nat.zero_le _) [-1, p] (by simp)
        refine (spick_c (xs := [-1, p]) (hs3.below hb5) o5 (by have := hs3.lt; omega) (by simp) (by simp)).mono ?_; rintro e w4 ⟨y, rfl, hy, hs4, hc4, hz4⟩
        have ho4 := (ho3.below hb5).chg hc4 (by omega)
        have hcw4 := (hcw3.bl (hb5.mono hcw3.size)).trans hc4
        clear hy o5 hd3 hs3 ho3
        obtain ⟨g, cap, hge, hoI⟩ := ho4.fr (by omega)
        cases hge
        rw [hlen] at hoI ⊢
        have hh := hoI.hold (i := 0) (by decide)
        have hf := hoI.free 0
        go_wp2_with fail
        go_ret
        have hst := hoI.set (i := 0) y
        refine ⟨_, xs.set 0 y, rfl, by rw [List.length_set]; omega, ?_, ?_, ?_⟩
        · exact (FrI.elr ⟨g, cd, by rw [List.length_set, hlen]; exact rfl, by rw [List.length_set, hlen]; exact hst⟩).more (by omega)
        · exact hs4.bl (B := q + 1) ((Below.refl _ _).setCell (p := ⟨g, 0, none⟩) (by show q + 1 <= g; have := hoI.lt.1; omega) _) (by omega)
        · exact hcw4.bl ((Below.refl _ _).setCell (p := ⟨g, 0, none⟩) (by show w.heap.size <= g; have := hoI.lt.1; omega) _)
      · have hxb : (x == 0) = false := by simpa using hxa
        by_cases hxc : x = 1
        · subst hxc
          obtain ⟨g, cap, hge, hcap1, hcap2, hAt⟩ := ho3.atX hlen (by decide)
          cases hge
          go_wp2_with fail
          all_goals
            go_ret
            first
            | (refine ⟨_, xs.drop 1, rfl, by rw [List.length_drop]; omega, ⟨?_, ?_⟩, hs3, hcw3⟩
               · have h := hAt.1.elD (k := 1) (n := 16 - 1) (c := cd - 1) (by omega) (by omega) (by omega)
                 simpa using h
               · intro b off sp n c e
                 cases e
                 exact ⟨by have := hAt.2.1; omega, hAt.2.2⟩)
            | (refine ⟨_, [], rfl, by simp, ⟨⟨⟨_, 0, rfl, .inl rfl⟩, _, _, 0, rfl, by decide, by decide⟩, ?_⟩, hs3, hcw3⟩
               intro b off sp n c e
               cases e
               exact ⟨by have := hAt.2.1; omega, hAt.2.2⟩)
        · have hxd : (x == 1) = false := by simpa using hxc
          go_wp2_with fail
          go_ret
          exact ⟨_, xs, rfl, by omega, ho3.elr.more (by omega), hs3, hcw3⟩
set_option maxHeartbeats 8000000 in
set_option maxRecDepth 100000 in
theorem sdrawel5_c {q c : Nat} {p : Int} {a : Option Addr} {w : World} (hs : Src w q) (hp0 : 0 <= p) (hp1 : p <= 17) :
    Calls Tryz.prog 38 #[.pointer (some ⟨q, 0, none⟩), .agg #[.int .i64 p, .slice a 5 c]] w fun e w' => DrE w q e w' := by
  have hq := hs.lt
  go_enter Tryz.func38, Tryz.ntmps38
  go_wp2_with fail
  obtain ⟨W1, hW1⟩ : ∃ x, x = ((w.alloc (.cells #[.int .i64 p, .slice a 5 c] 26)).alloc (.cells #[] 2)) := ⟨_, rfl⟩
  have hb1 : Below w.heap.size w W1 := by rw [hW1]; exact bwT
  have hz1 : W1.heap.size = w.heap.size + 1 + 1 := by rw [hW1]; simp
  have o1 : OwN W1 (w.heap.size + 1) (.slice (some ⟨w.heap.size + 1, 0, none⟩) 0 0) [] := by
    rw [hW1]
    have h := World.ownsRow_made (w.alloc (.cells #[.int .i64 p, .slice a 5 c] 26)) #[] 0 (base := w.heap.size + 1) (e := 2) (size := 1) (by simp) (by decide) rfl
    simpa [OwN] using h
  have hd1 : Bd W1 w.heap.size (.int .i64 p) (.slice a 5 c) := by rw [hW1]; exact Bd.below (heap_alloc_new w _) bwT
  rw [<- hW1]; clear hW1
  refine (snext_c (hs.bl hb1 hq) (by decide) (by decide)).mono ?_; rintro e w2 ⟨kd, rfl, hk0, hk1, hs2, hc2, hz2⟩
  have o2 := o1.chg hc2 (by omega); have hd2 := hd1.chg hc2 (.inr (by omega))
  have hcw : Chg q (q + 1) w w2 := (Chg.refl.bl hb1).trans hc2
  have hzz : w.heap.size + 1 <= w2.heap.size := by omega
  clear o1 hd1 hb1 hz1 hz2 hc2 hs hk1
  have e1 := hd2.c1
  go_wp2_with fail
  go_loopw [5, 7, 8] (fun ov iv _ wr => ∃ (k : Nat) (v : Value) (xs : List Int), k <= 16 /\ xs.length = k /\ iv = .int .i64 k /\ ov = v /\ OwN wr (w.heap.size + 1) v xs /\ Bd wr w.heap.size (.int .i64 p) (.slice a 5 c) /\ Src wr q /\ Chg q (q + 1) w wr /\ w.heap.size + 1 <= wr.heap.size) (fun _ iv _ _ => 16 - (intOf iv).toNat)
  case atStart => exact ⟨0, _, [], by omega, rfl, rfl, rfl, o2, hd2, hs2, hcw, hzz⟩
  case round =>
    clear o2 hd2 hs2 hcw hzz e1
    obtain ⟨k, v, xs, hk, hxl, rfl, hov, ho, hd, hsr, hcw, hzz⟩ := hrel
    obtain ⟨ad, nd, cd, rfl⟩ := ho.form
    subst hov
    have e0 := hd.c0; have e1 := hd.c1
    have HXL := Lib.hid hxl; clear hxl
    by_cases hlt : k < 16
    · go_wp2_with fail
      all_goals
        refine (snext_c hsr (by omega) (by omega)).mono ?_; rintro e w3 ⟨x, rfl, hx0, hx1, hs3, hc3, hz3⟩
        have hd3 := hd.chg hc3 (.inr (by omega)); have ho3 := ho.chg hc3 (by omega)
        have hcw3 := hcw.trans hc3
        have hzz3 : w.heap.size + 1 <= w3.heap.size := by omega
        have hx2 : x <= 17 := by omega
        clear hx1 hz3 hc3 hsr hcw hd ho e0 e1
        by_cases hkd : kd = 0
        · subst hkd
          go_wp2_with fail
          refine (snext_c hs3 (by decide) (by decide)).mono ?_; rintro e w4 ⟨y, rfl, hy0, hy1, hs4, hc4, hz4⟩
          have hd4 := hd3.chg hc4 (.inr (by omega)); have ho4 := ho3.chg hc4 (by omega)
          have hcw4 := hcw3.trans hc4
          have hzz4 : w.heap.size + 1 <= w4.heap.size := by omega
          clear hy1 hz4 hc4 hs3 hcw3 hd3 ho3
          by_cases hy : 0 < y
          · go_wp2_with (at_builtin; refine appn_one rfl _ _ rfl w4 (w.heap.size + 1) _ rfl (.slice ad nd cd) xs rfl 0 1 rfl ho4 (by omega) (by have := HXL.out; omega) ?_; intro g' cap' w' hown' hgb' hg' hge)
            go_roundw
            case rel =>
              refine ⟨k + 1, _, xs ++ [0], by omega, by rw [List.length_append, HXL.out]; rfl, by go_num, rfl, ?_, hd4.bl hgb' (by omega), hs4.bl hgb' (by omega), hcw4.bl (hgb'.mono (by omega)), ?_⟩
              · exact hown'
              · have := hgb'.size; omega
            case measure => simp [intOf]; omega
          · go_wp2_with (at_builtin; refine appn_one rfl _ _ rfl w4 (w.heap.size + 1) _ rfl (.slice ad nd cd) xs rfl x 1 rfl ho4 (by omega) (by have := HXL.out; omega) ?_; intro g' cap' w' hown' hgb' hg' hge)
            go_roundw
            case rel =>
              refine ⟨k + 1, _, xs ++ [x], by omega, by rw [List.length_append, HXL.out]; rfl, by go_num, rfl, ?_, hd4.bl hgb' (by omega), hs4.bl hgb' (by omega), hcw4.bl (hgb'.mono (by omega)), ?_⟩
              · exact hown'
              · have := hgb'.size; omega
            case measure => simp [intOf]; omega
        · have hkb : (kd == 0) = false := by simpa using hkd
          go_wp2_with (at_builtin; refine appn_one rfl _ _ rfl w3 (w.heap.size + 1) _ rfl (.slice ad nd cd) xs rfl x 1 rfl ho3 (by omega) (by have := HXL.out; omega) ?_; intro g' cap' w' hown' hgb' hg' hge)
          go_roundw
          case rel =>
            refine ⟨k + 1, _, xs ++ [x], by omega, by rw [List.length_append, HXL.out]; rfl, by go_num, rfl, ?_, hd3.bl hgb' (by omega), hs3.bl hgb' (by omega), hcw3.bl (hgb'.mono (by omega)), ?_⟩
            · exact hown'
            · have := hgb'.size; omega
          case measure => simp [intOf]; omega
    · obtain rfl : k = 16 := by omega
      have hlen := HXL.out
      go_wp2_with fail
      refine (snext_c hsr (by decide) (by decide)).mono ?_; rintro e w3 ⟨x, rfl, hx0, hx1, hs3, hc3, hz3⟩
      have hd3 := hd.chg hc3 (.inr (by omega)); have ho3 := ho.chg hc3 (by omega)
      have hcw3 := hcw.trans hc3
      have hzz3 : w.heap.size + 1 <= w3.heap.size := by omega
      clear hx1 hz3 hc3 hsr hcw hd ho e0 e1
      have e0 := hd3.c0
      by_cases hxa : x = 0
      · subst hxa
        go_wp2_with fail
        have hb5 : Below w3.heap.size w3 (w3.alloc (.cells #[.int .i64 (-1), .int .i64 p] 2)) := bwT
        have o5 := OwnI.lit (w := w3) (B := 0) (Nat.zero_le _) [-1, p] (by simp)
        refine (spick_c (xs := [-1, p]) (hs3.below hb5) o5 (by have := hs3.lt; omega) (by simp) (by simp)).mono ?_; rintro e w4 ⟨y, rfl, hy, hs4, hc4, hz4⟩
        have ho4 := (ho3.below hb5).chg hc4 (by omega)
        have hcw4 := (hcw3.bl (hb5.mono hcw3.size)).trans hc4
        clear hy o5 hd3 hs3 ho3
        obtain ⟨g, cap, hge, hoI⟩ := ho4.fr (by omega)
        cases hge
        rw [hlen] at hoI ⊢
        have hh := hoI.hold (i := 0) (by decide)
        have hf := hoI.free 0
        go_wp2_with fail
        go_ret
        have hst := hoI.set (i := 0) y
        refine ⟨_, xs.set 0 y, rfl, by rw [List.length_set]; omega, ?_, ?_, ?_⟩
        · exact (FrI.elr ⟨g, cd, by rw [List.length_set, hlen]; exact rfl, by rw [List.length_set, hlen]; exact hst⟩).more (by omega)
        · exact hs4.bl (B := q + 1) ((Below.refl _ _).setCell (p := ⟨g, 0, none⟩) (by show q + 1 <= g; have := hoI.lt.1; omega) _) (by omega)
        · exact hcw4.bl ((Below.refl _ _).setCell (p := ⟨g, 0, none⟩) (by show w.heap.size <= g; have := hoI.lt.1; omega) _)
      · have hxb : (x == 0) = false := by simpa using hxa
        by_cases hxc : x = 1
        · subst hxc
          obtain ⟨g, cap, hge, hcap1, hcap2, hAt⟩ := ho3.atX hlen (by decide)
          cases hge
          go_wp2_with fail
          all_goals
            go_ret
            first
            | (refine ⟨_, xs.drop 1, rfl, by rw [List.length_drop]; omega, ⟨?_, ?_⟩, hs3, hcw3⟩
               · have h := hAt.1.elD (k := 1) (n := 16 - 1) (c := cd - 1) (by omega) (by omega) (by omega)
                 simpa using h
               · intro b off sp n c e
                 cases e
                 exact ⟨by have := hAt.2.1; omega, hAt.2.2⟩)
            | (refine ⟨_, [], rfl, by simp, ⟨⟨⟨_, 0, rfl, .inl rfl⟩, _, _, 0, rfl, by decide, by decide⟩, ?_⟩, hs3, hcw3⟩
               intro b off sp n c e
               cases e
               exact ⟨by have := hAt.2.1; omega, hAt.2.2⟩)
        · have hxd : (x == 1) = false := by simpa using hxc
          go_wp2_with fail
          go_ret
          exact ⟨_, xs, rfl, by omega, ho3.elr.more (by omega), hs3, hcw3⟩
theorem sdrawel_c {q n c : Nat} {p : Int} {a : Option Addr} {w : World} (hs : Src w q) (hp0 : 0 <= p) (hp1 : p <= 17) (hn : n <= 5) :
  Calls Tryz.prog 38 #[.pointer (some ⟨q, 0, none⟩), .agg #[.int .i64 p, .slice a n c]] w fun e w' => DrE w q e w' := by
 rcases (show n = 0 \/ n = 1 \/ n = 2 \/ n = 3 \/ n = 4 \/ n = 5 by omega) with rfl | rfl | rfl | rfl | rfl | rfl
 ·exact sdrawel0_c hs hp0 hp1
 ·exact sdrawel1_c hs hp0 hp1
 ·exact sdrawel2_c hs hp0 hp1
 ·exact sdrawel3_c hs hp0 hp1
 ·exact sdrawel4_c hs hp0 hp1
 ·exact sdrawel5_c hs hp0 hp1
end Go.Proofs.YteaaepbnoiecoaaGreat
