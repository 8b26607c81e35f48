import Derived.Test.YteaaepbnoiecoaaGreatDpK
import Derived.Test.YteaaepbnoiecoaaGreatLsF
namespace Go.Proofs.YteaaepbnoiecoaaGreat
open Go.RowKit
def DrEF (w : World) (q : Nat) (e : Ending) (w' : World) : Prop := ∃ (v : Value) (xs : List Int), e = .returned v /\ xs.length <= 16 /\ ElF w' w.heap.size v xs /\ Src w' q /\ Chg q (q + 1) w w'
theorem OwN.atXF {w : World} {B : Nat} {v : Value} {xs : List Int} {n : Nat} (h : OwN w B v xs) (hn : xs.length = n) (h0 : 0 < n) : ∃ g cap, v = .slice (some ⟨g, 0, none⟩) n cap /\ n <= cap /\ cap <= 9223372036854775807 /\ (At w g 0 xs /\ B <= g /\ g < w.heap.size) /\ ∃ cs T, w.heap[g]? = some (.cells cs T (0, 0)) := by
 obtain ⟨g, cap, rfl, h1, h2, h3⟩ := h.atX hn h0
 exact ⟨g, cap, rfl, h1, h2, h3, h.elf.2 _ _ _ _ _ rfl⟩
set_option maxHeartbeats 8000000 in
set_option maxRecDepth 100000 in
theorem sdrawelF0_c {q c : Nat} {p : Int} {a : Option Addr} {w : World} (hs : Src w q) (hp0 : 0 <= p) (hp1 : p <= 17) :
    Calls Tryz.prog 38 #[.pointer (some ⟨q, 0, none⟩), .agg #[.int .i64 p, .slice a 0 c]] w fun e w' => DrEF w q e w' := by
  have hq := hs.lt
  go_enter Tryz.func38, Tryz.ntmps38
  go_wp2_with fail
  obtain ⟨W1, hW1⟩ : ∃ x, x = ((w.alloc (.cells #[.int .i64 p, .slice a 0 c] 26)).alloc (.cells #[] 2)) := ⟨_, rfl⟩
  have hb1 : Below w.heap.size w W1 := by rw [hW1]; exact bwT
  have hz1 : W1.heap.size = w.heap.size + 1 + 1 := by rw [hW1]; simp
  have o1 : OwN W1 (w.heap.size + 1) (.slice (some ⟨w.heap.size + 1, 0, none⟩) 0 0) [] := by
    rw [hW1]
    have h := World.ownsRow_made (w.alloc (.cells #[.int .i64 p, .slice a 0 c] 26)) #[] 0 (base := w.heap.size + 1) (e := 2) (size := 1) (by simp) (by decide) rfl
    simpa [OwN] using h
  have hd1 : Bd W1 w.heap.size (.int .i64 p) (.slice a 0 c) := by rw [hW1]; exact Bd.below (heap_alloc_new w _) bwT
  rw [<- hW1]; clear hW1
  refine (snext_c (hs.bl hb1 hq) (by decide) (by decide)).mono ?_; rintro e w2 ⟨kd, rfl, hk0, hk1, hs2, hc2, hz2⟩
  have o2 := o1.chg hc2 (by omega); have hd2 := hd1.chg hc2 (.inr (by omega))
  have hcw : Chg q (q + 1) w w2 := (Chg.refl.bl hb1).trans hc2
  have hzz : w.heap.size + 1 <= w2.heap.size := by omega
  clear o1 hd1 hb1 hz1 hz2 hc2 hs hk1
  have e1 := hd2.c1
  go_wp2_with fail
  go_loopw [5, 7, 8] (fun ov iv _ wr => ∃ (k : Nat) (v : Value) (xs : List Int), k <= 1 /\ xs.length = k /\ iv = .int .i64 k /\ ov = v /\ OwN wr (w.heap.size + 1) v xs /\ Bd wr w.heap.size (.int .i64 p) (.slice a 0 c) /\ Src wr q /\ Chg q (q + 1) w wr /\ w.heap.size + 1 <= wr.heap.size) (fun _ iv _ _ => 1 - (intOf iv).toNat)
  case atStart => exact ⟨0, _, [], by omega, rfl, rfl, rfl, o2, hd2, hs2, hcw, hzz⟩
  case round =>
    clear o2 hd2 hs2 hcw hzz e1
    obtain ⟨k, v, xs, hk, hxl, rfl, hov, ho, hd, hsr, hcw, hzz⟩ := hrel
    obtain ⟨ad, nd, cd, rfl⟩ := ho.form
    subst hov
    have e0 := hd.c0; have e1 := hd.c1
    have HXL := Lib.hid hxl; clear hxl
    by_cases hlt : k < 1
    · go_wp2_with fail
      all_goals
        refine (snext_c hsr (by omega) (by omega)).mono ?_; rintro e w3 ⟨x, rfl, hx0, hx1, hs3, hc3, hz3⟩
        have hd3 := hd.chg hc3 (.inr (by omega)); have ho3 := ho.chg hc3 (by omega)
        have hcw3 := hcw.trans hc3
        have hzz3 : w.heap.size + 1 <= w3.heap.size := by omega
        have hx2 : x <= 17 := by omega
        clear hx1 hz3 hc3 hsr hcw hd ho e0 e1
        by_cases hkd : kd = 0
        · subst hkd
          go_wp2_with fail
          refine (snext_c hs3 (by decide) (by decide)).mono ?_; rintro e w4 ⟨y, rfl, hy0, hy1, hs4, hc4, hz4⟩
          have hd4 := hd3.chg hc4 (.inr (by omega)); have ho4 := ho3.chg hc4 (by omega)
          have hcw4 := hcw3.trans hc4
          have hzz4 : w.heap.size + 1 <= w4.heap.size := by omega
          clear hy1 hz4 hc4 hs3 hcw3 hd3 ho3
          by_cases hy : 0 < y
          · go_wp2_with (at_builtin; refine appn_one rfl _ _ rfl w4 (w.heap.size + 1) _ rfl (.slice ad nd cd) xs rfl 0 1 rfl ho4 (by omega) (by have := HXL.out; omega) ?_; intro g' cap' w' hown' hgb' hg' hge)
            go_roundw
            case rel =>
              refine ⟨k + 1, _, xs ++ [0], by omega, by rw [List.length_append, HXL.out]; rfl, by go_num, rfl, ?_, hd4.bl hgb' (by omega), hs4.bl hgb' (by omega), hcw4.bl (hgb'.mono (by omega)), ?_⟩
              · exact hown'
              · have := hgb'.size; omega
            case measure => simp [intOf]; omega
          · go_wp2_with (at_builtin; refine appn_one rfl _ _ rfl w4 (w.heap.size + 1) _ rfl (.slice ad nd cd) xs rfl x 1 rfl ho4 (by omega) (by have := HXL.out; omega) ?_; intro g' cap' w' hown' hgb' hg' hge)
            go_roundw
            case rel =>
              refine ⟨k + 1, _, xs ++ [x], by omega, by rw [List.length_append, HXL.out]; rfl, by go_num, rfl, ?_, hd4.bl hgb' (by omega), hs4.bl hgb' (by omega), hcw4.bl (hgb'.mono (by omega)), ?_⟩
              · exact hown'
              · have := hgb'.size; omega
            case measure => simp [intOf]; omega
        · have hkb : (kd == 0) = false := by simpa using hkd
          go_wp2_with (at_builtin; refine appn_one rfl _ _ rfl w3 (w.heap.size + 1) _ rfl (.slice ad nd cd) xs rfl x 1 rfl ho3 (by omega) (by have := HXL.out; omega) ?_; intro g' cap' w' hown' hgb' hg' hge)
          go_roundw
          case rel =>
            refine ⟨k + 1, _, xs ++ [x], by omega, by rw [List.length_append, HXL.out]; rfl, by go_num, rfl, ?_, hd3.bl hgb' (by omega), hs3.bl hgb' (by omega), hcw3.bl (hgb'.mono (by omega)), ?_⟩
            · exact hown'
            · have := hgb'.size; omega
          case measure => simp [intOf]; omega
    · obtain rfl : k = 1 := by omega
      have hlen := HXL.out
      go_wp2_with fail
      refine (snext_c hsr (by decide) (by decide)).mono ?_; rintro e w3 ⟨x, rfl, hx0, hx1, hs3, hc3, hz3⟩
      have hd3 := hd.chg hc3 (.inr (by omega)); have ho3 := ho.chg hc3 (by omega)
      have hcw3 := hcw.trans hc3
      have hzz3 : w.heap.size + 1 <= w3.heap.size := by omega
      clear hx1 hz3 hc3 hsr hcw hd ho e0 e1
      have e0 := hd3.c0
      by_cases hxa : x = 0
      · subst hxa
        go_wp2_with fail
        have hb5 : Below w3.heap.size w3 (w3.alloc (.cells #[.int .i64 (-1), .int .i64 p] 2)) := bwT
        have o5 := OwnI.lit (w := w3) (B := 0) (Nat.zero_le _) [-1, p] (by simp)
        refine (spick_c (xs := [-1, p]) (hs3.below hb5) o5 (by have := hs3.lt; omega) (by simp) (by simp)).mono ?_; rintro e w4 ⟨y, rfl, hy, hs4, hc4, hz4⟩
        have ho4 := (ho3.below hb5).chg hc4 (by omega)
        have hcw4 := (hcw3.bl (hb5.mono hcw3.size)).trans hc4
        clear hy o5 hd3 hs3 ho3
        obtain ⟨g, cap, hge, hoI⟩ := ho4.fr (by omega)
        cases hge
        rw [hlen] at hoI ⊢
        have hh := hoI.hold (i := 0) (by decide)
        have hf := hoI.free 0
        go_wp2_with fail
        go_ret
        have hst := hoI.set (i := 0) y
        refine ⟨_, xs.set 0 y, rfl, by rw [List.length_set]; omega, ?_, ?_, ?_⟩
        · exact (FrI.elf ⟨g, cd, by rw [List.length_set, hlen]; exact rfl, by rw [List.length_set, hlen]; exact hst⟩).more (by omega)
        · exact hs4.bl (B := q + 1) ((Below.refl _ _).setCell (p := ⟨g, 0, none⟩) (by show q + 1 <= g; have := hoI.lt.1; omega) _) (by omega)
        · exact hcw4.bl ((Below.refl _ _).setCell (p := ⟨g, 0, none⟩) (by show w.heap.size <= g; have := hoI.lt.1; omega) _)
      · have hxb : (x == 0) = false := by simpa using hxa
        by_cases hxc : x = 1
        · subst hxc
          obtain ⟨g, cap, hge, hcap1, hcap2, hAt, hBk⟩ := ho3.atXF hlen (by decide)
          cases hge
          go_wp2_with fail
          all_goals
            go_ret
            first
            | (refine ⟨_, xs.drop 1, rfl, by rw [List.length_drop]; omega, ⟨⟨?_, ?_⟩, fun b off sp n c e => by cases e; exact hBk⟩, hs3, hcw3⟩
               · have h := hAt.1.elD (k := 1) (n := 1 - 1) (c := cd - 1) (by omega) (by omega) (by omega)
                 simpa using h
               · intro b off sp n c e
                 cases e
                 exact ⟨by have := hAt.2.1; omega, hAt.2.2⟩)
            | (refine ⟨_, [], rfl, by simp, ⟨⟨⟨⟨_, 0, rfl, .inl rfl⟩, _, _, 0, rfl, by decide, by decide⟩, ?_⟩, fun b off sp n c e => by cases e; exact hBk⟩, hs3, hcw3⟩
               intro b off sp n c e
               cases e
               exact ⟨by have := hAt.2.1; omega, hAt.2.2⟩)
        · have hxd : (x == 1) = false := by simpa using hxc
          go_wp2_with fail
          go_ret
          exact ⟨_, xs, rfl, by omega, ho3.elf.more (by omega), hs3, hcw3⟩
set_option maxHeartbeats 8000000 in
set_option maxRecDepth 100000 in
theorem sdrawelF1_c {q c : Nat} {p : Int} {a : Option Addr} {w : World} (hs : Src w q) (hp0 : 0 <= p) (hp1 : p <= 17) :
    Calls Tryz.prog 38 #[.pointer (some ⟨q, 0, none⟩), .agg #[.int .i64 p, .slice a 1 c]] w fun e w' => DrEF w q e w' := by
  have hq := hs.lt
  go_enter Tryz.func38, Tryz.ntmps38
  go_wp2_with fail
  obtain ⟨W1, hW1⟩ : ∃ x, x = ((w.alloc (.cells #[.int .i64 p, .slice a 1 c] 26)).alloc (.cells #[] 2)) := ⟨_, rfl⟩
  have hb1 : Below w.heap.size w W1 := by rw [hW1]; exact bwT
  have hz1 : W1.heap.size = w.heap.size + 1 + 1 := by rw [hW1]; simp
  have o1 : OwN W1 (w.heap.size + 1) (.slice (some ⟨w.heap.size + 1, 0, none⟩) 0 0) [] := by
    rw [hW1]
    have h := World.ownsRow_made (w.alloc (.cells #[.int .i64 p, .slice a 1 c] 26)) #[] 0 (base := w.heap.size + 1) (e := 2) (size := 1) (by simp) (by decide) rfl
    simpa [OwN] using h
  have hd1 : Bd W1 w.heap.size (.int .i64 p) (.slice a 1 c) := by rw [hW1]; exact Bd.below (heap_alloc_new w _) bwT
  rw [<- hW1]; clear hW1
  refine (snext_c (hs.bl hb1 hq) (by decide) (by decide)).mono ?_; rintro e w2 ⟨kd, rfl, hk0, hk1, hs2, hc2, hz2⟩
  have o2 := o1.chg hc2 (by omega); have hd2 := hd1.chg hc2 (.inr (by omega))
  have hcw : Chg q (q + 1) w w2 := (Chg.refl.bl hb1).trans hc2
  have hzz : w.heap.size + 1 <= w2.heap.size := by omega
  clear o1 hd1 hb1 hz1 hz2 hc2 hs hk1
  have e1 := hd2.c1
  go_wp2_with fail
  go_loopw [5, 7, 8] (fun ov iv _ wr => ∃ (k : Nat) (v : Value) (xs : List Int), k <= 2 /\ xs.length = k /\ iv = .int .i64 k /\ ov = v /\ OwN wr (w.heap.size + 1) v xs /\ Bd wr w.heap.size (.int .i64 p) (.slice a 1 c) /\ Src wr q /\ Chg q (q + 1) w wr /\ w.heap.size + 1 <= wr.heap.size) (fun _ iv _ _ => 2 - (intOf iv).toNat)
  case atStart => exact ⟨0, _, [], by omega, rfl, rfl, rfl, o2, hd2, hs2, hcw, hzz⟩
  case round =>
    clear o2 hd2 hs2 hcw hzz e1
    obtain ⟨k, v, xs, hk, hxl, rfl, hov, ho, hd, hsr, hcw, hzz⟩ := hrel
    obtain ⟨ad, nd, cd, rfl⟩ := ho.form
    subst hov
    have e0 := hd.c0; have e1 := hd.c1
    have HXL := Lib.hid hxl; clear hxl
    by_cases hlt : k < 2
    · go_wp2_with fail
      all_goals
        refine (snext_c hsr (by omega) (by omega)).mono ?_; rintro e w3 ⟨x, rfl, hx0, hx1, hs3, hc3, hz3⟩
        have hd3 := hd.chg hc3 (.inr (by omega)); have ho3 := ho.chg hc3 (by omega)
        have hcw3 := hcw.trans hc3
        have hzz3 : w.heap.size + 1 <= w3.heap.size := by omega
        have hx2 : x <= 17 := by omega
        clear hx1 hz3 hc3 hsr hcw hd ho e0 e1
        by_cases hkd : kd = 0
        · subst hkd
          go_wp2_with fail
          refine (snext_c hs3 (by decide) (by decide)).mono ?_; rintro e w4 ⟨y, rfl, hy0, hy1, hs4, hc4, hz4⟩
          have hd4 := hd3.chg hc4 (.inr (by omega)); have ho4 := ho3.chg hc4 (by omega)
          have hcw4 := hcw3.trans hc4
          have hzz4 : w.heap.size + 1 <= w4.heap.size := by omega
          clear hy1 hz4 hc4 hs3 hcw3 hd3 ho3
          by_cases hy : 0 < y
          · go_wp2_with (at_builtin; refine appn_one rfl _ _ rfl w4 (w.heap.size + 1) _ rfl (.slice ad nd cd) xs rfl 0 1 rfl ho4 (by omega) (by have := HXL.out; omega) ?_; intro g' cap' w' hown' hgb' hg' hge)
            go_roundw
            case rel =>
              refine ⟨k + 1, _, xs ++ [0], by omega, by rw [List.length_append, HXL.out]; rfl, by go_num, rfl, ?_, hd4.bl hgb' (by omega), hs4.bl hgb' (by omega), hcw4.bl (hgb'.mono (by omega)), ?_⟩
              · exact hown'
              · have := hgb'.size; omega
            case measure => simp [intOf]; omega
          · go_wp2_with (at_builtin; refine appn_one rfl _ _ rfl w4 (w.heap.size + 1) _ rfl (.slice ad nd cd) xs rfl x 1 rfl ho4 (by omega) (by have := HXL.out; omega) ?_; intro g' cap' w' hown' hgb' hg' hge)
            go_roundw
            case rel =>
              refine ⟨k + 1, _, xs ++ [x], by omega, by rw [List.length_append, HXL.out]; rfl, by go_num, rfl, ?_, hd4.bl hgb' (by omega), hs4.bl hgb' (by omega), hcw4.bl (hgb'.mono (by omega)), ?_⟩
              · exact hown'
              · have := hgb'.size; omega
            case measure => simp [intOf]; omega
        · have hkb : (kd == 0) = false := by simpa using hkd
          go_wp2_with (at_builtin; refine appn_one rfl _ _ rfl w3 (w.heap.size + 1) _ rfl (.slice ad nd cd) xs rfl x 1 rfl ho3 (by omega) (by have := HXL.out; omega) ?_; intro g' cap' w' hown' hgb' hg' hge)
          go_roundw
          case rel =>
            refine ⟨k + 1, _, xs ++ [x], by omega, by rw [List.length_append, HXL.out]; rfl, by go_num, rfl, ?_, hd3.bl hgb' (by omega), hs3.bl hgb' (by omega), hcw3.bl (hgb'.mono (by omega)), ?_⟩
            · exact hown'
            · have := hgb'.size; omega
          case measure => simp [intOf]; omega
    · obtain rfl : k = 2 := by omega
      have hlen := HXL.out
      go_wp2_with fail
      refine (snext_c hsr (by decide) (by decide)).mono ?_; rintro e w3 ⟨x, rfl, hx0, hx1, hs3, hc3, hz3⟩
      have hd3 := hd.chg hc3 (.inr (by omega)); have ho3 := ho.chg hc3 (by omega)
      have hcw3 := hcw.trans hc3
      have hzz3 : w.heap.size + 1 <= w3.heap.size := by omega
      clear hx1 hz3 hc3 hsr hcw hd ho e0 e1
      have e0 := hd3.c0
      by_cases hxa : x = 0
      · subst hxa
        go_wp2_with fail
        have hb5 : Below w3.heap.size w3 (w3.alloc (.cells #[.int .i64 (-1), .int .i64 p] 2)) := bwT
        have o5 := OwnI.lit (w := w3) (B := 0) (Nat.zero_le _) [-1, p] (by simp)
        refine (spick_c (xs := [-1, p]) (hs3.below hb5) o5 (by have := hs3.lt; omega) (by simp) (by simp)).mono ?_; rintro e w4 ⟨y, rfl, hy, hs4, hc4, hz4⟩
        have ho4 := (ho3.below hb5).chg hc4 (by omega)
        have hcw4 := (hcw3.bl (hb5.mono hcw3.size)).trans hc4
        clear hy o5 hd3 hs3 ho3
        obtain ⟨g, cap, hge, hoI⟩ := ho4.fr (by omega)
        cases hge
        rw [hlen] at hoI ⊢
        have hh := hoI.hold (i := 0) (by decide)
        have hf := hoI.free 0
        go_wp2_with fail
        go_ret
        have hst := hoI.set (i := 0) y
        refine ⟨_, xs.set 0 y, rfl, by rw [List.length_set]; omega, ?_, ?_, ?_⟩
        · exact (FrI.elf ⟨g, cd, by rw [List.length_set, hlen]; exact rfl, by rw [List.length_set, hlen]; exact hst⟩).more (by omega)
        · exact hs4.bl (B := q + 1) ((Below.refl _ _).setCell (p := ⟨g, 0, none⟩) (by show q + 1 <= g; have := hoI.lt.1; omega) _) (by omega)
        · exact hcw4.bl ((Below.refl _ _).setCell (p := ⟨g, 0, none⟩) (by show w.heap.size <= g; have := hoI.lt.1; omega) _)
      · have hxb : (x == 0) = false := by simpa using hxa
        by_cases hxc : x = 1
        · subst hxc
          obtain ⟨g, cap, hge, hcap1, hcap2, hAt, hBk⟩ := ho3.atXF hlen (by decide)
          cases hge
          go_wp2_with fail
          all_goals
            go_ret
            first
            | (refine ⟨_, xs.drop 1, rfl, by rw [List.length_drop]; omega, ⟨⟨?_, ?_⟩, fun b off sp n c e => by cases e; exact hBk⟩, hs3, hcw3⟩
               · have h := hAt.1.elD (k := 1) (n := 2 - 1) (c := cd - 1) (by omega) (by omega) (by omega)
                 simpa using h
               · intro b off sp n c e
                 cases e
                 exact ⟨by have := hAt.2.1; omega, hAt.2.2⟩)
            | (refine ⟨_, [], rfl, by simp, ⟨⟨⟨⟨_, 0, rfl, .inl rfl⟩, _, _, 0, rfl, by decide, by decide⟩, ?_⟩, fun b off sp n c e => by cases e; exact hBk⟩, hs3, hcw3⟩
               intro b off sp n c e
               cases e
               exact ⟨by have := hAt.2.1; omega, hAt.2.2⟩)
        · have hxd : (x == 1) = false := by simpa using hxc
          go_wp2_with fail
          go_ret
          exact ⟨_, xs, rfl, by omega, ho3.elf.more (by omega), hs3, hcw3⟩
set_option maxHeartbeats 8000000 in
set_option maxRecDepth 100000 in
theorem sdrawelF2_c {q c : Nat} {p : Int} {a : Option Addr} {w : World} (hs : Src w q) (hp0 : 0 <= p) (hp1 : p <= 17) :
    Calls Tryz.prog 38 #[.pointer (some ⟨q, 0, none⟩), .agg #[.int .i64 p, .slice a 2 c]] w fun e w' => DrEF w q e w' := by
  have hq := hs.lt
  go_enter Tryz.func38, Tryz.ntmps38
  go_wp2_with fail
  obtain ⟨W1, hW1⟩ : ∃ x, x = ((w.alloc (.cells #[.int .i64 p, .slice a 2 c] 26)).alloc (.cells #[] 2)) := ⟨_, rfl⟩
  have hb1 : Below w.heap.size w W1 := by rw [hW1]; exact bwT
  have hz1 : W1.heap.size = w.heap.size + 1 + 1 := by rw [hW1]; simp
  have o1 : OwN W1 (w.heap.size + 1) (.slice (some ⟨w.heap.size + 1, 0, none⟩) 0 0) [] := by
    rw [hW1]
    have h := World.ownsRow_made (w.alloc (.cells #[.int .i64 p, .slice a 2 c] 26)) #[] 0 (base := w.heap.size + 1) (e := 2) (size := 1) (by simp) (by decide) rfl
    simpa [OwN] using h
  have hd1 : Bd W1 w.heap.size (.int .i64 p) (.slice a 2 c) := by rw [hW1]; exact Bd.below (heap_alloc_new w _) bwT
  rw [<- hW1]; clear hW1
  refine (snext_c (hs.bl hb1 hq) (by decide) (by decide)).mono ?_; rintro e w2 ⟨kd, rfl, hk0, hk1, hs2, hc2, hz2⟩
  have o2 := o1.chg hc2 (by omega); have hd2 := hd1.chg hc2 (.inr (by omega))
  have hcw : Chg q (q + 1) w w2 := (Chg.refl.bl hb1).trans hc2
  have hzz : w.heap.size + 1 <= w2.heap.size := by omega
  clear o1 hd1 hb1 hz1 hz2 hc2 hs hk1
  have e1 := hd2.c1
  go_wp2_with fail
  go_loopw [5, 7, 8] (fun ov iv _ wr => ∃ (k : Nat) (v : Value) (xs : List Int), k <= 4 /\ xs.length = k /\ iv = .int .i64 k /\ ov = v /\ OwN wr (w.heap.size + 1) v xs /\ Bd wr w.heap.size (.int .i64 p) (.slice a 2 c) /\ Src wr q /\ Chg q (q + 1) w wr /\ w.heap.size + 1 <= wr.heap.size) (fun _ iv _ _ => 4 - (intOf iv).toNat)
  case atStart => exact ⟨0, _, [], by omega, rfl, rfl, rfl, o2, hd2, hs2, hcw, hzz⟩
  case round =>
    clear o2 hd2 hs2 hcw hzz e1
    obtain ⟨k, v, xs, hk, hxl, rfl, hov, ho, hd, hsr, hcw, hzz⟩ := hrel
    obtain ⟨ad, nd, cd, rfl⟩ := ho.form
    subst hov
    have e0 := hd.c0; have e1 := hd.c1
    have HXL := Lib.hid hxl; clear hxl
    by_cases hlt : k < 4
    · go_wp2_with fail
      all_goals
        refine (snext_c hsr (by omega) (by omega)).mono ?_; rintro e w3 ⟨x, rfl, hx0, hx1, hs3, hc3, hz3⟩
        have hd3 := hd.chg hc3 (.inr (by omega)); have ho3 := ho.chg hc3 (by omega)
        have hcw3 := hcw.trans hc3
        have hzz3 : w.heap.size + 1 <= w3.heap.size := by omega
        have hx2 : x <= 17 := by omega
        clear hx1 hz3 hc3 hsr hcw hd ho e0 e1
        by_cases hkd : kd = 0
        · subst hkd
          go_wp2_with fail
          refine (snext_c hs3 (by decide) (by decide)).mono ?_; rintro e w4 ⟨y, rfl, hy0, hy1, hs4, hc4, hz4⟩
          have hd4 := hd3.chg hc4 (.inr (by omega)); have ho4 := ho3.chg hc4 (by omega)
          have hcw4 := hcw3.trans hc4
          have hzz4 : w.heap.size + 1 <= w4.heap.size := by omega
          clear hy1 hz4 hc4 hs3 hcw3 hd3 ho3
          by_cases hy : 0 < y
          · go_wp2_with (at_builtin; refine appn_one rfl _ _ rfl w4 (w.heap.size + 1) _ rfl (.slice ad nd cd) xs rfl 0 1 rfl ho4 (by omega) (by have := HXL.out; omega) ?_; intro g' cap' w' hown' hgb' hg' hge)
            go_roundw
            case rel =>
              refine ⟨k + 1, _, xs ++ [0], by omega, by rw [List.length_append, HXL.out]; rfl, by go_num, rfl, ?_, hd4.bl hgb' (by omega), hs4.bl hgb' (by omega), hcw4.bl (hgb'.mono (by omega)), ?_⟩
              · exact hown'
              · have := hgb'.size; omega
            case measure => simp [intOf]; omega
          · go_wp2_with (at_builtin; refine appn_one rfl _ _ rfl w4 (w.heap.size + 1) _ rfl (.slice ad nd cd) xs rfl x 1 rfl ho4 (by omega) (by have := HXL.out; omega) ?_; intro g' cap' w' hown' hgb' hg' hge)
            go_roundw
            case rel =>
              refine ⟨k + 1, _, xs ++ [x], by omega, by rw [List.length_append, HXL.out]; rfl, by go_num, rfl, ?_, hd4.bl hgb' (by omega), hs4.bl hgb' (by omega), hcw4.bl (hgb'.mono (by omega)), ?_⟩
              · exact hown'
              · have := hgb'.size; omega
            case measure => simp [intOf]; omega
        · have hkb : (kd == 0) = false := by simpa using hkd
          go_wp2_with (at_builtin; refine appn_one rfl _ _ rfl w3 (w.heap.size + 1) _ rfl (.slice ad nd cd) xs rfl x 1 rfl ho3 (by omega) (by have := HXL.out; omega) ?_; intro g' cap' w' hown' hgb' hg' hge)
          go_roundw
          case rel =>
            refine ⟨k + 1, _, xs ++ [x], by omega, by rw [List.length_append, HXL.out]; rfl, by go_num, rfl, ?_, hd3.bl hgb' (by omega), hs3.bl hgb' (by omega), hcw3.bl (hgb'.mono (by omega)), ?_⟩
            · exact hown'
            · have := hgb'.size; omega
          case measure => simp [intOf]; omega
    · obtain rfl : k = 4 := by omega
      have hlen := HXL.out
      go_wp2_with fail
      refine (snext_c hsr (by decide) (by decide)).mono ?_; rintro e w3 ⟨x, rfl, hx0, hx1, hs3, hc3, hz3⟩
      have hd3 := hd.chg hc3 (.inr (by omega)); have ho3 := ho.chg hc3 (by omega)
      have hcw3 := hcw.trans hc3
      have hzz3 : w.heap.size + 1 <= w3.heap.size := by omega
      clear hx1 hz3 hc3 hsr hcw hd ho e0 e1
      have e0 := hd3.c0
      by_cases hxa : x = 0
      · subst hxa
        go_wp2_with fail
        have hb5 : Below w3.heap.size w3 (w3.alloc (.cells #[.int .i64 (-1), .int .i64 p] 2)) := bwT
        have o5 := OwnI.lit (w := w3) (B := 0) (Nat.zero_le _) [-1, p] (by simp)
        refine (spick_c (xs := [-1, p]) (hs3.below hb5) o5 (by have := hs3.lt; omega) (by simp) (by simp)).mono ?_; rintro e w4 ⟨y, rfl, hy, hs4, hc4, hz4⟩
        have ho4 := (ho3.below hb5).chg hc4 (by omega)
        have hcw4 := (hcw3.bl (hb5.mono hcw3.size)).trans hc4
        clear hy o5 hd3 hs3 ho3
        obtain ⟨g, cap, hge, hoI⟩ := ho4.fr (by omega)
        cases hge
        rw [hlen] at hoI ⊢
        have hh := hoI.hold (i := 0) (by decide)
        have hf := hoI.free 0
        go_wp2_with fail
        go_ret
        have hst := hoI.set (i := 0) y
        refine ⟨_, xs.set 0 y, rfl, by rw [List.length_set]; omega, ?_, ?_, ?_⟩
        · exact (FrI.elf ⟨g, cd, by rw [List.length_set, hlen]; exact rfl, by rw [List.length_set, hlen]; exact hst⟩).more (by omega)
        · exact hs4.bl (B := q + 1) ((Below.refl _ _).setCell (p := ⟨g, 0, none⟩) (by show q + 1 <= g; have := hoI.lt.1; omega) _) (by omega)
        · exact hcw4.bl ((Below.refl _ _).setCell (p := ⟨g, 0, none⟩) (by show w.heap.size <= g; have := hoI.lt.1; omega) _)
      · have hxb : (x == 0) = false := by simpa using hxa
        by_cases hxc : x = 1
        · subst hxc
          obtain ⟨g, cap, hge, hcap1, hcap2, hAt, hBk⟩ := ho3.atXF hlen (by decide)
          cases hge
          go_wp2_with fail
          all_goals
            go_ret
            first
            | (refine ⟨_, xs.drop 1, rfl, by rw [List.length_drop]; omega, ⟨⟨?_, ?_⟩, fun b off sp n c e => by cases e; exact hBk⟩, hs3, hcw3⟩
               · have h := hAt.1.elD (k := 1) (n := 4 - 1) (c := cd - 1) (by omega) (by omega) (by omega)
                 simpa using h
               · intro b off sp n c e
                 cases e
                 exact ⟨by have := hAt.2.1; omega, hAt.2.2⟩)
            | (refine ⟨_, [], rfl, by simp, ⟨⟨⟨⟨_, 0, rfl, .inl rfl⟩, _, _, 0, rfl, by decide, by decide⟩, ?_⟩, fun b off sp n c e => by cases e; exact hBk⟩, hs3, hcw3⟩
               intro b off sp n c e
               cases e
               exact ⟨by have := hAt.2.1; omega, hAt.2.2⟩)
        · have hxd : (x == 1) = false := by simpa using hxc
          go_wp2_with fail
          go_ret
          exact ⟨_, xs, rfl, by omega, ho3.elf.more (by omega), hs3, hcw3⟩
set_option maxHeartbeats 8000000 in
set_option maxRecDepth 100000 in
theorem sdrawelF3_c {q c : Nat} {p : Int} {a : Option Addr} {w : World} (hs : Src w q) (hp0 : 0 <= p) (hp1 : p <= 17) :
    Calls Tryz.prog 38 #[.pointer (some ⟨q, 0, none⟩), .agg #[.int .i64 p, .slice a 3 c]] w fun e w' => DrEF w q e w' := by
  have hq := hs.lt
  go_enter Tryz.func38, Tryz.ntmps38
  go_wp2_with fail
  obtain ⟨W1, hW1⟩ : ∃ x, x = ((w.alloc (.cells #[.int .i64 p, .slice a 3 c] 26)).alloc (.cells #[] 2)) := ⟨_, rfl⟩
  have hb1 : Below w.heap.size w W1 := by rw [hW1]; exact bwT
  have hz1 : W1.heap.size = w.heap.size + 1 + 1 := by rw [hW1]; simp
  have o1 : OwN W1 (w.heap.size + 1) (.slice (some ⟨w.heap.size + 1, 0, none⟩) 0 0) [] := by
    rw [hW1]
    have h := World.ownsRow_made (w.alloc (.cells #[.int .i64 p, .slice a 3 c] 26)) #[] 0 (base := w.heap.size + 1) (e := 2) (size := 1) (by simp) (by decide) rfl
    simpa [OwN] using h
  have hd1 : Bd W1 w.heap.size (.int .i64 p) (.slice a 3 c) := by rw [hW1]; exact Bd.below (heap_alloc_new w _) bwT
  rw [<- hW1]; clear hW1
  refine (snext_c (hs.bl hb1 hq) (by decide) (by decide)).mono ?_; rintro e w2 ⟨kd, rfl, hk0, hk1, hs2, hc2, hz2⟩
  have o2 := o1.chg hc2 (by omega); have hd2 := hd1.chg hc2 (.inr (by omega))
  have hcw : Chg q (q + 1) w w2 := (Chg.refl.bl hb1).trans hc2
  have hzz : w.heap.size + 1 <= w2.heap.size := by omega
  clear o1 hd1 hb1 hz1 hz2 hc2 hs hk1
  have e1 := hd2.c1
  go_wp2_with fail
  go_loopw [5, 7, 8] (fun ov iv _ wr => ∃ (k : Nat) (v : Value) (xs : List Int), k <= 8 /\ xs.length = k /\ iv = .int .i64 k /\ ov = v /\ OwN wr (w.heap.size + 1) v xs /\ Bd wr w.heap.size (.int .i64 p) (.slice a 3 c) /\ Src wr q /\ Chg q (q + 1) w wr /\ w.heap.size + 1 <= wr.heap.size) (fun _ iv _ _ => 8 - (intOf iv).toNat)
  case atStart => exact ⟨0, _, [], by omega, rfl, rfl, rfl, o2, hd2, hs2, hcw, hzz⟩
  case round =>
    clear o2 hd2 hs2 hcw hzz e1
    obtain ⟨k, v, xs, hk, hxl, rfl, hov, ho, hd, hsr, hcw, hzz⟩ := hrel
    obtain ⟨ad, nd, cd, rfl⟩ := ho.form
    subst hov
    have e0 := hd.c0; have e1 := hd.c1
    have HXL := Lib.hid hxl; clear hxl
    by_cases hlt : k < 8
    · go_wp2_with fail
      all_goals
        refine (snext_c hsr (by omega) (by omega)).mono ?_; rintro e w3 ⟨x, rfl, hx0, hx1, hs3, hc3, hz3⟩
        have hd3 := hd.chg hc3 (.inr (by omega)); have ho3 := ho.chg hc3 (by omega)
        have hcw3 := hcw.trans hc3
        have hzz3 : w.heap.size + 1 <= w3.heap.size := by omega
        have hx2 : x <= 17 := by omega
        clear hx1 hz3 hc3 hsr hcw hd ho e0 e1
        by_cases hkd : kd = 0
        · subst hkd
          go_wp2_with fail
          refine (snext_c hs3 (by decide) (by decide)).mono ?_; rintro e w4 ⟨y, rfl, hy0, hy1, hs4, hc4, hz4⟩
          have hd4 := hd3.chg hc4 (.inr (by omega)); have ho4 := ho3.chg hc4 (by omega)
          have hcw4 := hcw3.trans hc4
          have hzz4 : w.heap.size + 1 <= w4.heap.size := by omega
          clear hy1 hz4 hc4 hs3 hcw3 hd3 ho3
          by_cases hy : 0 < y
          · go_wp2_with (at_builtin; refine appn_one rfl _ _ rfl w4 (w.heap.size + 1) _ rfl (.slice ad nd cd) xs rfl 0 1 rfl ho4 (by omega) (by have := HXL.out; omega) ?_; intro g' cap' w' hown' hgb' hg' hge)
            go_roundw
            case rel =>
              refine ⟨k + 1, _, xs ++ [0], by omega, by rw [List.length_append, HXL.out]; rfl, by go_num, rfl, ?_, hd4.bl hgb' (by omega), hs4.bl hgb' (by omega), hcw4.bl (hgb'.mono (by omega)), ?_⟩
              · exact hown'
              · have := hgb'.size; omega
            case measure => simp [intOf]; omega
          · go_wp2_with (at_builtin; refine appn_one rfl _ _ rfl w4 (w.heap.size + 1) _ rfl (.slice ad nd cd) xs rfl x 1 rfl ho4 (by omega) (by have := HXL.out; omega) ?_; intro g' cap' w' hown' hgb' hg' hge)
            go_roundw
            case rel =>
              refine ⟨k + 1, _, xs ++ [x], by omega, by rw [List.length_append, HXL.out]; rfl, by go_num, rfl, ?_, hd4.bl hgb' (by omega), hs4.bl hgb' (by omega), hcw4.bl (hgb'.mono (by omega)), ?_⟩
              · exact hown'
              · have := hgb'.size; omega
            case measure => simp [intOf]; omega
        · have hkb : (kd == 0) = false := by simpa using hkd
          go_wp2_with (at_builtin; refine appn_one rfl _ _ rfl w3 (w.heap.size + 1) _ rfl (.slice ad nd cd) xs rfl x 1 rfl ho3 (by omega) (by have := HXL.out; omega) ?_; intro g' cap' w' hown' hgb' hg' hge)
          go_roundw
          case rel =>
            refine ⟨k + 1, _, xs ++ [x], by omega, by rw [List.length_append, HXL.out]; rfl, by go_num, rfl, ?_, hd3.bl hgb' (by omega), hs3.bl hgb' (by omega), hcw3.bl (hgb'.mono (by omega)), ?_⟩
            · exact hown'
            · have := hgb'.size; omega
          case measure => simp [intOf]; omega
    · obtain rfl : k = 8 := by omega
      have hlen := HXL.out
      go_wp2_with fail
      refine (snext_c hsr (by decide) (by decide)).mono ?_; rintro e w3 ⟨x, rfl, hx0, hx1, hs3, hc3, hz3⟩
      have hd3 := hd.chg hc3 (.inr (by omega)); have ho3 := ho.chg hc3 (by omega)
      have hcw3 := hcw.trans hc3
      have hzz3 : w.heap.size + 1 <= w3.heap.size := by omega
      clear hx1 hz3 hc3 hsr hcw hd ho e0 e1
      have e0 := hd3.c0
      by_cases hxa : x = 0
      · subst hxa
        go_wp2_with fail
        have hb5 : Below w3.heap.size w3 (w3.alloc (.cells #[.int .i64 (-1), .int .i64 p] 2)) := bwT
        have o5 := OwnI.lit (w := w3) (B := 0) (Nat.zero_le _) [-1, p] (by simp)
        refine (spick_c (xs := [-1, p]) (hs3.below hb5) o5 (by have := hs3.lt; omega) (by simp) (by simp)).mono ?_; rintro e w4 ⟨y, rfl, hy, hs4, hc4, hz4⟩
        have ho4 := (ho3.below hb5).chg hc4 (by omega)
        have hcw4 := (hcw3.bl (hb5.mono hcw3.size)).trans hc4
        clear hy o5 hd3 hs3 ho3
        obtain ⟨g, cap, hge, hoI⟩ := ho4.fr (by omega)
        cases hge
        rw [hlen] at hoI ⊢
        have hh := hoI.hold (i := 0) (by decide)
        have hf := hoI.free 0
        go_wp2_with fail
        go_ret
        have hst := hoI.set (i := 0) y
        refine ⟨_, xs.set 0 y, rfl, by rw [List.length_set]; omega, ?_, ?_, ?_⟩
        · exact (FrI.elf ⟨g, cd, by rw [List.length_set, hlen]; exact rfl, by rw [List.length_set, hlen]; exact hst⟩).more (by omega)
        · exact hs4.bl (B := q + 1) ((Below.refl _ _).setCell (p := ⟨g, 0, none⟩) (by show q + 1 <= g; have := hoI.lt.1; omega) _) (by omega)
        · exact hcw4.bl ((Below.refl _ _).setCell (p := ⟨g, 0, none⟩) (by show w.heap.size <= g; have := hoI.lt.1; omega) _)
      · have hxb : (x == 0) = false := by simpa using hxa
        by_cases hxc : x = 1
        · subst hxc
          obtain ⟨g, cap, hge, hcap1, hcap2, hAt, hBk⟩ := ho3.atXF hlen (by decide)
          cases hge
          go_wp2_with fail
          all_goals
            go_ret
            first
            | (refine ⟨_, xs.drop 1, rfl, by rw [List.length_drop]; omega, ⟨⟨?_, ?_⟩, fun b off sp n c e => by cases e; exact hBk⟩, hs3, hcw3⟩
               · have h := hAt.1.elD (k := 1) (n := 8 - 1) (c := cd - 1) (by omega) (by omega) (by omega)
                 simpa using h
               · intro b off sp n c e
                 cases e
                 exact ⟨by have := hAt.2.1; omega, hAt.2.2⟩)
            | (refine ⟨_, [], rfl, by simp, ⟨⟨⟨⟨_, 0, rfl, .inl rfl⟩, _, _, 0, rfl, by decide, by decide⟩, ?_⟩, fun b off sp n c e => by cases e; exact hBk⟩, hs3, hcw3⟩
               intro b off sp n c e
               cases e
               exact ⟨by have := hAt.2.1; omega, hAt.2.2⟩)
        · have hxd : (x == 1) = false := by simpa using hxc
          go_wp2_with fail
          go_ret
          exact ⟨_, xs, rfl, by omega, ho3.elf.more (by omega), hs3, hcw3⟩
theorem sdrawelF_c {q n c : Nat} {p : Int} {a : Option Addr} {w : World} (hs : Src w q) (hp0 : 0 <= p) (hp1 : p <= 17) (hn : n <= 3) :
  Calls Tryz.prog 38 #[.pointer (some ⟨q, 0, none⟩), .agg #[.int .i64 p, .slice a n c]] w fun e w' => DrEF w q e w' := by
 rcases (show n = 0 \/ n = 1 \/ n = 2 \/ n = 3 by omega) with rfl | rfl | rfl | rfl
 ·exact sdrawelF0_c hs hp0 hp1
 ·exact sdrawelF1_c hs hp0 hp1
 ·exact sdrawelF2_c hs hp0 hp1
 ·exact sdrawelF3_c hs hp0 hp1
section
variable {p : Int} {s x y z : Value} {st xs ys zs : List Int} {w : World}
theorem sinnerF_c (hd : Dok p st) (hs : El w s st) (hx : El w x xs) (hy : El w y ys) (ex : Ev p (sz st.length) xs) (ey : Ev p (sz st.length) ys) :
  Calls Tryz.prog 109 #[.agg #[.int .i64 p, s], x, y] w fun e w' => ∃ v, e = .returned v /\ ReG w' w.heap.size v (trL (inL p st xs ys (sz st.length)) (sz st.length)) /\ Below w.heap.size w w' := by
 have h1 : 1 <= p := by have := hd.hp.lo; omega
 have h2 : 2 <= p := by have := hd.hp.lo; omega
 have h13 := hd.hp.hi; have hsz := sz_le hd
 have hl3 := hd.hl
 have eC := comm_ev hd ex ey
 have hW : ∀ r ∈ inL p st xs ys (sz st.length), r.length = sz st.length := fun r hr => by
  obtain ⟨i, _, rfl⟩ := List.mem_map.1 hr
  exact (inCol_ev hd ex ey i).1
 have hcol := fun (W : World) v (h : Re W v (inL p st xs ys (sz st.length))) => scolsF_c (w := W) (L := inL p st xs ys (sz st.length)) h (by rw [inL_len]; exact hW) (by rw [inL_len]; omega) (by rw [inL_len]; omega)
 rw [inL_len] at hcol
 have hcm := fun (W : World) s x y hs hx hy => scomm_c (w := W) (s := s) (x := x) (y := y) hd hs hx hy ex ey
 have hstep : ∀ k, k < sz st.length -> ∃ z c a t, z = oneL (sz st.length) k /\ c = commL p st (commL p st xs ys) z /\ a = assocL p st xs ys z /\ t = scaleL p a 3 /\ inCol p st xs ys k = plusL p c t (p - 1) := fun k _ => ⟨_, _, _, _, rfl, rfl, rfl, rfl, rfl⟩
 have HST := Lib.hid hstep
 obtain ⟨C, hC⟩ : ∃ C, C = commL p st xs ys := ⟨_, rfl⟩
 rw [<- hC] at eC; simp only [<- hC] at hcm
 have HC := Lib.hid hC; clear hC hW hstep
 obtain ⟨a, c, rfl, _⟩ := id hs.op
 obtain ⟨a1, c1, rfl, _⟩ := id hx.op
 obtain ⟨a2, c2, rfl, _⟩ := id hy.op
 go_enter Tryz.func109, Tryz.ntmps109
 have hb0 : Below w.heap.size w (w.alloc (.cells #[.int .i64 p, .slice a st.length c] 26)) := bwT
 have hs := hs.below hb0; have hx := hx.below hb0; have hy := hy.below hb0
 have d0 : (w.alloc (.cells #[.int .i64 p, .slice a st.length c] 26)).cell? ⟨w.heap.size, 0, none⟩ = some (.int .i64 p) := by simp [go_sem]
 have d1 : (w.alloc (.cells #[.int .i64 p, .slice a st.length c] 26)).cell? ⟨w.heap.size, 1, none⟩ = some (.slice a st.length c) := by simp [go_sem]
 have hz0 : (w.alloc (.cells #[.int .i64 p, .slice a st.length c] 26)).heap.size = w.heap.size + 1 := by simp
 have hl0 := LsR.new (w := (w.alloc (.cells #[.int .i64 p, .slice a st.length c] 26))) (B := w.heap.size + 1) (Nat.le_of_eq hz0.symm)
 rw [hz0] at hl0
 have HZ0 := Lib.hid hz0; clear hz0
 have hs1 := hs; have hx1 := hx; have hy1 := hy; have d01 := d0; have d11 := d1
 have hb1 : Below (w.alloc (.cells #[.int .i64 p, .slice a st.length c] 26)).heap.size (w.alloc (.cells #[.int .i64 p, .slice a st.length c] 26)) ((w.alloc (.cells #[.int .i64 p, .slice a st.length c] 26)).alloc (.cells #[] 24)) := bwT
 have hs := hs.below hb1; have hx := hx.below hb1; have hy := hy.below hb1; have d0 := kept hb1 d0; have d1 := kept hb1 d1
 go_wp2_with fail
 refine (hcm _ _ _ _ hs hx hy).mono ?_; rintro e w2 ⟨u, rfl, hu, hb2⟩
 have hs := hs.below hb2; have hx := hx.below hb2; have hy := hy.below hb2; have d0 := kept hb2 d0; have d1 := kept hb2 d1; have hl0 := hl0.below hb2
 obtain ⟨au, cu, rfl, _⟩ := id hu.el.op
 have hbA : Below (w.alloc (.cells #[.int .i64 p, .slice a st.length c] 26)).heap.size (w.alloc (.cells #[.int .i64 p, .slice a st.length c] 26)) w2 := hb1.trans (hb2.mono hb1.size)
 have huR : ElR w2 (w.heap.size + 1) (.slice au C.length cu) C := hu.elr.more (by have := hb1.size; rw [HZ0.out] at this; exact this)
 have huN : Apt2 (.slice au C.length cu) (.slice (some ⟨w.heap.size + 1, 0, none⟩) 0 0) := fun b off sp n c' e e2 => by
  have h := (hu.elr.2 _ _ _ _ _ e).1
  cases e2
  simp at h
  omega
 obtain ⟨wA, hwA⟩ : ∃ x, x = (w.alloc (.cells #[.int .i64 p, .slice a st.length c] 26)) := ⟨_, rfl⟩
 rw [<- hwA] at hs1 hx1 hy1 d01 d11 hbA HZ0 hb0
 have hbA1 : Below (w.heap.size + 1) wA w2 := by have h := hbA; rw [HZ0.out] at h; exact h
 clear hs hx hy d0 d1 hu hb1 hb2 hwA hbA
 go_wp2_with fail
 go_loopw [7, 9] (fun o q wr => ∃ (k : Nat) (us : List Value), k <= sz st.length /\ q = .int .i64 k /\ LsR wr (w.heap.size + 1) o us (inL p st xs ys k) /\ Below (w.heap.size + 1) wA wr /\ ElR wr (w.heap.size + 1) (.slice au C.length cu) C /\ Apt2 (.slice au C.length cu) o) (fun _ q _ => sz st.length - (intOf q).toNat)
 case atStart => exact ⟨0, [], Nat.zero_le _, rfl, hl0, hbA1, huR, huN⟩
 case round =>
  clear hl0 huR huN hbA1
  obtain ⟨k, us, hk, rfl, hl, hbr, hu, hun⟩ := hrel
  obtain ⟨al, cl, rfl⟩ := hl.form
  have hul := hl.len; rw [inL_len] at hul
  have HUL := Lib.hid hul; clear hul
  have hbr1 : Below wA.heap.size wA wr := hbr.mono (Nat.le_of_eq HZ0.out)
  have hs := hs1.below hbr1; have hx := hx1.below hbr1; have hy := hy1.below hbr1; have d0 := kept hbr1 d01; have d1 := kept hbr1 d11
  have hwr : w.heap.size + 1 <= wr.heap.size := by have := hbr1.size; rw [HZ0.out] at this; exact this
  have hbr0 := hb0.trans (hbr.mono (Nat.le_succ _))
  clear hs1 hx1 hy1 d01 d11 hbr1
  by_cases hlt : k < sz st.length
  ·have hlti : (k : Int) < sz st.length := by omega
   obtain ⟨z, cc, aa, tt, hz, hcc, haa, htt, hcl⟩ := HST.out k hlt
   rw [<- HC.out] at hcc
   have ez : Ev p (sz st.length) z := hz ▸ Ev.one h2
   have ecc : Ev p (sz st.length) cc := hcc ▸ comm_ev hd eC ez
   have eaa : Ev p (sz st.length) aa := haa ▸ assoc_ev hd ex ey ez
   have ett : Ev p (sz st.length) tt := htt ▸ Ev.scale h1 eaa
   have HZ := Lib.hid hz; have HCC := Lib.hid hcc; have HAA := Lib.hid haa; have HTT := Lib.hid htt
   have hnext : inL p st xs ys (k + 1) = inL p st xs ys k ++ [inCol p st xs ys k] := inL_succ
   obtain ⟨I, hI⟩ : ∃ I, I = inL p st xs ys k := ⟨_, rfl⟩
   obtain ⟨J, hJ⟩ : ∃ J, J = inCol p st xs ys k := ⟨_, rfl⟩
   rw [<- hI] at hl; rw [<- hI, <- hJ] at hnext; rw [<- hJ] at hcl
   have HN := Lib.hid hnext; have HCL := Lib.hid hcl
   clear hz hcc haa htt hcl hI hJ hnext
   generalize wr = wo at *
   go_wp2_with fail
   refine (ssize_c (by omega)).mono ?_; rintro e w21 ⟨rfl, hb21⟩
   have hs := hs.below hb21; have hx := hx.below hb21; have hy := hy.below hb21; have hu := hu.below hb21; have d0 := kept hb21 d0; have d1 := kept hb21 d1; have hl := hl.below hb21
   go_wp2_with fail
   refine (sone_c hd hs hlt).mono ?_; rintro e w22 ⟨vz, rfl, hzv, hb22⟩
   have hs := hs.below hb22; have hx := hx.below hb22; have hy := hy.below hb22; have hu := hu.below hb22; have d0 := kept hb22 d0; have d1 := kept hb22 d1; have hl := hl.below hb22
   rw [<- HZ.out] at hzv
   obtain ⟨az, cz, rfl, _⟩ := id hzv.el.op
   go_wp2_with fail
   refine region_flow [(false, [(0, 0), (1, 0), (2, 1), (3, 1), (4, 0), (5, 0), (7, 0), (8, 1), (9, 1), (10, 0), (11, 0), (12, 0), (6, 5)]), (false, [(13, 5)]), (false, [(14, 5)]), (false, [(15, 4), (16, 4), (17, 4), (18, 0)])] (by kernel_rfl) ?_
   refine norm_K fun K hK => ?_
   change wpList _ _ _ [_, _, _, _, _, _, _, _, _, _, _, _, _] _ _
   have hb23 : Below w22.heap.size w22 w22.drew := bwT
   have hs := hs.below hb23; have hx := hx.below hb23; have hy := hy.below hb23; have hu := hu.below hb23; have d0 := kept hb23 d0; have d1 := kept hb23 d1; have hl := hl.below hb23; have hzv := hzv.below hb23
   generalize w22.drew = wq at *
   go_wp2_with fail
   refine (scomm_c hd hs hu.1 hzv.el eC ez).mono ?_; rintro e w24 ⟨v1, rfl, hv1, hb24⟩
   have hs := hs.below hb24; have hx := hx.below hb24; have hy := hy.below hb24; have hu := hu.below hb24; have d0 := kept hb24 d0; have d1 := kept hb24 d1; have hl := hl.below hb24; have hzv := hzv.below hb24
   rw [<- HCC.out] at hv1
   go_wp2_with fail
   have hz0 : Below wq.heap.size wq w24 := bwT
   first | (refine hK _ _ ⟨hz0, ?_⟩; clear hK K) | refine ⟨hz0, ?_⟩
   clear hz0
   refine norm_K fun K hK => ?_
   change wpList _ _ _ [_] _ _
   go_wp2_with fail
   refine (sassoc_c hd hs hx hy hzv.el ex ey ez).mono ?_; rintro e w25 ⟨v2, rfl, hv2, hb25⟩
   have hs := hs.below hb25; have hx := hx.below hb25; have hy := hy.below hb25; have hu := hu.below hb25; have d0 := kept hb25 d0; have d1 := kept hb25 d1; have hl := hl.below hb25; have hzv := hzv.below hb25; have hv1 := hv1.below hb25
   rw [<- HAA.out] at hv2
   go_wp2_with fail
   have hz1 : Below wq.heap.size wq w25 := bwT
   first | (refine hK _ _ ⟨hz1, ?_⟩; clear hK K) | refine ⟨hz1, ?_⟩
   clear hz1
   refine norm_K fun K hK => ?_
   change wpList _ _ _ [_] _ _
   go_wp2_with fail
   refine (sscale_c h1 (by omega) (by decide) (by decide) hv2.sl (eaa.2.sm (by omega) (by omega)) (by rw [eaa.1]; omega)).mono ?_; rintro e w26 ⟨v3, rfl, hv3, hb26⟩
   have hs := hs.below hb26; have hx := hx.below hb26; have hy := hy.below hb26; have hu := hu.below hb26; have d0 := kept hb26 d0; have d1 := kept hb26 d1; have hl := hl.below hb26; have hzv := hzv.below hb26; have hv1 := hv1.below hb26; have hv2 := hv2.below hb26
   rw [<- HTT.out] at hv3
   go_wp2_with fail
   have hz2 : Below wq.heap.size wq w26 := bwT
   first | (refine hK _ _ ⟨hz2, ?_⟩; clear hK K) | refine ⟨hz2, ?_⟩
   clear hz2
   refine norm_K fun K hK => ?_
   change wpList _ _ _ [_, _, _, _] _ _
   have hlp := hl
   go_wp2_with fail
   refine (sminus_c h1 (by omega) hv1.sl hv3.sl (ecc.2.sm (by omega) (by omega)) (ett.2.sm (by omega) (by omega)) (by rw [ett.1, ecc.1]) (by rw [ecc.1]; omega)).mono ?_; rintro e w27 ⟨v4, rfl, hv4, hb27⟩
   have hs := hs.below hb27; have hx := hx.below hb27; have hy := hy.below hb27; have hu := hu.below hb27; have d0 := kept hb27 d0; have d1 := kept hb27 d1; have hl := hl.below hb27; have hzv := hzv.below hb27; have hv1 := hv1.below hb27; have hv2 := hv2.below hb27; have hv3 := hv3.below hb27
   rw [<- HCL.out] at hv4
   obtain ⟨a4, c4, rfl, _⟩ := id hv4.el.op
   have hzn := hlp.fresh hv4.elr
   have hb6 : Below wo.heap.size wo w26 := bwT
   have hbB : Below wo.heap.size wo w27 := bwT
   have hnx := hbr.trans (hbB.mono hwr)
   have hcs : w.heap.size + 1 <= w27.heap.size := Nat.le_trans hwr hbB.size
   have hz4 : ElR w27 (w.heap.size + 1) _ J := hv4.elr.more (Nat.le_trans hwr hb6.size)
   go_wp2_with (at_builtin; refine appr_one rfl _ _ rfl w27 (w.heap.size + 1) _ rfl (.slice al us.length cl) us rfl (.slice a4 J.length c4) 1 rfl rfl hl.own hcs (by have := HUL.out; omega) ?_; intro g' cap' w8 hown' hgb' hg' hge)
   have hl8 := hl.snoc hz4 hzn (nv := .slice (some ⟨g', 0, none⟩) (us.length + 1) cap') rfl hown' hgb' hg' hge
   have hu8 := grown_el (v := .slice al us.length cl) (nv := .slice (some ⟨g', 0, none⟩) (us.length + 1) cap') rfl hgb' hg' hge hu hun
   first | (refine hK _ _ ⟨rfl, ?_⟩; clear hK K) | refine ⟨rfl, ?_⟩
   go_wp2_with fail
   go_roundw
   case rel => exact ⟨k + 1, _, by omega, by go_num, by rw [HN.out]; exact hl8, hnx.trans hgb', hu8⟩
   case measure => simp [intOf]; omega
  ·obtain rfl : k = sz st.length := by omega
   have hlf : ¬ ((sz st.length : Nat) : Int) < sz st.length := by omega
   generalize wr = wo at *
   go_wp2_with fail
   refine (ssize_c (by omega)).mono ?_; rintro e w51 ⟨rfl, hb51⟩
   have d0 := kept hb51 d0; have d1 := kept hb51 d1; have hl := hl.below hb51
   go_wp2_with fail
   refine (hcol _ _ hl.rer.re).mono ?_; rintro e w60 ⟨v, rfl, hv, hb60⟩
   go_wp2_with fail
   go_ret
   exact ⟨_, rfl, hv.more (by have := hbr0.size; have := hb51.size; omega), hbr0.trans ((hb51.trans (hb60.mono hb51.size)).mono hbr0.size)⟩
end
end Go.Proofs.YteaaepbnoiecoaaGreat
