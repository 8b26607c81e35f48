/- Texts joined for a claim: HcK, HcP, HcL, HcM. -/
import Derived.Test.YtgcelfnjijhmkaaGreatHcJ
import Derived.Test.YtgcelfnjijhmkaaGreatJbb
import Derived.Test.YtgcelfnjijhmkaaGreatJan
import Derived.Test.YtgcelfnjijhmkaaGreatJao
/-
  The pairing of hermitian matrices.
-/
namespace Go.Proofs.YtgcelfnjijhmkaaGreat
open Go.RowKit

theorem jordanH_is {p : Int} {st : List Int} {X Y : Her} (hp : 2 ≤ p) (hX : isH p (sz st.length) X = true) (hY : isH p (sz st.length) Y = true) : isH p (sz st.length) (jordanH p st X Y) = true :=
  isH_mk ((halfH_ev hp hX hY (i := 0) (j := 0) (by omega) (by omega)).2.g0 (by omega) 0) ((halfH_ev hp hX hY (i := 1) (j := 1) (by omega) (by omega)).2.g0 (by omega) 0) ((halfH_ev hp hX hY (i := 2) (j := 2) (by omega) (by omega)).2.g0 (by omega) 0)
    (halfH_ev hp hX hY (by omega) (by omega)) (halfH_ev hp hX hY (by omega) (by omega)) (halfH_ev hp hX hY (by omega) (by omega))
end Go.Proofs.YtgcelfnjijhmkaaGreat
/-
  JordanTimes: the program's and the reference's.
-/
namespace Go.Proofs.YtgcelfnjijhmkaaGreat
open Go.RowKit

end Go.Proofs.YtgcelfnjijhmkaaGreat
/-
  The unit matrix.
-/
namespace Go.Proofs.YtgcelfnjijhmkaaGreat
open Go.RowKit

structure OutU (w : World) (N : Nat) (dv uv : Value) (us : List Value) (up : List (List Int)) : Prop where
  bx : Bx w N dv uv
  ou : OwV w (N + 1) uv us
  rows : RowsA w (N + 1) us up
theorem OutU.below {w w' : World} {N : Nat} {dv uv : Value} {us : List Value} {up : List (List Int)} (h : OutU w N dv uv us up) (hb : Below w.heap.size w w') : OutU w' N dv uv us up := ⟨h.bx.below hb, h.ou.below hb, h.rows.below hb⟩
theorem OutU.row {W w' : World} {N : Nat} {dv uv : Value} {us : List Value} {up : List (List Int)} (h : OutU W N dv uv us up) {z nv : Value} {xs : List Int} (hz : FrI W (N + 1) z xs) (hne : ∀ y ∈ us, y.ownBlock ≠ z.ownBlock) (ho : OwV w' (N + 1) nv (us ++ [z])) (hb : Below (N + 1) W w') (hg : W.grownBy w' uv.ownBlock) :
    OutU (w'.setCell ⟨N, 1, none⟩ nv) N dv nv (us ++ [z]) (up ++ [xs]) :=
  ⟨(h.bx.bl hb (Nat.lt_succ_self _)).set1 nv, ho.set_ (Nat.lt_succ_self _) _, ((h.rows.app h.ou hg).snoc (hz.app h.ou hg) hne).set_ (Nat.lt_succ_self _) _⟩
end Go.Proofs.YtgcelfnjijhmkaaGreat
/-
  Matrices out of rows of numbers; the program's unit.
-/
namespace Go.Proofs.YtgcelfnjijhmkaaGreat
open Go.RowKit

set_option maxHeartbeats 1000000 in
set_option maxRecDepth 100000 in
theorem rowsin_c {x : Value} {xs : List Int} {n : Nat} {w : World} (hx : El w x xs) (hn : 1 ≤ n) (hn2 : n ≤ 8) (hl : xs.length = n + n + n) :
    Calls Tryz.prog 122 #[x, .int .i64 n] w fun e w' => ∃ v us, e = .returned v ∧ FrR w' w.heap.size v us [(xs.drop 0).take n, (xs.drop n).take n, (xs.drop (n + n)).take n] ∧ Below w.heap.size w w' := by
  obtain ⟨b, off, c, rfl, h1, h2, hA⟩ := hx.op1 (by omega)
  have hch : ∀ k, k + n ≤ n + n + n → El w (.slice (some ⟨b, off + k, none⟩) n (c - k)) ((xs.drop k).take n) := fun k hk => (hA.drop k).elT (by rw [List.length_drop]; omega) (by omega) (by omega)
  have c0 := hch 0 (by omega)
  have c1 := hch n (by omega)
  have c2 := hch (n + n) (by omega)
  have L0 := Lib.hid (show ((xs.drop 0).take n).length = n by rw [List.length_take, List.length_drop]; omega)
  have L1 := Lib.hid (show ((xs.drop n).take n).length = n by rw [List.length_take, List.length_drop]; omega)
  have L2 := Lib.hid (show ((xs.drop (n + n)).take n).length = n by rw [List.length_take, List.length_drop]; omega)
  rw [hl] at h1 ⊢
  obtain ⟨y0, hy0⟩ : ∃ y, y = (xs.drop 0).take n := ⟨_, rfl⟩
  obtain ⟨y1, hy1⟩ : ∃ y, y = (xs.drop n).take n := ⟨_, rfl⟩
  obtain ⟨y2, hy2⟩ : ∃ y, y = (xs.drop (n + n)).take n := ⟨_, rfl⟩
  rw [← hy0] at c0 L0 ⊢; rw [← hy1] at c1 L1 ⊢; rw [← hy2] at c2 L2 ⊢
  rw [Nat.add_zero, Nat.sub_zero] at c0
  clear hy0 hy1 hy2 hch hA hx hl
  go_enter Tryz.func122, Tryz.ntmps122
  go_wp2
  go_loopw [5, 6] (fun o i wr => ∃ (g cap : Nat) (us : List Value) (L : List (List Int)), o = .slice (some ⟨g, 0, none⟩) us.length cap ∧ OwV wr w.heap.size (.slice (some ⟨g, 0, none⟩) us.length cap) us ∧ RowsA wr w.heap.size us L ∧ Below w.heap.size w wr ∧ ((us.length = 0 ∧ i = .int .i64 0 ∧ L = []) ∨ (us.length = 1 ∧ i = .int .i64 n ∧ L = [y0]) ∨ (us.length = 2 ∧ i = .int .i64 (n + n) ∧ L = [y0, y1]) ∨ (us.length = 3 ∧ i = .int .i64 (n + n + n) ∧ L = [y0, y1, y2])))
    (fun _ i _ => n + n + n - (intOf i).toNat)
  case atStart => exact ⟨w.heap.size, 0, [], [], rfl, OwV.new (Nat.le_refl _), RowsA.nil _ _, (by repeat (first | exact .refl _ _ | apply bwD | apply bwA | (refine bwS ?_ (by first | omega | simp <;> omega) _) | refine bwC ?_ (by assumption))), .inl ⟨rfl, rfl, rfl⟩⟩
  case round =>
    obtain ⟨g, cap, us, L, rfl, ho, hr, hb, hk⟩ := hrel
    have c0 := c0.below hb; have c1 := c1.below hb; have c2 := c2.below hb
    rcases hk with ⟨hu, rfl, rfl⟩ | ⟨hu, rfl, rfl⟩ | ⟨hu, rfl, rfl⟩ | ⟨hu, rfl, rfl⟩
    all_goals (have HU := Lib.hid hu; clear hu)
    · go_wp2_with fail
      refine (clone_c c0.sl (by have := L0.out; omega) (by have := L0.out; omega)).mono ?_; rintro e w1 ⟨v, rfl, hv, hb1⟩
      have hf := hr.fresh hv
      have ho := ho.below hb1; have hr := hr.below hb1
      obtain ⟨g1, cap1, rfl, hv1⟩ := id hv
      rw [L0.out] at hv hf ⊢
      have hbw := bwC hb hb1
      go_wp2_with (at_builtin; refine appr_one rfl _ _ rfl w1 w.heap.size w1.heap.size rfl (.slice (some ⟨g, 0, none⟩) us.length cap) us rfl (.slice (some ⟨g1, 0, none⟩) n cap1) 1 rfl rfl ho hbw.size (by have := HU.out; omega) ?_; intro g' cap' w' ho' hb' hg' hge)
      go_roundw
      case rel => exact ⟨g', cap', us ++ [.slice (some ⟨g1, 0, none⟩) n cap1], _, by rw [List.length_append]; rfl, by rw [List.length_append]; exact ho', (hr.app ho hg').snoc ((hv.more hb.size).app ho hg') hf, hbw.trans hb', .inr (.inl ⟨by simp [HU.out], by go_num, rfl⟩)⟩
      case measure => simp [intOf]; omega
    · go_wp2_with fail
      refine (clone_c c1.sl (by have := L1.out; omega) (by have := L1.out; omega)).mono ?_; rintro e w1 ⟨v, rfl, hv, hb1⟩
      have hf := hr.fresh hv
      have ho := ho.below hb1; have hr := hr.below hb1
      obtain ⟨g1, cap1, rfl, hv1⟩ := id hv
      rw [L1.out] at hv hf ⊢
      have hbw := bwC hb hb1
      go_wp2_with (at_builtin; refine appr_one rfl _ _ rfl w1 w.heap.size w1.heap.size rfl (.slice (some ⟨g, 0, none⟩) us.length cap) us rfl (.slice (some ⟨g1, 0, none⟩) n cap1) 1 rfl rfl ho hbw.size (by have := HU.out; omega) ?_; intro g' cap' w' ho' hb' hg' hge)
      go_roundw
      case rel => exact ⟨g', cap', us ++ [.slice (some ⟨g1, 0, none⟩) n cap1], _, by rw [List.length_append]; rfl, by rw [List.length_append]; exact ho', (hr.app ho hg').snoc ((hv.more hb.size).app ho hg') hf, hbw.trans hb', .inr (.inr (.inl ⟨by simp [HU.out], by go_num, rfl⟩))⟩
      case measure => simp [intOf]; omega
    · go_wp2_with fail
      refine (clone_c c2.sl (by have := L2.out; omega) (by have := L2.out; omega)).mono ?_; rintro e w1 ⟨v, rfl, hv, hb1⟩
      have hf := hr.fresh hv
      have ho := ho.below hb1; have hr := hr.below hb1
      obtain ⟨g1, cap1, rfl, hv1⟩ := id hv
      rw [L2.out] at hv hf ⊢
      have hbw := bwC hb hb1
      go_wp2_with (at_builtin; refine appr_one rfl _ _ rfl w1 w.heap.size w1.heap.size rfl (.slice (some ⟨g, 0, none⟩) us.length cap) us rfl (.slice (some ⟨g1, 0, none⟩) n cap1) 1 rfl rfl ho hbw.size (by have := HU.out; omega) ?_; intro g' cap' w' ho' hb' hg' hge)
      go_roundw
      case rel => exact ⟨g', cap', us ++ [.slice (some ⟨g1, 0, none⟩) n cap1], _, by rw [List.length_append]; rfl, by rw [List.length_append]; exact ho', (hr.app ho hg').snoc ((hv.more hb.size).app ho hg') hf, hbw.trans hb', .inr (.inr (.inr ⟨by simp [HU.out], by go_num, rfl⟩))⟩
      case measure => simp [intOf]; omega
    · go_wp2
      go_ret
      exact ⟨_, us, rfl, frR_mk hr ho (by have := HU.out; omega), hb⟩
set_option maxRecDepth 100000 in
theorem herm_c {p : Int} {s x : Value} {st xs : List Int} {n : Nat} {w : World} (hs : El w s st) (hl3 : st.length ≤ 3) (hn : n = sz st.length) (hx : El w x xs) (hl : xs.length = 3 + (n + n + n)) :
    Calls Tryz.prog 86 #[.agg #[.int .i64 p, s], x] w fun e w' => ∃ v, e = .returned v ∧ FrH w' w.heap.size v ⟨xs.take 3, [((xs.drop 3).drop 0).take n, ((xs.drop 3).drop n).take n, ((xs.drop 3).drop (n + n)).take n]⟩ ∧ Below w.heap.size w w' := by
  have hn1 : 1 ≤ n ∧ n ≤ 8 := by rw [hn]; exact ⟨Nat.pow_pos (by decide), Nat.le_trans (Nat.pow_le_pow_right (by decide) hl3) (by decide)⟩
  obtain ⟨a0, c0, rfl, _⟩ := id hs.op
  obtain ⟨b, off, c, rfl, h1, h2, hA⟩ := hx.op1 (by omega)
  have cA : El w (.slice (some ⟨b, off, none⟩) 3 c) (xs.take 3) := hA.elT (by omega) (by omega) h2
  have cB : El w (.slice (some ⟨b, off + 3, none⟩) (n + n + n) (c - 3)) (xs.drop 3) := hA.elD (by omega) (by omega) (by omega)
  have LA := Lib.hid (show (xs.take 3).length = 3 by rw [List.length_take]; omega)
  have LB := Lib.hid (show (xs.drop 3).length = n + n + n by rw [List.length_drop]; omega)
  rw [hl] at h1 ⊢
  have hsc := fun W => size_c (w := W) (p := p) (a := a0) (n := st.length) (c := c0) (by omega)
  simp only [← hn] at hsc
  clear hx hA hl hn
  go_enter Tryz.func86, Tryz.ntmps86
  have hb0 : Below w.heap.size w ((w.alloc (.cells #[.int .i64 p, .slice a0 st.length c0] 26)).alloc (.cells #[.slice none 0 0, .slice none 0 0] 31)) := (by repeat (first | exact .refl _ _ | apply bwD | apply bwA | (refine bwS ?_ (by first | omega | simp <;> omega) _) | refine bwC ?_ (by assumption)))
  have hs := hs.below hb0; have cA := cA.below hb0; have cB := cB.below hb0
  have d0 : ((w.alloc (.cells #[.int .i64 p, .slice a0 st.length c0] 26)).alloc (.cells #[.slice none 0 0, .slice none 0 0] 31)).cell? ⟨w.heap.size, 0, none⟩ = some (.int .i64 p) := by simp [go_sem]
  have d1 : ((w.alloc (.cells #[.int .i64 p, .slice a0 st.length c0] 26)).alloc (.cells #[.slice none 0 0, .slice none 0 0] 31)).cell? ⟨w.heap.size, 1, none⟩ = some (.slice a0 st.length c0) := by simp [go_sem]
  have r0 : ((w.alloc (.cells #[.int .i64 p, .slice a0 st.length c0] 26)).alloc (.cells #[.slice none 0 0, .slice none 0 0] 31)).cell? ⟨w.heap.size + 1, 0, none⟩ = some (.slice none 0 0) := by simp [go_sem]
  have r1 : ((w.alloc (.cells #[.int .i64 p, .slice a0 st.length c0] 26)).alloc (.cells #[.slice none 0 0, .slice none 0 0] 31)).cell? ⟨w.heap.size + 1, 1, none⟩ = some (.slice none 0 0) := by simp [go_sem]
  have hr : Bx ((w.alloc (.cells #[.int .i64 p, .slice a0 st.length c0] 26)).alloc (.cells #[.slice none 0 0, .slice none 0 0] 31)) (w.heap.size + 1) (.slice none 0 0) (.slice none 0 0) := by rw [show w.heap.size + 1 = (w.alloc (.cells #[.int .i64 p, .slice a0 st.length c0] 26)).heap.size by simp]; exact heap_alloc_new _ _
  go_wp2_with fail
  refine region_flow [(false, [(0, 0), (1, 0), (3, 0), (4, 0), (5, 1), (2, 5)]), (false, [(6, 4), (7, 4), (8, 0), (9, 4)])] (by kernel_rfl) ?_
  refine norm_K fun K hK => ?_
  change wpList _ _ _ [_, _, _, _, _, _] _ _
  have hb1 : Below ((w.alloc (.cells #[.int .i64 p, .slice a0 st.length c0] 26)).alloc (.cells #[.slice none 0 0, .slice none 0 0] 31)).heap.size ((w.alloc (.cells #[.int .i64 p, .slice a0 st.length c0] 26)).alloc (.cells #[.slice none 0 0, .slice none 0 0] 31)) ((w.alloc (.cells #[.int .i64 p, .slice a0 st.length c0] 26)).alloc (.cells #[.slice none 0 0, .slice none 0 0] 31)).drew := (by repeat (first | exact .refl _ _ | apply bwD | apply bwA | (refine bwS ?_ (by first | omega | simp <;> omega) _) | refine bwC ?_ (by assumption)))
  have hs := hs.below hb1; have cA := cA.below hb1; have cB := cB.below hb1; have d0 := kept hb1 d0; have d1 := kept hb1 d1; have hr := hr.below hb1
  go_wp2_with fail
  refine (clone_c cA.sl (by have := LA.out; omega) (by have := LA.out; omega)).mono ?_; rintro e w2 ⟨v1, rfl, hv1, hb2⟩
  have hs := hs.below hb2; have cA := cA.below hb2; have cB := cB.below hb2; have d0 := kept hb2 d0; have d1 := kept hb2 d1; have hr := hr.below hb2
  go_wp2_with fail
  have hz0 : Below ((w.alloc (.cells #[.int .i64 p, .slice a0 st.length c0] 26)).alloc (.cells #[.slice none 0 0, .slice none 0 0] 31)).drew.heap.size ((w.alloc (.cells #[.int .i64 p, .slice a0 st.length c0] 26)).alloc (.cells #[.slice none 0 0, .slice none 0 0] 31)).drew w2 := (by repeat (first | exact .refl _ _ | apply bwD | apply bwA | (refine bwS ?_ (by first | omega | simp <;> omega) _) | refine bwC ?_ (by assumption)))
  first | (refine hK _ _ ⟨hz0, ?_⟩; clear hK K) | refine ⟨hz0, ?_⟩
  clear hz0
  refine norm_K fun K hK => ?_
  change wpList _ _ _ [_, _, _, _] _ _
  have hvS := hv1
  go_wp2_with fail
  refine (hsc _).mono ?_; rintro e w3 ⟨rfl, hb3⟩
  have hs := hs.below hb3; have cA := cA.below hb3; have cB := cB.below hb3; have d0 := kept hb3 d0; have d1 := kept hb3 d1; have hr := hr.below hb3; have hv1 := hv1.below hb3
  go_wp2_with fail
  refine (rowsin_c cB hn1.1 hn1.2 LB.out).mono ?_; rintro e w4 ⟨v2, us, rfl, hv2, hb4⟩
  have hs := hs.below hb4; have cA := cA.below hb4; have cB := cB.below hb4; have d0 := kept hb4 d0; have d1 := kept hb4 d1; have hr := hr.below hb4; have hv1 := hv1.below hb4
  obtain ⟨g1, cap1, rfl, _⟩ := id hvS
  obtain ⟨g2, cap2, rfl, _⟩ := id hv2
  have hul : us.length = 3 := by obtain ⟨_, _, _, _, h, _⟩ := hv2; exact h
  have HU := Lib.hid hul; clear hul
  have hfr := FrH.mk_ hvS (bwC hb3 hb4) (hv2.more hb3.size) hb2.size
  have rc0 := hr.c0; have rc1 := hr.c1; have rf0 := hr.f0; have rf1 := hr.f1
  go_wp2_with fail
  first | (refine hK _ _ ⟨rfl, ?_⟩; clear hK K) | refine ⟨rfl, ?_⟩
  go_wp2_with fail
  refine bodyPost_ret (v := .agg #[.slice (some ⟨g1, 0, none⟩) (xs.take 3).length cap1, .slice (some ⟨g2, 0, none⟩) us.length cap2]) (by simp [results, Tryz.results86, go_sem, rc0, rc1, HU.out]) rfl ⟨_, rfl, ?_, ?_⟩
  · exact ((hfr.set_ (by first | omega | simp <;> omega) _).set_ (by first | omega | simp <;> omega) _).more (by simp; omega)
  · exact bwS (bwS (by repeat (first | exact .refl _ _ | apply bwD | apply bwA | (refine bwS ?_ (by first | omega | simp <;> omega) _) | refine bwC ?_ (by assumption))) (by first | omega | simp <;> omega) _) (by first | omega | simp <;> omega) _
end Go.Proofs.YtgcelfnjijhmkaaGreat
