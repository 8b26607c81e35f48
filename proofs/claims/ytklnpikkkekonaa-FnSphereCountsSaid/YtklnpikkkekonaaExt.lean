/-
  The extension of a space, infinity, and the checks ahead of the conformal functions.
-/
import Derived.Test.YtklnpikkkekonaaChk
namespace Go.Proofs.Ytklnpikkkekonaa
open Go.RowKit

theorem extL_len {p : Int} {sq : List Int} : (extL p sq).length = sq.length + 2 := by simp [extL]
theorem ext_c {p : Int} {x : Value} {sq : List Int} {w : World} (hx : Sl w x sq) (h1 : isSp p sq = true) :
    Calls Try.prog 37 #[.agg #[.int .i64 p, x]] w fun e w' => ∃ v, e = .returned (.agg #[.int .i64 p, v]) ∧ FrI w' w.heap.size v (extL p sq) ∧ Below w.heap.size w w' := by
  obtain ⟨hp, hl1, hl2, hf⟩ := isSp_iff.1 h1
  have hp1 := hp.lo
  have hp2 := hp.hi
  obtain ⟨a, c, rfl, _⟩ := id hx
  have hw : Sl (((w.alloc (.cells #[.int .i64 p, .slice a sq.length c] 26)).alloc (.cells #[.int .i64 0, .slice none 0 0] 26)).drew) (.slice a sq.length c) sq := hx.below (by repeat (first | exact Below.refl _ _ | apply blw_drew | apply blw_alloc | (refine blw_set ?_ (by first | omega | (simp; done) | (simp; omega)) _) | refine below_chain ?_ (by assumption)))
  go_enter Try.func37, Try.ntmps37
  go_wp2
  refine region_flows [(0, 0), (1, 1), (2, 0), (3, 1), (5, 0), (6, 1), (7, 0)] [[(false, [(4, 5)]), (false, [(8, 5)]), (false, [(9, 5)]), (false, [(10, 0), (11, 4)])], [(false, [(8, 5)]), (false, [(4, 5)]), (false, [(9, 5)]), (false, [(10, 0), (11, 4)])]] (by kernel_rfl) ?_
  refine norm_K fun K hK => ?_
  change wpList _ _ _ [_, _, _, _, _, _, _] _ _
  go_wp2_with fail
  refine hK _ _ fun segs hsegs => ?_
  clear hK K
  simp only [List.mem_cons, List.mem_nil_iff, or_false] at hsegs
  obtain ⟨W0, hW0⟩ : ∃ W, W = ((w.alloc (.cells #[.int .i64 p, .slice a sq.length c] 26)).alloc (.cells #[.int .i64 0, .slice none 0 0] 26)).drew := ⟨_, rfl⟩
  have hsz : W0.heap.size = w.heap.size + 1 + 1 := by rw [hW0]; simp
  have e0 : W0.cell? ⟨w.heap.size + 1, 0, none⟩ = some (.int .i64 0) := by rw [hW0]; simp [go_sem]
  have e1 : W0.cell? ⟨w.heap.size + 1, 1, none⟩ = some (.slice none 0 0) := by rw [hW0]; simp [go_sem]
  have f0 : W0.frozen? ⟨w.heap.size + 1, 0, none⟩ = false := by rw [hW0]; simp [go_sem]
  have f1 : W0.frozen? ⟨w.heap.size + 1, 1, none⟩ = false := by rw [hW0]; simp [go_sem]
  have hbW : Below w.heap.size w W0 := by rw [hW0]; exact (by repeat (first | exact Below.refl _ _ | apply blw_drew | apply blw_alloc | (refine blw_set ?_ (by first | omega | (simp; done) | (simp; omega)) _) | refine below_chain ?_ (by assumption)))
  rw [← hW0] at hw ⊢
  clear hW0
  rcases hsegs with rfl | rfl
  · skip
    refine norm_K fun K hK => ?_
    change wpList _ _ _ [_] _ _
    go_wp2_with fail
    refine (clone_c hw (by omega) (by omega)).mono ?_; rintro e w1 ⟨v, rfl, ⟨g, cap, rfl, ho⟩, hb1⟩
    go_wp2_with fail
    first | (refine hK _ _ ⟨hb1, ?_⟩; clear hK K) | refine ⟨hb1, ?_⟩
    refine norm_K fun K hK => ?_
    change wpList _ _ _ [_] _ _
    go_wp2_with fail
    first | (refine hK _ _ ⟨hb1.alloc hb1.size _, ?_⟩; clear hK K) | refine ⟨hb1.alloc hb1.size _, ?_⟩
    have hl : At (w1.alloc (.cells #[.int .i64 1, .int .i64 (p - 1)] 2)) w1.heap.size 0 [1, p - 1] := (OwnI.lit (Nat.le_refl _) [1, p - 1] (by simp)).at
    refine norm_K fun K hK => ?_
    change wpList _ _ _ [_] _ _
    refine app_int rfl _ _ rfl (w1.alloc (.cells #[.int .i64 1, .int .i64 (p - 1)] 2)) W0.heap.size g sq.length cap sq rfl w1.heap.size 0 2 2 [1, p - 1] rfl (ho.alloc _) (by have := hb1.size; simp; omega) hl rfl (by decide) (by omega) ?_; intro g' cap' w' hown' hg' hgg
    have hb2 : Below W0.heap.size W0 w' := blw_grown (hb1.alloc hb1.size _) hg' ho.lt.1
    have c0 := kept hb2 e0
    have c1 := kept hb2 e1
    have k0 := keptF hb2 (by omega) f0
    have k1 := keptF hb2 (by omega) f1
    go_wp2_with fail
    first | (refine hK _ _ ⟨hb2, ?_⟩; clear hK K) | refine ⟨hb2, ?_⟩
    refine norm_K fun K hK => ?_
    change wpList _ _ _ [_, _] _ _
    go_wp2_with fail
    first | (refine hK _ _ ⟨rfl, ?_⟩; clear hK K) | refine ⟨rfl, ?_⟩
    go_wp2
    have hlt := hown'.lt
    refine bodyPost_ret (v := .agg #[.int .i64 p, .slice (some ⟨g', 0, none⟩) (sq.length + 2) cap']) (by simp [results, Try.results37, go_sem, c0, c1]) rfl ⟨_, rfl, ?_, ?_⟩
    · rw [← extL_len (p := p)]
      refine ⟨g', cap', rfl, ?_⟩
      rw [extL_len]
      exact (((hown'.rebase (by omega)).other (by simp; omega) _).other (by simp; omega) _)
    · exact blw_set (blw_set (hbW.trans (hb2.mono (by omega))) (by simp) _) (by simp) _
  · skip
    refine norm_K fun K hK => ?_
    change wpList _ _ _ [_] _ _
    go_wp2_with fail
    have hl : At (W0.alloc (.cells #[.int .i64 1, .int .i64 (p - 1)] 2)) W0.heap.size 0 [1, p - 1] := (OwnI.lit (Nat.le_refl _) [1, p - 1] (by simp)).at
    first | (refine hK _ _ ⟨(Below.refl _ _).alloc (Nat.le_refl _) _, ?_⟩; clear hK K) | refine ⟨(Below.refl _ _).alloc (Nat.le_refl _) _, ?_⟩
    refine norm_K fun K hK => ?_
    change wpList _ _ _ [_] _ _
    go_wp2_with fail
    refine (clone_c (hw.below ((Below.refl _ _).alloc (Nat.le_refl _) _)) (by omega) (by omega)).mono ?_; rintro e w1 ⟨v, rfl, ⟨g, cap, rfl, ho⟩, hb1⟩
    have hb3 : Below W0.heap.size W0 w1 := below_chain ((Below.refl _ _).alloc (Nat.le_refl _) _) hb1
    go_wp2_with fail
    first | (refine hK _ _ ⟨hb3, ?_⟩; clear hK K) | refine ⟨hb3, ?_⟩
    refine norm_K fun K hK => ?_
    change wpList _ _ _ [_] _ _
    refine app_int rfl _ _ rfl w1 (W0.alloc (.cells #[.int .i64 1, .int .i64 (p - 1)] 2)).heap.size g sq.length cap sq rfl W0.heap.size 0 2 2 [1, p - 1] (by rw [hsz]; rfl) ho hb1.size (hl.below hb1) rfl (by decide) (by omega) ?_; intro g' cap' w' hown' hg' hgg
    have hgl := ho.lt.1
    simp at hgl
    have hb2 : Below W0.heap.size W0 w' := blw_grown hb3 hg' (by omega)
    have c0 := kept hb2 e0
    have c1 := kept hb2 e1
    have k0 := keptF hb2 (by omega) f0
    have k1 := keptF hb2 (by omega) f1
    go_wp2_with fail
    first | (refine hK _ _ ⟨hb2, ?_⟩; clear hK K) | refine ⟨hb2, ?_⟩
    refine norm_K fun K hK => ?_
    change wpList _ _ _ [_, _] _ _
    go_wp2_with fail
    first | (refine hK _ _ ⟨rfl, ?_⟩; clear hK K) | refine ⟨rfl, ?_⟩
    go_wp2
    have hlt := hown'.lt
    simp at hlt
    refine bodyPost_ret (v := .agg #[.int .i64 p, .slice (some ⟨g', 0, none⟩) (sq.length + 2) cap']) (by simp [results, Try.results37, go_sem, c0, c1]) rfl ⟨_, rfl, ?_, ?_⟩
    · rw [← extL_len (p := p)]
      refine ⟨g', cap', rfl, ?_⟩
      rw [extL_len]
      exact (((hown'.rebase (by omega)).other (by simp; omega) _).other (by simp; omega) _)
    · exact blw_set (blw_set (hbW.trans (hb2.mono (by omega))) (by simp) _) (by simp) _
theorem made_own {W : World} {n : Nat} (hn : n ≤ 1048576) : OwnI (W.alloc (.cells (madeCells #[Value.int .i64 0] n) 2)) W.heap.size W.heap.size n n (List.replicate n 0) := by
  refine OwnI.mk_ (Nat.le_refl _) (heap_alloc_new W _) ?_ ?_ (Nat.le_refl _) (by simp only [maxLen]; omega)
  · simp [madeCells]
  · rw [made_list]; simp
def infL (n : Nat) : List Int := List.replicate n 0 ++ [1, 1]
theorem infL_len {n : Nat} : (infL n).length = n + 2 := by simp [infL]
theorem inf_c {p : Int} {x : Value} {sq : List Int} {w : World} (hx : Sl w x sq) (h1 : isSp p sq = true) :
    Calls Try.prog 43 #[.agg #[.int .i64 p, x]] w fun e w' => ∃ v, e = .returned v ∧ FrI w' w.heap.size v (infL sq.length) ∧ Below w.heap.size w w' := by
  obtain ⟨hp, hl1, hl2, hf⟩ := isSp_iff.1 h1
  have hp1 := hp.lo
  have hp2 := hp.hi
  obtain ⟨a, c, rfl, _⟩ := id hx
  have hmk := fun W => run_make_row' (P := Try.prog) 24 2 (.int .i64 0) 8 Try.underlying24 infoI rfl .i64 .i64 sq.length (by omega) (by omega) W
  go_enter Try.func43, Try.ntmps43
  go_wp2_with (first
    | (go_at_call 23; refine dim_c.mono ?_; rintro e w1 ⟨rfl, hb1⟩)
    | (at_builtin; refine app_int rfl _ _ rfl ((w1.alloc (.cells (madeCells #[Value.int .i64 0] sq.length) 2)).alloc (.cells #[.int .i64 1, .int .i64 1] 2)) w1.heap.size w1.heap.size sq.length sq.length (List.replicate sq.length 0) rfl (w1.heap.size + 1) 0 2 2 [1, 1] rfl ((made_own (by omega)).alloc _) (by simp; omega) ?_ rfl (by decide) (by omega) ?_))
  · have h := (OwnI.lit (w := w1.alloc (.cells (madeCells #[Value.int .i64 0] sq.length) 2)) (Nat.le_refl _) [1, 1] (by simp)).at
    simpa using h
  intro g' cap' w' hown' hg' hgg
  go_wp2_with fail
  go_ret
  have hs := hb1.size
  simp at hs
  refine ⟨_, rfl, ?_, ?_⟩
  · rw [← infL_len]
    refine ⟨g', cap', rfl, ?_⟩
    rw [infL_len]
    exact hown'.rebase (by omega)
  · exact blw_grown (by repeat (first | exact Below.refl _ _ | apply blw_drew | apply blw_alloc | (refine blw_set ?_ (by first | omega | (simp; done) | (simp; omega)) _) | refine below_chain ?_ (by assumption))) hg' (by omega)
theorem sext_c {p : Int} {x : Value} {sq : List Int} {w : World} (hx : Sl w x sq) (h1 : isSp p sq = true) :
    Calls Try.prog 40 #[.agg #[.int .i64 p, x]] w fun e w' => ∃ v, e = .returned (.agg #[.int .i64 p, v]) ∧ FrI w' w.heap.size v (extL p sq) ∧ Below w.heap.size w w' := by
  obtain ⟨hp, hl1, hl2, hf⟩ := isSp_iff.1 h1
  have hp1 := hp.lo
  have hp2 := hp.hi
  obtain ⟨a, c, rfl, _⟩ := id hx
  have hw : Sl (((w.alloc (.cells #[.int .i64 p, .slice a sq.length c] 26)).alloc (.cells #[.int .i64 0, .slice none 0 0] 26)).drew) (.slice a sq.length c) sq := hx.below (by repeat (first | exact Below.refl _ _ | apply blw_drew | apply blw_alloc | (refine blw_set ?_ (by first | omega | (simp; done) | (simp; omega)) _) | refine below_chain ?_ (by assumption)))
  go_enter Try.func40, Try.ntmps40
  go_wp2
  refine region_flows [(0, 0), (1, 1), (2, 0), (3, 1), (5, 0), (6, 1), (7, 0)] [[(false, [(4, 5)]), (false, [(8, 5)]), (false, [(9, 5)]), (false, [(10, 0), (11, 4)])], [(false, [(8, 5)]), (false, [(4, 5)]), (false, [(9, 5)]), (false, [(10, 0), (11, 4)])]] (by kernel_rfl) ?_
  refine norm_K fun K hK => ?_
  change wpList _ _ _ [_, _, _, _, _, _, _] _ _
  go_wp2_with fail
  refine hK _ _ fun segs hsegs => ?_
  clear hK K
  simp only [List.mem_cons, List.mem_nil_iff, or_false] at hsegs
  obtain ⟨W0, hW0⟩ : ∃ W, W = ((w.alloc (.cells #[.int .i64 p, .slice a sq.length c] 26)).alloc (.cells #[.int .i64 0, .slice none 0 0] 26)).drew := ⟨_, rfl⟩
  have hsz : W0.heap.size = w.heap.size + 1 + 1 := by rw [hW0]; simp
  have e0 : W0.cell? ⟨w.heap.size + 1, 0, none⟩ = some (.int .i64 0) := by rw [hW0]; simp [go_sem]
  have e1 : W0.cell? ⟨w.heap.size + 1, 1, none⟩ = some (.slice none 0 0) := by rw [hW0]; simp [go_sem]
  have f0 : W0.frozen? ⟨w.heap.size + 1, 0, none⟩ = false := by rw [hW0]; simp [go_sem]
  have f1 : W0.frozen? ⟨w.heap.size + 1, 1, none⟩ = false := by rw [hW0]; simp [go_sem]
  have hbW : Below w.heap.size w W0 := by rw [hW0]; exact (by repeat (first | exact Below.refl _ _ | apply blw_drew | apply blw_alloc | (refine blw_set ?_ (by first | omega | (simp; done) | (simp; omega)) _) | refine below_chain ?_ (by assumption)))
  rw [← hW0] at hw ⊢
  clear hW0
  rcases hsegs with rfl | rfl
  · skip
    refine norm_K fun K hK => ?_
    change wpList _ _ _ [_] _ _
    go_wp2_with fail
    refine (own_c hw (by omega) (by omega)).mono ?_; rintro e w1 ⟨v, rfl, ⟨g, cap, rfl, ho⟩, hb1⟩
    go_wp2_with fail
    first | (refine hK _ _ ⟨hb1, ?_⟩; clear hK K) | refine ⟨hb1, ?_⟩
    refine norm_K fun K hK => ?_
    change wpList _ _ _ [_] _ _
    go_wp2_with fail
    first | (refine hK _ _ ⟨hb1.alloc hb1.size _, ?_⟩; clear hK K) | refine ⟨hb1.alloc hb1.size _, ?_⟩
    have hl : At (w1.alloc (.cells #[.int .i64 1, .int .i64 (p - 1)] 2)) w1.heap.size 0 [1, p - 1] := (OwnI.lit (Nat.le_refl _) [1, p - 1] (by simp)).at
    refine norm_K fun K hK => ?_
    change wpList _ _ _ [_] _ _
    refine app_int rfl _ _ rfl (w1.alloc (.cells #[.int .i64 1, .int .i64 (p - 1)] 2)) W0.heap.size g sq.length cap sq rfl w1.heap.size 0 2 2 [1, p - 1] rfl (ho.alloc _) (by have := hb1.size; simp; omega) hl rfl (by decide) (by omega) ?_; intro g' cap' w' hown' hg' hgg
    have hb2 : Below W0.heap.size W0 w' := blw_grown (hb1.alloc hb1.size _) hg' ho.lt.1
    have c0 := kept hb2 e0
    have c1 := kept hb2 e1
    have k0 := keptF hb2 (by omega) f0
    have k1 := keptF hb2 (by omega) f1
    go_wp2_with fail
    first | (refine hK _ _ ⟨hb2, ?_⟩; clear hK K) | refine ⟨hb2, ?_⟩
    refine norm_K fun K hK => ?_
    change wpList _ _ _ [_, _] _ _
    go_wp2_with fail
    first | (refine hK _ _ ⟨rfl, ?_⟩; clear hK K) | refine ⟨rfl, ?_⟩
    go_wp2
    have hlt := hown'.lt
    refine bodyPost_ret (v := .agg #[.int .i64 p, .slice (some ⟨g', 0, none⟩) (sq.length + 2) cap']) (by simp [results, Try.results40, go_sem, c0, c1]) rfl ⟨_, rfl, ?_, ?_⟩
    · rw [← extL_len (p := p)]
      refine ⟨g', cap', rfl, ?_⟩
      rw [extL_len]
      exact (((hown'.rebase (by omega)).other (by simp; omega) _).other (by simp; omega) _)
    · exact blw_set (blw_set (hbW.trans (hb2.mono (by omega))) (by simp) _) (by simp) _
  · skip
    refine norm_K fun K hK => ?_
    change wpList _ _ _ [_] _ _
    go_wp2_with fail
    have hl : At (W0.alloc (.cells #[.int .i64 1, .int .i64 (p - 1)] 2)) W0.heap.size 0 [1, p - 1] := (OwnI.lit (Nat.le_refl _) [1, p - 1] (by simp)).at
    first | (refine hK _ _ ⟨(Below.refl _ _).alloc (Nat.le_refl _) _, ?_⟩; clear hK K) | refine ⟨(Below.refl _ _).alloc (Nat.le_refl _) _, ?_⟩
    refine norm_K fun K hK => ?_
    change wpList _ _ _ [_] _ _
    go_wp2_with fail
    refine (own_c (hw.below ((Below.refl _ _).alloc (Nat.le_refl _) _)) (by omega) (by omega)).mono ?_; rintro e w1 ⟨v, rfl, ⟨g, cap, rfl, ho⟩, hb1⟩
    have hb3 : Below W0.heap.size W0 w1 := below_chain ((Below.refl _ _).alloc (Nat.le_refl _) _) hb1
    go_wp2_with fail
    first | (refine hK _ _ ⟨hb3, ?_⟩; clear hK K) | refine ⟨hb3, ?_⟩
    refine norm_K fun K hK => ?_
    change wpList _ _ _ [_] _ _
    refine app_int rfl _ _ rfl w1 (W0.alloc (.cells #[.int .i64 1, .int .i64 (p - 1)] 2)).heap.size g sq.length cap sq rfl W0.heap.size 0 2 2 [1, p - 1] (by rw [hsz]; rfl) ho hb1.size (hl.below hb1) rfl (by decide) (by omega) ?_; intro g' cap' w' hown' hg' hgg
    have hgl := ho.lt.1
    simp at hgl
    have hb2 : Below W0.heap.size W0 w' := blw_grown hb3 hg' (by omega)
    have c0 := kept hb2 e0
    have c1 := kept hb2 e1
    have k0 := keptF hb2 (by omega) f0
    have k1 := keptF hb2 (by omega) f1
    go_wp2_with fail
    first | (refine hK _ _ ⟨hb2, ?_⟩; clear hK K) | refine ⟨hb2, ?_⟩
    refine norm_K fun K hK => ?_
    change wpList _ _ _ [_, _] _ _
    go_wp2_with fail
    first | (refine hK _ _ ⟨rfl, ?_⟩; clear hK K) | refine ⟨rfl, ?_⟩
    go_wp2
    have hlt := hown'.lt
    simp at hlt
    refine bodyPost_ret (v := .agg #[.int .i64 p, .slice (some ⟨g', 0, none⟩) (sq.length + 2) cap']) (by simp [results, Try.results40, go_sem, c0, c1]) rfl ⟨_, rfl, ?_, ?_⟩
    · rw [← extL_len (p := p)]
      refine ⟨g', cap', rfl, ?_⟩
      rw [extL_len]
      exact (((hown'.rebase (by omega)).other (by simp; omega) _).other (by simp; omega) _)
    · exact blw_set (blw_set (hbW.trans (hb2.mono (by omega))) (by simp) _) (by simp) _
theorem sinf_c {p : Int} {x : Value} {sq : List Int} {w : World} (hx : Sl w x sq) (h1 : isSp p sq = true) :
    Calls Try.prog 56 #[.agg #[.int .i64 p, x]] w fun e w' => ∃ v, e = .returned v ∧ FrI w' w.heap.size v (infL sq.length) ∧ Below w.heap.size w w' := by
  obtain ⟨hp, hl1, hl2, hf⟩ := isSp_iff.1 h1
  have hp1 := hp.lo
  have hp2 := hp.hi
  obtain ⟨a, c, rfl, _⟩ := id hx
  have hmk := fun W => run_make_row' (P := Try.prog) 24 2 (.int .i64 0) 8 Try.underlying24 infoI rfl .i64 .i64 sq.length (by omega) (by omega) W
  obtain ⟨w1, hw1⟩ : ∃ W, W = w.alloc (.cells #[.int .i64 p, .slice a sq.length c] 26) := ⟨_, rfl⟩
  have hb1 : Below w.heap.size w w1 := by rw [hw1]; exact (by repeat (first | exact Below.refl _ _ | apply blw_drew | apply blw_alloc | (refine blw_set ?_ (by first | omega | (simp; done) | (simp; omega)) _) | refine below_chain ?_ (by assumption)))
  have hs := hb1.size
  go_enter Try.func56, Try.ntmps56
  go_wp2_with (at_builtin; refine app_int rfl _ _ rfl (((w.alloc (.cells #[.int .i64 p, .slice a sq.length c] 26)).alloc (.cells (madeCells #[Value.int .i64 0] sq.length) 2)).alloc (.cells #[.int .i64 1, .int .i64 1] 2)) (w.heap.size + 1) (w.heap.size + 1) sq.length sq.length (List.replicate sq.length 0) rfl (w.heap.size + 1 + 1) 0 2 2 [1, 1] rfl ?_ (by first | omega | (simp; done) | (simp; omega)) ?_ rfl (by decide) (by omega) ?_)
  · have h := (made_own (W := w.alloc (.cells #[.int .i64 p, .slice a sq.length c] 26)) (n := sq.length) (by omega)).alloc (.cells #[.int .i64 1, .int .i64 1] 2)
    simpa using h
  · have h := (OwnI.lit (w := (w.alloc (.cells #[.int .i64 p, .slice a sq.length c] 26)).alloc (.cells (madeCells #[Value.int .i64 0] sq.length) 2)) (Nat.le_refl _) [1, 1] (by simp)).at
    simpa using h
  intro g' cap' w' hown' hg' hgg
  go_wp2_with fail
  go_ret
  refine ⟨_, rfl, ?_, ?_⟩
  · rw [← infL_len]
    refine ⟨g', cap', rfl, ?_⟩
    rw [infL_len]
    exact hown'.rebase (by have := hown'.lt; omega)
  · exact blw_grown (by repeat (first | exact Below.refl _ _ | apply blw_drew | apply blw_alloc | (refine blw_set ?_ (by first | omega | (simp; done) | (simp; omega)) _) | refine below_chain ?_ (by assumption))) hg' (by omega)
end Go.Proofs.Ytklnpikkkekonaa
