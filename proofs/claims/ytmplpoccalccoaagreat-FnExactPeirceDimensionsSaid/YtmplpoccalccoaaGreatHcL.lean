/-
  The unit matrix.
-/
import Derived.Test.YtmplpoccalccoaaGreatJar
namespace Go.Proofs.YtmplpoccalccoaaGreat
open Go.RowKit

/-- A local whose rows are appended to; its diagonal is left as it is. -/
structure OutU (w : World) (N : Nat) (dv uv : Value) (us : List Value) (up : List (List Int)) : Prop where
  bx : Bx w N dv uv
  ou : OwV w (N + 1) uv us
  rows : RowsA w (N + 1) us up
theorem OutU.below {w w' : World} {N : Nat} {dv uv : Value} {us : List Value} {up : List (List Int)} (h : OutU w N dv uv us up) (hb : Below w.heap.size w w') : OutU w' N dv uv us up := ⟨h.bx.below hb, h.ou.below hb, h.rows.below hb⟩
theorem OutU.row {W w' : World} {N : Nat} {dv uv : Value} {us : List Value} {up : List (List Int)} (h : OutU W N dv uv us up) {z nv : Value} {xs : List Int} (hz : FrI W (N + 1) z xs) (hne : ∀ y ∈ us, y.ownBlock ≠ z.ownBlock) (ho : OwV w' (N + 1) nv (us ++ [z])) (hb : Below (N + 1) W w') (hg : W.grownBy w' uv.ownBlock) :
    OutU (w'.setCell ⟨N, 1, none⟩ nv) N dv nv (us ++ [z]) (up ++ [xs]) :=
  ⟨(h.bx.bl hb (Nat.lt_succ_self _)).set1 nv, ho.set_ (Nat.lt_succ_self _) _, ((h.rows.app h.ou hg).snoc (hz.app h.ou hg) hne).set_ (Nat.lt_succ_self _) _⟩
set_option maxHeartbeats 4000000 in
set_option maxRecDepth 100000 in
theorem sunit_c {p : Int} {s : Value} {st : List Int} {w : World} (hs : El w s st) (hl3 : st.length ≤ 3) :
    Calls Tryz.prog 45 #[.agg #[.int .i64 p, s]] w fun e w' => ∃ v, e = .returned v ∧ FrH w' w.heap.size v (unitH (sz st.length)) ∧ Below w.heap.size w w' := by
  have hsz : sz st.length ≤ 8 := Nat.le_trans (Nat.pow_le_pow_right (by decide) hl3) (by decide)
  obtain ⟨a0, c0, rfl, _⟩ := id hs.op
  have hrep : ∀ k, List.replicate (k + 1) (List.replicate (sz st.length) (0 : Int)) = List.replicate k (List.replicate (sz st.length) 0) ++ [List.replicate (sz st.length) 0] := fun k => List.replicate_succ'
  rw [show unitH (sz st.length) = ⟨[1, 1, 1], List.replicate 3 (List.replicate (sz st.length) 0)⟩ from rfl]
  have HREP := Lib.hid hrep; clear hrep
  have hmk := fun W => run_make_row' (P := Tryz.prog) 22 2 (.int .i64 0) 8 Tryz.underlying22 infoI rfl .i64 .i64 (sz st.length) (by omega) (by omega) W
  go_enter Tryz.func45, Tryz.ntmps45
  have hb0 : Below w.heap.size w ((w.alloc (.cells #[.int .i64 p, .slice a0 st.length c0] 32)).alloc (.cells #[.slice none 0 0, .slice none 0 0] 34)) := (by repeat (first | exact Below.refl _ _ | apply blw_drew | apply blw_alloc | (refine blw_set ?_ (by first | omega | (simp; done) | (simp; omega)) _) | refine below_chain ?_ (by assumption)))
  have hs := hs.below hb0
  have d0 : ((w.alloc (.cells #[.int .i64 p, .slice a0 st.length c0] 32)).alloc (.cells #[.slice none 0 0, .slice none 0 0] 34)).cell? ⟨w.heap.size, 0, none⟩ = some (.int .i64 p) := by simp [go_sem]
  have d1 : ((w.alloc (.cells #[.int .i64 p, .slice a0 st.length c0] 32)).alloc (.cells #[.slice none 0 0, .slice none 0 0] 34)).cell? ⟨w.heap.size, 1, none⟩ = some (.slice a0 st.length c0) := by simp [go_sem]
  have r0 : ((w.alloc (.cells #[.int .i64 p, .slice a0 st.length c0] 32)).alloc (.cells #[.slice none 0 0, .slice none 0 0] 34)).cell? ⟨w.heap.size + 1, 0, none⟩ = some (.slice none 0 0) := by simp [go_sem]
  have r1 : ((w.alloc (.cells #[.int .i64 p, .slice a0 st.length c0] 32)).alloc (.cells #[.slice none 0 0, .slice none 0 0] 34)).cell? ⟨w.heap.size + 1, 1, none⟩ = some (.slice none 0 0) := by simp [go_sem]
  have hr : Bx ((w.alloc (.cells #[.int .i64 p, .slice a0 st.length c0] 32)).alloc (.cells #[.slice none 0 0, .slice none 0 0] 34)) (w.heap.size + 1) (.slice none 0 0) (.slice none 0 0) := by rw [show w.heap.size + 1 = (w.alloc (.cells #[.int .i64 p, .slice a0 st.length c0] 32)).heap.size by simp]; exact heap_alloc_new _ _
  go_wp2_with fail
  have hb1 : Below ((w.alloc (.cells #[.int .i64 p, .slice a0 st.length c0] 32)).alloc (.cells #[.slice none 0 0, .slice none 0 0] 34)).heap.size ((w.alloc (.cells #[.int .i64 p, .slice a0 st.length c0] 32)).alloc (.cells #[.slice none 0 0, .slice none 0 0] 34)) (((w.alloc (.cells #[.int .i64 p, .slice a0 st.length c0] 32)).alloc (.cells #[.slice none 0 0, .slice none 0 0] 34)).alloc (.cells #[.int .i64 1, .int .i64 1, .int .i64 1] 2)) := (by repeat (first | exact Below.refl _ _ | apply blw_drew | apply blw_alloc | (refine blw_set ?_ (by first | omega | (simp; done) | (simp; omega)) _) | refine below_chain ?_ (by assumption)))
  have hs := hs.below hb1; have d0 := kept hb1 d0; have d1 := kept hb1 d1; have hr := hr.below hb1
  have hl : OwnI (((w.alloc (.cells #[.int .i64 p, .slice a0 st.length c0] 32)).alloc (.cells #[.slice none 0 0, .slice none 0 0] 34)).alloc (.cells #[.int .i64 1, .int .i64 1, .int .i64 1] 2)) ((w.alloc (.cells #[.int .i64 p, .slice a0 st.length c0] 32)).alloc (.cells #[.slice none 0 0, .slice none 0 0] 34)).heap.size ((w.alloc (.cells #[.int .i64 p, .slice a0 st.length c0] 32)).alloc (.cells #[.slice none 0 0, .slice none 0 0] 34)).heap.size [1, 1, 1].length [1, 1, 1].length [1, 1, 1] := OwnI.lit (Nat.le_refl _) [1, 1, 1] (by simp)
  have hbw0 : Below w.heap.size w (((w.alloc (.cells #[.int .i64 p, .slice a0 st.length c0] 32)).alloc (.cells #[.slice none 0 0, .slice none 0 0] 34)).alloc (.cells #[.int .i64 1, .int .i64 1, .int .i64 1] 2)) := (by repeat (first | exact Below.refl _ _ | apply blw_drew | apply blw_alloc | (refine blw_set ?_ (by first | omega | (simp; done) | (simp; omega)) _) | refine below_chain ?_ (by assumption)))
  have hWs : ((((w.alloc (.cells #[.int .i64 p, .slice a0 st.length c0] 32)).alloc (.cells #[.slice none 0 0, .slice none 0 0] 34)).alloc (.cells #[.int .i64 1, .int .i64 1, .int .i64 1] 2))).heap.size = w.heap.size + 1 + 1 + 1 := by simp
  have hlw : (((w.alloc (.cells #[.int .i64 p, .slice a0 st.length c0] 32)).alloc (.cells #[.slice none 0 0, .slice none 0 0] 34))).heap.size = w.heap.size + 1 + 1 := by simp
  go_wp2
  obtain ⟨W0, hW0⟩ : ∃ W, W = (((w.alloc (.cells #[.int .i64 p, .slice a0 st.length c0] 32)).alloc (.cells #[.slice none 0 0, .slice none 0 0] 34)).alloc (.cells #[.int .i64 1, .int .i64 1, .int .i64 1] 2)) := ⟨_, rfl⟩
  rw [← hW0] at hbw0 hs d0 d1 hr hl hWs ⊢
  clear hW0
  rw [hlw] at hl
  have hlb : w.heap.size + 1 + 1 + 1 ≤ w.heap.size + 1 + 1 + 1 + 1 := by omega
  have HN := Lib.hid (show W0.heap.size ≤ (w.heap.size + 1 + 1 + 1) + 1 by omega)
  have HM := Lib.hid (show W0.heap.size ≤ (w.heap.size + 1 + 1 + 1) by omega)
  have hs_ := hs
  have d0_ := d0
  have d1_ := d1
  have hr_ := hr
  have hl_ := hl
  go_loopw [4] (fun i wr => ∃ (k : Nat) (uv : Value) (us : List Value), k ≤ 3 ∧ i = .int .i64 k ∧ us.length = k ∧ OutU wr (w.heap.size + 1 + 1 + 1) (.slice (some ⟨w.heap.size + 1 + 1, 0, none⟩) 3 3) uv us (List.replicate k (List.replicate (sz st.length) 0)) ∧ Below W0.heap.size W0 wr) (fun i _ => 3 - (intOf i).toNat)
  case atStart => exact ⟨0, _, [], by omega, rfl, rfl, ⟨by unfold Bx; rw [← hWs]; exact heap_alloc_new _ _, OwV.nil _ _, RowsA.nil _ _⟩, (by repeat (first | exact Below.refl _ _ | apply blw_drew | apply blw_alloc | (refine blw_set ?_ (by first | omega | (simp; done) | (simp; omega)) _) | refine below_chain ?_ (by assumption)))⟩
  case round =>
    obtain ⟨k, uv, us, hk, rfl, hul, ho, hb⟩ := hrel
    have HU := Lib.hid hul; clear hul
    have hs := hs_.below hb
    have d0 := kept hb d0_
    have d1 := kept hb d1_
    have hr := hr_.below hb
    have hl := hl_.below hb
    by_cases hlt : k < 3
    · have bc1 := ho.bx.c1
      have hrw := hb.size
      go_wp2
      go_wp2_with fail
      refine region_flow [(false, [(0, 0), (1, 1), (2, 1), (3, 5)]), (false, [(4, 5)]), (false, [(5, 5)]), (false, [(6, 4), (7, 0), (8, 4)])] (by kernel_rfl) ?_
      refine norm_K fun K hK => ?_
      change wpList _ _ _ [_, _, _, _] _ _
      have hb21 : Below wr.heap.size wr wr.drew := (by repeat (first | exact Below.refl _ _ | apply blw_drew | apply blw_alloc | (refine blw_set ?_ (by first | omega | (simp; done) | (simp; omega)) _) | refine below_chain ?_ (by assumption)))
      have hs := hs.below hb21; have hr := hr.below hb21; have hl := hl.below hb21; have d0 := kept hb21 d0; have d1 := kept hb21 d1; have ho := ho.below hb21; have bc1 := kept hb21 bc1
      go_wp2_with fail
      refine (ssize_c (by omega)).mono ?_; rintro e w22 ⟨rfl, hb22⟩
      have hs := hs.below hb22; have hr := hr.below hb22; have hl := hl.below hb22; have d0 := kept hb22 d0; have d1 := kept hb22 d1; have ho := ho.below hb22; have bc1 := kept hb22 bc1
      go_wp2_with fail
      have hz0 : Below wr.drew.heap.size wr.drew w22 := (by repeat (first | exact Below.refl _ _ | apply blw_drew | apply blw_alloc | (refine blw_set ?_ (by first | omega | (simp; done) | (simp; omega)) _) | refine below_chain ?_ (by assumption)))
      first | (refine hK _ _ ⟨hz0, ?_⟩; clear hK K) | refine ⟨hz0, ?_⟩
      clear hz0
      refine norm_K fun K hK => ?_
      change wpList _ _ _ [_] _ _
      have hnew := (made_own (W := w22) (n := sz st.length) (by omega)).fr
      have hf := ho.rows.fresh hnew
      have hoL := ho
      have hb23 : Below w22.heap.size w22 (w22.alloc (.cells (madeCells #[Value.int .i64 0] (sz st.length)) 2)) := (by repeat (first | exact Below.refl _ _ | apply blw_drew | apply blw_alloc | (refine blw_set ?_ (by first | omega | (simp; done) | (simp; omega)) _) | refine below_chain ?_ (by assumption)))
      have hs := hs.below hb23; have hr := hr.below hb23; have hl := hl.below hb23; have d0 := kept hb23 d0; have d1 := kept hb23 d1; have ho := ho.below hb23; have bc1 := kept hb23 bc1
      go_wp2_with fail
      have hz1 : Below wr.drew.heap.size wr.drew (w22.alloc (.cells (madeCells #[Value.int .i64 0] (sz st.length)) 2)) := (by repeat (first | exact Below.refl _ _ | apply blw_drew | apply blw_alloc | (refine blw_set ?_ (by first | omega | (simp; done) | (simp; omega)) _) | refine below_chain ?_ (by assumption)))
      first | (refine hK _ _ ⟨hz1, ?_⟩; clear hK K) | refine ⟨hz1, ?_⟩
      clear hz1
      refine norm_K fun K hK => ?_
      change wpList _ _ _ [_] _ _
      have hoW := ho
      have hb24 : Below (w22.alloc (.cells (madeCells #[Value.int .i64 0] (sz st.length)) 2)).heap.size (w22.alloc (.cells (madeCells #[Value.int .i64 0] (sz st.length)) 2)) ((w22.alloc (.cells (madeCells #[Value.int .i64 0] (sz st.length)) 2)).alloc (.cells #[.slice (some ⟨w22.heap.size, 0, none⟩) (sz st.length) (sz st.length)] 22)) := (by repeat (first | exact Below.refl _ _ | apply blw_drew | apply blw_alloc | (refine blw_set ?_ (by first | omega | (simp; done) | (simp; omega)) _) | refine below_chain ?_ (by assumption)))
      have hs := hs.below hb24; have hr := hr.below hb24; have hl := hl.below hb24; have d0 := kept hb24 d0; have d1 := kept hb24 d1; have ho := ho.below hb24; have bc1 := kept hb24 bc1
      have x0 : ((w22.alloc (.cells (madeCells #[Value.int .i64 0] (sz st.length)) 2)).alloc (.cells #[.slice (some ⟨w22.heap.size, 0, none⟩) (sz st.length) (sz st.length)] 22)).cell? ⟨(w22.alloc (.cells (madeCells #[Value.int .i64 0] (sz st.length)) 2)).heap.size, 0, none⟩ = some (.slice (some ⟨w22.heap.size, 0, none⟩) (sz st.length) (sz st.length)) := by simp [go_sem]
      go_wp2_with fail
      have hz2 : Below wr.drew.heap.size wr.drew ((w22.alloc (.cells (madeCells #[Value.int .i64 0] (sz st.length)) 2)).alloc (.cells #[.slice (some ⟨w22.heap.size, 0, none⟩) (sz st.length) (sz st.length)] 22)) := (by repeat (first | exact Below.refl _ _ | apply blw_drew | apply blw_alloc | (refine blw_set ?_ (by first | omega | (simp; done) | (simp; omega)) _) | refine below_chain ?_ (by assumption)))
      first | (refine hK _ _ ⟨hz2, ?_⟩; clear hK K) | refine ⟨hz2, ?_⟩
      clear hz2
      refine norm_K fun K hK => ?_
      change wpList _ _ _ [_, _, _] _ _
      go_wp2_with (at_builtin; refine appr_one rfl _ _ rfl (w22.alloc (.cells (madeCells #[Value.int .i64 0] (sz st.length)) 2)) ((w.heap.size + 1 + 1 + 1) + 1) (w22.heap.size + 1) (by simp) uv us rfl (.slice (some ⟨w22.heap.size, 0, none⟩) (sz st.length) (sz st.length)) 1 rfl rfl hoW.ou (by have := hoW.bx.lt; simp at this ⊢; omega) (by have := HU.out; omega) ?_; intro g3 cap3 w3 hown3 hgb3 hg3 hge3; have bx' := hoW.bx.bl hgb3 (Nat.lt_succ_self _); have bc1 := bx'.c1; have bf1 := bx'.f1)
      first | (refine hK _ _ ⟨rfl, ?_⟩; clear hK K) | refine ⟨rfl, ?_⟩
      have hbz : Below W0.heap.size W0 (w3.setCell ⟨(w.heap.size + 1 + 1 + 1), 1, none⟩ (.slice (some ⟨g3, 0, none⟩) (us.length + 1) cap3)) := blw_set ((show Below W0.heap.size W0 (w22.alloc (.cells (madeCells #[Value.int .i64 0] (sz st.length)) 2)) from below_chain hb (by repeat (first | exact Below.refl _ _ | apply blw_drew | apply blw_alloc | (refine blw_set ?_ (by first | omega | (simp; done) | (simp; omega)) _) | refine below_chain ?_ (by assumption)))).trans (hgb3.mono HN.out)) HM.out _
      have hz := hoW.row (hnew.more (by have := hoL.bx.lt; omega)) hf hown3 hgb3 hg3
      go_wp2_with fail
      go_roundw
      case rel => exact ⟨k + 1, _, us ++ [.slice (some ⟨w22.heap.size, 0, none⟩) (sz st.length) (sz st.length)], by omega, by go_num, by simp [HU.out], by rw [HREP.out]; exact hz, hbz⟩
      case measure => simp [intOf]; omega
    · obtain rfl : k = 3 := by omega
      obtain ⟨gu, cu, rfl, _⟩ := World.ownsRow.form ho.ou (by have := HU.out; omega)
      have bc0 := ho.bx.c0; have bc1 := ho.bx.c1
      have rc0 := hr.c0; have rc1 := hr.c1; have rf0 := hr.f0; have rf1 := hr.f1
      have hne : ∀ z ∈ us, z.ownBlock ≠ (Value.slice (some ⟨w.heap.size + 1 + 1, 0, none⟩) 3 3).ownBlock := fun z hz e => by
        obtain ⟨g, hg, hg1, _⟩ := ho.rows.mem hz
        have e2 : some g = some (w.heap.size + 1 + 1) := hg.symm.trans e
        have := Option.some.inj e2; omega
      have hfr : FrH wr (w.heap.size + 1 + 1) (.agg #[.slice (some ⟨w.heap.size + 1 + 1, 0, none⟩) 3 3, .slice (some ⟨gu, 0, none⟩) us.length cu]) ⟨[1, 1, 1], List.replicate 3 (List.replicate (sz st.length) 0)⟩ := ⟨_, _, us, rfl, hl.fr, (frR_mk ho.rows ho.ou (by have := HU.out; omega)).more (by omega), hne⟩
      go_wp2_with fail
      refine bodyPost_ret (v := .agg #[.slice (some ⟨w.heap.size + 1 + 1, 0, none⟩) 3 3, .slice (some ⟨gu, 0, none⟩) us.length cu]) (by simp [results, Tryz.results45, go_sem, rc0, rc1]) rfl ⟨_, rfl, ?_, ?_⟩
      · exact ((hfr.set_ (by first | omega | (simp; done) | (simp; omega)) _).set_ (by first | omega | (simp; done) | (simp; omega)) _).more (by omega)
      · exact blw_set (blw_set (below_chain hbw0 hb) (by first | omega | (simp; done) | (simp; omega)) _) (by first | omega | (simp; done) | (simp; omega)) _
end Go.Proofs.YtmplpoccalccoaaGreat
