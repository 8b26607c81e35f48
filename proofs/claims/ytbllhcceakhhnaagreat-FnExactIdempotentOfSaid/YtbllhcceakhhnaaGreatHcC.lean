/-
  Hermitian matrices by their parts; traces and determinants.
-/
import Derived.Test.YtbllhcceakhhnaaGreatHcB
namespace Go.Proofs.YtbllhcceakhhnaaGreat
open Go.RowKit

/-- A matrix that meets the check, cell by cell. -/
theorem Hv.op3 {w : World} {x : Value} {X : Her} {p : Int} {n : Nat} (h : Hv w x X) (hX : isH p n X = true) :
    ∃ a b c u v t bd od cd bu ou cu r s q, X = ⟨[a, b, c], [u, v, t]⟩ ∧ x = .agg #[.slice (some ⟨bd, od, none⟩) 3 cd, .slice (some ⟨bu, ou, none⟩) 3 cu] ∧
      (0 ≤ a ∧ a < p) ∧ (0 ≤ b ∧ b < p) ∧ (0 ≤ c ∧ c < p) ∧ Ev p n u ∧ Ev p n v ∧ Ev p n t ∧
      w.cell? ⟨bd, od, none⟩ = some (.int .i64 a) ∧ w.cell? ⟨bd, od + 1, none⟩ = some (.int .i64 b) ∧ w.cell? ⟨bd, od + 2, none⟩ = some (.int .i64 c) ∧
      w.cell? ⟨bu, ou, none⟩ = some r ∧ w.cell? ⟨bu, ou + 1, none⟩ = some s ∧ w.cell? ⟨bu, ou + 2, none⟩ = some q ∧ El w r u ∧ El w s v ∧ El w q t ∧ (3 ≤ cd ∧ cd ≤ 9223372036854775807) ∧ (3 ≤ cu ∧ cu ≤ 9223372036854775807) := by
  obtain ⟨a, b, c, u, v, t, rfl, h1, h2, h3, h4, h5, h6, eu, ev, et⟩ := isH_op hX
  obtain ⟨d, y, rfl, hd, hy⟩ := h
  obtain ⟨bd, od, cd, rfl, k1, k2, hA⟩ := hd.op1 (by simp)
  obtain ⟨ay, cu, rfl, k3, k4, hR⟩ := hy
  rcases hR with h0 | ⟨bu, ou, rfl, hR⟩
  · simp at h0
  obtain ⟨r, r1, r2⟩ := hR 0 (by simp)
  obtain ⟨s, s1, s2⟩ := hR 1 (by simp)
  obtain ⟨q, q1, q2⟩ := hR 2 (by simp)
  exact ⟨a, b, c, u, v, t, bd, od, cd, bu, ou, cu, r, s, q, rfl, rfl, ⟨h1, h2⟩, ⟨h3, h4⟩, ⟨h5, h6⟩, eu, ev, et, by simpa using hA 0 (by simp), by simpa using hA 1 (by simp), by simpa using hA 2 (by simp), by simpa using r1, s1, q1, r2, s2, q2, ⟨k1, k2⟩, ⟨k3, k4⟩⟩
theorem jtrace_c {p : Int} {s x : Value} {st : List Int} {X : Her} {w : World} (hd : Dok p st) (hs : El w s st) (hx : Hv w x X) (hX : isH p (sz st.length) X = true) :
    Calls Tryz.prog 41 #[.agg #[.int .i64 p, s], x] w fun e w' => e = .returned (.int .i64 (traceH p X)) ∧ Below w.heap.size w w' := by
  have hp1 := hd.hp.lo
  have hp2 := hd.hp.hi
  obtain ⟨a0, c0, rfl, _⟩ := id hs.op
  obtain ⟨a1, b1, c1, u1, v1, t1, bd1, od1, cd1, bu1, ou1, cu1, r1, s1, q1, rfl, rfl, ba1, bb1, bc1, eu1, ev1, et1, ca1, cb1, cc1, cr1, cs1, cq1, er1, es1, eq1, kd1, ku1⟩ := Hv.op3 hx hX
  rw [show traceH p ⟨[a1, b1, c1], [u1, v1, t1]⟩ = (a1 + b1 + c1) % p from rfl]
  go_enter Tryz.func41, Tryz.ntmps41
  have hb0 : Below w.heap.size w ((w.alloc (.cells #[.int .i64 p, .slice a0 st.length c0] 32)).alloc (.cells #[.slice (some ⟨bd1, od1, none⟩) 3 cd1, .slice (some ⟨bu1, ou1, none⟩) 3 cu1] 34)) := (by repeat (first | exact Below.refl _ _ | apply blw_drew | apply blw_alloc | (refine blw_set ?_ (by first | omega | (simp; done) | (simp; omega)) _) | refine below_chain ?_ (by assumption)))
  have hs := hs.below hb0; have ca1 := kept hb0 ca1; have cb1 := kept hb0 cb1; have cc1 := kept hb0 cc1
  have d0 : ((w.alloc (.cells #[.int .i64 p, .slice a0 st.length c0] 32)).alloc (.cells #[.slice (some ⟨bd1, od1, none⟩) 3 cd1, .slice (some ⟨bu1, ou1, none⟩) 3 cu1] 34)).cell? ⟨w.heap.size, 0, none⟩ = some (.int .i64 p) := by simp [go_sem]
  have d1 : ((w.alloc (.cells #[.int .i64 p, .slice a0 st.length c0] 32)).alloc (.cells #[.slice (some ⟨bd1, od1, none⟩) 3 cd1, .slice (some ⟨bu1, ou1, none⟩) 3 cu1] 34)).cell? ⟨w.heap.size, 1, none⟩ = some (.slice a0 st.length c0) := by simp [go_sem]
  have e0 : ((w.alloc (.cells #[.int .i64 p, .slice a0 st.length c0] 32)).alloc (.cells #[.slice (some ⟨bd1, od1, none⟩) 3 cd1, .slice (some ⟨bu1, ou1, none⟩) 3 cu1] 34)).cell? ⟨w.heap.size + 1, 0, none⟩ = some (.slice (some ⟨bd1, od1, none⟩) 3 cd1) := by simp [go_sem]
  have e1 : ((w.alloc (.cells #[.int .i64 p, .slice a0 st.length c0] 32)).alloc (.cells #[.slice (some ⟨bd1, od1, none⟩) 3 cd1, .slice (some ⟨bu1, ou1, none⟩) 3 cu1] 34)).cell? ⟨w.heap.size + 1, 1, none⟩ = some (.slice (some ⟨bu1, ou1, none⟩) 3 cu1) := by simp [go_sem]
  go_wp2_with fail
  refine region_flow [(false, [(0, 1), (2, 0), (3, 1), (4, 0), (5, 1), (6, 0), (7, 1), (8, 0), (9, 1), (10, 0), (11, 0), (12, 1), (13, 0), (14, 1), (15, 0), (1, 5)]), (false, [(16, 4), (17, 0)])] (by kernel_rfl) ?_
  refine norm_K fun K hK => ?_
  change wpList _ _ _ [_, _, _, _, _, _, _, _, _, _, _, _, _, _, _, _] _ _
  have hb1 : Below ((w.alloc (.cells #[.int .i64 p, .slice a0 st.length c0] 32)).alloc (.cells #[.slice (some ⟨bd1, od1, none⟩) 3 cd1, .slice (some ⟨bu1, ou1, none⟩) 3 cu1] 34)).heap.size ((w.alloc (.cells #[.int .i64 p, .slice a0 st.length c0] 32)).alloc (.cells #[.slice (some ⟨bd1, od1, none⟩) 3 cd1, .slice (some ⟨bu1, ou1, none⟩) 3 cu1] 34)) ((w.alloc (.cells #[.int .i64 p, .slice a0 st.length c0] 32)).alloc (.cells #[.slice (some ⟨bd1, od1, none⟩) 3 cd1, .slice (some ⟨bu1, ou1, none⟩) 3 cu1] 34)).drew := (by repeat (first | exact Below.refl _ _ | apply blw_drew | apply blw_alloc | (refine blw_set ?_ (by first | omega | (simp; done) | (simp; omega)) _) | refine below_chain ?_ (by assumption)))
  have hs := hs.below hb1; have ca1 := kept hb1 ca1; have cb1 := kept hb1 cb1; have cc1 := kept hb1 cc1; have d0 := kept hb1 d0; have d1 := kept hb1 d1; have e0 := kept hb1 e0; have e1 := kept hb1 e1
  go_wp2_with fail
  refine (dfield_c).mono ?_; rintro e w2 ⟨rfl, hb2⟩
  have hs := hs.below hb2; have ca1 := kept hb2 ca1; have cb1 := kept hb2 cb1; have cc1 := kept hb2 cc1; have d0 := kept hb2 d0; have d1 := kept hb2 d1; have e0 := kept hb2 e0; have e1 := kept hb2 e1
  go_wp2_with fail
  have hz0 : Below ((w.alloc (.cells #[.int .i64 p, .slice a0 st.length c0] 32)).alloc (.cells #[.slice (some ⟨bd1, od1, none⟩) 3 cd1, .slice (some ⟨bu1, ou1, none⟩) 3 cu1] 34)).drew.heap.size ((w.alloc (.cells #[.int .i64 p, .slice a0 st.length c0] 32)).alloc (.cells #[.slice (some ⟨bd1, od1, none⟩) 3 cd1, .slice (some ⟨bu1, ou1, none⟩) 3 cu1] 34)).drew w2 := (by repeat (first | exact Below.refl _ _ | apply blw_drew | apply blw_alloc | (refine blw_set ?_ (by first | omega | (simp; done) | (simp; omega)) _) | refine below_chain ?_ (by assumption)))
  first | (refine hK _ _ ⟨hz0, ?_⟩; clear hK K) | refine ⟨hz0, ?_⟩
  clear hz0
  refine norm_K fun K hK => ?_
  change wpList _ _ _ [_, _] _ _
  go_wp2_with fail
  refine (num_c (by omega) (by omega)).mono ?_; rintro e w3 ⟨rfl, rfl⟩
  go_wp2_with fail
  first | (refine hK _ _ ⟨rfl, ?_⟩; clear hK K) | refine ⟨rfl, ?_⟩
  go_wp2_with fail
  go_ret
  exact ⟨rfl, (by repeat (first | exact Below.refl _ _ | apply blw_drew | apply blw_alloc | (refine blw_set ?_ (by first | omega | (simp; done) | (simp; omega)) _) | refine below_chain ?_ (by assumption)))⟩
theorem strace_c {p : Int} {x : Value} {n : Nat} {X : Her} {w : World} (hp : IsP p) (hx : Hv w x X) (hX : isH p n X = true) :
    Calls Tryz.prog 26 #[.int .i64 p, x] w fun e w' => e = .returned (.int .i64 (traceH p X)) ∧ Below w.heap.size w w' := by
  have hp1 := hp.lo
  have hp2 := hp.hi
  obtain ⟨a1, b1, c1, u1, v1, t1, bd1, od1, cd1, bu1, ou1, cu1, r1, s1, q1, rfl, rfl, ba1, bb1, bc1, eu1, ev1, et1, ca1, cb1, cc1, cr1, cs1, cq1, er1, es1, eq1, kd1, ku1⟩ := Hv.op3 hx hX
  rw [show traceH p ⟨[a1, b1, c1], [u1, v1, t1]⟩ = (a1 + b1 + c1) % p from rfl]
  go_enter Tryz.func26, Tryz.ntmps26
  have hb0 : Below w.heap.size w (w.alloc (.cells #[.slice (some ⟨bd1, od1, none⟩) 3 cd1, .slice (some ⟨bu1, ou1, none⟩) 3 cu1] 34)) := (by repeat (first | exact Below.refl _ _ | apply blw_drew | apply blw_alloc | (refine blw_set ?_ (by first | omega | (simp; done) | (simp; omega)) _) | refine below_chain ?_ (by assumption)))
  have ca1 := kept hb0 ca1; have cb1 := kept hb0 cb1; have cc1 := kept hb0 cc1
  have e0 : (w.alloc (.cells #[.slice (some ⟨bd1, od1, none⟩) 3 cd1, .slice (some ⟨bu1, ou1, none⟩) 3 cu1] 34)).cell? ⟨w.heap.size, 0, none⟩ = some (.slice (some ⟨bd1, od1, none⟩) 3 cd1) := by simp [go_sem]
  have e1 : (w.alloc (.cells #[.slice (some ⟨bd1, od1, none⟩) 3 cd1, .slice (some ⟨bu1, ou1, none⟩) 3 cu1] 34)).cell? ⟨w.heap.size, 1, none⟩ = some (.slice (some ⟨bu1, ou1, none⟩) 3 cu1) := by simp [go_sem]
  go_wp2_with fail
  refine region_flow [(false, [(0, 0), (1, 0), (2, 1), (3, 0), (4, 1), (5, 0), (6, 1), (7, 0), (8, 1), (9, 0), (10, 0), (11, 1), (12, 0), (13, 1), (14, 0), (15, 4), (16, 0)])] (by kernel_rfl) ?_
  refine norm_K fun K hK => ?_
  change wpList _ _ _ [_, _, _, _, _, _, _, _, _, _, _, _, _, _, _, _, _] _ _
  have hb1 : Below (w.alloc (.cells #[.slice (some ⟨bd1, od1, none⟩) 3 cd1, .slice (some ⟨bu1, ou1, none⟩) 3 cu1] 34)).heap.size (w.alloc (.cells #[.slice (some ⟨bd1, od1, none⟩) 3 cd1, .slice (some ⟨bu1, ou1, none⟩) 3 cu1] 34)) (w.alloc (.cells #[.slice (some ⟨bd1, od1, none⟩) 3 cd1, .slice (some ⟨bu1, ou1, none⟩) 3 cu1] 34)).drew := (by repeat (first | exact Below.refl _ _ | apply blw_drew | apply blw_alloc | (refine blw_set ?_ (by first | omega | (simp; done) | (simp; omega)) _) | refine below_chain ?_ (by assumption)))
  have ca1 := kept hb1 ca1; have cb1 := kept hb1 cb1; have cc1 := kept hb1 cc1; have e0 := kept hb1 e0; have e1 := kept hb1 e1
  go_wp2_with fail
  refine (smod_c (by omega) (by omega)).mono ?_; rintro e w2 ⟨rfl, rfl⟩
  go_wp2_with fail
  first | (refine hK _ _ ⟨rfl, ?_⟩; clear hK K) | refine ⟨rfl, ?_⟩
  go_wp2_with fail
  go_ret
  exact ⟨rfl, (by repeat (first | exact Below.refl _ _ | apply blw_drew | apply blw_alloc | (refine blw_set ?_ (by first | omega | (simp; done) | (simp; omega)) _) | refine below_chain ?_ (by assumption)))⟩
end Go.Proofs.YtbllhcceakhhnaaGreat
