/-
  CharacteristicOf: the program's and the reference's.
-/
import Derived.Test.YtacfanjejaellaaJbm
import Derived.Test.YtacfanjejaellaaJbh
import Derived.Test.YtacfanjejaellaaJas
namespace Go.Proofs.Ytacfanjejaellaa
open Go.RowKit

def RCharacteristicOf1 (p0 : Int) (st0 : List Int) (X1 : Her) : Int := chkH p0 st0 [X1]
def RCharacteristicOf0 (p0 : Int) (st0 : List Int) (X1 : Her) : List Int := if RCharacteristicOf1 p0 st0 X1 = 0 then [traceH p0 X1, traceH p0 (adjH p0 st0 X1), detH p0 st0 X1] else []
set_option maxHeartbeats 2000000 in
set_option maxRecDepth 100000 in
theorem iCharacteristicOf_c {p0 : Int} {x0 : Value} {st0 : List Int} {x1 : Value} {X1 : Her} {w : World} (hx0 : El w x0 st0) (hm0 : st0.length ≤ 1048576) (hx1 : Hv w x1 X1) (hz1 : Hsz X1) :
    Calls Try.prog 12 #[.agg #[.int .i64 p0, x0], x1] w fun e w' => ∃ v0, e = .returned (.tuple #[v0, .int .i64 (RCharacteristicOf1 p0 st0 X1)]) ∧ OwI w' w.heap.size v0 (RCharacteristicOf0 p0 st0 X1) ∧ Below w.heap.size w w' := by
  obtain ⟨a0, c0, rfl, _⟩ := id hx0.op
  obtain ⟨dv1, uv1, rfl, hd1_, hu1_⟩ := id hx1; obtain ⟨a1, c1, rfl, _⟩ := id hd1_.op; obtain ⟨b1, e1, rfl, _⟩ := id hu1_; clear hd1_ hu1_
  obtain ⟨W, hW⟩ : ∃ W, W = (((w.alloc (.cells #[.int .i64 p0, .slice a0 st0.length c0] 26)).alloc (.cells #[.slice a1 X1.dg.length c1, .slice b1 X1.up.length e1] 29)).alloc (.cells #[.slice a1 X1.dg.length c1, .slice b1 X1.up.length e1] 29)) := ⟨_, rfl⟩
  have hbW : Below w.heap.size w W := by rw [hW]; exact (by repeat (first | exact Below.refl _ _ | apply blw_drew | apply blw_alloc | (refine blw_set ?_ (by first | omega | (simp; done) | (simp; omega)) _) | refine below_chain ?_ (by assumption)))
  have hx0 := hx0.below hbW
  have hx1 := hx1.below hbW
  have d00 : W.cell? ⟨w.heap.size, 0, none⟩ = some (.int .i64 p0) := by rw [hW]; simp [go_sem]
  have d01 : W.cell? ⟨w.heap.size, 1, none⟩ = some (.slice a0 st0.length c0) := by rw [hW]; simp [go_sem]
  have d10 : W.cell? ⟨w.heap.size + 1, 0, none⟩ = some (.slice a1 X1.dg.length c1) := by rw [hW]; simp [go_sem]
  have d11 : W.cell? ⟨w.heap.size + 1, 1, none⟩ = some (.slice b1 X1.up.length e1) := by rw [hW]; simp [go_sem]
  have hWs : W.heap.size = w.heap.size + 1 + 1 + 1 := by rw [hW]; simp
  have gl : Lh W (.slice (some ⟨w.heap.size + 1 + 1, 0, none⟩) 1 1) [X1] := Lh.one hx1 (by rw [hW]; simp [go_sem]) (by rw [hW]; simp [go_sem])
  have hcon := chkh_c (p := p0) hx0 hm0 gl (by intro X hX; simp at hX; subst hX; exact hz1) (by simp)
  have HWs := Lib.hid hWs; clear hWs
  rw [hW] at hcon
  by_cases h0 : chkH p0 st0 [X1] = 0
  · rw [h0] at hcon
    obtain ⟨hd, hall⟩ := chkH_pos h0
    have hX1 : isH p0 (sz st0.length) X1 = true := by simp at hall; exact hall
    clear hall
    have hp1 := hd.hp.lo; have hp2 := hd.hp.hi
    have e1 : RCharacteristicOf1 p0 st0 X1 = 0 := h0
    rw [show RCharacteristicOf0 p0 st0 X1 = [traceH p0 X1, traceH p0 (adjH p0 st0 X1), detH p0 st0 X1] from if_pos e1, e1]
    clear e1
    have hA := adjH_is (p := p0) (by omega) hX1
    obtain ⟨A, hA_⟩ : ∃ A, A = adjH p0 st0 X1 := ⟨_, rfl⟩
    rw [← hA_] at hA ⊢
    have HA := Lib.hid hA_; clear hA_
    obtain ⟨y1, hy1⟩ : ∃ y, y = traceH p0 X1 := ⟨_, rfl⟩
    obtain ⟨y2, hy2⟩ : ∃ y, y = traceH p0 A := ⟨_, rfl⟩
    obtain ⟨y3, hy3⟩ : ∃ y, y = detH p0 st0 X1 := ⟨_, rfl⟩
    rw [← hy1, ← hy2, ← hy3]
    have HY1 := Lib.hid hy1; have HY2 := Lib.hid hy2; have HY3 := Lib.hid hy3; clear hy1 hy2 hy3
    go_enter Try.func12, Try.ntmps12
    go_wp2_with fail
    refine hcon.mono ?_; rintro e w1 ⟨rfl, hb1⟩
    rw [← hW] at hb1
    clear hW hcon
    have hx0 := hx0.below hb1; have hx1 := hx1.below hb1; have d00 := kept hb1 d00; have d01 := kept hb1 d01; have d10 := kept hb1 d10; have d11 := kept hb1 d11
    go_wp2_with fail
    refine region_flow [(false, [(0, 1), (1, 1), (3, 1), (4, 1), (5, 1), (8, 1), (9, 1), (2, 5)]), (false, [(6, 5)]), (false, [(7, 5)]), (false, [(10, 4), (11, 4), (12, 0), (13, 0)])] (by kernel_rfl) ?_
    refine norm_K fun K hK => ?_
    change wpList _ _ _ [_, _, _, _, _, _, _, _] _ _
    have hb22 : Below w1.heap.size w1 w1.drew := (by repeat (first | exact Below.refl _ _ | apply blw_drew | apply blw_alloc | (refine blw_set ?_ (by first | omega | (simp; done) | (simp; omega)) _) | refine below_chain ?_ (by assumption)))
    have hx0 := hx0.below hb22; have hx1 := hx1.below hb22; have d00 := kept hb22 d00; have d01 := kept hb22 d01; have d10 := kept hb22 d10; have d11 := kept hb22 d11
    generalize w1.drew = wq at *
    go_wp2_with fail
    refine (jtrace_c hd hx0 hx1 hX1).mono ?_; rintro e w23 ⟨rfl, hb23⟩
    have hx0 := hx0.below hb23; have hx1 := hx1.below hb23; have d00 := kept hb23 d00; have d01 := kept hb23 d01; have d10 := kept hb23 d10; have d11 := kept hb23 d11
    rw [← HY1.out]
    go_wp2_with fail
    have hz0 : Below wq.heap.size wq w23 := (by repeat (first | exact Below.refl _ _ | apply blw_drew | apply blw_alloc | (refine blw_set ?_ (by first | omega | (simp; done) | (simp; omega)) _) | refine below_chain ?_ (by assumption)))
    first | (refine hK _ _ ⟨hz0, ?_⟩; clear hK K) | refine ⟨hz0, ?_⟩
    clear hz0
    refine norm_K fun K hK => ?_
    change wpList _ _ _ [_] _ _
    go_wp2_with fail
    refine (adj_c hd hx0 hx1 hX1).mono ?_; rintro e w24 ⟨v1, rfl, hv1, hb24⟩
    have hx0 := hx0.below hb24; have hx1 := hx1.below hb24; have d00 := kept hb24 d00; have d01 := kept hb24 d01; have d10 := kept hb24 d10; have d11 := kept hb24 d11
    rw [← HA.out] at hv1
    go_wp2_with fail
    have hz1 : Below wq.heap.size wq w24 := (by repeat (first | exact Below.refl _ _ | apply blw_drew | apply blw_alloc | (refine blw_set ?_ (by first | omega | (simp; done) | (simp; omega)) _) | refine below_chain ?_ (by assumption)))
    first | (refine hK _ _ ⟨hz1, ?_⟩; clear hK K) | refine ⟨hz1, ?_⟩
    clear hz1
    refine norm_K fun K hK => ?_
    change wpList _ _ _ [_] _ _
    go_wp2_with fail
    refine (jtrace_c hd hx0 hv1.hv hA).mono ?_; rintro e w25 ⟨rfl, hb25⟩
    have hx0 := hx0.below hb25; have hx1 := hx1.below hb25; have d00 := kept hb25 d00; have d01 := kept hb25 d01; have d10 := kept hb25 d10; have d11 := kept hb25 d11; have hv1 := hv1.below hb25
    rw [← HY2.out]
    go_wp2_with fail
    have hz2 : Below wq.heap.size wq w25 := (by repeat (first | exact Below.refl _ _ | apply blw_drew | apply blw_alloc | (refine blw_set ?_ (by first | omega | (simp; done) | (simp; omega)) _) | refine below_chain ?_ (by assumption)))
    first | (refine hK _ _ ⟨hz2, ?_⟩; clear hK K) | refine ⟨hz2, ?_⟩
    clear hz2
    refine norm_K fun K hK => ?_
    change wpList _ _ _ [_, _, _, _] _ _
    go_wp2_with fail
    refine (jdet_c hd hx0 hx1 hX1).mono ?_; rintro e w26 ⟨rfl, hb26⟩
    have hx0 := hx0.below hb26; have hx1 := hx1.below hb26; have d00 := kept hb26 d00; have d01 := kept hb26 d01; have d10 := kept hb26 d10; have d11 := kept hb26 d11; have hv1 := hv1.below hb26
    rw [← HY3.out]
    go_wp2_with fail
    have hb27 : Below w26.heap.size w26 (w26.alloc (.cells #[.int .i64 y1, .int .i64 y2, .int .i64 y3] 2)) := (by repeat (first | exact Below.refl _ _ | apply blw_drew | apply blw_alloc | (refine blw_set ?_ (by first | omega | (simp; done) | (simp; omega)) _) | refine below_chain ?_ (by assumption)))
    have hx0 := hx0.below hb27; have hx1 := hx1.below hb27; have d00 := kept hb27 d00; have d01 := kept hb27 d01; have d10 := kept hb27 d10; have d11 := kept hb27 d11; have hv1 := hv1.below hb27
    have hl : OwnI (w26.alloc (.cells #[.int .i64 y1, .int .i64 y2, .int .i64 y3] 2)) w26.heap.size w26.heap.size [y1, y2, y3].length [y1, y2, y3].length [y1, y2, y3] := OwnI.lit (Nat.le_refl _) [y1, y2, y3] (by simp)
    go_wp2_with fail
    first | (refine hK _ _ ⟨rfl, ?_⟩; clear hK K) | refine ⟨rfl, ?_⟩
    go_wp2_with fail
    go_ret2
    exact ⟨_, rfl, (hl.fr.more (below_le (by repeat (first | exact Below.refl _ _ | apply blw_drew | apply blw_alloc | (refine blw_set ?_ (by first | omega | (simp; done) | (simp; omega)) _) | refine below_chain ?_ (by assumption))))).ow (Nat.le_refl _), (by repeat (first | exact Below.refl _ _ | apply blw_drew | apply blw_alloc | (refine blw_set ?_ (by first | omega | (simp; done) | (simp; omega)) _) | refine below_chain ?_ (by assumption)))⟩
  · have e1 : RCharacteristicOf1 p0 st0 X1 = chkH p0 st0 [X1] := rfl
    rw [show RCharacteristicOf0 p0 st0 X1 = [] from if_neg (by rw [e1]; exact h0), e1]; clear e1
    obtain ⟨k, hk⟩ : ∃ k, k = chkH p0 st0 [X1] := ⟨_, rfl⟩
    rw [← hk] at h0 hcon ⊢
    clear hk
    have hne : (k == 0) = false := by simpa using h0
    go_enter Try.func12, Try.ntmps12
    go_wp2_with fail
    refine hcon.mono ?_; rintro e w1 ⟨rfl, hb1⟩
    rw [← hW] at hb1
    clear hW hcon
    go_wp2_with fail
    go_ret2
    exact ⟨_, rfl, .inl ⟨rfl, rfl⟩, (by repeat (first | exact Below.refl _ _ | apply blw_drew | apply blw_alloc | (refine blw_set ?_ (by first | omega | (simp; done) | (simp; omega)) _) | refine below_chain ?_ (by assumption)))⟩
end Go.Proofs.Ytacfanjejaellaa
