/-
  ReflectAt: the program's and the reference's.
-/
import Derived.Test.YtbllhcceakhhnaaHdE
import Derived.Test.YtbllhcceakhhnaaLawE
import Derived.Test.YtbllhcceakhhnaaMarkI
namespace Go.Proofs.Ytbllhcceakhhnaa
open Go.RowKit

def RPeircePart1 (p0 : Int) (st0 : List Int) (X1 : Her) (X2 : Her) (n3 : Int) : Int := if chkH p0 st0 [X1, X2] = 0 then (if inR n3 0 2 = true then (if idemH p0 st0 X1 = true then 0 else 5) else 2) else chkH p0 st0 [X1, X2]
def RPeircePart0 (p0 : Int) (st0 : List Int) (X1 : Her) (X2 : Her) (n3 : Int) : Her := if RPeircePart1 p0 st0 X1 X2 n3 = 0 then peirH p0 st0 X1 X2 n3 else ⟨[], []⟩
set_option maxHeartbeats 8000000 in
set_option maxRecDepth 100000 in
theorem iPeircePart_c {p0 : Int} {x0 : Value} {st0 : List Int} {x1 : Value} {X1 : Her} {x2 : Value} {X2 : Her} {n3 : Int} {w : World} (hx0 : El w x0 st0) (hm0 : st0.length ≤ 1048576) (hx1 : Hv w x1 X1) (hz1 : Hsz X1) (hx2 : Hv w x2 X2) (hz2 : Hsz X2) (lo3 : -9223372036854775808 ≤ n3) (hi3 : n3 ≤ 9223372036854775807) :
    Calls Try.prog 10 #[.agg #[.int .i64 p0, x0], x1, x2, .int .i64 n3] w fun e w' => ∃ v0, e = .returned (.tuple #[v0, .int .i64 (RPeircePart1 p0 st0 X1 X2 n3)]) ∧ OwH w' w.heap.size v0 (RPeircePart0 p0 st0 X1 X2 n3) ∧ Below w.heap.size w w' := by
  obtain ⟨a0, c0, rfl, _⟩ := id hx0.op
  obtain ⟨dv1, uv1, rfl, hd1_, hu1_⟩ := id hx1; obtain ⟨a1, c1, rfl, _⟩ := id hd1_.op; obtain ⟨b1, e1, rfl, _⟩ := id hu1_; clear hd1_ hu1_
  obtain ⟨dv2, uv2, rfl, hd2_, hu2_⟩ := id hx2; obtain ⟨a2, c2, rfl, _⟩ := id hd2_.op; obtain ⟨b2, e2, rfl, _⟩ := id hu2_; clear hd2_ hu2_
  obtain ⟨W, hW⟩ : ∃ W, W = (((((w.alloc (.cells #[.int .i64 p0, .slice a0 st0.length c0] 33)).alloc (.cells #[.slice a1 X1.dg.length c1, .slice b1 X1.up.length e1] 30)).alloc (.cells #[.slice a2 X2.dg.length c2, .slice b2 X2.up.length e2] 30)).alloc (.cells #[.slice none 0 0, .slice none 0 0] 30)).alloc (.cells #[.slice a1 X1.dg.length c1, .slice b1 X1.up.length e1, .slice a2 X2.dg.length c2, .slice b2 X2.up.length e2] 30)) := ⟨_, rfl⟩
  have hbW : Below w.heap.size w W := by rw [hW]; exact (by repeat (first | exact Below.refl _ _ | apply blw_drew | apply blw_alloc | (refine blw_set ?_ (by first | omega | (simp; done) | (simp; omega)) _) | refine below_chain ?_ (by assumption)))
  have hx0 := hx0.below hbW
  have hx1 := hx1.below hbW
  have hx2 := hx2.below hbW
  have d00 : W.cell? ⟨w.heap.size, 0, none⟩ = some (.int .i64 p0) := by rw [hW]; simp [go_sem]
  have d01 : W.cell? ⟨w.heap.size, 1, none⟩ = some (.slice a0 st0.length c0) := by rw [hW]; simp [go_sem]
  have d10 : W.cell? ⟨w.heap.size + 1, 0, none⟩ = some (.slice a1 X1.dg.length c1) := by rw [hW]; simp [go_sem]
  have d11 : W.cell? ⟨w.heap.size + 1, 1, none⟩ = some (.slice b1 X1.up.length e1) := by rw [hW]; simp [go_sem]
  have d20 : W.cell? ⟨w.heap.size + 1 + 1, 0, none⟩ = some (.slice a2 X2.dg.length c2) := by rw [hW]; simp [go_sem]
  have d21 : W.cell? ⟨w.heap.size + 1 + 1, 1, none⟩ = some (.slice b2 X2.up.length e2) := by rw [hW]; simp [go_sem]
  have hr : Bx W (w.heap.size + 1 + 1 + 1) (.slice none 0 0) (.slice none 0 0) := by rw [hW]; exact Bx.below (by unfold Bx; rw [show w.heap.size + 1 + 1 + 1 = (((w.alloc (.cells #[.int .i64 p0, .slice a0 st0.length c0] 33)).alloc (.cells #[.slice a1 X1.dg.length c1, .slice b1 X1.up.length e1] 30)).alloc (.cells #[.slice a2 X2.dg.length c2, .slice b2 X2.up.length e2] 30)).heap.size by simp]; exact heap_alloc_new _ _) (by repeat (first | exact Below.refl _ _ | apply blw_drew | apply blw_alloc | (refine blw_set ?_ (by first | omega | (simp; done) | (simp; omega)) _) | refine below_chain ?_ (by assumption)))
  have hWs : W.heap.size = w.heap.size + 1 + 1 + 1 + 1 + 1 := by rw [hW]; simp
  have gl : Lh W (.slice (some ⟨w.heap.size + 1 + 1 + 1 + 1, 0, none⟩) 2 2) [X1, X2] := Lh.two hx1 (by rw [hW]; simp [go_sem]) (by rw [hW]; simp [go_sem]) hx2 (by rw [hW]; simp [go_sem]) (by rw [hW]; simp [go_sem])
  have hcon := chkh_c (p := p0) hx0 hm0 gl (by intro X hX; simp at hX; rcases hX with rfl | rfl <;> assumption) (by simp)
  have HWs := Lib.hid hWs; clear hWs
  rw [hW] at hcon
  by_cases h0 : chkH p0 st0 [X1, X2] = 0
  · rw [h0] at hcon
    obtain ⟨hd, hall⟩ := chkH_pos h0
    have hX1 : isH p0 (sz st0.length) X1 = true := by simp at hall; exact hall.1
    have hX2 : isH p0 (sz st0.length) X2 = true := by simp at hall; exact hall.2
    clear hall
    have hp1 := hd.hp.lo; have hp2 := hd.hp.hi
    obtain ⟨bi, hbi⟩ : ∃ b, b = idemH p0 st0 X1 := ⟨_, rfl⟩
    have HI := Lib.hid hbi
    by_cases h2 : inR n3 0 2 = true
    · cases bi
      · skip
        have e1 : RPeircePart1 p0 st0 X1 X2 n3 = 5 := by unfold RPeircePart1; rw [if_pos h0, if_pos h2, if_neg (by rw [← hbi]; decide)]
        rw [show RPeircePart0 p0 st0 X1 X2 n3 = ⟨[], []⟩ from if_neg (by rw [e1]; decide), e1]
        clear e1
        clear hbi
        go_enter Try.func10, Try.ntmps10
        go_wp2_with fail
        refine hcon.mono ?_; rintro e w1 ⟨rfl, hb1⟩
        rw [← hW] at hb1
        clear hW hcon
        have hx0 := hx0.below hb1; have hx1 := hx1.below hb1; have hx2 := hx2.below hb1; have d00 := kept hb1 d00; have d01 := kept hb1 d01; have d10 := kept hb1 d10; have d11 := kept hb1 d11; have d20 := kept hb1 d20; have d21 := kept hb1 d21; have hr := hr.below hb1
        go_wp2_with fail
        refine (inRange_c).mono ?_; rintro e w22 ⟨rfl, rfl⟩
        go_wp2_with fail
        refine (idem_c hd hx0 hx1 hX1).mono ?_; rintro e w23 ⟨rfl, hb23⟩
        have hx0 := hx0.below hb23; have hx1 := hx1.below hb23; have hx2 := hx2.below hb23; have d00 := kept hb23 d00; have d01 := kept hb23 d01; have d10 := kept hb23 d10; have d11 := kept hb23 d11; have d20 := kept hb23 d20; have d21 := kept hb23 d21; have hr := hr.below hb23
        rw [← HI.out]
        have rc0 := hr.c0; have rc1 := hr.c1; have rf0 := hr.f0; have rf1 := hr.f1
        go_wp2_with fail
        refine bodyPost_ret (v := .tuple #[.agg #[.slice none 0 0, .slice none 0 0], .int .i64 5]) (by simp [results, Try.results10, go_sem, rc0, rc1]) rfl ⟨_, rfl, .inl ⟨rfl, rfl⟩, ?_⟩
        exact blw_set (blw_set (by repeat (first | exact Below.refl _ _ | apply blw_drew | apply blw_alloc | (refine blw_set ?_ (by first | omega | (simp; done) | (simp; omega)) _) | refine below_chain ?_ (by assumption))) (by first | omega | (simp; done) | (simp; omega)) _) (by first | omega | (simp; done) | (simp; omega)) _
      · skip
        have e1 : RPeircePart1 p0 st0 X1 X2 n3 = 0 := by unfold RPeircePart1; rw [if_pos h0, if_pos h2, if_pos hbi.symm]
        rw [show RPeircePart0 p0 st0 X1 X2 n3 = peirH p0 st0 X1 X2 n3 from if_pos e1, e1]
        clear e1
        clear hbi
        go_enter Try.func10, Try.ntmps10
        go_wp2_with fail
        refine hcon.mono ?_; rintro e w1 ⟨rfl, hb1⟩
        rw [← hW] at hb1
        clear hW hcon
        have hx0 := hx0.below hb1; have hx1 := hx1.below hb1; have hx2 := hx2.below hb1; have d00 := kept hb1 d00; have d01 := kept hb1 d01; have d10 := kept hb1 d10; have d11 := kept hb1 d11; have d20 := kept hb1 d20; have d21 := kept hb1 d21; have hr := hr.below hb1
        go_wp2_with fail
        refine (inRange_c).mono ?_; rintro e w22 ⟨rfl, rfl⟩
        go_wp2_with fail
        refine (idem_c hd hx0 hx1 hX1).mono ?_; rintro e w23 ⟨rfl, hb23⟩
        have hx0 := hx0.below hb23; have hx1 := hx1.below hb23; have hx2 := hx2.below hb23; have d00 := kept hb23 d00; have d01 := kept hb23 d01; have d10 := kept hb23 d10; have d11 := kept hb23 d11; have d20 := kept hb23 d20; have d21 := kept hb23 d21; have hr := hr.below hb23
        rw [← HI.out]
        have hzc_ : w1.heap.size ≤ (w23).heap.size := (below_le (by repeat (first | exact Below.refl _ _ | apply blw_drew | apply blw_alloc | (refine blw_set ?_ (by first | omega | (simp; done) | (simp; omega)) _) | refine below_chain ?_ (by assumption))))
        (try simp at hzc_)
        go_wp2_with fail
        refine (peirce_c hd hx0 hx1 hX1 hx2 hX2).mono ?_; rintro e w24 ⟨v, rfl, hv, hb24⟩
        have hx0 := hx0.below hb24; have hx1 := hx1.below hb24; have hx2 := hx2.below hb24; have d00 := kept hb24 d00; have d01 := kept hb24 d01; have d10 := kept hb24 d10; have d11 := kept hb24 d11; have d20 := kept hb24 d20; have d21 := kept hb24 d21; have hr := hr.below hb24
        obtain ⟨d, u, us, rfl, ⟨g1, cap1, rfl, h1⟩, hu, hne⟩ := id hv
        obtain ⟨g2, cap2, rfl, _⟩ := id hu
        have hul : us.length = 3 := by obtain ⟨_, _, _, _, h, _⟩ := hu; first | exact h | exact h.trans ((isH_parts (peirH_is (p := p0) (k := n3) (by omega) hX1 hX2)).2.2.1)
        have HU := Lib.hid hul; clear hul
        have hu3 : (peirH p0 st0 X1 X2 n3).up.length = 3 := (isH_parts (peirH_is (p := p0) (k := n3) (by omega) hX1 hX2)).2.2.1
        have hu4 : (peirH p0 st0 X1 X2 n3).dg.length = 3 := (isH_parts (peirH_is (p := p0) (k := n3) (by omega) hX1 hX2)).1
        have hz1_ : w.heap.size + 1 + 1 + 1 + 1 + 1 ≤ w1.heap.size := by have := hb1.size; have := HWs.out; omega
        have rc0 := hr.c0; have rc1 := hr.c1; have rf0 := hr.f0; have rf1 := hr.f1
        go_wp2_with fail
        refine bodyPost_ret (v := .tuple #[.agg #[.slice (some ⟨g1, 0, none⟩) (peirH p0 st0 X1 X2 n3).dg.length cap1, .slice (some ⟨g2, 0, none⟩) us.length cap2], .int .i64 0]) (by simp [results, Try.results10, go_sem, rc0, rc1, HU.out, hu3, hu4]) rfl ⟨_, rfl, .inr ?_, ?_⟩
        · exact ((hv.set_ (by first | omega | (simp; done) | (simp; omega)) _).set_ (by first | omega | (simp; done) | (simp; omega)) _).more (below_le (by repeat (first | exact Below.refl _ _ | apply blw_drew | apply blw_alloc | (refine blw_set ?_ (by first | omega | (simp; done) | (simp; omega)) _) | refine below_chain ?_ (by assumption))))
        · exact blw_set (blw_set (by repeat (first | exact Below.refl _ _ | apply blw_drew | apply blw_alloc | (refine blw_set ?_ (by first | omega | (simp; done) | (simp; omega)) _) | refine below_chain ?_ (by assumption))) (by first | omega | (simp; done) | (simp; omega)) _) (by first | omega | (simp; done) | (simp; omega)) _
    · have h3 : inR n3 0 2 = false := by simpa using h2
      have e1 : RPeircePart1 p0 st0 X1 X2 n3 = 2 := by unfold RPeircePart1; rw [if_pos h0, if_neg h2]
      rw [show RPeircePart0 p0 st0 X1 X2 n3 = ⟨[], []⟩ from if_neg (by rw [e1]; decide), e1]
      clear e1
      clear hbi
      go_enter Try.func10, Try.ntmps10
      go_wp2_with fail
      refine hcon.mono ?_; rintro e w1 ⟨rfl, hb1⟩
      rw [← hW] at hb1
      clear hW hcon
      have hx0 := hx0.below hb1; have hx1 := hx1.below hb1; have hx2 := hx2.below hb1; have d00 := kept hb1 d00; have d01 := kept hb1 d01; have d10 := kept hb1 d10; have d11 := kept hb1 d11; have d20 := kept hb1 d20; have d21 := kept hb1 d21; have hr := hr.below hb1
      go_wp2_with fail
      refine (inRange_c).mono ?_; rintro e w22 ⟨rfl, rfl⟩
      have rc0 := hr.c0; have rc1 := hr.c1; have rf0 := hr.f0; have rf1 := hr.f1
      go_wp2_with fail
      refine bodyPost_ret (v := .tuple #[.agg #[.slice none 0 0, .slice none 0 0], .int .i64 2]) (by simp [results, Try.results10, go_sem, rc0, rc1]) rfl ⟨_, rfl, .inl ⟨rfl, rfl⟩, ?_⟩
      exact blw_set (blw_set (by repeat (first | exact Below.refl _ _ | apply blw_drew | apply blw_alloc | (refine blw_set ?_ (by first | omega | (simp; done) | (simp; omega)) _) | refine below_chain ?_ (by assumption))) (by first | omega | (simp; done) | (simp; omega)) _) (by first | omega | (simp; done) | (simp; omega)) _
  · have e1 : RPeircePart1 p0 st0 X1 X2 n3 = chkH p0 st0 [X1, X2] := by first | (unfold RPeircePart1; rw [if_neg h0]; done) | rfl
    rw [show RPeircePart0 p0 st0 X1 X2 n3 = ⟨[], []⟩ from if_neg (by rw [e1]; exact h0), e1]; clear e1
    obtain ⟨k, hk⟩ : ∃ k, k = chkH p0 st0 [X1, X2] := ⟨_, rfl⟩
    rw [← hk] at h0 hcon ⊢
    clear hk
    have hne : (k == 0) = false := by simpa using h0
    go_enter Try.func10, Try.ntmps10
    go_wp2_with fail
    refine hcon.mono ?_; rintro e w1 ⟨rfl, hb1⟩
    rw [← hW] at hb1
    clear hW hcon
    have hr := hr.below hb1
    have rc0 := hr.c0; have rc1 := hr.c1; have rf0 := hr.f0; have rf1 := hr.f1
    go_wp2_with fail
    refine bodyPost_ret (v := .tuple #[.agg #[.slice none 0 0, .slice none 0 0], .int .i64 k]) (by simp [results, Try.results10, go_sem, rc0, rc1]) rfl ⟨_, rfl, .inl ⟨rfl, rfl⟩, ?_⟩
    exact blw_set (blw_set (by repeat (first | exact Below.refl _ _ | apply blw_drew | apply blw_alloc | (refine blw_set ?_ (by first | omega | (simp; done) | (simp; omega)) _) | refine below_chain ?_ (by assumption))) (by first | omega | (simp; done) | (simp; omega)) _) (by first | omega | (simp; done) | (simp; omega)) _
set_option maxHeartbeats 8000000 in
set_option maxRecDepth 100000 in
theorem sPeircePart_c {p0 : Int} {x0 : Value} {st0 : List Int} {x1 : Value} {X1 : Her} {x2 : Value} {X2 : Her} {n3 : Int} {w : World} (hx0 : El w x0 st0) (hm0 : st0.length ≤ 1048576) (hx1 : Hv w x1 X1) (hz1 : Hsz X1) (hx2 : Hv w x2 X2) (hz2 : Hsz X2) (lo3 : -9223372036854775808 ≤ n3) (hi3 : n3 ≤ 9223372036854775807) :
    Calls Try.prog 7 #[.agg #[.int .i64 p0, x0], x1, x2, .int .i64 n3] w fun e w' => ∃ v0, e = .returned (.tuple #[v0, .int .i64 (RPeircePart1 p0 st0 X1 X2 n3)]) ∧ OwH w' w.heap.size v0 (RPeircePart0 p0 st0 X1 X2 n3) ∧ Below w.heap.size w w' := by
  obtain ⟨a0, c0, rfl, _⟩ := id hx0.op
  obtain ⟨dv1, uv1, rfl, hd1_, hu1_⟩ := id hx1; obtain ⟨a1, c1, rfl, _⟩ := id hd1_.op; obtain ⟨b1, e1, rfl, _⟩ := id hu1_; clear hd1_ hu1_
  obtain ⟨dv2, uv2, rfl, hd2_, hu2_⟩ := id hx2; obtain ⟨a2, c2, rfl, _⟩ := id hd2_.op; obtain ⟨b2, e2, rfl, _⟩ := id hu2_; clear hd2_ hu2_
  obtain ⟨W, hW⟩ : ∃ W, W = (((((w.alloc (.cells #[.int .i64 p0, .slice a0 st0.length c0] 33)).alloc (.cells #[.slice a1 X1.dg.length c1, .slice b1 X1.up.length e1] 30)).alloc (.cells #[.slice a2 X2.dg.length c2, .slice b2 X2.up.length e2] 30)).alloc (.cells #[.slice none 0 0, .slice none 0 0] 30)).alloc (.cells #[.slice a1 X1.dg.length c1, .slice b1 X1.up.length e1, .slice a2 X2.dg.length c2, .slice b2 X2.up.length e2] 30)) := ⟨_, rfl⟩
  have hbW : Below w.heap.size w W := by rw [hW]; exact (by repeat (first | exact Below.refl _ _ | apply blw_drew | apply blw_alloc | (refine blw_set ?_ (by first | omega | (simp; done) | (simp; omega)) _) | refine below_chain ?_ (by assumption)))
  have hx0 := hx0.below hbW
  have hx1 := hx1.below hbW
  have hx2 := hx2.below hbW
  have d00 : W.cell? ⟨w.heap.size, 0, none⟩ = some (.int .i64 p0) := by rw [hW]; simp [go_sem]
  have d01 : W.cell? ⟨w.heap.size, 1, none⟩ = some (.slice a0 st0.length c0) := by rw [hW]; simp [go_sem]
  have d10 : W.cell? ⟨w.heap.size + 1, 0, none⟩ = some (.slice a1 X1.dg.length c1) := by rw [hW]; simp [go_sem]
  have d11 : W.cell? ⟨w.heap.size + 1, 1, none⟩ = some (.slice b1 X1.up.length e1) := by rw [hW]; simp [go_sem]
  have d20 : W.cell? ⟨w.heap.size + 1 + 1, 0, none⟩ = some (.slice a2 X2.dg.length c2) := by rw [hW]; simp [go_sem]
  have d21 : W.cell? ⟨w.heap.size + 1 + 1, 1, none⟩ = some (.slice b2 X2.up.length e2) := by rw [hW]; simp [go_sem]
  have hr : Bx W (w.heap.size + 1 + 1 + 1) (.slice none 0 0) (.slice none 0 0) := by rw [hW]; exact Bx.below (by unfold Bx; rw [show w.heap.size + 1 + 1 + 1 = (((w.alloc (.cells #[.int .i64 p0, .slice a0 st0.length c0] 33)).alloc (.cells #[.slice a1 X1.dg.length c1, .slice b1 X1.up.length e1] 30)).alloc (.cells #[.slice a2 X2.dg.length c2, .slice b2 X2.up.length e2] 30)).heap.size by simp]; exact heap_alloc_new _ _) (by repeat (first | exact Below.refl _ _ | apply blw_drew | apply blw_alloc | (refine blw_set ?_ (by first | omega | (simp; done) | (simp; omega)) _) | refine below_chain ?_ (by assumption)))
  have hWs : W.heap.size = w.heap.size + 1 + 1 + 1 + 1 + 1 := by rw [hW]; simp
  have gl : Lh W (.slice (some ⟨w.heap.size + 1 + 1 + 1 + 1, 0, none⟩) 2 2) [X1, X2] := Lh.two hx1 (by rw [hW]; simp [go_sem]) (by rw [hW]; simp [go_sem]) hx2 (by rw [hW]; simp [go_sem]) (by rw [hW]; simp [go_sem])
  have hcon := sl16_c (p := p0) hx0 hm0 gl (by intro X hX; simp at hX; rcases hX with rfl | rfl <;> assumption) (by simp)
  have HWs := Lib.hid hWs; clear hWs
  rw [hW] at hcon
  by_cases h0 : chkH p0 st0 [X1, X2] = 0
  · rw [h0] at hcon
    obtain ⟨hd, hall⟩ := chkH_pos h0
    have hX1 : isH p0 (sz st0.length) X1 = true := by simp at hall; exact hall.1
    have hX2 : isH p0 (sz st0.length) X2 = true := by simp at hall; exact hall.2
    clear hall
    have hp1 := hd.hp.lo; have hp2 := hd.hp.hi
    obtain ⟨bi, hbi⟩ : ∃ b, b = idemH p0 st0 X1 := ⟨_, rfl⟩
    have HI := Lib.hid hbi
    by_cases h2 : inR n3 0 2 = true
    · cases bi
      · skip
        have e1 : RPeircePart1 p0 st0 X1 X2 n3 = 5 := by unfold RPeircePart1; rw [if_pos h0, if_pos h2, if_neg (by rw [← hbi]; decide)]
        rw [show RPeircePart0 p0 st0 X1 X2 n3 = ⟨[], []⟩ from if_neg (by rw [e1]; decide), e1]
        clear e1
        clear hbi
        go_enter Try.func7, Try.ntmps7
        go_wp2_with fail
        refine hcon.mono ?_; rintro e w1 ⟨rfl, hb1⟩
        rw [← hW] at hb1
        clear hW hcon
        have hx0 := hx0.below hb1; have hx1 := hx1.below hb1; have hx2 := hx2.below hb1; have d00 := kept hb1 d00; have d01 := kept hb1 d01; have d10 := kept hb1 d10; have d11 := kept hb1 d11; have d20 := kept hb1 d20; have d21 := kept hb1 d21; have hr := hr.below hb1
        go_wp2_with fail
        refine (sin_c).mono ?_; rintro e w22 ⟨rfl, rfl⟩
        go_wp2_with fail
        refine (sidem_c hd hx0 hx1 hX1).mono ?_; rintro e w23 ⟨rfl, hb23⟩
        have hx0 := hx0.below hb23; have hx1 := hx1.below hb23; have hx2 := hx2.below hb23; have d00 := kept hb23 d00; have d01 := kept hb23 d01; have d10 := kept hb23 d10; have d11 := kept hb23 d11; have d20 := kept hb23 d20; have d21 := kept hb23 d21; have hr := hr.below hb23
        rw [← HI.out]
        have rc0 := hr.c0; have rc1 := hr.c1; have rf0 := hr.f0; have rf1 := hr.f1
        go_wp2_with fail
        refine bodyPost_ret (v := .tuple #[.agg #[.slice none 0 0, .slice none 0 0], .int .i64 5]) (by simp [results, Try.results7, go_sem, rc0, rc1]) rfl ⟨_, rfl, .inl ⟨rfl, rfl⟩, ?_⟩
        exact blw_set (blw_set (by repeat (first | exact Below.refl _ _ | apply blw_drew | apply blw_alloc | (refine blw_set ?_ (by first | omega | (simp; done) | (simp; omega)) _) | refine below_chain ?_ (by assumption))) (by first | omega | (simp; done) | (simp; omega)) _) (by first | omega | (simp; done) | (simp; omega)) _
      · skip
        have e1 : RPeircePart1 p0 st0 X1 X2 n3 = 0 := by unfold RPeircePart1; rw [if_pos h0, if_pos h2, if_pos hbi.symm]
        rw [show RPeircePart0 p0 st0 X1 X2 n3 = peirH p0 st0 X1 X2 n3 from if_pos e1, e1]
        clear e1
        clear hbi
        go_enter Try.func7, Try.ntmps7
        go_wp2_with fail
        refine hcon.mono ?_; rintro e w1 ⟨rfl, hb1⟩
        rw [← hW] at hb1
        clear hW hcon
        have hx0 := hx0.below hb1; have hx1 := hx1.below hb1; have hx2 := hx2.below hb1; have d00 := kept hb1 d00; have d01 := kept hb1 d01; have d10 := kept hb1 d10; have d11 := kept hb1 d11; have d20 := kept hb1 d20; have d21 := kept hb1 d21; have hr := hr.below hb1
        go_wp2_with fail
        refine (sin_c).mono ?_; rintro e w22 ⟨rfl, rfl⟩
        go_wp2_with fail
        refine (sidem_c hd hx0 hx1 hX1).mono ?_; rintro e w23 ⟨rfl, hb23⟩
        have hx0 := hx0.below hb23; have hx1 := hx1.below hb23; have hx2 := hx2.below hb23; have d00 := kept hb23 d00; have d01 := kept hb23 d01; have d10 := kept hb23 d10; have d11 := kept hb23 d11; have d20 := kept hb23 d20; have d21 := kept hb23 d21; have hr := hr.below hb23
        rw [← HI.out]
        have hzc_ : w1.heap.size ≤ (w23).heap.size := (below_le (by repeat (first | exact Below.refl _ _ | apply blw_drew | apply blw_alloc | (refine blw_set ?_ (by first | omega | (simp; done) | (simp; omega)) _) | refine below_chain ?_ (by assumption))))
        (try simp at hzc_)
        go_wp2_with fail
        refine (speirce_c hd hx0 hx1 hX1 hx2 hX2).mono ?_; rintro e w24 ⟨v, rfl, hv, hb24⟩
        have hx0 := hx0.below hb24; have hx1 := hx1.below hb24; have hx2 := hx2.below hb24; have d00 := kept hb24 d00; have d01 := kept hb24 d01; have d10 := kept hb24 d10; have d11 := kept hb24 d11; have d20 := kept hb24 d20; have d21 := kept hb24 d21; have hr := hr.below hb24
        obtain ⟨d, u, us, rfl, ⟨g1, cap1, rfl, h1⟩, hu, hne⟩ := id hv
        obtain ⟨g2, cap2, rfl, _⟩ := id hu
        have hul : us.length = 3 := by obtain ⟨_, _, _, _, h, _⟩ := hu; first | exact h | exact h.trans ((isH_parts (peirH_is (p := p0) (k := n3) (by omega) hX1 hX2)).2.2.1)
        have HU := Lib.hid hul; clear hul
        have hu3 : (peirH p0 st0 X1 X2 n3).up.length = 3 := (isH_parts (peirH_is (p := p0) (k := n3) (by omega) hX1 hX2)).2.2.1
        have hu4 : (peirH p0 st0 X1 X2 n3).dg.length = 3 := (isH_parts (peirH_is (p := p0) (k := n3) (by omega) hX1 hX2)).1
        have hz1_ : w.heap.size + 1 + 1 + 1 + 1 + 1 ≤ w1.heap.size := by have := hb1.size; have := HWs.out; omega
        have rc0 := hr.c0; have rc1 := hr.c1; have rf0 := hr.f0; have rf1 := hr.f1
        go_wp2_with fail
        refine bodyPost_ret (v := .tuple #[.agg #[.slice (some ⟨g1, 0, none⟩) (peirH p0 st0 X1 X2 n3).dg.length cap1, .slice (some ⟨g2, 0, none⟩) us.length cap2], .int .i64 0]) (by simp [results, Try.results7, go_sem, rc0, rc1, HU.out, hu3, hu4]) rfl ⟨_, rfl, .inr ?_, ?_⟩
        · exact ((hv.set_ (by first | omega | (simp; done) | (simp; omega)) _).set_ (by first | omega | (simp; done) | (simp; omega)) _).more (below_le (by repeat (first | exact Below.refl _ _ | apply blw_drew | apply blw_alloc | (refine blw_set ?_ (by first | omega | (simp; done) | (simp; omega)) _) | refine below_chain ?_ (by assumption))))
        · exact blw_set (blw_set (by repeat (first | exact Below.refl _ _ | apply blw_drew | apply blw_alloc | (refine blw_set ?_ (by first | omega | (simp; done) | (simp; omega)) _) | refine below_chain ?_ (by assumption))) (by first | omega | (simp; done) | (simp; omega)) _) (by first | omega | (simp; done) | (simp; omega)) _
    · have h3 : inR n3 0 2 = false := by simpa using h2
      have e1 : RPeircePart1 p0 st0 X1 X2 n3 = 2 := by unfold RPeircePart1; rw [if_pos h0, if_neg h2]
      rw [show RPeircePart0 p0 st0 X1 X2 n3 = ⟨[], []⟩ from if_neg (by rw [e1]; decide), e1]
      clear e1
      clear hbi
      go_enter Try.func7, Try.ntmps7
      go_wp2_with fail
      refine hcon.mono ?_; rintro e w1 ⟨rfl, hb1⟩
      rw [← hW] at hb1
      clear hW hcon
      have hx0 := hx0.below hb1; have hx1 := hx1.below hb1; have hx2 := hx2.below hb1; have d00 := kept hb1 d00; have d01 := kept hb1 d01; have d10 := kept hb1 d10; have d11 := kept hb1 d11; have d20 := kept hb1 d20; have d21 := kept hb1 d21; have hr := hr.below hb1
      go_wp2_with fail
      refine (sin_c).mono ?_; rintro e w22 ⟨rfl, rfl⟩
      have rc0 := hr.c0; have rc1 := hr.c1; have rf0 := hr.f0; have rf1 := hr.f1
      go_wp2_with fail
      refine bodyPost_ret (v := .tuple #[.agg #[.slice none 0 0, .slice none 0 0], .int .i64 2]) (by simp [results, Try.results7, go_sem, rc0, rc1]) rfl ⟨_, rfl, .inl ⟨rfl, rfl⟩, ?_⟩
      exact blw_set (blw_set (by repeat (first | exact Below.refl _ _ | apply blw_drew | apply blw_alloc | (refine blw_set ?_ (by first | omega | (simp; done) | (simp; omega)) _) | refine below_chain ?_ (by assumption))) (by first | omega | (simp; done) | (simp; omega)) _) (by first | omega | (simp; done) | (simp; omega)) _
  · have e1 : RPeircePart1 p0 st0 X1 X2 n3 = chkH p0 st0 [X1, X2] := by first | (unfold RPeircePart1; rw [if_neg h0]; done) | rfl
    rw [show RPeircePart0 p0 st0 X1 X2 n3 = ⟨[], []⟩ from if_neg (by rw [e1]; exact h0), e1]; clear e1
    obtain ⟨k, hk⟩ : ∃ k, k = chkH p0 st0 [X1, X2] := ⟨_, rfl⟩
    rw [← hk] at h0 hcon ⊢
    clear hk
    have hne : (k == 0) = false := by simpa using h0
    go_enter Try.func7, Try.ntmps7
    go_wp2_with fail
    refine hcon.mono ?_; rintro e w1 ⟨rfl, hb1⟩
    rw [← hW] at hb1
    clear hW hcon
    have hr := hr.below hb1
    have rc0 := hr.c0; have rc1 := hr.c1; have rf0 := hr.f0; have rf1 := hr.f1
    go_wp2_with fail
    refine bodyPost_ret (v := .tuple #[.agg #[.slice none 0 0, .slice none 0 0], .int .i64 k]) (by simp [results, Try.results7, go_sem, rc0, rc1]) rfl ⟨_, rfl, .inl ⟨rfl, rfl⟩, ?_⟩
    exact blw_set (blw_set (by repeat (first | exact Below.refl _ _ | apply blw_drew | apply blw_alloc | (refine blw_set ?_ (by first | omega | (simp; done) | (simp; omega)) _) | refine below_chain ?_ (by assumption))) (by first | omega | (simp; done) | (simp; omega)) _) (by first | omega | (simp; done) | (simp; omega)) _
def RReflectAt1 (p0 : Int) (st0 : List Int) (X1 : Her) (X2 : Her) : Int := if chkH p0 st0 [X1, X2] = 0 then (if idemH p0 st0 X1 = true then 0 else 5) else chkH p0 st0 [X1, X2]
def RReflectAt0 (p0 : Int) (st0 : List Int) (X1 : Her) (X2 : Her) : Her := if RReflectAt1 p0 st0 X1 X2 = 0 then sumH p0 X2 (-2) (halfP p0 st0 X1 X2) else ⟨[], []⟩
theorem refl_code {p : Int} {st : List Int} {X Y : Her} : RPeircePart1 p st X Y 1 = RReflectAt1 p st X Y := by
  unfold RPeircePart1 RReflectAt1
  rw [if_pos (show inR 1 0 2 = true from rfl)]
theorem refl_ok {p : Int} {st : List Int} {X Y : Her} (h : RReflectAt1 p st X Y = 0) : chkH p st [X, Y] = 0 := by
  unfold RReflectAt1 at h
  split at h
  · assumption
  · exact absurd h (by assumption)
set_option maxHeartbeats 4000000 in
set_option maxRecDepth 100000 in
theorem iReflectAt_c {p0 : Int} {x0 : Value} {st0 : List Int} {x1 : Value} {X1 : Her} {x2 : Value} {X2 : Her} {w : World} (hx0 : El w x0 st0) (hm0 : st0.length ≤ 1048576) (hx1 : Hv w x1 X1) (hz1 : Hsz X1) (hx2 : Hv w x2 X2) (hz2 : Hsz X2) :
    Calls Try.prog 17 #[.agg #[.int .i64 p0, x0], x1, x2] w fun e w' => ∃ v0, e = .returned (.tuple #[v0, .int .i64 (RReflectAt1 p0 st0 X1 X2)]) ∧ OwH w' w.heap.size v0 (RReflectAt0 p0 st0 X1 X2) ∧ Below w.heap.size w w' := by
  obtain ⟨a0, c0, rfl, _⟩ := id hx0.op
  obtain ⟨dv1, uv1, rfl, hd1_, hu1_⟩ := id hx1; obtain ⟨a1, c1, rfl, _⟩ := id hd1_.op; obtain ⟨b1, e1, rfl, _⟩ := id hu1_; clear hd1_ hu1_
  obtain ⟨dv2, uv2, rfl, hd2_, hu2_⟩ := id hx2; obtain ⟨a2, c2, rfl, _⟩ := id hd2_.op; obtain ⟨b2, e2, rfl, _⟩ := id hu2_; clear hd2_ hu2_
  have hcon := fun W y0 y1 y2 (g0 : El W y0 st0) (g1 : Hv W y1 X1) (g2 : Hv W y2 X2) => iPeircePart_c (w := W) (p0 := p0) (n3 := 1) g0 hm0 g1 hz1 g2 hz2 (by decide) (by decide)
  simp only [refl_code] at hcon
  by_cases h : RReflectAt1 p0 st0 X1 X2 = 0
  · obtain ⟨hd, hall⟩ := chkH_pos (refl_ok h)
    simp at hall
    obtain ⟨hX1, hX2⟩ := hall
    have hp1 := hd.hp.lo; have hp2 := hd.hp.hi
    have iF := halfP_is (p := p0) (st := st0) (by omega) hX1 hX2
    have iS := sumH_is (p := p0) (k := -2) (by omega) hX2 iF
    have eR0 : RPeircePart0 p0 st0 X1 X2 1 = halfP p0 st0 X1 X2 := if_pos (refl_code.trans h)
    simp only [h, eR0] at hcon
    rw [show RReflectAt0 p0 st0 X1 X2 = sumH p0 X2 (-2) (halfP p0 st0 X1 X2) from if_pos h, h]
    clear eR0 h
    go_enter Try.func17, Try.ntmps17
    have hb0 : Below w.heap.size w ((((w.alloc (.cells #[.int .i64 p0, .slice a0 st0.length c0] 33)).alloc (.cells #[.slice a1 X1.dg.length c1, .slice b1 X1.up.length e1] 30)).alloc (.cells #[.slice a2 X2.dg.length c2, .slice b2 X2.up.length e2] 30)).alloc (.cells #[.slice none 0 0, .slice none 0 0] 30)) := (by repeat (first | exact Below.refl _ _ | apply blw_drew | apply blw_alloc | (refine blw_set ?_ (by first | omega | (simp; done) | (simp; omega)) _) | refine below_chain ?_ (by assumption)))
    have hx0 := hx0.below hb0; have hx1 := hx1.below hb0; have hx2 := hx2.below hb0
    have d00 : ((((w.alloc (.cells #[.int .i64 p0, .slice a0 st0.length c0] 33)).alloc (.cells #[.slice a1 X1.dg.length c1, .slice b1 X1.up.length e1] 30)).alloc (.cells #[.slice a2 X2.dg.length c2, .slice b2 X2.up.length e2] 30)).alloc (.cells #[.slice none 0 0, .slice none 0 0] 30)).cell? ⟨w.heap.size, 0, none⟩ = some (.int .i64 p0) := by simp [go_sem]
    have d01 : ((((w.alloc (.cells #[.int .i64 p0, .slice a0 st0.length c0] 33)).alloc (.cells #[.slice a1 X1.dg.length c1, .slice b1 X1.up.length e1] 30)).alloc (.cells #[.slice a2 X2.dg.length c2, .slice b2 X2.up.length e2] 30)).alloc (.cells #[.slice none 0 0, .slice none 0 0] 30)).cell? ⟨w.heap.size, 1, none⟩ = some (.slice a0 st0.length c0) := by simp [go_sem]
    have d10 : ((((w.alloc (.cells #[.int .i64 p0, .slice a0 st0.length c0] 33)).alloc (.cells #[.slice a1 X1.dg.length c1, .slice b1 X1.up.length e1] 30)).alloc (.cells #[.slice a2 X2.dg.length c2, .slice b2 X2.up.length e2] 30)).alloc (.cells #[.slice none 0 0, .slice none 0 0] 30)).cell? ⟨w.heap.size + 1, 0, none⟩ = some (.slice a1 X1.dg.length c1) := by simp [go_sem]
    have d11 : ((((w.alloc (.cells #[.int .i64 p0, .slice a0 st0.length c0] 33)).alloc (.cells #[.slice a1 X1.dg.length c1, .slice b1 X1.up.length e1] 30)).alloc (.cells #[.slice a2 X2.dg.length c2, .slice b2 X2.up.length e2] 30)).alloc (.cells #[.slice none 0 0, .slice none 0 0] 30)).cell? ⟨w.heap.size + 1, 1, none⟩ = some (.slice b1 X1.up.length e1) := by simp [go_sem]
    have d20 : ((((w.alloc (.cells #[.int .i64 p0, .slice a0 st0.length c0] 33)).alloc (.cells #[.slice a1 X1.dg.length c1, .slice b1 X1.up.length e1] 30)).alloc (.cells #[.slice a2 X2.dg.length c2, .slice b2 X2.up.length e2] 30)).alloc (.cells #[.slice none 0 0, .slice none 0 0] 30)).cell? ⟨w.heap.size + 1 + 1, 0, none⟩ = some (.slice a2 X2.dg.length c2) := by simp [go_sem]
    have d21 : ((((w.alloc (.cells #[.int .i64 p0, .slice a0 st0.length c0] 33)).alloc (.cells #[.slice a1 X1.dg.length c1, .slice b1 X1.up.length e1] 30)).alloc (.cells #[.slice a2 X2.dg.length c2, .slice b2 X2.up.length e2] 30)).alloc (.cells #[.slice none 0 0, .slice none 0 0] 30)).cell? ⟨w.heap.size + 1 + 1, 1, none⟩ = some (.slice b2 X2.up.length e2) := by simp [go_sem]
    have r0 : ((((w.alloc (.cells #[.int .i64 p0, .slice a0 st0.length c0] 33)).alloc (.cells #[.slice a1 X1.dg.length c1, .slice b1 X1.up.length e1] 30)).alloc (.cells #[.slice a2 X2.dg.length c2, .slice b2 X2.up.length e2] 30)).alloc (.cells #[.slice none 0 0, .slice none 0 0] 30)).cell? ⟨w.heap.size + 1 + 1 + 1, 0, none⟩ = some (.slice none 0 0) := by simp [go_sem]
    have r1 : ((((w.alloc (.cells #[.int .i64 p0, .slice a0 st0.length c0] 33)).alloc (.cells #[.slice a1 X1.dg.length c1, .slice b1 X1.up.length e1] 30)).alloc (.cells #[.slice a2 X2.dg.length c2, .slice b2 X2.up.length e2] 30)).alloc (.cells #[.slice none 0 0, .slice none 0 0] 30)).cell? ⟨w.heap.size + 1 + 1 + 1, 1, none⟩ = some (.slice none 0 0) := by simp [go_sem]
    have hr : Bx ((((w.alloc (.cells #[.int .i64 p0, .slice a0 st0.length c0] 33)).alloc (.cells #[.slice a1 X1.dg.length c1, .slice b1 X1.up.length e1] 30)).alloc (.cells #[.slice a2 X2.dg.length c2, .slice b2 X2.up.length e2] 30)).alloc (.cells #[.slice none 0 0, .slice none 0 0] 30)) (w.heap.size + 1 + 1 + 1) (.slice none 0 0) (.slice none 0 0) := by rw [show w.heap.size + 1 + 1 + 1 = (((w.alloc (.cells #[.int .i64 p0, .slice a0 st0.length c0] 33)).alloc (.cells #[.slice a1 X1.dg.length c1, .slice b1 X1.up.length e1] 30)).alloc (.cells #[.slice a2 X2.dg.length c2, .slice b2 X2.up.length e2] 30)).heap.size by simp]; exact heap_alloc_new _ _
    go_wp2_with fail
    refine (hcon _ _ _ _ hx0 hx1 hx2).mono ?_; rintro e w1 ⟨v1, rfl, ho, hb1⟩
    have hx0 := hx0.below hb1; have hx1 := hx1.below hb1; have hx2 := hx2.below hb1; have d00 := kept hb1 d00; have d01 := kept hb1 d01; have d10 := kept hb1 d10; have d11 := kept hb1 d11; have d20 := kept hb1 d20; have d21 := kept hb1 d21; have hr := hr.below hb1
    rcases ho with ⟨_, e⟩ | h1
    · exact absurd (isH_parts iF).1 (by rw [e]; decide)
    obtain ⟨da_, ua_, usa, rfl, ⟨ga, ka_, rfl, qa⟩, hua, hnea⟩ := id h1; obtain ⟨ja, la_, rfl, hqa_⟩ := id hua; clear hqa_ hua qa hnea
    have hb2 : Below w1.heap.size w1 (w1.alloc (.cells #[.slice (some ⟨ga, 0, none⟩) (halfP p0 st0 X1 X2).dg.length ka_, .slice (some ⟨ja, 0, none⟩) usa.length la_] 30)) := (by repeat (first | exact Below.refl _ _ | apply blw_drew | apply blw_alloc | (refine blw_set ?_ (by first | omega | (simp; done) | (simp; omega)) _) | refine below_chain ?_ (by assumption)))
    have hx0 := hx0.below hb2; have hx1 := hx1.below hb2; have hx2 := hx2.below hb2; have d00 := kept hb2 d00; have d01 := kept hb2 d01; have d10 := kept hb2 d10; have d11 := kept hb2 d11; have d20 := kept hb2 d20; have d21 := kept hb2 d21; have hr := hr.below hb2; have h1 := h1.below hb2
    have hN1 : Bx ((w1.alloc (.cells #[.slice (some ⟨ga, 0, none⟩) (halfP p0 st0 X1 X2).dg.length ka_, .slice (some ⟨ja, 0, none⟩) usa.length la_] 30))) w1.heap.size _ _ := heap_alloc_new w1 _
    have m0 := hN1.c0; have m1 := hN1.c1; clear hN1
    have hzA : (((((w.alloc (.cells #[.int .i64 p0, .slice a0 st0.length c0] 33)).alloc (.cells #[.slice a1 X1.dg.length c1, .slice b1 X1.up.length e1] 30)).alloc (.cells #[.slice a2 X2.dg.length c2, .slice b2 X2.up.length e2] 30)).alloc (.cells #[.slice none 0 0, .slice none 0 0] 30))).heap.size ≤ ((w1.alloc (.cells #[.slice (some ⟨ga, 0, none⟩) (halfP p0 st0 X1 X2).dg.length ka_, .slice (some ⟨ja, 0, none⟩) usa.length la_] 30))).heap.size := (below_le (by repeat (first | exact Below.refl _ _ | apply blw_drew | apply blw_alloc | (refine blw_set ?_ (by first | omega | (simp; done) | (simp; omega)) _) | refine below_chain ?_ (by assumption))))
    go_wp2_with fail
    refine (jsum_c (k := -2) hd hx0 hx2 hX2 h1.hv iF (by decide) (by decide)).mono ?_; rintro e w3 ⟨v, rfl, hv, hb3⟩
    have hx0 := hx0.below hb3; have hx1 := hx1.below hb3; have hx2 := hx2.below hb3; have d00 := kept hb3 d00; have d01 := kept hb3 d01; have d10 := kept hb3 d10; have d11 := kept hb3 d11; have d20 := kept hb3 d20; have d21 := kept hb3 d21; have hr := hr.below hb3; have h1 := h1.below hb3; have m0 := kept hb3 m0; have m1 := kept hb3 m1
    obtain ⟨S, hS⟩ : ∃ S, S = sumH p0 X2 (-2) (halfP p0 st0 X1 X2) := ⟨_, rfl⟩
    rw [← hS] at hv iS
    have HS := Lib.hid hS; clear hS
    obtain ⟨d, u, us, rfl, ⟨g1, cap1, rfl, q1⟩, hu, hne⟩ := id hv
    obtain ⟨g2, cap2, rfl, _⟩ := id hu
    have hul : us.length = 3 := by obtain ⟨_, _, _, _, h, _⟩ := hu; rw [h]; exact (isH_parts iS).2.2.1
    have HU := Lib.hid hul; clear hul
    have hu3 : S.up.length = 3 := (isH_parts iS).2.2.1
    have hu4 : S.dg.length = 3 := (isH_parts iS).1
    have rc0 := hr.c0; have rc1 := hr.c1; have rf0 := hr.f0; have rf1 := hr.f1
    (try simp at hzA)
    go_wp2_with fail
    refine bodyPost_ret (v := .tuple #[.agg #[.slice (some ⟨g1, 0, none⟩) S.dg.length cap1, .slice (some ⟨g2, 0, none⟩) us.length cap2], .int .i64 0]) (by simp [results, Try.results17, go_sem, rc0, rc1, HU.out, hu3, hu4]) rfl ⟨_, rfl, .inr ?_, ?_⟩
    · rw [← HS.out]; exact ((hv.set_ (by first | omega | (simp; done) | (simp; omega)) _).set_ (by first | omega | (simp; done) | (simp; omega)) _).more (below_le (by repeat (first | exact Below.refl _ _ | apply blw_drew | apply blw_alloc | (refine blw_set ?_ (by first | omega | (simp; done) | (simp; omega)) _) | refine below_chain ?_ (by assumption))))
    · exact blw_set (blw_set (by repeat (first | exact Below.refl _ _ | apply blw_drew | apply blw_alloc | (refine blw_set ?_ (by first | omega | (simp; done) | (simp; omega)) _) | refine below_chain ?_ (by assumption))) (by first | omega | (simp; done) | (simp; omega)) _) (by first | omega | (simp; done) | (simp; omega)) _
  · have eR0 : RPeircePart0 p0 st0 X1 X2 1 = ⟨[], []⟩ := if_neg (fun e => h (refl_code.symm.trans e))
    simp only [eR0] at hcon
    rw [show RReflectAt0 p0 st0 X1 X2 = ⟨[], []⟩ from if_neg h]
    clear eR0
    obtain ⟨k, hk⟩ : ∃ k, k = RReflectAt1 p0 st0 X1 X2 := ⟨_, rfl⟩
    rw [← hk] at h ⊢
    simp only [← hk] at hcon
    clear hk
    have hne : (k == 0) = false := by simpa using h
    go_enter Try.func17, Try.ntmps17
    have hb0 : Below w.heap.size w ((((w.alloc (.cells #[.int .i64 p0, .slice a0 st0.length c0] 33)).alloc (.cells #[.slice a1 X1.dg.length c1, .slice b1 X1.up.length e1] 30)).alloc (.cells #[.slice a2 X2.dg.length c2, .slice b2 X2.up.length e2] 30)).alloc (.cells #[.slice none 0 0, .slice none 0 0] 30)) := (by repeat (first | exact Below.refl _ _ | apply blw_drew | apply blw_alloc | (refine blw_set ?_ (by first | omega | (simp; done) | (simp; omega)) _) | refine below_chain ?_ (by assumption)))
    have hx0 := hx0.below hb0; have hx1 := hx1.below hb0; have hx2 := hx2.below hb0
    have d00 : ((((w.alloc (.cells #[.int .i64 p0, .slice a0 st0.length c0] 33)).alloc (.cells #[.slice a1 X1.dg.length c1, .slice b1 X1.up.length e1] 30)).alloc (.cells #[.slice a2 X2.dg.length c2, .slice b2 X2.up.length e2] 30)).alloc (.cells #[.slice none 0 0, .slice none 0 0] 30)).cell? ⟨w.heap.size, 0, none⟩ = some (.int .i64 p0) := by simp [go_sem]
    have d01 : ((((w.alloc (.cells #[.int .i64 p0, .slice a0 st0.length c0] 33)).alloc (.cells #[.slice a1 X1.dg.length c1, .slice b1 X1.up.length e1] 30)).alloc (.cells #[.slice a2 X2.dg.length c2, .slice b2 X2.up.length e2] 30)).alloc (.cells #[.slice none 0 0, .slice none 0 0] 30)).cell? ⟨w.heap.size, 1, none⟩ = some (.slice a0 st0.length c0) := by simp [go_sem]
    have d10 : ((((w.alloc (.cells #[.int .i64 p0, .slice a0 st0.length c0] 33)).alloc (.cells #[.slice a1 X1.dg.length c1, .slice b1 X1.up.length e1] 30)).alloc (.cells #[.slice a2 X2.dg.length c2, .slice b2 X2.up.length e2] 30)).alloc (.cells #[.slice none 0 0, .slice none 0 0] 30)).cell? ⟨w.heap.size + 1, 0, none⟩ = some (.slice a1 X1.dg.length c1) := by simp [go_sem]
    have d11 : ((((w.alloc (.cells #[.int .i64 p0, .slice a0 st0.length c0] 33)).alloc (.cells #[.slice a1 X1.dg.length c1, .slice b1 X1.up.length e1] 30)).alloc (.cells #[.slice a2 X2.dg.length c2, .slice b2 X2.up.length e2] 30)).alloc (.cells #[.slice none 0 0, .slice none 0 0] 30)).cell? ⟨w.heap.size + 1, 1, none⟩ = some (.slice b1 X1.up.length e1) := by simp [go_sem]
    have d20 : ((((w.alloc (.cells #[.int .i64 p0, .slice a0 st0.length c0] 33)).alloc (.cells #[.slice a1 X1.dg.length c1, .slice b1 X1.up.length e1] 30)).alloc (.cells #[.slice a2 X2.dg.length c2, .slice b2 X2.up.length e2] 30)).alloc (.cells #[.slice none 0 0, .slice none 0 0] 30)).cell? ⟨w.heap.size + 1 + 1, 0, none⟩ = some (.slice a2 X2.dg.length c2) := by simp [go_sem]
    have d21 : ((((w.alloc (.cells #[.int .i64 p0, .slice a0 st0.length c0] 33)).alloc (.cells #[.slice a1 X1.dg.length c1, .slice b1 X1.up.length e1] 30)).alloc (.cells #[.slice a2 X2.dg.length c2, .slice b2 X2.up.length e2] 30)).alloc (.cells #[.slice none 0 0, .slice none 0 0] 30)).cell? ⟨w.heap.size + 1 + 1, 1, none⟩ = some (.slice b2 X2.up.length e2) := by simp [go_sem]
    have r0 : ((((w.alloc (.cells #[.int .i64 p0, .slice a0 st0.length c0] 33)).alloc (.cells #[.slice a1 X1.dg.length c1, .slice b1 X1.up.length e1] 30)).alloc (.cells #[.slice a2 X2.dg.length c2, .slice b2 X2.up.length e2] 30)).alloc (.cells #[.slice none 0 0, .slice none 0 0] 30)).cell? ⟨w.heap.size + 1 + 1 + 1, 0, none⟩ = some (.slice none 0 0) := by simp [go_sem]
    have r1 : ((((w.alloc (.cells #[.int .i64 p0, .slice a0 st0.length c0] 33)).alloc (.cells #[.slice a1 X1.dg.length c1, .slice b1 X1.up.length e1] 30)).alloc (.cells #[.slice a2 X2.dg.length c2, .slice b2 X2.up.length e2] 30)).alloc (.cells #[.slice none 0 0, .slice none 0 0] 30)).cell? ⟨w.heap.size + 1 + 1 + 1, 1, none⟩ = some (.slice none 0 0) := by simp [go_sem]
    have hr : Bx ((((w.alloc (.cells #[.int .i64 p0, .slice a0 st0.length c0] 33)).alloc (.cells #[.slice a1 X1.dg.length c1, .slice b1 X1.up.length e1] 30)).alloc (.cells #[.slice a2 X2.dg.length c2, .slice b2 X2.up.length e2] 30)).alloc (.cells #[.slice none 0 0, .slice none 0 0] 30)) (w.heap.size + 1 + 1 + 1) (.slice none 0 0) (.slice none 0 0) := by rw [show w.heap.size + 1 + 1 + 1 = (((w.alloc (.cells #[.int .i64 p0, .slice a0 st0.length c0] 33)).alloc (.cells #[.slice a1 X1.dg.length c1, .slice b1 X1.up.length e1] 30)).alloc (.cells #[.slice a2 X2.dg.length c2, .slice b2 X2.up.length e2] 30)).heap.size by simp]; exact heap_alloc_new _ _
    go_wp2_with fail
    refine (hcon _ _ _ _ hx0 hx1 hx2).mono ?_; rintro e w1 ⟨v1, rfl, ho, hb1⟩
    have hx0 := hx0.below hb1; have hx1 := hx1.below hb1; have hx2 := hx2.below hb1; have d00 := kept hb1 d00; have d01 := kept hb1 d01; have d10 := kept hb1 d10; have d11 := kept hb1 d11; have d20 := kept hb1 d20; have d21 := kept hb1 d21; have hr := hr.below hb1
    obtain ⟨dA, uA, rfl, hdA, huA⟩ := id ho.hv; obtain ⟨aA, cA, rfl⟩ : ∃ a c, dA = .slice a 0 c := by obtain ⟨a, c, e, _⟩ := hdA.op; exact ⟨a, c, e⟩
    obtain ⟨bA, kA, rfl⟩ : ∃ a c, uA = .slice a 0 c := by obtain ⟨a, c, e, _⟩ := huA; exact ⟨a, c, e⟩
    clear hdA huA ho
    have hb2 : Below w1.heap.size w1 (w1.alloc (.cells #[.slice aA 0 cA, .slice bA 0 kA] 30)) := (by repeat (first | exact Below.refl _ _ | apply blw_drew | apply blw_alloc | (refine blw_set ?_ (by first | omega | (simp; done) | (simp; omega)) _) | refine below_chain ?_ (by assumption)))
    have hx0 := hx0.below hb2; have hx1 := hx1.below hb2; have hx2 := hx2.below hb2; have d00 := kept hb2 d00; have d01 := kept hb2 d01; have d10 := kept hb2 d10; have d11 := kept hb2 d11; have d20 := kept hb2 d20; have d21 := kept hb2 d21; have hr := hr.below hb2
    have rc0 := hr.c0; have rc1 := hr.c1; have rf0 := hr.f0; have rf1 := hr.f1
    go_wp2_with fail
    refine bodyPost_ret (v := .tuple #[.agg #[.slice none 0 0, .slice none 0 0], .int .i64 k]) (by simp [results, Try.results17, go_sem, rc0, rc1]) rfl ⟨_, rfl, .inl ⟨rfl, rfl⟩, ?_⟩
    exact blw_set (blw_set (by repeat (first | exact Below.refl _ _ | apply blw_drew | apply blw_alloc | (refine blw_set ?_ (by first | omega | (simp; done) | (simp; omega)) _) | refine below_chain ?_ (by assumption))) (by first | omega | (simp; done) | (simp; omega)) _) (by first | omega | (simp; done) | (simp; omega)) _
set_option maxHeartbeats 8000000 in
set_option maxRecDepth 100000 in
theorem sReflectAt_c {p0 : Int} {x0 : Value} {st0 : List Int} {x1 : Value} {X1 : Her} {x2 : Value} {X2 : Her} {w : World} (hx0 : El w x0 st0) (hm0 : st0.length ≤ 1048576) (hx1 : Hv w x1 X1) (hz1 : Hsz X1) (hx2 : Hv w x2 X2) (hz2 : Hsz X2) :
    Calls Try.prog 16 #[.agg #[.int .i64 p0, x0], x1, x2] w fun e w' => ∃ v0, e = .returned (.tuple #[v0, .int .i64 (RReflectAt1 p0 st0 X1 X2)]) ∧ OwH w' w.heap.size v0 (RReflectAt0 p0 st0 X1 X2) ∧ Below w.heap.size w w' := by
  obtain ⟨a0, c0, rfl, _⟩ := id hx0.op
  obtain ⟨dv1, uv1, rfl, hd1_, hu1_⟩ := id hx1; obtain ⟨a1, c1, rfl, _⟩ := id hd1_.op; obtain ⟨b1, e1, rfl, _⟩ := id hu1_; clear hd1_ hu1_
  obtain ⟨dv2, uv2, rfl, hd2_, hu2_⟩ := id hx2; obtain ⟨a2, c2, rfl, _⟩ := id hd2_.op; obtain ⟨b2, e2, rfl, _⟩ := id hu2_; clear hd2_ hu2_
  obtain ⟨W, hW⟩ : ∃ W, W = (((((w.alloc (.cells #[.int .i64 p0, .slice a0 st0.length c0] 33)).alloc (.cells #[.slice a1 X1.dg.length c1, .slice b1 X1.up.length e1] 30)).alloc (.cells #[.slice a2 X2.dg.length c2, .slice b2 X2.up.length e2] 30)).alloc (.cells #[.slice none 0 0, .slice none 0 0] 30)).alloc (.cells #[.slice a1 X1.dg.length c1, .slice b1 X1.up.length e1, .slice a2 X2.dg.length c2, .slice b2 X2.up.length e2] 30)) := ⟨_, rfl⟩
  have hbW : Below w.heap.size w W := by rw [hW]; exact (by repeat (first | exact Below.refl _ _ | apply blw_drew | apply blw_alloc | (refine blw_set ?_ (by first | omega | (simp; done) | (simp; omega)) _) | refine below_chain ?_ (by assumption)))
  have hx0 := hx0.below hbW
  have hx1 := hx1.below hbW
  have hx2 := hx2.below hbW
  have d00 : W.cell? ⟨w.heap.size, 0, none⟩ = some (.int .i64 p0) := by rw [hW]; simp [go_sem]
  have d01 : W.cell? ⟨w.heap.size, 1, none⟩ = some (.slice a0 st0.length c0) := by rw [hW]; simp [go_sem]
  have d10 : W.cell? ⟨w.heap.size + 1, 0, none⟩ = some (.slice a1 X1.dg.length c1) := by rw [hW]; simp [go_sem]
  have d11 : W.cell? ⟨w.heap.size + 1, 1, none⟩ = some (.slice b1 X1.up.length e1) := by rw [hW]; simp [go_sem]
  have d20 : W.cell? ⟨w.heap.size + 1 + 1, 0, none⟩ = some (.slice a2 X2.dg.length c2) := by rw [hW]; simp [go_sem]
  have d21 : W.cell? ⟨w.heap.size + 1 + 1, 1, none⟩ = some (.slice b2 X2.up.length e2) := by rw [hW]; simp [go_sem]
  have hr : Bx W (w.heap.size + 1 + 1 + 1) (.slice none 0 0) (.slice none 0 0) := by rw [hW]; exact Bx.below (by unfold Bx; rw [show w.heap.size + 1 + 1 + 1 = (((w.alloc (.cells #[.int .i64 p0, .slice a0 st0.length c0] 33)).alloc (.cells #[.slice a1 X1.dg.length c1, .slice b1 X1.up.length e1] 30)).alloc (.cells #[.slice a2 X2.dg.length c2, .slice b2 X2.up.length e2] 30)).heap.size by simp]; exact heap_alloc_new _ _) (by repeat (first | exact Below.refl _ _ | apply blw_drew | apply blw_alloc | (refine blw_set ?_ (by first | omega | (simp; done) | (simp; omega)) _) | refine below_chain ?_ (by assumption)))
  have hWs : W.heap.size = w.heap.size + 1 + 1 + 1 + 1 + 1 := by rw [hW]; simp
  have gl : Lh W (.slice (some ⟨w.heap.size + 1 + 1 + 1 + 1, 0, none⟩) 2 2) [X1, X2] := Lh.two hx1 (by rw [hW]; simp [go_sem]) (by rw [hW]; simp [go_sem]) hx2 (by rw [hW]; simp [go_sem]) (by rw [hW]; simp [go_sem])
  have hcon := sl16_c (p := p0) hx0 hm0 gl (by intro X hX; simp at hX; rcases hX with rfl | rfl <;> assumption) (by simp)
  have HWs := Lib.hid hWs; clear hWs
  rw [hW] at hcon
  by_cases h0 : chkH p0 st0 [X1, X2] = 0
  · rw [h0] at hcon
    obtain ⟨hd, hall⟩ := chkH_pos h0
    have hX1 : isH p0 (sz st0.length) X1 = true := by simp at hall; exact hall.1
    have hX2 : isH p0 (sz st0.length) X2 = true := by simp at hall; exact hall.2
    clear hall
    have hp1 := hd.hp.lo; have hp2 := hd.hp.hi; have hsz := sz_le hd
    have iF := halfP_is (p := p0) (st := st0) (by omega) hX1 hX2
    have HN2 := Lib.hid (fun X Y => sumH_neg2 (p := p0) (X := X) (Y := Y))
    obtain ⟨bi, hbi⟩ : ∃ b, b = idemH p0 st0 X1 := ⟨_, rfl⟩
    have HI := Lib.hid hbi
    cases bi
    · skip
      have e1 : RReflectAt1 p0 st0 X1 X2 = 5 := by unfold RReflectAt1; rw [if_pos h0, if_neg (by rw [← hbi]; decide)]
      rw [show RReflectAt0 p0 st0 X1 X2 = ⟨[], []⟩ from if_neg (by rw [e1]; decide), e1]
      clear e1
      clear hbi
      go_enter Try.func16, Try.ntmps16
      go_wp2_with fail
      refine hcon.mono ?_; rintro e w1 ⟨rfl, hb1⟩
      rw [← hW] at hb1
      clear hW hcon
      have hx0 := hx0.below hb1; have hx1 := hx1.below hb1; have hx2 := hx2.below hb1; have d00 := kept hb1 d00; have d01 := kept hb1 d01; have d10 := kept hb1 d10; have d11 := kept hb1 d11; have d20 := kept hb1 d20; have d21 := kept hb1 d21; have hr := hr.below hb1
      go_wp2_with fail
      refine (sidem_c hd hx0 hx1 hX1).mono ?_; rintro e w22 ⟨rfl, hb22⟩
      have hx0 := hx0.below hb22; have hx1 := hx1.below hb22; have hx2 := hx2.below hb22; have d00 := kept hb22 d00; have d01 := kept hb22 d01; have d10 := kept hb22 d10; have d11 := kept hb22 d11; have d20 := kept hb22 d20; have d21 := kept hb22 d21; have hr := hr.below hb22
      rw [← HI.out]
      have rc0 := hr.c0; have rc1 := hr.c1; have rf0 := hr.f0; have rf1 := hr.f1
      go_wp2_with fail
      refine bodyPost_ret (v := .tuple #[.agg #[.slice none 0 0, .slice none 0 0], .int .i64 5]) (by simp [results, Try.results16, go_sem, rc0, rc1]) rfl ⟨_, rfl, .inl ⟨rfl, rfl⟩, ?_⟩
      exact blw_set (blw_set (by repeat (first | exact Below.refl _ _ | apply blw_drew | apply blw_alloc | (refine blw_set ?_ (by first | omega | (simp; done) | (simp; omega)) _) | refine below_chain ?_ (by assumption))) (by first | omega | (simp; done) | (simp; omega)) _) (by first | omega | (simp; done) | (simp; omega)) _
    · skip
      have e1 : RReflectAt1 p0 st0 X1 X2 = 0 := by unfold RReflectAt1; rw [if_pos h0, if_pos hbi.symm]
      rw [show RReflectAt0 p0 st0 X1 X2 = sumH p0 X2 (-2) (halfP p0 st0 X1 X2) from if_pos e1, e1]
      clear e1
      clear hbi
      go_enter Try.func16, Try.ntmps16
      go_wp2_with fail
      refine hcon.mono ?_; rintro e w1 ⟨rfl, hb1⟩
      rw [← hW] at hb1
      clear hW hcon
      have hx0 := hx0.below hb1; have hx1 := hx1.below hb1; have hx2 := hx2.below hb1; have d00 := kept hb1 d00; have d01 := kept hb1 d01; have d10 := kept hb1 d10; have d11 := kept hb1 d11; have d20 := kept hb1 d20; have d21 := kept hb1 d21; have hr := hr.below hb1
      go_wp2_with fail
      refine (sidem_c hd hx0 hx1 hX1).mono ?_; rintro e w22 ⟨rfl, hb22⟩
      have hx0 := hx0.below hb22; have hx1 := hx1.below hb22; have hx2 := hx2.below hb22; have d00 := kept hb22 d00; have d01 := kept hb22 d01; have d10 := kept hb22 d10; have d11 := kept hb22 d11; have d20 := kept hb22 d20; have d21 := kept hb22 d21; have hr := hr.below hb22
      rw [← HI.out]
      go_wp2_with fail
      refine region_flow [(false, [(0, 0), (1, 1), (2, 1), (3, 0), (4, 1), (5, 0), (6, 1), (7, 1), (8, 1), (9, 5)]), (false, [(10, 4), (11, 4), (12, 0)])] (by kernel_rfl) ?_
      refine norm_K fun K hK => ?_
      change wpList _ _ _ [_, _, _, _, _, _, _, _, _, _] _ _
      have hb23 : Below w22.heap.size w22 w22.drew := (by repeat (first | exact Below.refl _ _ | apply blw_drew | apply blw_alloc | (refine blw_set ?_ (by first | omega | (simp; done) | (simp; omega)) _) | refine below_chain ?_ (by assumption)))
      have hx0 := hx0.below hb23; have hx1 := hx1.below hb23; have hx2 := hx2.below hb23; have d00 := kept hb23 d00; have d01 := kept hb23 d01; have d10 := kept hb23 d10; have d11 := kept hb23 d11; have d20 := kept hb23 d20; have d21 := kept hb23 d21; have hr := hr.below hb23
      generalize w22.drew = wq at *
      have hzq_ : w1.heap.size ≤ wq.heap.size := (below_le (by repeat (first | exact Below.refl _ _ | apply blw_drew | apply blw_alloc | (refine blw_set ?_ (by first | omega | (simp; done) | (simp; omega)) _) | refine below_chain ?_ (by assumption))))
      go_wp2_with fail
      refine (speirce_c (k := 1) hd hx0 hx1 hX1 hx2 hX2).mono ?_; rintro e w24 ⟨v1, rfl, h1, hb24⟩
      have hx0 := hx0.below hb24; have hx1 := hx1.below hb24; have hx2 := hx2.below hb24; have d00 := kept hb24 d00; have d01 := kept hb24 d01; have d10 := kept hb24 d10; have d11 := kept hb24 d11; have d20 := kept hb24 d20; have d21 := kept hb24 d21; have hr := hr.below hb24
      go_wp2_with fail
      have hz0 : Below wq.heap.size wq w24 := (by repeat (first | exact Below.refl _ _ | apply blw_drew | apply blw_alloc | (refine blw_set ?_ (by first | omega | (simp; done) | (simp; omega)) _) | refine below_chain ?_ (by assumption)))
      first | (refine hK _ _ ⟨hz0, ?_⟩; clear hK K) | refine ⟨hz0, ?_⟩
      clear hz0
      refine norm_K fun K hK => ?_
      change wpList _ _ _ [_, _, _] _ _
      change FrH _ _ _ (halfP p0 st0 X1 X2) at h1
      have hzc_ : w1.heap.size ≤ (w24).heap.size := (below_le (by repeat (first | exact Below.refl _ _ | apply blw_drew | apply blw_alloc | (refine blw_set ?_ (by first | omega | (simp; done) | (simp; omega)) _) | refine below_chain ?_ (by assumption))))
      (try simp at hzc_)
      go_wp2_with fail
      refine (ssum_c (k := p0 - 2) (by omega) (by omega) hx2 hX2 h1.hv iF (by omega) (by omega) (by omega)).mono ?_; rintro e w25 ⟨v, rfl, hv, hb25⟩
      have hx0 := hx0.below hb25; have hx1 := hx1.below hb25; have hx2 := hx2.below hb25; have d00 := kept hb25 d00; have d01 := kept hb25 d01; have d10 := kept hb25 d10; have d11 := kept hb25 d11; have d20 := kept hb25 d20; have d21 := kept hb25 d21; have hr := hr.below hb25; have h1 := h1.below hb25
      rw [HN2.out] at hv
      obtain ⟨d, u, us, rfl, ⟨g1, cap1, rfl, h1⟩, hu, hne⟩ := id hv
      obtain ⟨g2, cap2, rfl, _⟩ := id hu
      have hul : us.length = 3 := by obtain ⟨_, _, _, _, h, _⟩ := hu; first | exact h | exact h.trans ((isH_parts (sumH_is (p := p0) (k := -2) (by omega) hX2 iF)).2.2.1)
      have HU := Lib.hid hul; clear hul
      have hu3 : (sumH p0 X2 (-2) (halfP p0 st0 X1 X2)).up.length = 3 := (isH_parts (sumH_is (p := p0) (k := -2) (by omega) hX2 iF)).2.2.1
      have hu4 : (sumH p0 X2 (-2) (halfP p0 st0 X1 X2)).dg.length = 3 := (isH_parts (sumH_is (p := p0) (k := -2) (by omega) hX2 iF)).1
      have hz1_ : w.heap.size + 1 + 1 + 1 + 1 + 1 ≤ w1.heap.size := by have := hb1.size; have := HWs.out; omega
      have rc0 := hr.c0; have rc1 := hr.c1; have rf0 := hr.f0; have rf1 := hr.f1
      go_wp2_with fail
      first | (refine hK _ _ ⟨rfl, ?_⟩; clear hK K) | refine ⟨rfl, ?_⟩
      go_wp2_with fail
      refine bodyPost_ret (v := .tuple #[.agg #[.slice (some ⟨g1, 0, none⟩) (sumH p0 X2 (-2) (halfP p0 st0 X1 X2)).dg.length cap1, .slice (some ⟨g2, 0, none⟩) us.length cap2], .int .i64 0]) (by simp [results, Try.results16, go_sem, rc0, rc1, HU.out, hu3, hu4]) rfl ⟨_, rfl, .inr ?_, ?_⟩
      · exact ((hv.set_ (by first | omega | (simp; done) | (simp; omega)) _).set_ (by first | omega | (simp; done) | (simp; omega)) _).more (below_le (by repeat (first | exact Below.refl _ _ | apply blw_drew | apply blw_alloc | (refine blw_set ?_ (by first | omega | (simp; done) | (simp; omega)) _) | refine below_chain ?_ (by assumption))))
      · exact blw_set (blw_set (by repeat (first | exact Below.refl _ _ | apply blw_drew | apply blw_alloc | (refine blw_set ?_ (by first | omega | (simp; done) | (simp; omega)) _) | refine below_chain ?_ (by assumption))) (by first | omega | (simp; done) | (simp; omega)) _) (by first | omega | (simp; done) | (simp; omega)) _
  · have e1 : RReflectAt1 p0 st0 X1 X2 = chkH p0 st0 [X1, X2] := by first | (unfold RReflectAt1; rw [if_neg h0]; done) | rfl
    rw [show RReflectAt0 p0 st0 X1 X2 = ⟨[], []⟩ from if_neg (by rw [e1]; exact h0), e1]; clear e1
    obtain ⟨k, hk⟩ : ∃ k, k = chkH p0 st0 [X1, X2] := ⟨_, rfl⟩
    rw [← hk] at h0 hcon ⊢
    clear hk
    have hne : (k == 0) = false := by simpa using h0
    go_enter Try.func16, Try.ntmps16
    go_wp2_with fail
    refine hcon.mono ?_; rintro e w1 ⟨rfl, hb1⟩
    rw [← hW] at hb1
    clear hW hcon
    have hr := hr.below hb1
    have rc0 := hr.c0; have rc1 := hr.c1; have rf0 := hr.f0; have rf1 := hr.f1
    go_wp2_with fail
    refine bodyPost_ret (v := .tuple #[.agg #[.slice none 0 0, .slice none 0 0], .int .i64 k]) (by simp [results, Try.results16, go_sem, rc0, rc1]) rfl ⟨_, rfl, .inl ⟨rfl, rfl⟩, ?_⟩
    exact blw_set (blw_set (by repeat (first | exact Below.refl _ _ | apply blw_drew | apply blw_alloc | (refine blw_set ?_ (by first | omega | (simp; done) | (simp; omega)) _) | refine below_chain ?_ (by assumption))) (by first | omega | (simp; done) | (simp; omega)) _) (by first | omega | (simp; done) | (simp; omega)) _
end Go.Proofs.Ytbllhcceakhhnaa
