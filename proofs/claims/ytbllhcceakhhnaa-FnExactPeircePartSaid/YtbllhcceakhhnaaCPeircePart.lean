/-
  PeircePart: the program's and the reference's.
-/
import Derived.Test.YtbllhcceakhhnaaHdE
import Derived.Test.YtbllhcceakhhnaaLawE
import Derived.Test.YtbllhcceakhhnaaMarkI
namespace Go.Proofs.Ytbllhcceakhhnaa
open Go.RowKit

def RPeircePart1 (p0 : Int) (st0 : List Int) (X1 : Her) (X2 : Her) (n3 : Int) : Int := if chkH p0 st0 [X1, X2] = 0 then (if inR n3 0 2 = true then (if idemH p0 st0 X1 = true then 0 else 5) else 2) else chkH p0 st0 [X1, X2]
def RPeircePart0 (p0 : Int) (st0 : List Int) (X1 : Her) (X2 : Her) (n3 : Int) : Her := if RPeircePart1 p0 st0 X1 X2 n3 = 0 then peirH p0 st0 X1 X2 n3 else ⟨[], []⟩
set_option maxHeartbeats 8000000 in
set_option maxRecDepth 100000 in
theorem iPeircePart_c {p0 : Int} {x0 : Value} {st0 : List Int} {x1 : Value} {X1 : Her} {x2 : Value} {X2 : Her} {n3 : Int} {w : World} (hx0 : El w x0 st0) (hm0 : st0.length ≤ 1048576) (hx1 : Hv w x1 X1) (hz1 : Hsz X1) (hx2 : Hv w x2 X2) (hz2 : Hsz X2) (lo3 : -9223372036854775808 ≤ n3) (hi3 : n3 ≤ 9223372036854775807) :
    Calls Try.prog 10 #[.agg #[.int .i64 p0, x0], x1, x2, .int .i64 n3] w fun e w' => ∃ v0, e = .returned (.tuple #[v0, .int .i64 (RPeircePart1 p0 st0 X1 X2 n3)]) ∧ OwH w' w.heap.size v0 (RPeircePart0 p0 st0 X1 X2 n3) ∧ Below w.heap.size w w' := by
  obtain ⟨a0, c0, rfl, _⟩ := id hx0.op
  obtain ⟨dv1, uv1, rfl, hd1_, hu1_⟩ := id hx1; obtain ⟨a1, c1, rfl, _⟩ := id hd1_.op; obtain ⟨b1, e1, rfl, _⟩ := id hu1_; clear hd1_ hu1_
  obtain ⟨dv2, uv2, rfl, hd2_, hu2_⟩ := id hx2; obtain ⟨a2, c2, rfl, _⟩ := id hd2_.op; obtain ⟨b2, e2, rfl, _⟩ := id hu2_; clear hd2_ hu2_
  obtain ⟨W, hW⟩ : ∃ W, W = (((((w.alloc (.cells #[.int .i64 p0, .slice a0 st0.length c0] 33)).alloc (.cells #[.slice a1 X1.dg.length c1, .slice b1 X1.up.length e1] 30)).alloc (.cells #[.slice a2 X2.dg.length c2, .slice b2 X2.up.length e2] 30)).alloc (.cells #[.slice none 0 0, .slice none 0 0] 30)).alloc (.cells #[.slice a1 X1.dg.length c1, .slice b1 X1.up.length e1, .slice a2 X2.dg.length c2, .slice b2 X2.up.length e2] 30)) := ⟨_, rfl⟩
  have hbW : Below w.heap.size w W := by rw [hW]; exact (by repeat (first | exact Below.refl _ _ | apply blw_drew | apply blw_alloc | (refine blw_set ?_ (by first | omega | (simp; done) | (simp; omega)) _) | refine below_chain ?_ (by assumption)))
  have hx0 := hx0.below hbW
  have hx1 := hx1.below hbW
  have hx2 := hx2.below hbW
  have d00 : W.cell? ⟨w.heap.size, 0, none⟩ = some (.int .i64 p0) := by rw [hW]; simp [go_sem]
  have d01 : W.cell? ⟨w.heap.size, 1, none⟩ = some (.slice a0 st0.length c0) := by rw [hW]; simp [go_sem]
  have d10 : W.cell? ⟨w.heap.size + 1, 0, none⟩ = some (.slice a1 X1.dg.length c1) := by rw [hW]; simp [go_sem]
  have d11 : W.cell? ⟨w.heap.size + 1, 1, none⟩ = some (.slice b1 X1.up.length e1) := by rw [hW]; simp [go_sem]
  have d20 : W.cell? ⟨w.heap.size + 1 + 1, 0, none⟩ = some (.slice a2 X2.dg.length c2) := by rw [hW]; simp [go_sem]
  have d21 : W.cell? ⟨w.heap.size + 1 + 1, 1, none⟩ = some (.slice b2 X2.up.length e2) := by rw [hW]; simp [go_sem]
  have hr : Bx W (w.heap.size + 1 + 1 + 1) (.slice none 0 0) (.slice none 0 0) := by rw [hW]; exact Bx.below (by unfold Bx; rw [show w.heap.size + 1 + 1 + 1 = (((w.alloc (.cells #[.int .i64 p0, .slice a0 st0.length c0] 33)).alloc (.cells #[.slice a1 X1.dg.length c1, .slice b1 X1.up.length e1] 30)).alloc (.cells #[.slice a2 X2.dg.length c2, .slice b2 X2.up.length e2] 30)).heap.size by simp]; exact heap_alloc_new _ _) (by repeat (first | exact Below.refl _ _ | apply blw_drew | apply blw_alloc | (refine blw_set ?_ (by first | omega | (simp; done) | (simp; omega)) _) | refine below_chain ?_ (by assumption)))
  have hWs : W.heap.size = w.heap.size + 1 + 1 + 1 + 1 + 1 := by rw [hW]; simp
  have gl : Lh W (.slice (some ⟨w.heap.size + 1 + 1 + 1 + 1, 0, none⟩) 2 2) [X1, X2] := Lh.two hx1 (by rw [hW]; simp [go_sem]) (by rw [hW]; simp [go_sem]) hx2 (by rw [hW]; simp [go_sem]) (by rw [hW]; simp [go_sem])
  have hcon := chkh_c (p := p0) hx0 hm0 gl (by intro X hX; simp at hX; rcases hX with rfl | rfl <;> assumption) (by simp)
  have HWs := Lib.hid hWs; clear hWs
  rw [hW] at hcon
  by_cases h0 : chkH p0 st0 [X1, X2] = 0
  · rw [h0] at hcon
    obtain ⟨hd, hall⟩ := chkH_pos h0
    have hX1 : isH p0 (sz st0.length) X1 = true := by simp at hall; exact hall.1
    have hX2 : isH p0 (sz st0.length) X2 = true := by simp at hall; exact hall.2
    clear hall
    have hp1 := hd.hp.lo; have hp2 := hd.hp.hi
    obtain ⟨bi, hbi⟩ : ∃ b, b = idemH p0 st0 X1 := ⟨_, rfl⟩
    have HI := Lib.hid hbi
    by_cases h2 : inR n3 0 2 = true
    · cases bi
      · skip
        have e1 : RPeircePart1 p0 st0 X1 X2 n3 = 5 := by unfold RPeircePart1; rw [if_pos h0, if_pos h2, if_neg (by rw [← hbi]; decide)]
        rw [show RPeircePart0 p0 st0 X1 X2 n3 = ⟨[], []⟩ from if_neg (by rw [e1]; decide), e1]
        clear e1
        clear hbi
        go_enter Try.func10, Try.ntmps10
        go_wp2_with fail
        refine hcon.mono ?_; rintro e w1 ⟨rfl, hb1⟩
        rw [← hW] at hb1
        clear hW hcon
        have hx0 := hx0.below hb1; have hx1 := hx1.below hb1; have hx2 := hx2.below hb1; have d00 := kept hb1 d00; have d01 := kept hb1 d01; have d10 := kept hb1 d10; have d11 := kept hb1 d11; have d20 := kept hb1 d20; have d21 := kept hb1 d21; have hr := hr.below hb1
        go_wp2_with fail
        refine (inRange_c).mono ?_; rintro e w22 ⟨rfl, rfl⟩
        go_wp2_with fail
        refine (idem_c hd hx0 hx1 hX1).mono ?_; rintro e w23 ⟨rfl, hb23⟩
        have hx0 := hx0.below hb23; have hx1 := hx1.below hb23; have hx2 := hx2.below hb23; have d00 := kept hb23 d00; have d01 := kept hb23 d01; have d10 := kept hb23 d10; have d11 := kept hb23 d11; have d20 := kept hb23 d20; have d21 := kept hb23 d21; have hr := hr.below hb23
        rw [← HI.out]
        have rc0 := hr.c0; have rc1 := hr.c1; have rf0 := hr.f0; have rf1 := hr.f1
        go_wp2_with fail
        refine bodyPost_ret (v := .tuple #[.agg #[.slice none 0 0, .slice none 0 0], .int .i64 5]) (by simp [results, Try.results10, go_sem, rc0, rc1]) rfl ⟨_, rfl, .inl ⟨rfl, rfl⟩, ?_⟩
        exact blw_set (blw_set (by repeat (first | exact Below.refl _ _ | apply blw_drew | apply blw_alloc | (refine blw_set ?_ (by first | omega | (simp; done) | (simp; omega)) _) | refine below_chain ?_ (by assumption))) (by first | omega | (simp; done) | (simp; omega)) _) (by first | omega | (simp; done) | (simp; omega)) _
      · skip
        have e1 : RPeircePart1 p0 st0 X1 X2 n3 = 0 := by unfold RPeircePart1; rw [if_pos h0, if_pos h2, if_pos hbi.symm]
        rw [show RPeircePart0 p0 st0 X1 X2 n3 = peirH p0 st0 X1 X2 n3 from if_pos e1, e1]
        clear e1
        clear hbi
        go_enter Try.func10, Try.ntmps10
        go_wp2_with fail
        refine hcon.mono ?_; rintro e w1 ⟨rfl, hb1⟩
        rw [← hW] at hb1
        clear hW hcon
        have hx0 := hx0.below hb1; have hx1 := hx1.below hb1; have hx2 := hx2.below hb1; have d00 := kept hb1 d00; have d01 := kept hb1 d01; have d10 := kept hb1 d10; have d11 := kept hb1 d11; have d20 := kept hb1 d20; have d21 := kept hb1 d21; have hr := hr.below hb1
        go_wp2_with fail
        refine (inRange_c).mono ?_; rintro e w22 ⟨rfl, rfl⟩
        go_wp2_with fail
        refine (idem_c hd hx0 hx1 hX1).mono ?_; rintro e w23 ⟨rfl, hb23⟩
        have hx0 := hx0.below hb23; have hx1 := hx1.below hb23; have hx2 := hx2.below hb23; have d00 := kept hb23 d00; have d01 := kept hb23 d01; have d10 := kept hb23 d10; have d11 := kept hb23 d11; have d20 := kept hb23 d20; have d21 := kept hb23 d21; have hr := hr.below hb23
        rw [← HI.out]
        have hzc_ : w1.heap.size ≤ (w23).heap.size := (below_le (by repeat (first | exact Below.refl _ _ | apply blw_drew | apply blw_alloc | (refine blw_set ?_ (by first | omega | (simp; done) | (simp; omega)) _) | refine below_chain ?_ (by assumption))))
        (try simp at hzc_)
        go_wp2_with fail
        refine (peirce_c hd hx0 hx1 hX1 hx2 hX2).mono ?_; rintro e w24 ⟨v, rfl, hv, hb24⟩
        have hx0 := hx0.below hb24; have hx1 := hx1.below hb24; have hx2 := hx2.below hb24; have d00 := kept hb24 d00; have d01 := kept hb24 d01; have d10 := kept hb24 d10; have d11 := kept hb24 d11; have d20 := kept hb24 d20; have d21 := kept hb24 d21; have hr := hr.below hb24
        obtain ⟨d, u, us, rfl, ⟨g1, cap1, rfl, h1⟩, hu, hne⟩ := id hv
        obtain ⟨g2, cap2, rfl, _⟩ := id hu
        have hul : us.length = 3 := by obtain ⟨_, _, _, _, h, _⟩ := hu; first | exact h | exact h.trans ((isH_parts (peirH_is (p := p0) (k := n3) (by omega) hX1 hX2)).2.2.1)
        have HU := Lib.hid hul; clear hul
        have hu3 : (peirH p0 st0 X1 X2 n3).up.length = 3 := (isH_parts (peirH_is (p := p0) (k := n3) (by omega) hX1 hX2)).2.2.1
        have hu4 : (peirH p0 st0 X1 X2 n3).dg.length = 3 := (isH_parts (peirH_is (p := p0) (k := n3) (by omega) hX1 hX2)).1
        have hz1_ : w.heap.size + 1 + 1 + 1 + 1 + 1 ≤ w1.heap.size := by have := hb1.size; have := HWs.out; omega
        have rc0 := hr.c0; have rc1 := hr.c1; have rf0 := hr.f0; have rf1 := hr.f1
        go_wp2_with fail
        refine bodyPost_ret (v := .tuple #[.agg #[.slice (some ⟨g1, 0, none⟩) (peirH p0 st0 X1 X2 n3).dg.length cap1, .slice (some ⟨g2, 0, none⟩) us.length cap2], .int .i64 0]) (by simp [results, Try.results10, go_sem, rc0, rc1, HU.out, hu3, hu4]) rfl ⟨_, rfl, .inr ?_, ?_⟩
        · exact ((hv.set_ (by first | omega | (simp; done) | (simp; omega)) _).set_ (by first | omega | (simp; done) | (simp; omega)) _).more (below_le (by repeat (first | exact Below.refl _ _ | apply blw_drew | apply blw_alloc | (refine blw_set ?_ (by first | omega | (simp; done) | (simp; omega)) _) | refine below_chain ?_ (by assumption))))
        · exact blw_set (blw_set (by repeat (first | exact Below.refl _ _ | apply blw_drew | apply blw_alloc | (refine blw_set ?_ (by first | omega | (simp; done) | (simp; omega)) _) | refine below_chain ?_ (by assumption))) (by first | omega | (simp; done) | (simp; omega)) _) (by first | omega | (simp; done) | (simp; omega)) _
    · have h3 : inR n3 0 2 = false := by simpa using h2
      have e1 : RPeircePart1 p0 st0 X1 X2 n3 = 2 := by unfold RPeircePart1; rw [if_pos h0, if_neg h2]
      rw [show RPeircePart0 p0 st0 X1 X2 n3 = ⟨[], []⟩ from if_neg (by rw [e1]; decide), e1]
      clear e1
      clear hbi
      go_enter Try.func10, Try.ntmps10
      go_wp2_with fail
      refine hcon.mono ?_; rintro e w1 ⟨rfl, hb1⟩
      rw [← hW] at hb1
      clear hW hcon
      have hx0 := hx0.below hb1; have hx1 := hx1.below hb1; have hx2 := hx2.below hb1; have d00 := kept hb1 d00; have d01 := kept hb1 d01; have d10 := kept hb1 d10; have d11 := kept hb1 d11; have d20 := kept hb1 d20; have d21 := kept hb1 d21; have hr := hr.below hb1
      go_wp2_with fail
      refine (inRange_c).mono ?_; rintro e w22 ⟨rfl, rfl⟩
      have rc0 := hr.c0; have rc1 := hr.c1; have rf0 := hr.f0; have rf1 := hr.f1
      go_wp2_with fail
      refine bodyPost_ret (v := .tuple #[.agg #[.slice none 0 0, .slice none 0 0], .int .i64 2]) (by simp [results, Try.results10, go_sem, rc0, rc1]) rfl ⟨_, rfl, .inl ⟨rfl, rfl⟩, ?_⟩
      exact blw_set (blw_set (by repeat (first | exact Below.refl _ _ | apply blw_drew | apply blw_alloc | (refine blw_set ?_ (by first | omega | (simp; done) | (simp; omega)) _) | refine below_chain ?_ (by assumption))) (by first | omega | (simp; done) | (simp; omega)) _) (by first | omega | (simp; done) | (simp; omega)) _
  · have e1 : RPeircePart1 p0 st0 X1 X2 n3 = chkH p0 st0 [X1, X2] := by first | (unfold RPeircePart1; rw [if_neg h0]; done) | rfl
    rw [show RPeircePart0 p0 st0 X1 X2 n3 = ⟨[], []⟩ from if_neg (by rw [e1]; exact h0), e1]; clear e1
    obtain ⟨k, hk⟩ : ∃ k, k = chkH p0 st0 [X1, X2] := ⟨_, rfl⟩
    rw [← hk] at h0 hcon ⊢
    clear hk
    have hne : (k == 0) = false := by simpa using h0
    go_enter Try.func10, Try.ntmps10
    go_wp2_with fail
    refine hcon.mono ?_; rintro e w1 ⟨rfl, hb1⟩
    rw [← hW] at hb1
    clear hW hcon
    have hr := hr.below hb1
    have rc0 := hr.c0; have rc1 := hr.c1; have rf0 := hr.f0; have rf1 := hr.f1
    go_wp2_with fail
    refine bodyPost_ret (v := .tuple #[.agg #[.slice none 0 0, .slice none 0 0], .int .i64 k]) (by simp [results, Try.results10, go_sem, rc0, rc1]) rfl ⟨_, rfl, .inl ⟨rfl, rfl⟩, ?_⟩
    exact blw_set (blw_set (by repeat (first | exact Below.refl _ _ | apply blw_drew | apply blw_alloc | (refine blw_set ?_ (by first | omega | (simp; done) | (simp; omega)) _) | refine below_chain ?_ (by assumption))) (by first | omega | (simp; done) | (simp; omega)) _) (by first | omega | (simp; done) | (simp; omega)) _
set_option maxHeartbeats 8000000 in
set_option maxRecDepth 100000 in
theorem sPeircePart_c {p0 : Int} {x0 : Value} {st0 : List Int} {x1 : Value} {X1 : Her} {x2 : Value} {X2 : Her} {n3 : Int} {w : World} (hx0 : El w x0 st0) (hm0 : st0.length ≤ 1048576) (hx1 : Hv w x1 X1) (hz1 : Hsz X1) (hx2 : Hv w x2 X2) (hz2 : Hsz X2) (lo3 : -9223372036854775808 ≤ n3) (hi3 : n3 ≤ 9223372036854775807) :
    Calls Try.prog 7 #[.agg #[.int .i64 p0, x0], x1, x2, .int .i64 n3] w fun e w' => ∃ v0, e = .returned (.tuple #[v0, .int .i64 (RPeircePart1 p0 st0 X1 X2 n3)]) ∧ OwH w' w.heap.size v0 (RPeircePart0 p0 st0 X1 X2 n3) ∧ Below w.heap.size w w' := by
  obtain ⟨a0, c0, rfl, _⟩ := id hx0.op
  obtain ⟨dv1, uv1, rfl, hd1_, hu1_⟩ := id hx1; obtain ⟨a1, c1, rfl, _⟩ := id hd1_.op; obtain ⟨b1, e1, rfl, _⟩ := id hu1_; clear hd1_ hu1_
  obtain ⟨dv2, uv2, rfl, hd2_, hu2_⟩ := id hx2; obtain ⟨a2, c2, rfl, _⟩ := id hd2_.op; obtain ⟨b2, e2, rfl, _⟩ := id hu2_; clear hd2_ hu2_
  obtain ⟨W, hW⟩ : ∃ W, W = (((((w.alloc (.cells #[.int .i64 p0, .slice a0 st0.length c0] 33)).alloc (.cells #[.slice a1 X1.dg.length c1, .slice b1 X1.up.length e1] 30)).alloc (.cells #[.slice a2 X2.dg.length c2, .slice b2 X2.up.length e2] 30)).alloc (.cells #[.slice none 0 0, .slice none 0 0] 30)).alloc (.cells #[.slice a1 X1.dg.length c1, .slice b1 X1.up.length e1, .slice a2 X2.dg.length c2, .slice b2 X2.up.length e2] 30)) := ⟨_, rfl⟩
  have hbW : Below w.heap.size w W := by rw [hW]; exact (by repeat (first | exact Below.refl _ _ | apply blw_drew | apply blw_alloc | (refine blw_set ?_ (by first | omega | (simp; done) | (simp; omega)) _) | refine below_chain ?_ (by assumption)))
  have hx0 := hx0.below hbW
  have hx1 := hx1.below hbW
  have hx2 := hx2.below hbW
  have d00 : W.cell? ⟨w.heap.size, 0, none⟩ = some (.int .i64 p0) := by rw [hW]; simp [go_sem]
  have d01 : W.cell? ⟨w.heap.size, 1, none⟩ = some (.slice a0 st0.length c0) := by rw [hW]; simp [go_sem]
  have d10 : W.cell? ⟨w.heap.size + 1, 0, none⟩ = some (.slice a1 X1.dg.length c1) := by rw [hW]; simp [go_sem]
  have d11 : W.cell? ⟨w.heap.size + 1, 1, none⟩ = some (.slice b1 X1.up.length e1) := by rw [hW]; simp [go_sem]
  have d20 : W.cell? ⟨w.heap.size + 1 + 1, 0, none⟩ = some (.slice a2 X2.dg.length c2) := by rw [hW]; simp [go_sem]
  have d21 : W.cell? ⟨w.heap.size + 1 + 1, 1, none⟩ = some (.slice b2 X2.up.length e2) := by rw [hW]; simp [go_sem]
  have hr : Bx W (w.heap.size + 1 + 1 + 1) (.slice none 0 0) (.slice none 0 0) := by rw [hW]; exact Bx.below (by unfold Bx; rw [show w.heap.size + 1 + 1 + 1 = (((w.alloc (.cells #[.int .i64 p0, .slice a0 st0.length c0] 33)).alloc (.cells #[.slice a1 X1.dg.length c1, .slice b1 X1.up.length e1] 30)).alloc (.cells #[.slice a2 X2.dg.length c2, .slice b2 X2.up.length e2] 30)).heap.size by simp]; exact heap_alloc_new _ _) (by repeat (first | exact Below.refl _ _ | apply blw_drew | apply blw_alloc | (refine blw_set ?_ (by first | omega | (simp; done) | (simp; omega)) _) | refine below_chain ?_ (by assumption)))
  have hWs : W.heap.size = w.heap.size + 1 + 1 + 1 + 1 + 1 := by rw [hW]; simp
  have gl : Lh W (.slice (some ⟨w.heap.size + 1 + 1 + 1 + 1, 0, none⟩) 2 2) [X1, X2] := Lh.two hx1 (by rw [hW]; simp [go_sem]) (by rw [hW]; simp [go_sem]) hx2 (by rw [hW]; simp [go_sem]) (by rw [hW]; simp [go_sem])
  have hcon := sl16_c (p := p0) hx0 hm0 gl (by intro X hX; simp at hX; rcases hX with rfl | rfl <;> assumption) (by simp)
  have HWs := Lib.hid hWs; clear hWs
  rw [hW] at hcon
  by_cases h0 : chkH p0 st0 [X1, X2] = 0
  · rw [h0] at hcon
    obtain ⟨hd, hall⟩ := chkH_pos h0
    have hX1 : isH p0 (sz st0.length) X1 = true := by simp at hall; exact hall.1
    have hX2 : isH p0 (sz st0.length) X2 = true := by simp at hall; exact hall.2
    clear hall
    have hp1 := hd.hp.lo; have hp2 := hd.hp.hi
    obtain ⟨bi, hbi⟩ : ∃ b, b = idemH p0 st0 X1 := ⟨_, rfl⟩
    have HI := Lib.hid hbi
    by_cases h2 : inR n3 0 2 = true
    · cases bi
      · skip
        have e1 : RPeircePart1 p0 st0 X1 X2 n3 = 5 := by unfold RPeircePart1; rw [if_pos h0, if_pos h2, if_neg (by rw [← hbi]; decide)]
        rw [show RPeircePart0 p0 st0 X1 X2 n3 = ⟨[], []⟩ from if_neg (by rw [e1]; decide), e1]
        clear e1
        clear hbi
        go_enter Try.func7, Try.ntmps7
        go_wp2_with fail
        refine hcon.mono ?_; rintro e w1 ⟨rfl, hb1⟩
        rw [← hW] at hb1
        clear hW hcon
        have hx0 := hx0.below hb1; have hx1 := hx1.below hb1; have hx2 := hx2.below hb1; have d00 := kept hb1 d00; have d01 := kept hb1 d01; have d10 := kept hb1 d10; have d11 := kept hb1 d11; have d20 := kept hb1 d20; have d21 := kept hb1 d21; have hr := hr.below hb1
        go_wp2_with fail
        refine (sin_c).mono ?_; rintro e w22 ⟨rfl, rfl⟩
        go_wp2_with fail
        refine (sidem_c hd hx0 hx1 hX1).mono ?_; rintro e w23 ⟨rfl, hb23⟩
        have hx0 := hx0.below hb23; have hx1 := hx1.below hb23; have hx2 := hx2.below hb23; have d00 := kept hb23 d00; have d01 := kept hb23 d01; have d10 := kept hb23 d10; have d11 := kept hb23 d11; have d20 := kept hb23 d20; have d21 := kept hb23 d21; have hr := hr.below hb23
        rw [← HI.out]
        have rc0 := hr.c0; have rc1 := hr.c1; have rf0 := hr.f0; have rf1 := hr.f1
        go_wp2_with fail
        refine bodyPost_ret (v := .tuple #[.agg #[.slice none 0 0, .slice none 0 0], .int .i64 5]) (by simp [results, Try.results7, go_sem, rc0, rc1]) rfl ⟨_, rfl, .inl ⟨rfl, rfl⟩, ?_⟩
        exact blw_set (blw_set (by repeat (first | exact Below.refl _ _ | apply blw_drew | apply blw_alloc | (refine blw_set ?_ (by first | omega | (simp; done) | (simp; omega)) _) | refine below_chain ?_ (by assumption))) (by first | omega | (simp; done) | (simp; omega)) _) (by first | omega | (simp; done) | (simp; omega)) _
      · skip
        have e1 : RPeircePart1 p0 st0 X1 X2 n3 = 0 := by unfold RPeircePart1; rw [if_pos h0, if_pos h2, if_pos hbi.symm]
        rw [show RPeircePart0 p0 st0 X1 X2 n3 = peirH p0 st0 X1 X2 n3 from if_pos e1, e1]
        clear e1
        clear hbi
        go_enter Try.func7, Try.ntmps7
        go_wp2_with fail
        refine hcon.mono ?_; rintro e w1 ⟨rfl, hb1⟩
        rw [← hW] at hb1
        clear hW hcon
        have hx0 := hx0.below hb1; have hx1 := hx1.below hb1; have hx2 := hx2.below hb1; have d00 := kept hb1 d00; have d01 := kept hb1 d01; have d10 := kept hb1 d10; have d11 := kept hb1 d11; have d20 := kept hb1 d20; have d21 := kept hb1 d21; have hr := hr.below hb1
        go_wp2_with fail
        refine (sin_c).mono ?_; rintro e w22 ⟨rfl, rfl⟩
        go_wp2_with fail
        refine (sidem_c hd hx0 hx1 hX1).mono ?_; rintro e w23 ⟨rfl, hb23⟩
        have hx0 := hx0.below hb23; have hx1 := hx1.below hb23; have hx2 := hx2.below hb23; have d00 := kept hb23 d00; have d01 := kept hb23 d01; have d10 := kept hb23 d10; have d11 := kept hb23 d11; have d20 := kept hb23 d20; have d21 := kept hb23 d21; have hr := hr.below hb23
        rw [← HI.out]
        have hzc_ : w1.heap.size ≤ (w23).heap.size := (below_le (by repeat (first | exact Below.refl _ _ | apply blw_drew | apply blw_alloc | (refine blw_set ?_ (by first | omega | (simp; done) | (simp; omega)) _) | refine below_chain ?_ (by assumption))))
        (try simp at hzc_)
        go_wp2_with fail
        refine (speirce_c hd hx0 hx1 hX1 hx2 hX2).mono ?_; rintro e w24 ⟨v, rfl, hv, hb24⟩
        have hx0 := hx0.below hb24; have hx1 := hx1.below hb24; have hx2 := hx2.below hb24; have d00 := kept hb24 d00; have d01 := kept hb24 d01; have d10 := kept hb24 d10; have d11 := kept hb24 d11; have d20 := kept hb24 d20; have d21 := kept hb24 d21; have hr := hr.below hb24
        obtain ⟨d, u, us, rfl, ⟨g1, cap1, rfl, h1⟩, hu, hne⟩ := id hv
        obtain ⟨g2, cap2, rfl, _⟩ := id hu
        have hul : us.length = 3 := by obtain ⟨_, _, _, _, h, _⟩ := hu; first | exact h | exact h.trans ((isH_parts (peirH_is (p := p0) (k := n3) (by omega) hX1 hX2)).2.2.1)
        have HU := Lib.hid hul; clear hul
        have hu3 : (peirH p0 st0 X1 X2 n3).up.length = 3 := (isH_parts (peirH_is (p := p0) (k := n3) (by omega) hX1 hX2)).2.2.1
        have hu4 : (peirH p0 st0 X1 X2 n3).dg.length = 3 := (isH_parts (peirH_is (p := p0) (k := n3) (by omega) hX1 hX2)).1
        have hz1_ : w.heap.size + 1 + 1 + 1 + 1 + 1 ≤ w1.heap.size := by have := hb1.size; have := HWs.out; omega
        have rc0 := hr.c0; have rc1 := hr.c1; have rf0 := hr.f0; have rf1 := hr.f1
        go_wp2_with fail
        refine bodyPost_ret (v := .tuple #[.agg #[.slice (some ⟨g1, 0, none⟩) (peirH p0 st0 X1 X2 n3).dg.length cap1, .slice (some ⟨g2, 0, none⟩) us.length cap2], .int .i64 0]) (by simp [results, Try.results7, go_sem, rc0, rc1, HU.out, hu3, hu4]) rfl ⟨_, rfl, .inr ?_, ?_⟩
        · exact ((hv.set_ (by first | omega | (simp; done) | (simp; omega)) _).set_ (by first | omega | (simp; done) | (simp; omega)) _).more (below_le (by repeat (first | exact Below.refl _ _ | apply blw_drew | apply blw_alloc | (refine blw_set ?_ (by first | omega | (simp; done) | (simp; omega)) _) | refine below_chain ?_ (by assumption))))
        · exact blw_set (blw_set (by repeat (first | exact Below.refl _ _ | apply blw_drew | apply blw_alloc | (refine blw_set ?_ (by first | omega | (simp; done) | (simp; omega)) _) | refine below_chain ?_ (by assumption))) (by first | omega | (simp; done) | (simp; omega)) _) (by first | omega | (simp; done) | (simp; omega)) _
    · have h3 : inR n3 0 2 = false := by simpa using h2
      have e1 : RPeircePart1 p0 st0 X1 X2 n3 = 2 := by unfold RPeircePart1; rw [if_pos h0, if_neg h2]
      rw [show RPeircePart0 p0 st0 X1 X2 n3 = ⟨[], []⟩ from if_neg (by rw [e1]; decide), e1]
      clear e1
      clear hbi
      go_enter Try.func7, Try.ntmps7
      go_wp2_with fail
      refine hcon.mono ?_; rintro e w1 ⟨rfl, hb1⟩
      rw [← hW] at hb1
      clear hW hcon
      have hx0 := hx0.below hb1; have hx1 := hx1.below hb1; have hx2 := hx2.below hb1; have d00 := kept hb1 d00; have d01 := kept hb1 d01; have d10 := kept hb1 d10; have d11 := kept hb1 d11; have d20 := kept hb1 d20; have d21 := kept hb1 d21; have hr := hr.below hb1
      go_wp2_with fail
      refine (sin_c).mono ?_; rintro e w22 ⟨rfl, rfl⟩
      have rc0 := hr.c0; have rc1 := hr.c1; have rf0 := hr.f0; have rf1 := hr.f1
      go_wp2_with fail
      refine bodyPost_ret (v := .tuple #[.agg #[.slice none 0 0, .slice none 0 0], .int .i64 2]) (by simp [results, Try.results7, go_sem, rc0, rc1]) rfl ⟨_, rfl, .inl ⟨rfl, rfl⟩, ?_⟩
      exact blw_set (blw_set (by repeat (first | exact Below.refl _ _ | apply blw_drew | apply blw_alloc | (refine blw_set ?_ (by first | omega | (simp; done) | (simp; omega)) _) | refine below_chain ?_ (by assumption))) (by first | omega | (simp; done) | (simp; omega)) _) (by first | omega | (simp; done) | (simp; omega)) _
  · have e1 : RPeircePart1 p0 st0 X1 X2 n3 = chkH p0 st0 [X1, X2] := by first | (unfold RPeircePart1; rw [if_neg h0]; done) | rfl
    rw [show RPeircePart0 p0 st0 X1 X2 n3 = ⟨[], []⟩ from if_neg (by rw [e1]; exact h0), e1]; clear e1
    obtain ⟨k, hk⟩ : ∃ k, k = chkH p0 st0 [X1, X2] := ⟨_, rfl⟩
    rw [← hk] at h0 hcon ⊢
    clear hk
    have hne : (k == 0) = false := by simpa using h0
    go_enter Try.func7, Try.ntmps7
    go_wp2_with fail
    refine hcon.mono ?_; rintro e w1 ⟨rfl, hb1⟩
    rw [← hW] at hb1
    clear hW hcon
    have hr := hr.below hb1
    have rc0 := hr.c0; have rc1 := hr.c1; have rf0 := hr.f0; have rf1 := hr.f1
    go_wp2_with fail
    refine bodyPost_ret (v := .tuple #[.agg #[.slice none 0 0, .slice none 0 0], .int .i64 k]) (by simp [results, Try.results7, go_sem, rc0, rc1]) rfl ⟨_, rfl, .inl ⟨rfl, rfl⟩, ?_⟩
    exact blw_set (blw_set (by repeat (first | exact Below.refl _ _ | apply blw_drew | apply blw_alloc | (refine blw_set ?_ (by first | omega | (simp; done) | (simp; omega)) _) | refine below_chain ?_ (by assumption))) (by first | omega | (simp; done) | (simp; omega)) _) (by first | omega | (simp; done) | (simp; omega)) _
end Go.Proofs.Ytbllhcceakhhnaa
