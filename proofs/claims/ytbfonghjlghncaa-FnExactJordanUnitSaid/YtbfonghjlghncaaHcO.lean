/-
  JordanUnit: the program's and the reference's.
-/
import Derived.Test.YtbfonghjlghncaaHcN
import Derived.Test.YtbfonghjlghncaaLawE
import Derived.Test.YtbfonghjlghncaaMarkI
namespace Go.Proofs.Ytbfonghjlghncaa
open Go.RowKit

def RJordanUnit1 (p : Int) (st : List Int) : Int := chkH p st []
def RJordanUnit0 (p : Int) (st : List Int) : Her := if chkH p st [] = 0 then unitH (sz st.length) else ⟨[], []⟩
set_option maxRecDepth 100000 in
theorem iJordanUnit_c {p0 : Int} {x0 : Value} {st0 : List Int} {w : World} (hx0 : El w x0 st0) (hm0 : st0.length ≤ 1048576) :
    Calls Try.prog 28 #[.agg #[.int .i64 p0, x0]] w fun e w' => ∃ v0, e = .returned (.tuple #[v0, .int .i64 (RJordanUnit1 p0 st0)]) ∧ OwH w' w.heap.size v0 (RJordanUnit0 p0 st0) ∧ Below w.heap.size w w' := by
  obtain ⟨a0, c0, rfl, _⟩ := id hx0.op
  by_cases h0 : chkH p0 st0 [] = 0
  · have hd := (chkH_pos h0).1
    rw [show RJordanUnit0 p0 st0 = unitH (sz st0.length) from if_pos h0, show RJordanUnit1 p0 st0 = 0 from h0]
    have H0 := Lib.hid h0; clear h0
    go_enter Try.func28, Try.ntmps28
    have hb0 : Below w.heap.size w ((w.alloc (.cells #[.int .i64 p0, .slice a0 st0.length c0] 28)).alloc (.cells #[.slice none 0 0, .slice none 0 0] 38)) := (by repeat (first | exact Below.refl _ _ | apply blw_drew | apply blw_alloc | (refine blw_set ?_ (by first | omega | (simp; done) | (simp; omega)) _) | refine below_chain ?_ (by assumption)))
    have hx0 := hx0.below hb0
    have d0 : ((w.alloc (.cells #[.int .i64 p0, .slice a0 st0.length c0] 28)).alloc (.cells #[.slice none 0 0, .slice none 0 0] 38)).cell? ⟨w.heap.size, 0, none⟩ = some (.int .i64 p0) := by simp [go_sem]
    have d1 : ((w.alloc (.cells #[.int .i64 p0, .slice a0 st0.length c0] 28)).alloc (.cells #[.slice none 0 0, .slice none 0 0] 38)).cell? ⟨w.heap.size, 1, none⟩ = some (.slice a0 st0.length c0) := by simp [go_sem]
    have r0 : ((w.alloc (.cells #[.int .i64 p0, .slice a0 st0.length c0] 28)).alloc (.cells #[.slice none 0 0, .slice none 0 0] 38)).cell? ⟨w.heap.size + 1, 0, none⟩ = some (.slice none 0 0) := by simp [go_sem]
    have r1 : ((w.alloc (.cells #[.int .i64 p0, .slice a0 st0.length c0] 28)).alloc (.cells #[.slice none 0 0, .slice none 0 0] 38)).cell? ⟨w.heap.size + 1, 1, none⟩ = some (.slice none 0 0) := by simp [go_sem]
    have hr : Bx ((w.alloc (.cells #[.int .i64 p0, .slice a0 st0.length c0] 28)).alloc (.cells #[.slice none 0 0, .slice none 0 0] 38)) (w.heap.size + 1) (.slice none 0 0) (.slice none 0 0) := by rw [show w.heap.size + 1 = (w.alloc (.cells #[.int .i64 p0, .slice a0 st0.length c0] 28)).heap.size by simp]; exact heap_alloc_new _ _
    go_wp2_with fail
    refine (chk3_c hx0 (Re.nil _) hm0 (by simp) (by simp)).mono ?_; rintro e w1 ⟨rfl, hb1⟩
    have hx0 := hx0.below hb1; have d0 := kept hb1 d0; have d1 := kept hb1 d1; have hr := hr.below hb1
    rw [show chk3 p0 st0 [] = 0 from H0.out]
    go_wp2_with fail
    refine (junit_c hx0 hd.hl).mono ?_; rintro e w2 ⟨v, rfl, hv, hb2⟩
    have hx0 := hx0.below hb2; have d0 := kept hb2 d0; have d1 := kept hb2 d1; have hr := hr.below hb2
    obtain ⟨d, u, us, rfl, ⟨g1, cap1, rfl, h1⟩, hu, hne⟩ := id hv
    obtain ⟨g2, cap2, rfl, _⟩ := id hu
    have hul : us.length = 3 := by obtain ⟨_, _, _, _, h, _⟩ := hu; exact h
    have HU := Lib.hid hul; clear hul
    have hu3 : (unitH (sz st0.length)).up.length = 3 := rfl
    have hz1_ : w.heap.size + 1 + 1 ≤ w1.heap.size := by have := hb1.size; simpa using this
    have hz2_ : w1.heap.size ≤ w2.heap.size := hb2.size
    have rc0 := hr.c0; have rc1 := hr.c1; have rf0 := hr.f0; have rf1 := hr.f1
    go_wp2_with fail
    refine bodyPost_ret (v := .tuple #[.agg #[.slice (some ⟨g1, 0, none⟩) (unitH (sz st0.length)).dg.length cap1, .slice (some ⟨g2, 0, none⟩) us.length cap2], .int .i64 0]) (by simp [results, Try.results28, go_sem, rc0, rc1, HU.out, hu3]) rfl ⟨_, rfl, .inr ?_, ?_⟩
    · exact ((hv.set_ (by first | omega | (simp; done) | (simp; omega)) _).set_ (by first | omega | (simp; done) | (simp; omega)) _).more (by omega)
    · exact blw_set (blw_set (by repeat (first | exact Below.refl _ _ | apply blw_drew | apply blw_alloc | (refine blw_set ?_ (by first | omega | (simp; done) | (simp; omega)) _) | refine below_chain ?_ (by assumption))) (by first | omega | (simp; done) | (simp; omega)) _) (by first | omega | (simp; done) | (simp; omega)) _
  · rw [show RJordanUnit0 p0 st0 = ⟨[], []⟩ from if_neg h0, show RJordanUnit1 p0 st0 = chkH p0 st0 [] from rfl]
    obtain ⟨k, hk⟩ : ∃ k, k = chkH p0 st0 [] := ⟨_, rfl⟩
    rw [← hk] at h0 ⊢
    have HK := Lib.hid hk; clear hk
    have hne : (k == 0) = false := by simpa using h0
    go_enter Try.func28, Try.ntmps28
    have hb0 : Below w.heap.size w ((w.alloc (.cells #[.int .i64 p0, .slice a0 st0.length c0] 28)).alloc (.cells #[.slice none 0 0, .slice none 0 0] 38)) := (by repeat (first | exact Below.refl _ _ | apply blw_drew | apply blw_alloc | (refine blw_set ?_ (by first | omega | (simp; done) | (simp; omega)) _) | refine below_chain ?_ (by assumption)))
    have hx0 := hx0.below hb0
    have d0 : ((w.alloc (.cells #[.int .i64 p0, .slice a0 st0.length c0] 28)).alloc (.cells #[.slice none 0 0, .slice none 0 0] 38)).cell? ⟨w.heap.size, 0, none⟩ = some (.int .i64 p0) := by simp [go_sem]
    have d1 : ((w.alloc (.cells #[.int .i64 p0, .slice a0 st0.length c0] 28)).alloc (.cells #[.slice none 0 0, .slice none 0 0] 38)).cell? ⟨w.heap.size, 1, none⟩ = some (.slice a0 st0.length c0) := by simp [go_sem]
    have r0 : ((w.alloc (.cells #[.int .i64 p0, .slice a0 st0.length c0] 28)).alloc (.cells #[.slice none 0 0, .slice none 0 0] 38)).cell? ⟨w.heap.size + 1, 0, none⟩ = some (.slice none 0 0) := by simp [go_sem]
    have r1 : ((w.alloc (.cells #[.int .i64 p0, .slice a0 st0.length c0] 28)).alloc (.cells #[.slice none 0 0, .slice none 0 0] 38)).cell? ⟨w.heap.size + 1, 1, none⟩ = some (.slice none 0 0) := by simp [go_sem]
    have hr : Bx ((w.alloc (.cells #[.int .i64 p0, .slice a0 st0.length c0] 28)).alloc (.cells #[.slice none 0 0, .slice none 0 0] 38)) (w.heap.size + 1) (.slice none 0 0) (.slice none 0 0) := by rw [show w.heap.size + 1 = (w.alloc (.cells #[.int .i64 p0, .slice a0 st0.length c0] 28)).heap.size by simp]; exact heap_alloc_new _ _
    go_wp2_with fail
    refine (chk3_c hx0 (Re.nil _) hm0 (by simp) (by simp)).mono ?_; rintro e w1 ⟨rfl, hb1⟩
    have hx0 := hx0.below hb1; have d0 := kept hb1 d0; have d1 := kept hb1 d1; have hr := hr.below hb1
    rw [show chk3 p0 st0 [] = k from HK.out.symm]
    have rc0 := hr.c0; have rc1 := hr.c1; have rf0 := hr.f0; have rf1 := hr.f1
    go_wp2_with fail
    refine bodyPost_ret (v := .tuple #[.agg #[.slice none 0 0, .slice none 0 0], .int .i64 k]) (by simp [results, Try.results28, go_sem, rc0, rc1]) rfl ⟨_, rfl, .inl ⟨rfl, rfl⟩, ?_⟩
    exact blw_set (blw_set (by repeat (first | exact Below.refl _ _ | apply blw_drew | apply blw_alloc | (refine blw_set ?_ (by first | omega | (simp; done) | (simp; omega)) _) | refine below_chain ?_ (by assumption))) (by first | omega | (simp; done) | (simp; omega)) _) (by first | omega | (simp; done) | (simp; omega)) _
set_option maxRecDepth 100000 in
theorem sJordanUnit_c {p0 : Int} {x0 : Value} {st0 : List Int} {w : World} (hx0 : El w x0 st0) (hm0 : st0.length ≤ 1048576) :
    Calls Try.prog 27 #[.agg #[.int .i64 p0, x0]] w fun e w' => ∃ v0, e = .returned (.tuple #[v0, .int .i64 (RJordanUnit1 p0 st0)]) ∧ OwH w' w.heap.size v0 (RJordanUnit0 p0 st0) ∧ Below w.heap.size w w' := by
  obtain ⟨a0, c0, rfl, _⟩ := id hx0.op
  by_cases h0 : chkH p0 st0 [] = 0
  · have hd := (chkH_pos h0).1
    rw [show RJordanUnit0 p0 st0 = unitH (sz st0.length) from if_pos h0, show RJordanUnit1 p0 st0 = 0 from h0]
    have H0 := Lib.hid h0; clear h0
    go_enter Try.func27, Try.ntmps27
    have hb0 : Below w.heap.size w ((w.alloc (.cells #[.int .i64 p0, .slice a0 st0.length c0] 28)).alloc (.cells #[.slice none 0 0, .slice none 0 0] 38)) := (by repeat (first | exact Below.refl _ _ | apply blw_drew | apply blw_alloc | (refine blw_set ?_ (by first | omega | (simp; done) | (simp; omega)) _) | refine below_chain ?_ (by assumption)))
    have hx0 := hx0.below hb0
    have d0 : ((w.alloc (.cells #[.int .i64 p0, .slice a0 st0.length c0] 28)).alloc (.cells #[.slice none 0 0, .slice none 0 0] 38)).cell? ⟨w.heap.size, 0, none⟩ = some (.int .i64 p0) := by simp [go_sem]
    have d1 : ((w.alloc (.cells #[.int .i64 p0, .slice a0 st0.length c0] 28)).alloc (.cells #[.slice none 0 0, .slice none 0 0] 38)).cell? ⟨w.heap.size, 1, none⟩ = some (.slice a0 st0.length c0) := by simp [go_sem]
    have r0 : ((w.alloc (.cells #[.int .i64 p0, .slice a0 st0.length c0] 28)).alloc (.cells #[.slice none 0 0, .slice none 0 0] 38)).cell? ⟨w.heap.size + 1, 0, none⟩ = some (.slice none 0 0) := by simp [go_sem]
    have r1 : ((w.alloc (.cells #[.int .i64 p0, .slice a0 st0.length c0] 28)).alloc (.cells #[.slice none 0 0, .slice none 0 0] 38)).cell? ⟨w.heap.size + 1, 1, none⟩ = some (.slice none 0 0) := by simp [go_sem]
    have hr : Bx ((w.alloc (.cells #[.int .i64 p0, .slice a0 st0.length c0] 28)).alloc (.cells #[.slice none 0 0, .slice none 0 0] 38)) (w.heap.size + 1) (.slice none 0 0) (.slice none 0 0) := by rw [show w.heap.size + 1 = (w.alloc (.cells #[.int .i64 p0, .slice a0 st0.length c0] 28)).heap.size by simp]; exact heap_alloc_new _ _
    go_wp2_with fail
    refine (sl16_c hx0 hm0 ⟨none, 0, rfl, .inl rfl⟩ (by simp) (by simp)).mono ?_; rintro e w1 ⟨rfl, hb1⟩
    have hx0 := hx0.below hb1; have d0 := kept hb1 d0; have d1 := kept hb1 d1; have hr := hr.below hb1
    rw [show chkH p0 st0 [] = 0 from H0.out]
    go_wp2_with fail
    refine (sunit_c hx0 hd.hl).mono ?_; rintro e w2 ⟨v, rfl, hv, hb2⟩
    have hx0 := hx0.below hb2; have d0 := kept hb2 d0; have d1 := kept hb2 d1; have hr := hr.below hb2
    obtain ⟨d, u, us, rfl, ⟨g1, cap1, rfl, h1⟩, hu, hne⟩ := id hv
    obtain ⟨g2, cap2, rfl, _⟩ := id hu
    have hul : us.length = 3 := by obtain ⟨_, _, _, _, h, _⟩ := hu; exact h
    have HU := Lib.hid hul; clear hul
    have hu3 : (unitH (sz st0.length)).up.length = 3 := rfl
    have hz1_ : w.heap.size + 1 + 1 ≤ w1.heap.size := by have := hb1.size; simpa using this
    have hz2_ : w1.heap.size ≤ w2.heap.size := hb2.size
    have rc0 := hr.c0; have rc1 := hr.c1; have rf0 := hr.f0; have rf1 := hr.f1
    go_wp2_with fail
    refine bodyPost_ret (v := .tuple #[.agg #[.slice (some ⟨g1, 0, none⟩) (unitH (sz st0.length)).dg.length cap1, .slice (some ⟨g2, 0, none⟩) us.length cap2], .int .i64 0]) (by simp [results, Try.results27, go_sem, rc0, rc1, HU.out, hu3]) rfl ⟨_, rfl, .inr ?_, ?_⟩
    · exact ((hv.set_ (by first | omega | (simp; done) | (simp; omega)) _).set_ (by first | omega | (simp; done) | (simp; omega)) _).more (by omega)
    · exact blw_set (blw_set (by repeat (first | exact Below.refl _ _ | apply blw_drew | apply blw_alloc | (refine blw_set ?_ (by first | omega | (simp; done) | (simp; omega)) _) | refine below_chain ?_ (by assumption))) (by first | omega | (simp; done) | (simp; omega)) _) (by first | omega | (simp; done) | (simp; omega)) _
  · rw [show RJordanUnit0 p0 st0 = ⟨[], []⟩ from if_neg h0, show RJordanUnit1 p0 st0 = chkH p0 st0 [] from rfl]
    obtain ⟨k, hk⟩ : ∃ k, k = chkH p0 st0 [] := ⟨_, rfl⟩
    rw [← hk] at h0 ⊢
    have HK := Lib.hid hk; clear hk
    have hne : (k == 0) = false := by simpa using h0
    go_enter Try.func27, Try.ntmps27
    have hb0 : Below w.heap.size w ((w.alloc (.cells #[.int .i64 p0, .slice a0 st0.length c0] 28)).alloc (.cells #[.slice none 0 0, .slice none 0 0] 38)) := (by repeat (first | exact Below.refl _ _ | apply blw_drew | apply blw_alloc | (refine blw_set ?_ (by first | omega | (simp; done) | (simp; omega)) _) | refine below_chain ?_ (by assumption)))
    have hx0 := hx0.below hb0
    have d0 : ((w.alloc (.cells #[.int .i64 p0, .slice a0 st0.length c0] 28)).alloc (.cells #[.slice none 0 0, .slice none 0 0] 38)).cell? ⟨w.heap.size, 0, none⟩ = some (.int .i64 p0) := by simp [go_sem]
    have d1 : ((w.alloc (.cells #[.int .i64 p0, .slice a0 st0.length c0] 28)).alloc (.cells #[.slice none 0 0, .slice none 0 0] 38)).cell? ⟨w.heap.size, 1, none⟩ = some (.slice a0 st0.length c0) := by simp [go_sem]
    have r0 : ((w.alloc (.cells #[.int .i64 p0, .slice a0 st0.length c0] 28)).alloc (.cells #[.slice none 0 0, .slice none 0 0] 38)).cell? ⟨w.heap.size + 1, 0, none⟩ = some (.slice none 0 0) := by simp [go_sem]
    have r1 : ((w.alloc (.cells #[.int .i64 p0, .slice a0 st0.length c0] 28)).alloc (.cells #[.slice none 0 0, .slice none 0 0] 38)).cell? ⟨w.heap.size + 1, 1, none⟩ = some (.slice none 0 0) := by simp [go_sem]
    have hr : Bx ((w.alloc (.cells #[.int .i64 p0, .slice a0 st0.length c0] 28)).alloc (.cells #[.slice none 0 0, .slice none 0 0] 38)) (w.heap.size + 1) (.slice none 0 0) (.slice none 0 0) := by rw [show w.heap.size + 1 = (w.alloc (.cells #[.int .i64 p0, .slice a0 st0.length c0] 28)).heap.size by simp]; exact heap_alloc_new _ _
    go_wp2_with fail
    refine (sl16_c hx0 hm0 ⟨none, 0, rfl, .inl rfl⟩ (by simp) (by simp)).mono ?_; rintro e w1 ⟨rfl, hb1⟩
    have hx0 := hx0.below hb1; have d0 := kept hb1 d0; have d1 := kept hb1 d1; have hr := hr.below hb1
    rw [show chkH p0 st0 [] = k from HK.out.symm]
    have rc0 := hr.c0; have rc1 := hr.c1; have rf0 := hr.f0; have rf1 := hr.f1
    go_wp2_with fail
    refine bodyPost_ret (v := .tuple #[.agg #[.slice none 0 0, .slice none 0 0], .int .i64 k]) (by simp [results, Try.results27, go_sem, rc0, rc1]) rfl ⟨_, rfl, .inl ⟨rfl, rfl⟩, ?_⟩
    exact blw_set (blw_set (by repeat (first | exact Below.refl _ _ | apply blw_drew | apply blw_alloc | (refine blw_set ?_ (by first | omega | (simp; done) | (simp; omega)) _) | refine below_chain ?_ (by assumption))) (by first | omega | (simp; done) | (simp; omega)) _) (by first | omega | (simp; done) | (simp; omega)) _
end Go.Proofs.Ytbfonghjlghncaa
