/- Texts joined for a claim: CJordanSum, LJordanDeterminant, LJordanPairing. -/
import Derived.Test.YtgcelfnjijhmkaaGreatHcT
import Derived.Test.YtgcelfnjijhmkaaGreatJbb
import Derived.Test.YtgcelfnjijhmkaaGreatJan
import Derived.Test.YtgcelfnjijhmkaaGreatHcD
import Derived.Test.YtgcelfnjijhmkaaGreatJbc
/-
  JordanSum: the program's and the reference's.
-/
namespace Go.Proofs.YtgcelfnjijhmkaaGreat
open Go.RowKit

def RJordanSum1 (p0 : Int) (st0 : List Int) (X1 : Her) (n2 : Int) (X3 : Her) : Int := if chkH p0 st0 [X1, X3] = 0 then (if inR n2 0 (p0 - 1) = true then 0 else 2) else chkH p0 st0 [X1, X3]
def RJordanSum0 (p0 : Int) (st0 : List Int) (X1 : Her) (n2 : Int) (X3 : Her) : Her := if RJordanSum1 p0 st0 X1 n2 X3 = 0 then sumH p0 X1 n2 X3 else ⟨[], []⟩
set_option maxHeartbeats 2000000 in
set_option maxRecDepth 100000 in
theorem iJordanSum_c {p0 : Int} {x0 : Value} {st0 : List Int} {x1 : Value} {X1 : Her} {n2 : Int} {x3 : Value} {X3 : Her} {w : World} (hx0 : El w x0 st0) (hm0 : st0.length ≤ 1048576) (hx1 : Hv w x1 X1) (hz1 : Hsz X1) (lo2 : -9223372036854775808 ≤ n2) (hi2 : n2 ≤ 9223372036854775807) (hx3 : Hv w x3 X3) (hz3 : Hsz X3) :
    Calls Tryz.prog 56 #[.agg #[.int .i64 p0, x0], x1, .int .i64 n2, x3] w fun e w' => ∃ v0, e = .returned (.tuple #[v0, .int .i64 (RJordanSum1 p0 st0 X1 n2 X3)]) ∧ OwH w' w.heap.size v0 (RJordanSum0 p0 st0 X1 n2 X3) ∧ Below w.heap.size w w' := by
  obtain ⟨a0, c0, rfl, _⟩ := id hx0.op
  obtain ⟨dv1, uv1, rfl, hd1_, hu1_⟩ := id hx1; obtain ⟨a1, c1, rfl, _⟩ := id hd1_.op; obtain ⟨b1, e1, rfl, _⟩ := id hu1_; clear hd1_ hu1_
  obtain ⟨dv3, uv3, rfl, hd3_, hu3_⟩ := id hx3; obtain ⟨a3, c3, rfl, _⟩ := id hd3_.op; obtain ⟨b3, e3, rfl, _⟩ := id hu3_; clear hd3_ hu3_
  obtain ⟨W, hW⟩ : ∃ W, W = (((((w.alloc (.cells #[.int .i64 p0, .slice a0 st0.length c0] 26)).alloc (.cells #[.slice a1 X1.dg.length c1, .slice b1 X1.up.length e1] 31)).alloc (.cells #[.slice a3 X3.dg.length c3, .slice b3 X3.up.length e3] 31)).alloc (.cells #[.slice none 0 0, .slice none 0 0] 31)).alloc (.cells #[.slice a1 X1.dg.length c1, .slice b1 X1.up.length e1, .slice a3 X3.dg.length c3, .slice b3 X3.up.length e3] 31)) := ⟨_, rfl⟩
  have hbW : Below w.heap.size w W := by rw [hW]; exact (by repeat (first | exact .refl _ _ | apply bwD | apply bwA | (refine bwS ?_ (by first | omega | simp <;> omega) _) | refine bwC ?_ (by assumption)))
  have hx0 := hx0.below hbW
  have hx1 := hx1.below hbW
  have hx3 := hx3.below hbW
  have d00 : W.cell? ⟨w.heap.size, 0, none⟩ = some (.int .i64 p0) := by rw [hW]; simp [go_sem]
  have d01 : W.cell? ⟨w.heap.size, 1, none⟩ = some (.slice a0 st0.length c0) := by rw [hW]; simp [go_sem]
  have d10 : W.cell? ⟨w.heap.size + 1, 0, none⟩ = some (.slice a1 X1.dg.length c1) := by rw [hW]; simp [go_sem]
  have d11 : W.cell? ⟨w.heap.size + 1, 1, none⟩ = some (.slice b1 X1.up.length e1) := by rw [hW]; simp [go_sem]
  have d30 : W.cell? ⟨w.heap.size + 1 + 1, 0, none⟩ = some (.slice a3 X3.dg.length c3) := by rw [hW]; simp [go_sem]
  have d31 : W.cell? ⟨w.heap.size + 1 + 1, 1, none⟩ = some (.slice b3 X3.up.length e3) := by rw [hW]; simp [go_sem]
  have hr : Bx W (w.heap.size + 1 + 1 + 1) (.slice none 0 0) (.slice none 0 0) := by rw [hW]; exact Bx.below (by unfold Bx; rw [show w.heap.size + 1 + 1 + 1 = (((w.alloc (.cells #[.int .i64 p0, .slice a0 st0.length c0] 26)).alloc (.cells #[.slice a1 X1.dg.length c1, .slice b1 X1.up.length e1] 31)).alloc (.cells #[.slice a3 X3.dg.length c3, .slice b3 X3.up.length e3] 31)).heap.size by simp]; exact heap_alloc_new _ _) (by repeat (first | exact .refl _ _ | apply bwD | apply bwA | (refine bwS ?_ (by first | omega | simp <;> omega) _) | refine bwC ?_ (by assumption)))
  have hWs : W.heap.size = w.heap.size + 1 + 1 + 1 + 1 + 1 := by rw [hW]; simp
  have gl : Lh W (.slice (some ⟨w.heap.size + 1 + 1 + 1 + 1, 0, none⟩) 2 2) [X1, X3] := Lh.two hx1 (by rw [hW]; simp [go_sem]) (by rw [hW]; simp [go_sem]) hx3 (by rw [hW]; simp [go_sem]) (by rw [hW]; simp [go_sem])
  have hcon := chkh_c (p := p0) hx0 hm0 gl (by intro X hX; simp at hX; rcases hX with rfl | rfl <;> assumption) (by simp)
  have HWs := Lib.hid hWs; clear hWs
  rw [hW] at hcon
  by_cases h0 : chkH p0 st0 [X1, X3] = 0
  · rw [h0] at hcon
    obtain ⟨hd, hall⟩ := chkH_pos h0
    have hX1 : isH p0 (sz st0.length) X1 = true := by simp at hall; exact hall.1
    have hX3 : isH p0 (sz st0.length) X3 = true := by simp at hall; exact hall.2
    clear hall
    have hp1 := hd.hp.lo; have hp2 := hd.hp.hi
    by_cases h2 : inR n2 0 (p0 - 1) = true
    · have hb2 : 0 ≤ n2 ∧ n2 ≤ p0 - 1 := by simpa [inR] using h2
      have hq : isL p0 [n2] = true := by simpa [isL] using h2
      have e1 : RJordanSum1 p0 st0 X1 n2 X3 = 0 := by unfold RJordanSum1; rw [if_pos h0, if_pos h2]
      rw [show RJordanSum0 p0 st0 X1 n2 X3 = sumH p0 X1 n2 X3 from if_pos e1, e1]
      clear e1
      go_enter Tryz.func56, Tryz.ntmps56
      go_wp2_with fail
      refine hcon.mono ?_; rintro e w1 ⟨rfl, hb1⟩
      rw [← hW] at hb1
      clear hW hcon
      have hx0 := hx0.below hb1; have hx1 := hx1.below hb1; have hx3 := hx3.below hb1; have d00 := kept hb1 d00; have d01 := kept hb1 d01; have d10 := kept hb1 d10; have d11 := kept hb1 d11; have d30 := kept hb1 d30; have d31 := kept hb1 d31; have hr := hr.below hb1
      go_wp2_with fail
      refine (dfield_c).mono ?_; rintro e w22 ⟨rfl, hb22⟩
      have hx0 := hx0.below hb22; have hx1 := hx1.below hb22; have hx3 := hx3.below hb22; have d00 := kept hb22 d00; have d01 := kept hb22 d01; have d10 := kept hb22 d10; have d11 := kept hb22 d11; have d30 := kept hb22 d30; have d31 := kept hb22 d31; have hr := hr.below hb22
      go_wp2_with fail
      have hb23 : Below w22.heap.size w22 (w22.alloc (.cells #[.int .i64 n2] 2)) := (by repeat (first | exact .refl _ _ | apply bwD | apply bwA | (refine bwS ?_ (by first | omega | simp <;> omega) _) | refine bwC ?_ (by assumption)))
      have hx0 := hx0.below hb23; have hx1 := hx1.below hb23; have hx3 := hx3.below hb23; have d00 := kept hb23 d00; have d01 := kept hb23 d01; have d10 := kept hb23 d10; have d11 := kept hb23 d11; have d30 := kept hb23 d30; have d31 := kept hb23 d31; have hr := hr.below hb23
      have l9 : OwnI (w22.alloc (.cells #[.int .i64 n2] 2)) w22.heap.size w22.heap.size [n2].length [n2].length [n2] := OwnI.lit (Nat.le_refl _) [n2] (by simp)
      go_wp2_with fail
      refine (is_c (by omega) (by omega) l9.sl (by simp)).mono ?_; rintro e w24 ⟨rfl, rfl⟩
      have hzc_ : w1.heap.size ≤ ((w22.alloc (.cells #[.int .i64 n2] 2))).heap.size := (below_le (by repeat (first | exact .refl _ _ | apply bwD | apply bwA | (refine bwS ?_ (by first | omega | simp <;> omega) _) | refine bwC ?_ (by assumption))))
      (try simp at hzc_)
      go_wp2_with fail
      refine (jsum_c hd hx0 hx1 hX1 hx3 hX3 (by omega) (by omega)).mono ?_; rintro e w25 ⟨v, rfl, hv, hb25⟩
      have hx0 := hx0.below hb25; have hx1 := hx1.below hb25; have hx3 := hx3.below hb25; have d00 := kept hb25 d00; have d01 := kept hb25 d01; have d10 := kept hb25 d10; have d11 := kept hb25 d11; have d30 := kept hb25 d30; have d31 := kept hb25 d31; have hr := hr.below hb25; have l9 := l9.below hb25
      obtain ⟨d, u, us, rfl, ⟨g1, cap1, rfl, h1⟩, hu, hne⟩ := id hv
      obtain ⟨g2, cap2, rfl, _⟩ := id hu
      have hul : us.length = 3 := by obtain ⟨_, _, _, _, h, _⟩ := hu; exact h
      have HU := Lib.hid hul; clear hul
      have hu3 : (sumH p0 X1 n2 X3).up.length = 3 := by rw [sumH_eq hX1 hX3]; have h1 := (isH_parts hX1).2.2.1; have h2 := (isH_parts hX3).2.2.1; unfold sumR; rw [List.length_zipWith, h1, h2]; rfl
      have hu4 : (sumH p0 X1 n2 X3).dg.length = 3 := by rw [sumH_eq hX1 hX3]; have h1 := (isH_parts hX1).1; have h2 := (isH_parts hX3).1; show (plusL _ _ _ _).length = 3; rw [plusL_len (by rw [h1, h2])]; exact h1
      have hz1_ : w.heap.size + 1 + 1 + 1 + 1 + 1 ≤ w1.heap.size := by have := hb1.size; have := HWs.out; omega
      have rc0 := hr.c0; have rc1 := hr.c1; have rf0 := hr.f0; have rf1 := hr.f1
      go_wp2_with fail
      refine bodyPost_ret (v := .tuple #[.agg #[.slice (some ⟨g1, 0, none⟩) (sumH p0 X1 n2 X3).dg.length cap1, .slice (some ⟨g2, 0, none⟩) us.length cap2], .int .i64 0]) (by simp [results, Tryz.results56, go_sem, rc0, rc1, HU.out, hu3, hu4]) rfl ⟨_, rfl, .inr ?_, ?_⟩
      · exact ((hv.set_ (by first | omega | simp <;> omega) _).set_ (by first | omega | simp <;> omega) _).more (below_le (by repeat (first | exact .refl _ _ | apply bwD | apply bwA | (refine bwS ?_ (by first | omega | simp <;> omega) _) | refine bwC ?_ (by assumption))))
      · exact bwS (bwS (by repeat (first | exact .refl _ _ | apply bwD | apply bwA | (refine bwS ?_ (by first | omega | simp <;> omega) _) | refine bwC ?_ (by assumption))) (by first | omega | simp <;> omega) _) (by first | omega | simp <;> omega) _
    · have hq : isL p0 [n2] = false := by simpa [isL] using h2
      have h3 : inR n2 0 (p0 - 1) = false := by simpa using h2
      have e1 : RJordanSum1 p0 st0 X1 n2 X3 = 2 := by unfold RJordanSum1; rw [if_pos h0, if_neg h2]
      rw [show RJordanSum0 p0 st0 X1 n2 X3 = ⟨[], []⟩ from if_neg (by rw [e1]; decide), e1]
      clear e1
      go_enter Tryz.func56, Tryz.ntmps56
      go_wp2_with fail
      refine hcon.mono ?_; rintro e w1 ⟨rfl, hb1⟩
      rw [← hW] at hb1
      clear hW hcon
      have hx0 := hx0.below hb1; have hx1 := hx1.below hb1; have hx3 := hx3.below hb1; have d00 := kept hb1 d00; have d01 := kept hb1 d01; have d10 := kept hb1 d10; have d11 := kept hb1 d11; have d30 := kept hb1 d30; have d31 := kept hb1 d31; have hr := hr.below hb1
      go_wp2_with fail
      refine (dfield_c).mono ?_; rintro e w22 ⟨rfl, hb22⟩
      have hx0 := hx0.below hb22; have hx1 := hx1.below hb22; have hx3 := hx3.below hb22; have d00 := kept hb22 d00; have d01 := kept hb22 d01; have d10 := kept hb22 d10; have d11 := kept hb22 d11; have d30 := kept hb22 d30; have d31 := kept hb22 d31; have hr := hr.below hb22
      go_wp2_with fail
      have hb23 : Below w22.heap.size w22 (w22.alloc (.cells #[.int .i64 n2] 2)) := (by repeat (first | exact .refl _ _ | apply bwD | apply bwA | (refine bwS ?_ (by first | omega | simp <;> omega) _) | refine bwC ?_ (by assumption)))
      have hx0 := hx0.below hb23; have hx1 := hx1.below hb23; have hx3 := hx3.below hb23; have d00 := kept hb23 d00; have d01 := kept hb23 d01; have d10 := kept hb23 d10; have d11 := kept hb23 d11; have d30 := kept hb23 d30; have d31 := kept hb23 d31; have hr := hr.below hb23
      have l9 : OwnI (w22.alloc (.cells #[.int .i64 n2] 2)) w22.heap.size w22.heap.size [n2].length [n2].length [n2] := OwnI.lit (Nat.le_refl _) [n2] (by simp)
      go_wp2_with fail
      refine (is_c (by omega) (by omega) l9.sl (by simp)).mono ?_; rintro e w24 ⟨rfl, rfl⟩
      have rc0 := hr.c0; have rc1 := hr.c1; have rf0 := hr.f0; have rf1 := hr.f1
      go_wp2_with fail
      refine bodyPost_ret (v := .tuple #[.agg #[.slice none 0 0, .slice none 0 0], .int .i64 2]) (by simp [results, Tryz.results56, go_sem, rc0, rc1]) rfl ⟨_, rfl, .inl ⟨rfl, rfl⟩, ?_⟩
      exact bwS (bwS (by repeat (first | exact .refl _ _ | apply bwD | apply bwA | (refine bwS ?_ (by first | omega | simp <;> omega) _) | refine bwC ?_ (by assumption))) (by first | omega | simp <;> omega) _) (by first | omega | simp <;> omega) _
  · have e1 : RJordanSum1 p0 st0 X1 n2 X3 = chkH p0 st0 [X1, X3] := by unfold RJordanSum1; rw [if_neg h0]
    rw [show RJordanSum0 p0 st0 X1 n2 X3 = ⟨[], []⟩ from if_neg (by rw [e1]; exact h0), e1]; clear e1
    obtain ⟨k, hk⟩ : ∃ k, k = chkH p0 st0 [X1, X3] := ⟨_, rfl⟩
    rw [← hk] at h0 hcon ⊢
    clear hk
    have hne : (k == 0) = false := by simpa using h0
    go_enter Tryz.func56, Tryz.ntmps56
    go_wp2_with fail
    refine hcon.mono ?_; rintro e w1 ⟨rfl, hb1⟩
    rw [← hW] at hb1
    clear hW hcon
    have hr := hr.below hb1
    have rc0 := hr.c0; have rc1 := hr.c1; have rf0 := hr.f0; have rf1 := hr.f1
    go_wp2_with fail
    refine bodyPost_ret (v := .tuple #[.agg #[.slice none 0 0, .slice none 0 0], .int .i64 k]) (by simp [results, Tryz.results56, go_sem, rc0, rc1]) rfl ⟨_, rfl, .inl ⟨rfl, rfl⟩, ?_⟩
    exact bwS (bwS (by repeat (first | exact .refl _ _ | apply bwD | apply bwA | (refine bwS ?_ (by first | omega | simp <;> omega) _) | refine bwC ?_ (by assumption))) (by first | omega | simp <;> omega) _) (by first | omega | simp <;> omega) _
end Go.Proofs.YtgcelfnjijhmkaaGreat
/-
  The determinant: the program's and the reference's, and the law.
-/
namespace Go.Proofs.YtgcelfnjijhmkaaGreat
open Go.RowKit

end Go.Proofs.YtgcelfnjijhmkaaGreat
/-
  The pairing: the program's and the reference's, and the law.
-/
namespace Go.Proofs.YtgcelfnjijhmkaaGreat
open Go.RowKit

end Go.Proofs.YtgcelfnjijhmkaaGreat
