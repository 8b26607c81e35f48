/- Texts joined for a claim: HcO, CJordanPower. -/
import Derived.Test.YtacfanjejaellaaJbu
import Derived.Test.YtacfanjejaellaaJbh
import Derived.Test.YtacfanjejaellaaJas
/-
  JordanUnit: the program's and the reference's.
-/
namespace Go.Proofs.Ytacfanjejaellaa
open Go.RowKit

def RJordanUnit1 (p : Int) (st : List Int) : Int := chkH p st []
def RJordanUnit0 (p : Int) (st : List Int) : Her := if chkH p st [] = 0 then unitH (sz st.length) else ⟨[], []⟩
set_option maxRecDepth 100000 in
theorem iJordanUnit_c {p0 : Int} {x0 : Value} {st0 : List Int} {w : World} (hx0 : El w x0 st0) (hm0 : st0.length ≤ 1048576) :
    Calls Try.prog 9 #[.agg #[.int .i64 p0, x0]] w fun e w' => ∃ v0, e = .returned (.tuple #[v0, .int .i64 (RJordanUnit1 p0 st0)]) ∧ OwH w' w.heap.size v0 (RJordanUnit0 p0 st0) ∧ Below w.heap.size w w' := by
  obtain ⟨a0, c0, rfl, _⟩ := id hx0.op
  by_cases h0 : chkH p0 st0 [] = 0
  · have hd := (chkH_pos h0).1
    rw [show RJordanUnit0 p0 st0 = unitH (sz st0.length) from if_pos h0, show RJordanUnit1 p0 st0 = 0 from h0]
    have H0 := Lib.hid h0; clear h0
    go_enter Try.func9, Try.ntmps9
    have hb0 : Below w.heap.size w ((w.alloc (.cells #[.int .i64 p0, .slice a0 st0.length c0] 26)).alloc (.cells #[.slice none 0 0, .slice none 0 0] 29)) := (by repeat (first | exact Below.refl _ _ | apply blw_drew | apply blw_alloc | (refine blw_set ?_ (by first | omega | (simp; done) | (simp; omega)) _) | refine below_chain ?_ (by assumption)))
    have hx0 := hx0.below hb0
    have d0 : ((w.alloc (.cells #[.int .i64 p0, .slice a0 st0.length c0] 26)).alloc (.cells #[.slice none 0 0, .slice none 0 0] 29)).cell? ⟨w.heap.size, 0, none⟩ = some (.int .i64 p0) := by simp [go_sem]
    have d1 : ((w.alloc (.cells #[.int .i64 p0, .slice a0 st0.length c0] 26)).alloc (.cells #[.slice none 0 0, .slice none 0 0] 29)).cell? ⟨w.heap.size, 1, none⟩ = some (.slice a0 st0.length c0) := by simp [go_sem]
    have r0 : ((w.alloc (.cells #[.int .i64 p0, .slice a0 st0.length c0] 26)).alloc (.cells #[.slice none 0 0, .slice none 0 0] 29)).cell? ⟨w.heap.size + 1, 0, none⟩ = some (.slice none 0 0) := by simp [go_sem]
    have r1 : ((w.alloc (.cells #[.int .i64 p0, .slice a0 st0.length c0] 26)).alloc (.cells #[.slice none 0 0, .slice none 0 0] 29)).cell? ⟨w.heap.size + 1, 1, none⟩ = some (.slice none 0 0) := by simp [go_sem]
    have hr : Bx ((w.alloc (.cells #[.int .i64 p0, .slice a0 st0.length c0] 26)).alloc (.cells #[.slice none 0 0, .slice none 0 0] 29)) (w.heap.size + 1) (.slice none 0 0) (.slice none 0 0) := by rw [show w.heap.size + 1 = (w.alloc (.cells #[.int .i64 p0, .slice a0 st0.length c0] 26)).heap.size by simp]; exact heap_alloc_new _ _
    go_wp2_with fail
    refine (chk3_c hx0 (Re.nil _) hm0 (by simp) (by simp)).mono ?_; rintro e w1 ⟨rfl, hb1⟩
    have hx0 := hx0.below hb1; have d0 := kept hb1 d0; have d1 := kept hb1 d1; have hr := hr.below hb1
    rw [show chk3 p0 st0 [] = 0 from H0.out]
    go_wp2_with fail
    refine (junit_c hx0 hd.hl).mono ?_; rintro e w2 ⟨v, rfl, hv, hb2⟩
    have hx0 := hx0.below hb2; have d0 := kept hb2 d0; have d1 := kept hb2 d1; have hr := hr.below hb2
    obtain ⟨d, u, us, rfl, ⟨g1, cap1, rfl, h1⟩, hu, hne⟩ := id hv
    obtain ⟨g2, cap2, rfl, _⟩ := id hu
    have hul : us.length = 3 := by obtain ⟨_, _, _, _, h, _⟩ := hu; exact h
    have HU := Lib.hid hul; clear hul
    have hu3 : (unitH (sz st0.length)).up.length = 3 := rfl
    have hz1_ : w.heap.size + 1 + 1 ≤ w1.heap.size := by have := hb1.size; simpa using this
    have hz2_ : w1.heap.size ≤ w2.heap.size := hb2.size
    have rc0 := hr.c0; have rc1 := hr.c1; have rf0 := hr.f0; have rf1 := hr.f1
    go_wp2_with fail
    refine bodyPost_ret (v := .tuple #[.agg #[.slice (some ⟨g1, 0, none⟩) (unitH (sz st0.length)).dg.length cap1, .slice (some ⟨g2, 0, none⟩) us.length cap2], .int .i64 0]) (by simp [results, Try.results9, go_sem, rc0, rc1, HU.out, hu3]) rfl ⟨_, rfl, .inr ?_, ?_⟩
    · exact ((hv.set_ (by first | omega | (simp; done) | (simp; omega)) _).set_ (by first | omega | (simp; done) | (simp; omega)) _).more (by omega)
    · exact blw_set (blw_set (by repeat (first | exact Below.refl _ _ | apply blw_drew | apply blw_alloc | (refine blw_set ?_ (by first | omega | (simp; done) | (simp; omega)) _) | refine below_chain ?_ (by assumption))) (by first | omega | (simp; done) | (simp; omega)) _) (by first | omega | (simp; done) | (simp; omega)) _
  · rw [show RJordanUnit0 p0 st0 = ⟨[], []⟩ from if_neg h0, show RJordanUnit1 p0 st0 = chkH p0 st0 [] from rfl]
    obtain ⟨k, hk⟩ : ∃ k, k = chkH p0 st0 [] := ⟨_, rfl⟩
    rw [← hk] at h0 ⊢
    have HK := Lib.hid hk; clear hk
    have hne : (k == 0) = false := by simpa using h0
    go_enter Try.func9, Try.ntmps9
    have hb0 : Below w.heap.size w ((w.alloc (.cells #[.int .i64 p0, .slice a0 st0.length c0] 26)).alloc (.cells #[.slice none 0 0, .slice none 0 0] 29)) := (by repeat (first | exact Below.refl _ _ | apply blw_drew | apply blw_alloc | (refine blw_set ?_ (by first | omega | (simp; done) | (simp; omega)) _) | refine below_chain ?_ (by assumption)))
    have hx0 := hx0.below hb0
    have d0 : ((w.alloc (.cells #[.int .i64 p0, .slice a0 st0.length c0] 26)).alloc (.cells #[.slice none 0 0, .slice none 0 0] 29)).cell? ⟨w.heap.size, 0, none⟩ = some (.int .i64 p0) := by simp [go_sem]
    have d1 : ((w.alloc (.cells #[.int .i64 p0, .slice a0 st0.length c0] 26)).alloc (.cells #[.slice none 0 0, .slice none 0 0] 29)).cell? ⟨w.heap.size, 1, none⟩ = some (.slice a0 st0.length c0) := by simp [go_sem]
    have r0 : ((w.alloc (.cells #[.int .i64 p0, .slice a0 st0.length c0] 26)).alloc (.cells #[.slice none 0 0, .slice none 0 0] 29)).cell? ⟨w.heap.size + 1, 0, none⟩ = some (.slice none 0 0) := by simp [go_sem]
    have r1 : ((w.alloc (.cells #[.int .i64 p0, .slice a0 st0.length c0] 26)).alloc (.cells #[.slice none 0 0, .slice none 0 0] 29)).cell? ⟨w.heap.size + 1, 1, none⟩ = some (.slice none 0 0) := by simp [go_sem]
    have hr : Bx ((w.alloc (.cells #[.int .i64 p0, .slice a0 st0.length c0] 26)).alloc (.cells #[.slice none 0 0, .slice none 0 0] 29)) (w.heap.size + 1) (.slice none 0 0) (.slice none 0 0) := by rw [show w.heap.size + 1 = (w.alloc (.cells #[.int .i64 p0, .slice a0 st0.length c0] 26)).heap.size by simp]; exact heap_alloc_new _ _
    go_wp2_with fail
    refine (chk3_c hx0 (Re.nil _) hm0 (by simp) (by simp)).mono ?_; rintro e w1 ⟨rfl, hb1⟩
    have hx0 := hx0.below hb1; have d0 := kept hb1 d0; have d1 := kept hb1 d1; have hr := hr.below hb1
    rw [show chk3 p0 st0 [] = k from HK.out.symm]
    have rc0 := hr.c0; have rc1 := hr.c1; have rf0 := hr.f0; have rf1 := hr.f1
    go_wp2_with fail
    refine bodyPost_ret (v := .tuple #[.agg #[.slice none 0 0, .slice none 0 0], .int .i64 k]) (by simp [results, Try.results9, go_sem, rc0, rc1]) rfl ⟨_, rfl, .inl ⟨rfl, rfl⟩, ?_⟩
    exact blw_set (blw_set (by repeat (first | exact Below.refl _ _ | apply blw_drew | apply blw_alloc | (refine blw_set ?_ (by first | omega | (simp; done) | (simp; omega)) _) | refine below_chain ?_ (by assumption))) (by first | omega | (simp; done) | (simp; omega)) _) (by first | omega | (simp; done) | (simp; omega)) _
end Go.Proofs.Ytacfanjejaellaa
/-
  JordanPower: the program's and the reference's.
-/
namespace Go.Proofs.Ytacfanjejaellaa
open Go.RowKit

theorem zero_ev {p : Int} {n : Nat} (hp : 2 ≤ p) : Ev p n (List.replicate n 0) :=
  ⟨List.length_replicate, fun x hx => by rw [List.eq_of_mem_replicate hx]; omega⟩
def powH (p : Int) (st : List Int) (X : Her) : Nat → Her
  | 0 => unitH (sz st.length)
  | k + 1 => jordanH p st (powH p st X k) X
theorem powH_is {p : Int} {st : List Int} {X : Her} (hp : 2 ≤ p) (hX : isH p (sz st.length) X = true) : ∀ k, isH p (sz st.length) (powH p st X k) = true
  | 0 => isH_mk ⟨by omega, by omega⟩ ⟨by omega, by omega⟩ ⟨by omega, by omega⟩ (zero_ev hp) (zero_ev hp) (zero_ev hp)
  | k + 1 => jordanH_is hp (powH_is hp hX k) hX
def RJordanPower1 (p0 : Int) (st0 : List Int) (X1 : Her) (n2 : Int) : Int := if chkH p0 st0 [X1] = 0 then (if inR n2 0 100 = true then 0 else 2) else chkH p0 st0 [X1]
def RJordanPower0 (p0 : Int) (st0 : List Int) (X1 : Her) (n2 : Int) : Her := if RJordanPower1 p0 st0 X1 n2 = 0 then powH p0 st0 X1 n2.toNat else ⟨[], []⟩
set_option maxHeartbeats 2000000 in
set_option maxRecDepth 100000 in
theorem iJordanPower_c {p0 : Int} {x0 : Value} {st0 : List Int} {x1 : Value} {X1 : Her} {n2 : Int} {w : World} (hx0 : El w x0 st0) (hm0 : st0.length ≤ 1048576) (hx1 : Hv w x1 X1) (hz1 : Hsz X1) (lo2 : -9223372036854775808 ≤ n2) (hi2 : n2 ≤ 9223372036854775807) :
    Calls Try.prog 11 #[.agg #[.int .i64 p0, x0], x1, .int .i64 n2] w fun e w' => ∃ v0, e = .returned (.tuple #[v0, .int .i64 (RJordanPower1 p0 st0 X1 n2)]) ∧ OwH w' w.heap.size v0 (RJordanPower0 p0 st0 X1 n2) ∧ Below w.heap.size w w' := by
  obtain ⟨a0, c0, rfl, _⟩ := id hx0.op
  obtain ⟨dv1, uv1, rfl, hd1_, hu1_⟩ := id hx1; obtain ⟨a1, c1, rfl, _⟩ := id hd1_.op; obtain ⟨b1, e1, rfl, _⟩ := id hu1_; clear hd1_ hu1_
  obtain ⟨W, hW⟩ : ∃ W, W = ((((w.alloc (.cells #[.int .i64 p0, .slice a0 st0.length c0] 26)).alloc (.cells #[.slice a1 X1.dg.length c1, .slice b1 X1.up.length e1] 29)).alloc (.cells #[.slice none 0 0, .slice none 0 0] 29)).alloc (.cells #[.slice a1 X1.dg.length c1, .slice b1 X1.up.length e1] 29)) := ⟨_, rfl⟩
  have hbW : Below w.heap.size w W := by rw [hW]; exact (by repeat (first | exact Below.refl _ _ | apply blw_drew | apply blw_alloc | (refine blw_set ?_ (by first | omega | (simp; done) | (simp; omega)) _) | refine below_chain ?_ (by assumption)))
  have hx0 := hx0.below hbW
  have hx1 := hx1.below hbW
  have d00 : W.cell? ⟨w.heap.size, 0, none⟩ = some (.int .i64 p0) := by rw [hW]; simp [go_sem]
  have d01 : W.cell? ⟨w.heap.size, 1, none⟩ = some (.slice a0 st0.length c0) := by rw [hW]; simp [go_sem]
  have d10 : W.cell? ⟨w.heap.size + 1, 0, none⟩ = some (.slice a1 X1.dg.length c1) := by rw [hW]; simp [go_sem]
  have d11 : W.cell? ⟨w.heap.size + 1, 1, none⟩ = some (.slice b1 X1.up.length e1) := by rw [hW]; simp [go_sem]
  have hr : Bx W (w.heap.size + 1 + 1) (.slice none 0 0) (.slice none 0 0) := by rw [hW]; exact Bx.below (by unfold Bx; rw [show w.heap.size + 1 + 1 = ((w.alloc (.cells #[.int .i64 p0, .slice a0 st0.length c0] 26)).alloc (.cells #[.slice a1 X1.dg.length c1, .slice b1 X1.up.length e1] 29)).heap.size by simp]; exact heap_alloc_new _ _) (by repeat (first | exact Below.refl _ _ | apply blw_drew | apply blw_alloc | (refine blw_set ?_ (by first | omega | (simp; done) | (simp; omega)) _) | refine below_chain ?_ (by assumption)))
  have hWs : W.heap.size = w.heap.size + 1 + 1 + 1 + 1 := by rw [hW]; simp
  have gl : Lh W (.slice (some ⟨w.heap.size + 1 + 1 + 1, 0, none⟩) 1 1) [X1] := Lh.one hx1 (by rw [hW]; simp [go_sem]) (by rw [hW]; simp [go_sem])
  have hcon := chkh_c (p := p0) hx0 hm0 gl (by intro X hX; simp at hX; subst hX; exact hz1) (by simp)
  have HWs := Lib.hid hWs; clear hWs
  rw [hW] at hcon
  by_cases h0 : chkH p0 st0 [X1] = 0
  · rw [h0] at hcon
    obtain ⟨hd, hall⟩ := chkH_pos h0
    have hX1 : isH p0 (sz st0.length) X1 = true := by simp at hall; exact hall
    clear hall
    have hp1 := hd.hp.lo; have hp2 := hd.hp.hi
    by_cases h2 : inR n2 0 100 = true
    · have hb2 : 0 ≤ n2 ∧ n2 ≤ 100 := by simpa [inR] using h2
      have hI : inR n2 0 100 = true := h2
      have e1 : RJordanPower1 p0 st0 X1 n2 = 0 := by unfold RJordanPower1; rw [if_pos h0, if_pos h2]
      rw [show RJordanPower0 p0 st0 X1 n2 = powH p0 st0 X1 n2.toNat from if_pos e1, e1]
      clear e1
      go_enter Try.func11, Try.ntmps11
      go_wp2_with fail
      refine hcon.mono ?_; rintro e w1 ⟨rfl, hb1⟩
      rw [← hW] at hb1
      clear hW hcon
      have hx0 := hx0.below hb1; have hx1 := hx1.below hb1; have d00 := kept hb1 d00; have d01 := kept hb1 d01; have d10 := kept hb1 d10; have d11 := kept hb1 d11; have hr := hr.below hb1
      have hx0_ := hx0; have hx1_ := hx1; have d00_ := d00; have d01_ := d01; have d10_ := d10; have d11_ := d11; have hr_ := hr
      go_wp2_with fail
      refine (inRange_c).mono ?_; rintro e w22 ⟨rfl, rfl⟩
      have HI := Lib.hid hI; clear hI
      go_wp2_with fail
      refine (junit_c hx0 hd.hl).mono ?_; rintro e w23 ⟨v1, rfl, h1, hb23⟩
      have hx0 := hx0.below hb23; have hx1 := hx1.below hb23; have d00 := kept hb23 d00; have d01 := kept hb23 d01; have d10 := kept hb23 d10; have d11 := kept hb23 d11; have hr := hr.below hb23
      obtain ⟨d1_, u1_, us1, rfl, ⟨g1, k1_, rfl, q1⟩, hu1, hne1⟩ := id h1; obtain ⟨g2, k2_, rfl, hq_⟩ := id hu1; clear hq_ q1
      have hul : us1.length = 3 := by obtain ⟨_, _, _, _, h, _⟩ := hu1; exact h
      have HU := Lib.hid hul; clear hul
      have hzA : w1.heap.size ≤ w23.heap.size := (below_le (by repeat (first | exact Below.refl _ _ | apply blw_drew | apply blw_alloc | (refine blw_set ?_ (by first | omega | (simp; done) | (simp; omega)) _) | refine below_chain ?_ (by assumption))))
      go_wp2_with fail
      have hb24 : Below w23.heap.size w23 (w23.alloc (.cells #[.slice (some ⟨g1, 0, none⟩) (unitH (sz st0.length)).dg.length k1_, .slice (some ⟨g2, 0, none⟩) us1.length k2_] 29)) := (by repeat (first | exact Below.refl _ _ | apply blw_drew | apply blw_alloc | (refine blw_set ?_ (by first | omega | (simp; done) | (simp; omega)) _) | refine below_chain ?_ (by assumption)))
      have hx0 := hx0.below hb24; have hx1 := hx1.below hb24; have d00 := kept hb24 d00; have d01 := kept hb24 d01; have d10 := kept hb24 d10; have d11 := kept hb24 d11; have hr := hr.below hb24; have h1 := h1.below hb24
      have hN : Bx ((w23.alloc (.cells #[.slice (some ⟨g1, 0, none⟩) (unitH (sz st0.length)).dg.length k1_, .slice (some ⟨g2, 0, none⟩) us1.length k2_] 29))) w23.heap.size _ _ := heap_alloc_new w23 _
      have hbE : Below w1.heap.size w1 ((w23.alloc (.cells #[.slice (some ⟨g1, 0, none⟩) (unitH (sz st0.length)).dg.length k1_, .slice (some ⟨g2, 0, none⟩) us1.length k2_] 29))) := (by repeat (first | exact Below.refl _ _ | apply blw_drew | apply blw_alloc | (refine blw_set ?_ (by first | omega | (simp; done) | (simp; omega)) _) | refine below_chain ?_ (by assumption)))
      skip
      go_loopw [25] (fun i wr => ∃ (k : Nat) (d u : Value), (k : Int) ≤ n2 ∧ i = .int .i64 k ∧ Bx wr w23.heap.size d u ∧ FrH wr w1.heap.size (.agg #[d, u]) (powH p0 st0 X1 k) ∧ Below w1.heap.size w1 wr) (fun i _ => (n2 - intOf i).toNat)
      case atStart => exact ⟨0, _, _, by omega, rfl, hN, h1.more (by omega), hbE⟩
      case round =>
        obtain ⟨k, d, u, hk, rfl, hN, hF, hb⟩ := hrel
        have hK := powH_is (p := p0) (st := st0) (X := X1) (by omega) hX1 k
        have n0 := hN.c0; have n1 := hN.c1; have m0 := hN.f0; have m1 := hN.f1
        have hNl := hN.lt
        obtain ⟨d_, u_, us, e_, ⟨g1, k1_, rfl, q1⟩, hu, hne⟩ := id hF; cases e_; obtain ⟨g2, k2_, rfl, hq_⟩ := id hu; clear hq_ q1
        have hul : us.length = 3 := by obtain ⟨_, _, _, _, h, _⟩ := hu; rw [h]; exact (isH_parts hK).2.2.1
        have HU := Lib.hid hul; clear hul
        have hx0 := hx0_.below hb; have hx1 := hx1_.below hb; have d00 := kept hb d00_; have d01 := kept hb d01_; have d10 := kept hb d10_; have d11 := kept hb d11_; have hr := hr_.below hb
        by_cases hlt : (k : Int) < n2
        · skip
          go_wp2_with fail
          go_wp2_with fail
          refine (jordan_c hd hx0 hF.hv hK hx1 hX1).mono ?_; rintro e w21 ⟨v, rfl, hv, hb21⟩
          have hx0 := hx0.below hb21; have hx1 := hx1.below hb21; have d00 := kept hb21 d00; have d01 := kept hb21 d01; have d10 := kept hb21 d10; have d11 := kept hb21 d11; have hr := hr.below hb21; have hF := hF.below hb21; have n0 := kept hb21 n0; have n1 := kept hb21 n1; have hN := hN.below hb21
          obtain ⟨d_, u_, us2, rfl, ⟨g3, k3_, rfl, q3⟩, hu2, hne2⟩ := id hv; obtain ⟨g4, k4_, rfl, hq_⟩ := id hu2; clear hq_ q3
          have m0 := hN.f0; have m1 := hN.f1
          go_wp2_with fail
          go_roundw
          case rel => exact ⟨k + 1, _, _, by omega, by go_num, (hN.set0 _).set1 _, ((hv.set_ (by first | omega | (simp; done) | (simp; omega)) _).set_ (by first | omega | (simp; done) | (simp; omega)) _).more hb.size, (by repeat (first | exact Below.refl _ _ | apply blw_drew | apply blw_alloc | (refine blw_set ?_ (by first | omega | (simp; done) | (simp; omega)) _) | refine below_chain ?_ (by assumption)))⟩
          case measure => simp [intOf]; omega
        · obtain rfl : n2 = k := by omega
          have hu3 : (powH p0 st0 X1 k).up.length = 3 := (isH_parts hK).2.2.1
          have hu4 : (powH p0 st0 X1 k).dg.length = 3 := (isH_parts hK).1
          have hz1_ : w.heap.size + 1 + 1 + 1 + 1 ≤ w1.heap.size := by have := hb1.size; have := HWs.out; omega
          have rc0 := hr.c0; have rc1 := hr.c1; have rf0 := hr.f0; have rf1 := hr.f1
          go_wp2_with fail
          refine bodyPost_ret (v := .tuple #[.agg #[.slice (some ⟨g1, 0, none⟩) (powH p0 st0 X1 k).dg.length k1_, .slice (some ⟨g2, 0, none⟩) us.length k2_], .int .i64 0]) (by simp [results, Try.results11, go_sem, rc0, rc1, HU.out, hu3, hu4]) rfl ⟨_, rfl, .inr ?_, ?_⟩
          · exact ((hF.set_ (by first | omega | (simp; done) | (simp; omega)) _).set_ (by first | omega | (simp; done) | (simp; omega)) _).more (by omega)
          · exact blw_set (blw_set (below_chain (show Below w.heap.size w w1 from (by repeat (first | exact Below.refl _ _ | apply blw_drew | apply blw_alloc | (refine blw_set ?_ (by first | omega | (simp; done) | (simp; omega)) _) | refine below_chain ?_ (by assumption)))) hb) (by first | omega | (simp; done) | (simp; omega)) _) (by first | omega | (simp; done) | (simp; omega)) _
    · have h3 : inR n2 0 100 = false := by simpa using h2
      have e1 : RJordanPower1 p0 st0 X1 n2 = 2 := by unfold RJordanPower1; rw [if_pos h0, if_neg h2]
      rw [show RJordanPower0 p0 st0 X1 n2 = ⟨[], []⟩ from if_neg (by rw [e1]; decide), e1]
      clear e1
      go_enter Try.func11, Try.ntmps11
      go_wp2_with fail
      refine hcon.mono ?_; rintro e w1 ⟨rfl, hb1⟩
      rw [← hW] at hb1
      clear hW hcon
      have hx0 := hx0.below hb1; have hx1 := hx1.below hb1; have d00 := kept hb1 d00; have d01 := kept hb1 d01; have d10 := kept hb1 d10; have d11 := kept hb1 d11; have hr := hr.below hb1
      go_wp2_with fail
      refine (inRange_c).mono ?_; rintro e w22 ⟨rfl, rfl⟩
      have rc0 := hr.c0; have rc1 := hr.c1; have rf0 := hr.f0; have rf1 := hr.f1
      go_wp2_with fail
      refine bodyPost_ret (v := .tuple #[.agg #[.slice none 0 0, .slice none 0 0], .int .i64 2]) (by simp [results, Try.results11, go_sem, rc0, rc1]) rfl ⟨_, rfl, .inl ⟨rfl, rfl⟩, ?_⟩
      exact blw_set (blw_set (by repeat (first | exact Below.refl _ _ | apply blw_drew | apply blw_alloc | (refine blw_set ?_ (by first | omega | (simp; done) | (simp; omega)) _) | refine below_chain ?_ (by assumption))) (by first | omega | (simp; done) | (simp; omega)) _) (by first | omega | (simp; done) | (simp; omega)) _
  · have e1 : RJordanPower1 p0 st0 X1 n2 = chkH p0 st0 [X1] := by unfold RJordanPower1; rw [if_neg h0]
    rw [show RJordanPower0 p0 st0 X1 n2 = ⟨[], []⟩ from if_neg (by rw [e1]; exact h0), e1]; clear e1
    obtain ⟨k, hk⟩ : ∃ k, k = chkH p0 st0 [X1] := ⟨_, rfl⟩
    rw [← hk] at h0 hcon ⊢
    clear hk
    have hne : (k == 0) = false := by simpa using h0
    go_enter Try.func11, Try.ntmps11
    go_wp2_with fail
    refine hcon.mono ?_; rintro e w1 ⟨rfl, hb1⟩
    rw [← hW] at hb1
    clear hW hcon
    have hr := hr.below hb1
    have rc0 := hr.c0; have rc1 := hr.c1; have rf0 := hr.f0; have rf1 := hr.f1
    go_wp2_with fail
    refine bodyPost_ret (v := .tuple #[.agg #[.slice none 0 0, .slice none 0 0], .int .i64 k]) (by simp [results, Try.results11, go_sem, rc0, rc1]) rfl ⟨_, rfl, .inl ⟨rfl, rfl⟩, ?_⟩
    exact blw_set (blw_set (by repeat (first | exact Below.refl _ _ | apply blw_drew | apply blw_alloc | (refine blw_set ?_ (by first | omega | (simp; done) | (simp; omega)) _) | refine below_chain ?_ (by assumption))) (by first | omega | (simp; done) | (simp; omega)) _) (by first | omega | (simp; done) | (simp; omega)) _
end Go.Proofs.Ytacfanjejaellaa
