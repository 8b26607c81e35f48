/-
  The reference's checks of doublings and of elements.
-/
import Derived.Test.YtmplpoccalccoaaDbB
namespace Go.Proofs.Ytmplpoccalccoaa
open Go.RowKit

def okS (p : Int) (st : List Int) : Bool := st.all fun s => inR s 1 (p - 1)
theorem isD_ok {p : Int} {st : List Int} (h : prB p = true) (h2 : st.length ≤ 4) : isD p st = okS p st := by
  unfold isD okS
  rw [h, decide_eq_true h2]; rfl
theorem sisd_c {p : Int} {x : Value} {st : List Int} {w : World} (hx : Sl w x st) (hm : st.length ≤ 1048576) :
    Calls Try.prog 108 #[.agg #[.int .i64 p, x]] w fun e w' => e = .returned (.bool (isD p st)) ∧ Below w.heap.size w w' := by
  obtain ⟨a, c, rfl, hx'⟩ := id hx
  cases h1 : prB p
  · have HS := Lib.hid (isD_no1 (st := st) h1)
    go_enter Try.func108, Try.ntmps108
    go_wp2_with (go_at_call 134; refine sprime_c.mono ?_; rintro e w1 ⟨rfl, rfl⟩; simp only [h1])
    go_ret
    exact ⟨by rw [HS.out]; rfl, (by repeat (first | exact Below.refl _ _ | apply blw_drew | apply blw_alloc | (refine blw_set ?_ (by first | omega | (simp; done) | (simp; omega)) _) | refine below_chain ?_ (by assumption)))⟩
  have hp := prB_iff.1 h1
  have hp1 := hp.lo
  have hp2 := hp.hi
  by_cases h2 : st.length ≤ 4
  case neg =>
    have HS := Lib.hid (isD_no2 (p := p) h2)
    have h2' : decide ((4 : Int) < (st.length : Int)) = true := by simp; omega
    go_enter Try.func108, Try.ntmps108
    go_wp2_with (go_at_call 134; refine sprime_c.mono ?_; rintro e w1 ⟨rfl, rfl⟩; simp only [h1])
    go_ret
    exact ⟨by rw [HS.out]; rfl, (by repeat (first | exact Below.refl _ _ | apply blw_drew | apply blw_alloc | (refine blw_set ?_ (by first | omega | (simp; done) | (simp; omega)) _) | refine below_chain ?_ (by assumption)))⟩
  have h2' : decide ((4 : Int) < (st.length : Int)) = false := by simp; omega
  have HS := Lib.hid (isD_ok h1 h2)
  rcases hx' with rfl | ⟨b, off, rfl, hA⟩
  · go_enter Try.func108, Try.ntmps108
    go_wp2_with (go_at_call 134; refine sprime_c.mono ?_; rintro e w1 ⟨rfl, rfl⟩; simp only [h1])
    refine wp_loop_rounds 1 ?_; rw [rounds_succ]
    go_wp2_with fail
    go_ret
    exact ⟨by rw [HS.out]; rfl, (by repeat (first | exact Below.refl _ _ | apply blw_drew | apply blw_alloc | (refine blw_set ?_ (by first | omega | (simp; done) | (simp; omega)) _) | refine below_chain ?_ (by assumption)))⟩
  have hW : Below w.heap.size w (w.alloc (.cells #[.int .i64 p, .slice (some ⟨b, off, none⟩) st.length c] 32)) := (by repeat (first | exact Below.refl _ _ | apply blw_drew | apply blw_alloc | (refine blw_set ?_ (by first | omega | (simp; done) | (simp; omega)) _) | refine below_chain ?_ (by assumption)))
  have hA := hA.below hW
  have d0 : (w.alloc (.cells #[.int .i64 p, .slice (some ⟨b, off, none⟩) st.length c] 32)).cell? ⟨w.heap.size, 0, none⟩ = some (.int .i64 p) := by simp [go_sem]
  have d1 : (w.alloc (.cells #[.int .i64 p, .slice (some ⟨b, off, none⟩) st.length c] 32)).cell? ⟨w.heap.size, 1, none⟩ = some (.slice (some ⟨b, off, none⟩) st.length c) := by simp [go_sem]
  obtain ⟨W, hWe⟩ : ∃ W, W = w.alloc (.cells #[.int .i64 p, .slice (some ⟨b, off, none⟩) st.length c] 32) := ⟨_, rfl⟩
  have HW := Lib.hid hWe
  rw [← hWe] at hA d0 d1 hW
  clear hWe
  go_enter Try.func108, Try.ntmps108
  go_wp2_with (go_at_call 134; refine sprime_c.mono ?_; rintro e w1 ⟨rfl, rfl⟩; simp only [h1])
  rw [← HW.out]
  go_loopw [3] (fun i wr => ∃ k : Nat, k ≤ st.length ∧ i = .int .i64 k ∧ okS p (st.take k) = true ∧ Below W.heap.size W wr) (fun i _ => st.length - (intOf i).toNat)
  case atStart => exact ⟨0, Nat.zero_le _, rfl, rfl, Below.refl _ _⟩
  case round =>
    obtain ⟨k, hk, rfl, hr, hb⟩ := hrel
    have g0 := kept hb d0
    have g1 := kept hb d1
    by_cases hlt : k < st.length
    · obtain ⟨z, hz, hc, ht⟩ := (hA.below hb).get hlt
      have H := Lib.hid (And.intro (all_snoc (f := fun s => inR s 1 (p - 1)) hr ht) (@all_no _ (fun s => inR s 1 (p - 1)) _ _ hz)); clear hr ht
      cases hv : inR z 1 (p - 1)
      · go_wp2
        refine region_flow [(false, [(0, 0), (1, 1), (2, 0), (3, 0), (4, 1), (5, 0), (6, 1), (7, 0), (8, 4), (9, 0)])] (by kernel_rfl) ?_
        refine norm_K fun K hK => ?_
        change wpList _ _ _ [_, _, _, _, _, _, _, _, _, _] _ _
        go_wp2_with fail
        refine sin_c.mono ?_; rintro e w2 ⟨rfl, rfl⟩; simp only [hv]
        go_wp2_with fail
        first | (refine hK _ _ ⟨rfl, ?_⟩; clear hK K) | refine ⟨rfl, ?_⟩
        go_wp2_with fail
        go_ret
        exact ⟨by rw [HS.out, show okS p st = false from H.out.2 hv]; rfl, below_chain hW hb.drew⟩
      · go_wp2
        refine region_flow [(false, [(0, 0), (1, 1), (2, 0), (3, 0), (4, 1), (5, 0), (6, 1), (7, 0), (8, 4), (9, 0)])] (by kernel_rfl) ?_
        refine norm_K fun K hK => ?_
        change wpList _ _ _ [_, _, _, _, _, _, _, _, _, _] _ _
        go_wp2_with fail
        refine sin_c.mono ?_; rintro e w2 ⟨rfl, rfl⟩; simp only [hv]
        go_wp2_with fail
        first | (refine hK _ _ ⟨rfl, ?_⟩; clear hK K) | refine ⟨rfl, ?_⟩
        go_wp2_with fail
        go_roundw
        case rel => exact ⟨k + 1, by omega, by go_num, by unfold okS; rw [H.out.1, hv], hb.drew⟩
        case measure => simp [intOf]; omega
    · have e : st.take k = st := take_all (by omega)
      rw [e] at hr
      have H := Lib.hid hr; clear hr e
      go_wp2
      go_ret
      exact ⟨by rw [HS.out, H.out]; rfl, below_chain hW hb⟩
theorem sl14_c {p : Int} {x : Value} {st : List Int} {w : World} (hx : El w x st) (hm : st.length ≤ 1048576) :
    Calls Try.prog 70 #[.agg #[.int .i64 p, x]] w fun e w' => e = .returned (.int .i64 (chk3 p st [])) ∧ Below w.heap.size w w' := by
  obtain ⟨a, c, rfl, _⟩ := id hx.op
  have hx1 := hx.below (w' := w.alloc (.cells #[.int .i64 p, .slice a st.length c] 32)) (by repeat (first | exact Below.refl _ _ | apply blw_drew | apply blw_alloc | (refine blw_set ?_ (by first | omega | (simp; done) | (simp; omega)) _) | refine below_chain ?_ (by assumption)))
  cases h1 : isD p st
  · rw [chk3_no h1]
    go_enter Try.func70, Try.ntmps70
    go_wp2_with (go_at_call 108; refine (sisd_c hx1.sl hm).mono ?_; rintro e w1 ⟨rfl, hb1⟩; simp only [h1])
    go_ret
    exact ⟨rfl, (by repeat (first | exact Below.refl _ _ | apply blw_drew | apply blw_alloc | (refine blw_set ?_ (by first | omega | (simp; done) | (simp; omega)) _) | refine below_chain ?_ (by assumption)))⟩
  by_cases h2 : 3 < st.length
  · rw [chk3_lim h1 h2]
    go_enter Try.func70, Try.ntmps70
    go_wp2_with (go_at_call 108; refine (sisd_c hx1.sl hm).mono ?_; rintro e w1 ⟨rfl, hb1⟩; simp only [h1]; obtain ⟨d0, d1⟩ := boxed hb1)
    go_ret
    exact ⟨rfl, (by repeat (first | exact Below.refl _ _ | apply blw_drew | apply blw_alloc | (refine blw_set ?_ (by first | omega | (simp; done) | (simp; omega)) _) | refine below_chain ?_ (by assumption)))⟩
  · rw [chk3_ok h1 h2 rfl]
    go_enter Try.func70, Try.ntmps70
    go_wp2_with (go_at_call 108; refine (sisd_c hx1.sl hm).mono ?_; rintro e w1 ⟨rfl, hb1⟩; simp only [h1]; obtain ⟨d0, d1⟩ := boxed hb1)
    go_ret
    exact ⟨rfl, (by repeat (first | exact Below.refl _ _ | apply blw_drew | apply blw_alloc | (refine blw_set ?_ (by first | omega | (simp; done) | (simp; omega)) _) | refine below_chain ?_ (by assumption)))⟩
end Go.Proofs.Ytmplpoccalccoaa
