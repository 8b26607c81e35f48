/-
  The checks of points; the numbers of a matrix in one row (reference); a fresh matrix by its parts; results in blocks apart.
-/
import Derived.Test.YtgcelfnjijhmkaaGreatJbl
namespace Go.Proofs.YtgcelfnjijhmkaaGreat
open Go.RowKit

def isPt (p : Int) (st : List Int) (X : Her) : Bool := rankH p st X == 1
def ptsH (p : Int) (st : List Int) (l : List Her) : Int := if chkH p st l = 0 then (if l.all (isPt p st) = true then 0 else 5) else chkH p st l
theorem ptsH_pos {p : Int} {st : List Int} {l : List Her} (h : ptsH p st l = 0) : (Dok p st ∧ l.all (isH p (sz st.length)) = true) ∧ l.all (isPt p st) = true := by
  unfold ptsH at h
  split at h
  · rename_i h1
    split at h
    · exact ⟨chkH_pos h1, by assumption⟩
    · cases h
  · rename_i h1
    exact absurd h h1
theorem chkp1_c {p : Int} {s x : Value} {q : Nat} {st : List Int} {X : Her} {w : World} (hd : Dok p st) (h0 : w.cell? ⟨q, 0, none⟩ = some (.int .i64 p)) (h1 : w.cell? ⟨q, 1, none⟩ = some s) (hs : El w s st) (hx : Hv w x X) (hX : isH p (sz st.length) X = true) :
    Calls Tryz.prog 85 #[x, .pointer (some ⟨q, 0, none⟩)] w fun e w' => e = .returned (.bool (!isPt p st X)) ∧ Below w.heap.size w w' := by
  obtain ⟨d, u, rfl, hxd, hxu⟩ := id hx
  obtain ⟨a, c, rfl, _⟩ := id hs.op
  obtain ⟨ad, cd, rfl, _⟩ := id hxd.op
  obtain ⟨au, cu, rfl, _⟩ := id hxu
  go_enter Tryz.func85, Tryz.ntmps85
  have hb0 : Below w.heap.size w (w.alloc (.cells #[.slice ad X.dg.length cd, .slice au X.up.length cu] 31)) := (by repeat (first | exact .refl _ _ | apply bwD | apply bwA | (refine bwS ?_ (by first | omega | simp <;> omega) _) | refine bwC ?_ (by assumption)))
  have hs := hs.below hb0; have hx := hx.below hb0; have h0 := kept hb0 h0; have h1 := kept hb0 h1
  have e0 : (w.alloc (.cells #[.slice ad X.dg.length cd, .slice au X.up.length cu] 31)).cell? ⟨w.heap.size, 0, none⟩ = some (.slice ad X.dg.length cd) := by simp [go_sem]
  have e1 : (w.alloc (.cells #[.slice ad X.dg.length cd, .slice au X.up.length cu] 31)).cell? ⟨w.heap.size, 1, none⟩ = some (.slice au X.up.length cu) := by simp [go_sem]
  go_wp2_with fail
  refine (rank_c hd hs hx hX).mono ?_; rintro e w1 ⟨rfl, hb1⟩
  have hs := hs.below hb1; have hx := hx.below hb1; have h0 := kept hb1 h0; have h1 := kept hb1 h1; have e0 := kept hb1 e0; have e1 := kept hb1 e1
  go_wp2_with fail
  go_ret
  exact ⟨rfl, (by repeat (first | exact .refl _ _ | apply bwD | apply bwA | (refine bwS ?_ (by first | omega | simp <;> omega) _) | refine bwC ?_ (by assumption)))⟩
theorem idxp_c {p : Int} {s l : Value} {q : Nat} {st : List Int} {Xs : List Her} {w : World} (hd : Dok p st) (h0 : w.cell? ⟨q, 0, none⟩ = some (.int .i64 p)) (h1 : w.cell? ⟨q, 1, none⟩ = some s) (hs : El w s st) (hl : Lh w l Xs) (hz : ∀ X ∈ Xs, isH p (sz st.length) X = true) (hm : Xs.length ≤ 1000) :
    Calls Tryz.prog 121 #[l, .func (Fn.func 85) #[] #[.pointer (some ⟨q, 0, none⟩)]] w fun e w' =>
      ∃ k : Int, e = .returned (.int .i64 k) ∧ Found k (!Xs.all (isPt p st)) ∧ -1 ≤ k ∧ k ≤ 1048576 ∧ Below w.heap.size w w' := by
  obtain ⟨a, c, rfl, rfl | ⟨b, off, rfl, hl⟩⟩ := hl
  · go_enter Tryz.func121, Tryz.ntmps121
    go_wp2
    refine wp_loop_rounds 1 ?_; rw [rounds_succ]
    go_wp2; go_ret; exact ⟨_, rfl, (rfl : decide _ = _), by decide, by decide, Below.refl _ _⟩
  go_enter Tryz.func121, Tryz.ntmps121
  go_wp2
  go_loopw [8] (fun i wr => ∃ k : Nat, k ≤ Xs.length ∧ i = .int .i64 k ∧ (Xs.take k).all (isPt p st) = true ∧ Below w.heap.size w wr) (fun i _ => Xs.length - (intOf i).toNat)
  case atStart => exact ⟨0, Nat.zero_le _, rfl, rfl, Below.refl _ _⟩
  case round =>
    obtain ⟨k, hk, rfl, hr, hb⟩ := hrel
    by_cases hlt : k < Xs.length
    · obtain ⟨d, u, X, hX, hc0, hc1, hxv, ht⟩ := Lh.get hl hlt
      have hc0 := kept hb hc0
      have hc1 := kept hb hc1
      have hxv := hxv.below hb
      have g0 := kept hb h0
      have g1 := kept hb h1
      have gs := hs.below hb
      have hzx := hz X hX
      have H := Lib.hid (And.intro (all_snoc hr ht) (@all_no _ (isPt p st) _ _ hX)); clear hr ht
      cases hv : isPt p st X
      · go_wp2_with (go_at_call 85; refine (chkp1_c hd g0 g1 gs hxv hzx).mono ?_; rintro e w1 ⟨rfl, hb1⟩; simp only [hv])
        go_ret
        exact ⟨_, rfl, by rw [H.out.2 hv]; unfold Found; simp, by omega, by omega, bwC hb hb1⟩
      · go_wp2_with (go_at_call 85; refine (chkp1_c hd g0 g1 gs hxv hzx).mono ?_; rintro e w1 ⟨rfl, hb1⟩; simp only [hv])
        go_roundw
        case rel => exact ⟨k + 1, by omega, by go_num, by rw [H.out.1, hv], bwC hb hb1⟩
        case measure => simp [intOf]; omega
    · have e : Xs.take k = Xs := take_all (by omega)
      rw [e] at hr
      have H := Lib.hid hr; clear hr e
      go_wp2
      go_ret
      exact ⟨_, rfl, by rw [H.out]; unfold Found; rfl, by decide, by decide, hb⟩
theorem conp_c {p : Int} {s l : Value} {q : Nat} {st : List Int} {Xs : List Her} {w : World} (hd : Dok p st) (h0 : w.cell? ⟨q, 0, none⟩ = some (.int .i64 p)) (h1 : w.cell? ⟨q, 1, none⟩ = some s) (hs : El w s st) (hl : Lh w l Xs) (hz : ∀ X ∈ Xs, isH p (sz st.length) X = true) (hm : Xs.length ≤ 1000) :
    Calls Tryz.prog 84 #[l, .func (Fn.func 85) #[] #[.pointer (some ⟨q, 0, none⟩)]] w fun e w' =>
      e = .returned (.bool (!Xs.all (isPt p st))) ∧ Below w.heap.size w w' := by
  obtain ⟨a2, c2, rfl, _⟩ := id hl
  go_enter Tryz.func84, Tryz.ntmps84
  go_wp2_with (go_at_call 121; refine (idxp_c hd h0 h1 hs hl hz hm).mono ?_; rintro e w1 ⟨k, rfl, hk, hk1, hk2, hb1⟩; unfold Found at hk; have H := Lib.hid hk; clear hk)
  go_ret
  exact ⟨by rw [← H.out]; rfl, hb1⟩
theorem chkp_c {p : Int} {s l : Value} {st : List Int} {Xs : List Her} {w : World} (hs : El w s st) (hm : st.length ≤ 1048576) (hl : Lh w l Xs) (hz : ∀ X ∈ Xs, Hsz X) (hm2 : Xs.length ≤ 1000) :
    Calls Tryz.prog 40 #[.agg #[.int .i64 p, s], l] w fun e w' => e = .returned (.int .i64 (ptsH p st Xs)) ∧ Below w.heap.size w w' := by
  obtain ⟨a, c, rfl, _⟩ := id hs.op
  obtain ⟨a2, c2, rfl, _⟩ := id hl
  have hcon := fun W s l (hs : El W s st) (hl : Lh W l Xs) => chkh_c (w := W) (p := p) (s := s) (l := l) hs hm hl hz hm2
  by_cases h3 : chkH p st Xs = 0
  · obtain ⟨hd, hall⟩ := chkH_pos h3
    have hq : ptsH p st Xs = if Xs.all (isPt p st) = true then 0 else 5 := if_pos h3
    simp only [h3] at hcon
    clear h3
    rw [List.all_eq_true] at hall
    have HA := Lib.hid hall; clear hall
    cases h4 : Xs.all (isPt p st)
    all_goals
      rw [h4] at hq
      rw [hq]; clear hq
      go_enter Tryz.func40, Tryz.ntmps40
      have hb0 : Below w.heap.size w (w.alloc (.cells #[.int .i64 p, .slice a st.length c] 26)) := (by repeat (first | exact .refl _ _ | apply bwD | apply bwA | (refine bwS ?_ (by first | omega | simp <;> omega) _) | refine bwC ?_ (by assumption)))
      have hs := hs.below hb0; have hl := hl.below hb0
      have d0 : (w.alloc (.cells #[.int .i64 p, .slice a st.length c] 26)).cell? ⟨w.heap.size, 0, none⟩ = some (.int .i64 p) := by simp [go_sem]
      have d1 : (w.alloc (.cells #[.int .i64 p, .slice a st.length c] 26)).cell? ⟨w.heap.size, 1, none⟩ = some (.slice a st.length c) := by simp [go_sem]
      go_wp2_with fail
      refine (hcon _ _ _ hs hl).mono ?_; rintro e w1 ⟨rfl, hb1⟩
      have hs := hs.below hb1; have hl := hl.below hb1; have d0 := kept hb1 d0; have d1 := kept hb1 d1
      go_wp2_with fail
      refine (conp_c hd d0 d1 hs hl HA.out hm2).mono ?_; rintro e w2 ⟨rfl, hb2⟩
      have hs := hs.below hb2; have hl := hl.below hb2; have d0 := kept hb2 d0; have d1 := kept hb2 d1
      simp only [h4]
      go_wp2_with fail
      go_ret
      exact ⟨rfl, (by repeat (first | exact .refl _ _ | apply bwD | apply bwA | (refine bwS ?_ (by first | omega | simp <;> omega) _) | refine bwC ?_ (by assumption)))⟩
  · rw [show ptsH p st Xs = chkH p st Xs from if_neg h3]
    obtain ⟨k, hk⟩ : ∃ k, k = chkH p st Xs := ⟨_, rfl⟩
    simp only [← hk] at hcon h3 ⊢
    clear hk
    have hne : (k == 0) = false := by simpa using h3
    go_enter Tryz.func40, Tryz.ntmps40
    have hb0 : Below w.heap.size w (w.alloc (.cells #[.int .i64 p, .slice a st.length c] 26)) := (by repeat (first | exact .refl _ _ | apply bwD | apply bwA | (refine bwS ?_ (by first | omega | simp <;> omega) _) | refine bwC ?_ (by assumption)))
    have hs := hs.below hb0; have hl := hl.below hb0
    have d0 : (w.alloc (.cells #[.int .i64 p, .slice a st.length c] 26)).cell? ⟨w.heap.size, 0, none⟩ = some (.int .i64 p) := by simp [go_sem]
    have d1 : (w.alloc (.cells #[.int .i64 p, .slice a st.length c] 26)).cell? ⟨w.heap.size, 1, none⟩ = some (.slice a st.length c) := by simp [go_sem]
    go_wp2_with fail
    refine (hcon _ _ _ hs hl).mono ?_; rintro e w1 ⟨rfl, hb1⟩
    have hs := hs.below hb1; have hl := hl.below hb1; have d0 := kept hb1 d0; have d1 := kept hb1 d1
    go_wp2_with fail
    go_ret
    exact ⟨rfl, (by repeat (first | exact .refl _ _ | apply bwD | apply bwA | (refine bwS ?_ (by first | omega | simp <;> omega) _) | refine bwC ?_ (by assumption)))⟩
theorem sl17p_c {p : Int} {s l : Value} {st : List Int} {Xs : List Her} {w : World} (hs : El w s st) (hm : st.length ≤ 1048576) (hl : Lh w l Xs) (hz : ∀ X ∈ Xs, Hsz X) (hm2 : Xs.length ≤ 1000) :
    Calls Tryz.prog 48 #[.agg #[.int .i64 p, s], l] w fun e w' => e = .returned (.int .i64 (ptsH p st Xs)) ∧ Below w.heap.size w w' := by
  obtain ⟨a, c, rfl, _⟩ := id hs.op
  obtain ⟨a2, c2, rfl, hl2⟩ := id hl
  have hcon := fun W s l (hs : El W s st) (hl : Lh W l Xs) => sl16_c (w := W) (p := p) (s := s) (l := l) hs hm hl hz hm2
  by_cases h3 : chkH p st Xs = 0
  case neg =>
    rw [show ptsH p st Xs = chkH p st Xs from if_neg h3]
    obtain ⟨k, hk⟩ : ∃ k, k = chkH p st Xs := ⟨_, rfl⟩
    simp only [← hk] at hcon h3 ⊢
    clear hk
    have hne : (k == 0) = false := by simpa using h3
    go_enter Tryz.func48, Tryz.ntmps48
    have hb0 : Below w.heap.size w (w.alloc (.cells #[.int .i64 p, .slice a st.length c] 26)) := (by repeat (first | exact .refl _ _ | apply bwD | apply bwA | (refine bwS ?_ (by first | omega | simp <;> omega) _) | refine bwC ?_ (by assumption)))
    have hs := hs.below hb0; have hl := hl.below hb0
    have d0 : (w.alloc (.cells #[.int .i64 p, .slice a st.length c] 26)).cell? ⟨w.heap.size, 0, none⟩ = some (.int .i64 p) := by simp [go_sem]
    have d1 : (w.alloc (.cells #[.int .i64 p, .slice a st.length c] 26)).cell? ⟨w.heap.size, 1, none⟩ = some (.slice a st.length c) := by simp [go_sem]
    go_wp2_with fail
    refine (hcon _ _ _ hs hl).mono ?_; rintro e w1 ⟨rfl, hb1⟩
    have hs := hs.below hb1; have hl := hl.below hb1; have d0 := kept hb1 d0; have d1 := kept hb1 d1
    go_wp2_with fail
    go_ret
    exact ⟨rfl, (by repeat (first | exact .refl _ _ | apply bwD | apply bwA | (refine bwS ?_ (by first | omega | simp <;> omega) _) | refine bwC ?_ (by assumption)))⟩
  obtain ⟨hd, hall⟩ := chkH_pos h3
  have HQ := Lib.hid (show ptsH p st Xs = if Xs.all (isPt p st) = true then 0 else 5 from if_pos h3)
  simp only [h3] at hcon
  clear h3
  rw [List.all_eq_true] at hall
  have HA := Lib.hid hall; clear hall
  rcases hl2 with rfl | ⟨b, off, rfl, hl2⟩
  · rw [show ptsH p st [] = 0 from HQ.out]
    go_enter Tryz.func48, Tryz.ntmps48
    have hb0 : Below w.heap.size w (w.alloc (.cells #[.int .i64 p, .slice a st.length c] 26)) := (by repeat (first | exact .refl _ _ | apply bwD | apply bwA | (refine bwS ?_ (by first | omega | simp <;> omega) _) | refine bwC ?_ (by assumption)))
    have hs := hs.below hb0; have hl := hl.below hb0
    have d0 : (w.alloc (.cells #[.int .i64 p, .slice a st.length c] 26)).cell? ⟨w.heap.size, 0, none⟩ = some (.int .i64 p) := by simp [go_sem]
    have d1 : (w.alloc (.cells #[.int .i64 p, .slice a st.length c] 26)).cell? ⟨w.heap.size, 1, none⟩ = some (.slice a st.length c) := by simp [go_sem]
    go_wp2_with fail
    refine (hcon _ _ _ hs hl).mono ?_; rintro e w1 ⟨rfl, hb1⟩
    have hs := hs.below hb1; have hl := hl.below hb1; have d0 := kept hb1 d0; have d1 := kept hb1 d1
    go_wp2_with fail
    refine wp_loop_rounds 1 ?_; rw [rounds_succ]
    go_wp2_with fail
    go_ret
    exact ⟨rfl, (by repeat (first | exact .refl _ _ | apply bwD | apply bwA | (refine bwS ?_ (by first | omega | simp <;> omega) _) | refine bwC ?_ (by assumption)))⟩
  go_enter Tryz.func48, Tryz.ntmps48
  have hb0 : Below w.heap.size w (w.alloc (.cells #[.int .i64 p, .slice a st.length c] 26)) := (by repeat (first | exact .refl _ _ | apply bwD | apply bwA | (refine bwS ?_ (by first | omega | simp <;> omega) _) | refine bwC ?_ (by assumption)))
  have hs := hs.below hb0; have hl := hl.below hb0
  have d0 : (w.alloc (.cells #[.int .i64 p, .slice a st.length c] 26)).cell? ⟨w.heap.size, 0, none⟩ = some (.int .i64 p) := by simp [go_sem]
  have d1 : (w.alloc (.cells #[.int .i64 p, .slice a st.length c] 26)).cell? ⟨w.heap.size, 1, none⟩ = some (.slice a st.length c) := by simp [go_sem]
  go_wp2_with fail
  refine (hcon _ _ _ hs hl).mono ?_; rintro e w1 ⟨rfl, hb1⟩
  have hs := hs.below hb1; have hl := hl.below hb1; have d0 := kept hb1 d0; have d1 := kept hb1 d1
  go_wp2_with fail
  have hwb : Below w.heap.size w w1 := (by repeat (first | exact .refl _ _ | apply bwD | apply bwA | (refine bwS ?_ (by first | omega | simp <;> omega) _) | refine bwC ?_ (by assumption)))
  go_loopw [6] (fun i wr => ∃ k : Nat, k ≤ Xs.length ∧ i = .int .i64 k ∧ (Xs.take k).all (isPt p st) = true ∧ Below w1.heap.size w1 wr) (fun i _ => Xs.length - (intOf i).toNat)
  case atStart => exact ⟨0, Nat.zero_le _, rfl, rfl, Below.refl _ _⟩
  case round =>
    obtain ⟨k, hk, rfl, hr, hb⟩ := hrel
    by_cases hlt : k < Xs.length
    · obtain ⟨d, u, X, hX, hc0, hc1, hxv, ht⟩ := Lh.get hl2 hlt
      have hbw := bwC hwb hb
      have hc0 := kept hbw hc0
      have hc1 := kept hbw hc1
      have hxv := hxv.below hbw
      have g0 := kept hb d0
      have g1 := kept hb d1
      have gs := hs.below hb
      have hzx := HA.out X hX
      have H := Lib.hid (And.intro (all_snoc hr ht) (@all_no _ (isPt p st) _ _ hX)); clear hr ht
      obtain ⟨rk, hrk⟩ : ∃ r, r = rankH p st X := ⟨_, rfl⟩
      have hv2 : isPt p st X = (rk == 1) := by rw [hrk]; rfl
      have HRK := Lib.hid hrk; clear hrk
      cases hv : isPt p st X
      · have hne : (rk == 1) = false := hv2.symm.trans hv
        have hne1 : ¬ rk = 1 := by simpa using hne
        have hne2 : (rk != 1) = true := by simpa using hne1
        have HV := Lib.hid hv; clear hv hv2
        go_wp2
        refine region_flow [(false, [(0, 1), (1, 0), (2, 0), (3, 0), (4, 1), (5, 4), (6, 0)])] (by kernel_rfl) ?_
        refine norm_K fun K hK => ?_
        change wpList _ _ _ [_, _, _, _, _, _, _] _ _
        go_wp2_with fail
        refine (srank_c hd (gs.below (by repeat (first | exact .refl _ _ | apply bwD | apply bwA | (refine bwS ?_ (by first | omega | simp <;> omega) _) | refine bwC ?_ (by assumption)))) (hxv.below (by repeat (first | exact .refl _ _ | apply bwD | apply bwA | (refine bwS ?_ (by first | omega | simp <;> omega) _) | refine bwC ?_ (by assumption)))) hzx).mono ?_; rintro e w2 ⟨rfl, hb2⟩; rw [← HRK.out]
        go_wp2_with fail
        first | (refine hK _ _ ⟨rfl, ?_⟩; clear hK K) | refine ⟨rfl, ?_⟩
        go_wp2_with fail
        go_ret
        exact ⟨by rw [HQ.out, H.out.2 HV.out]; rfl, bwC hbw.drew hb2⟩
      · have hne : rk = 1 := by simpa using hv2.symm.trans hv
        have HV := Lib.hid hv; clear hv hv2
        subst hne
        go_wp2
        refine region_flow [(false, [(0, 1), (1, 0), (2, 0), (3, 0), (4, 1), (5, 4), (6, 0)])] (by kernel_rfl) ?_
        refine norm_K fun K hK => ?_
        change wpList _ _ _ [_, _, _, _, _, _, _] _ _
        go_wp2_with fail
        refine (srank_c hd (gs.below (by repeat (first | exact .refl _ _ | apply bwD | apply bwA | (refine bwS ?_ (by first | omega | simp <;> omega) _) | refine bwC ?_ (by assumption)))) (hxv.below (by repeat (first | exact .refl _ _ | apply bwD | apply bwA | (refine bwS ?_ (by first | omega | simp <;> omega) _) | refine bwC ?_ (by assumption)))) hzx).mono ?_; rintro e w2 ⟨rfl, hb2⟩; rw [← HRK.out]
        go_wp2_with fail
        first | (refine hK _ _ ⟨rfl, ?_⟩; clear hK K) | refine ⟨rfl, ?_⟩
        go_wp2_with fail
        go_roundw
        case rel => exact ⟨k + 1, by omega, by go_num, by rw [H.out.1, HV.out], bwC hb.drew hb2⟩
        case measure => simp [intOf]; omega
    · have e : Xs.take k = Xs := take_all (by omega)
      rw [e] at hr
      have H := Lib.hid hr; clear hr e
      go_wp2
      go_ret
      exact ⟨by rw [HQ.out, H.out]; rfl, bwC hwb hb⟩
theorem lead_ne : ∀ xs : List Int, leadN xs < xs.length → xs.getD (leadN xs) 0 ≠ 0
  | [], h => absurd h (by decide)
  | x :: xs, h => by
    by_cases h0 : x = 0
    · have e : leadN (x :: xs) = leadN xs + 1 := if_pos h0
      rw [e] at h ⊢
      rw [List.getD_cons_succ]
      exact lead_ne xs (by simpa using h)
    · have e : leadN (x :: xs) = 0 := if_neg h0
      rw [e]
      simpa using h0
theorem pt_lead {p : Int} {st : List Int} {X : Her} (hd : Dok p st) (hX : isH p (sz st.length) X = true) (h : isPt p st X = true) :
    leadN (numsH X) < (numsH X).length ∧ 1 ≤ (numsH X).getD (leadN (numsH X)) 0 ∧ (numsH X).getD (leadN (numsH X)) 0 < p := by
  have hsz := sz_le hd
  have hr : rankH p st X = 1 := by simpa [isPt] using h
  have hz : ¬ isZ (numsH X) = true := fun e => by
    have e0 : rankH p st X = 0 := if_pos e
    rw [e0] at hr
    exact absurd hr (by decide)
  have hl := leadN_le (numsH X)
  rw [isZ_lead, decide_eq_true_eq] at hz
  have hlt : leadN (numsH X) < (numsH X).length := by omega
  have hne := lead_ne _ hlt
  have hf := (isH_nums hX hsz.1).2.2.2.2 ((numsH X).getD (leadN (numsH X)) 0) (by
    rw [List.getD_eq_getElem?_getD, List.getElem?_eq_getElem hlt]
    exact List.getElem_mem hlt)
  exact ⟨hlt, by omega, hf.2⟩
set_option maxRecDepth 100000 in
theorem sflat_c {p : Int} {n : Nat} {x : Value} {X : Her} {w : World} (hx : Hv w x X) (hX : isH p n X = true) (hn : 1 ≤ n) (hn2 : n ≤ 8) :
    Calls Tryz.prog 54 #[x] w fun e w' => ∃ v, e = .returned v ∧ FrI w' w.heap.size v (numsH X) ∧ Below w.heap.size w w' := by
  obtain ⟨hdl, hul, hpos, htot, _⟩ := isH_nums hX hn
  have hle := Lib.hid (show ∀ k, totN (X.up.take k) ≤ totN X.up from flat_le (xss := X.up))
  rw [htot] at hle
  obtain ⟨dv, uv, rfl, hd, hu⟩ := id hx
  obtain ⟨a1, c1, rfl, _⟩ := id hd.op
  obtain ⟨b1, k1, rfl, _, _, hu⟩ := hu
  rcases hu with hu0 | ⟨b, off, rfl, hu⟩
  · rw [hu0] at hul; exact absurd hul (by decide)
  have HX := Lib.hid hu
  have HD := Lib.hid hdl; have HU := Lib.hid hul; clear hu hul hx htot
  have hd3 : 0 < X.dg.length := by omega
  have hd4 : X.dg.length ≤ 1000 := by omega
  clear hdl
  go_enter Tryz.func54, Tryz.ntmps54
  have hb0 : Below w.heap.size w (w.alloc (.cells #[.slice a1 X.dg.length c1, .slice (some ⟨b, off, none⟩) X.up.length k1] 31)) := (by repeat (first | exact .refl _ _ | apply bwD | apply bwA | (refine bwS ?_ (by first | omega | simp <;> omega) _) | refine bwC ?_ (by assumption)))
  have hd := hd.below hb0
  have e0 : (w.alloc (.cells #[.slice a1 X.dg.length c1, .slice (some ⟨b, off, none⟩) X.up.length k1] 31)).cell? ⟨w.heap.size, 0, none⟩ = some (.slice a1 X.dg.length c1) := by simp [go_sem]
  have e1 : (w.alloc (.cells #[.slice a1 X.dg.length c1, .slice (some ⟨b, off, none⟩) X.up.length k1] 31)).cell? ⟨w.heap.size, 1, none⟩ = some (.slice (some ⟨b, off, none⟩) X.up.length k1) := by simp [go_sem]
  have hbw0 : Below w.heap.size w (w.alloc (.cells #[.slice a1 X.dg.length c1, .slice (some ⟨b, off, none⟩) X.up.length k1] 31)) := (by repeat (first | exact .refl _ _ | apply bwD | apply bwA | (refine bwS ?_ (by first | omega | simp <;> omega) _) | refine bwC ?_ (by assumption)))
  go_wp2_with fail
  obtain ⟨W0, hW0⟩ : ∃ W, W = (w.alloc (.cells #[.slice a1 X.dg.length c1, .slice (some ⟨b, off, none⟩) X.up.length k1] 31)) := ⟨_, rfl⟩
  rw [← hW0] at hbw0 hd e0 e1  ⊢
  clear hW0
  have e0_ := e0; have e1_ := e1
  go_wp2_with fail
  refine (own_c hd.sl hd3 (by omega)).mono ?_; rintro e w1 ⟨v1, rfl, ⟨g1, cap1, rfl, o1⟩, hb1⟩
  have hd := hd.below hb1; have e0 := kept hb1 e0; have e1 := kept hb1 e1
  go_wp2_with fail
  go_loopw [3, 4] (fun q i wr => ∃ (k g cap m : Nat), k ≤ 3 ∧ i = .int .i64 k ∧ q = .slice (some ⟨g, 0, none⟩) m cap ∧ m = X.dg.length + totN (X.up.take k) ∧ OwnI wr W0.heap.size g m cap (X.dg ++ (X.up.take k).flatten) ∧ Below W0.heap.size W0 wr) (fun _ i _ => 3 - (intOf i).toNat)
  case atStart => exact ⟨0, g1, cap1, X.dg.length, Nat.zero_le _, rfl, rfl, rfl, by simpa using o1, hb1⟩
  case round =>
    clear o1 hb1
    obtain ⟨k, gg, cc, m, hk, rfl, rfl, hmk, ho, hb⟩ := hrel
    by_cases hlt : k < 3
    · obtain ⟨a2, c2, xs, hxs, hc, he, ht⟩ := Re.get HX.out (m := k) (by rw [HU.out]; exact hlt)
      have hf := hle.out (k + 1)
      rw [ht, totN_snoc] at hf
      have hxp := hpos xs hxs
      have hbw := bwC hbw0 hb
      have hc := kept hbw hc
      have e0 := kept hb e0_; have e1 := kept hb e1_
      obtain ⟨b2, o2, c3, e2, _, _, hA⟩ := (he.below hbw).op1 hxp
      cases e2
      have hlk : k < X.up.length := by rw [HU.out]; exact hlt
      have hm1 : m ≤ 100 := by have := HD.out; omega
      have hxl : xs.length ≤ 100 := by omega
      have HT := Lib.hid ht; have HMM := Lib.hid hmk; clear ht hmk
      obtain ⟨ys, hys⟩ : ∃ ys, ys = X.dg ++ (X.up.take k).flatten := ⟨_, rfl⟩
      rw [← hys] at ho
      have HYS := Lib.hid hys; clear hys
      go_wp2_with (at_builtin; refine app_int rfl _ _ rfl wr W0.heap.size gg m cc ys rfl b2 o2 xs.length c2 xs rfl ho hb.size hA rfl hxp (by omega) ?_; intro g' cap' w' ho' hg' hge)
      go_roundw
      case rel => exact ⟨k + 1, g', cap', m + xs.length, by omega, by go_num, rfl, by rw [HT.out, totN_snoc, HMM.out]; omega, by rw [HT.out, List.flatten_append, ← List.append_assoc, ← HYS.out]; simpa using ho', blw_grown hb hg' ho.lt.1⟩
      case measure => simp [intOf]; omega
    · obtain rfl : k = 3 := by omega
      have e : X.up.take 3 = X.up := take_all (by have := HU.out; omega)
      rw [e] at hmk ho
      clear e
      have HMM := Lib.hid hmk; clear hmk
      go_wp2
      go_ret
      refine ⟨_, rfl, FrI.more (B := W0.heap.size) ⟨gg, cc, ?_, ?_⟩ hbw0.size, bwC hbw0 hb⟩
      · rw [HMM.out]; unfold numsH totN; rw [List.length_append]; rfl
      · have e := HMM.out; rw [e] at ho; rw [show (numsH X).length = X.dg.length + totN X.up by unfold numsH totN; rw [List.length_append]]; exact ho
theorem FrH.op3 {w : World} {B : Nat} {x : Value} {X : Her} {p : Int} {n : Nat} (h : FrH w B x X) (hX : isH p n X = true) :
    ∃ a b c u v t bd cd bu cu r s q, X = ⟨[a, b, c], [u, v, t]⟩ ∧ x = .agg #[.slice (some ⟨bd, 0, none⟩) 3 cd, .slice (some ⟨bu, 0, none⟩) 3 cu] ∧ (Ev p n u ∧ Ev p n v ∧ Ev p n t) ∧
      (w.cell? ⟨bu, 0, none⟩ = some r ∧ w.cell? ⟨bu, 1, none⟩ = some s ∧ w.cell? ⟨bu, 2, none⟩ = some q) ∧ FrI w B r u ∧ FrI w B s v ∧ FrI w B q t ∧ (∃ a' c', r = .slice a' u.length c') ∧ (∃ a' c', s = .slice a' v.length c') ∧ (∃ a' c', q = .slice a' t.length c') := by
  obtain ⟨a, b, c, u, v, t, rfl, _, _, _, _, _, _, eu, ev, et⟩ := isH_op hX
  obtain ⟨d, y, us, rfl, ⟨gd, cd, rfl, hd⟩, ⟨gu, cu, rfl, ho, hl, hr, _⟩, _⟩ := h
  have hl3 : us.length = 3 := hl
  match us, hl3 with
  | [r, s, q], _ =>
    have hc := fun j z hz => World.ownsRow.cells ho (g := gu) rfl j z hz
    have c0 := hc 0 r rfl; have c1 := hc 1 s rfl; have c2 := hc 2 q rfl
    rw [addz] at c0 c1 c2
    have f0 := hr 0 (by simp) (by simp); have f1 := hr 1 (by simp) (by simp); have f2 := hr 2 (by simp) (by simp)
    exact ⟨a, b, c, u, v, t, gd, cd, gu, cu, r, s, q, rfl, rfl, ⟨eu, ev, et⟩, ⟨c0, c1, c2⟩, f0, f1, f2, by obtain ⟨g, cap, e, _⟩ := f0; exact ⟨_, _, e⟩, by obtain ⟨g, cap, e, _⟩ := f1; exact ⟨_, _, e⟩, by obtain ⟨g, cap, e, _⟩ := f2; exact ⟨_, _, e⟩⟩
def Apt (u v : Value) : Prop := u.ownBlock = none ∨ v.ownBlock = none ∨ u.ownBlock ≠ v.ownBlock
theorem Apt.sw {u v : Value} (h : Apt u v) : Apt v u := by
  rcases h with h | h | h
  · exact .inr (.inl h)
  · exact .inl h
  · exact .inr (.inr (Ne.symm h))
theorem Apt.fr {w w' : World} {B B' : Nat} {u v : Value} {xs ys : List Int} (h : FrI w B u xs) (h' : FrI w' B' v ys) (hB : w.heap.size ≤ B') : Apt u v := by
  obtain ⟨g, e, _, hg⟩ := h.blk
  obtain ⟨g', e', hg', _⟩ := h'.blk
  refine .inr (.inr ?_)
  rw [e, e']
  intro e2
  have e3 := Option.some.inj e2
  omega
end Go.Proofs.YtgcelfnjijhmkaaGreat
