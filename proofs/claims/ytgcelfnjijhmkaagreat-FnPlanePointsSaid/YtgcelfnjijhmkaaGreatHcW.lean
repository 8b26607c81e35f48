/-
  The reference's zero, rank, equality and idempotents.
-/
import Derived.Test.YtgcelfnjijhmkaaGreatHcV
namespace Go.Proofs.YtgcelfnjijhmkaaGreat
open Go.RowKit

theorem isZ_app (xs ys : List Int) : isZ (xs ++ ys) = (isZ xs && isZ ys) := by unfold isZ; rw [List.all_append]
theorem isZ_three (a b c : Int) (u v t : List Int) : isZ (numsH ⟨[a, b, c], [u, v, t]⟩) = ((decide (a = 0) && isZ u) && ((decide (b = 0) && isZ v) && (decide (c = 0) && isZ t))) := by
  have e : numsH ⟨[a, b, c], [u, v, t]⟩ = [a, b, c] ++ (u ++ (v ++ t)) := by unfold numsH; simp
  rw [e, isZ_app, isZ_app, isZ_app]
  have h : isZ [a, b, c] = (decide (a = 0) && (decide (b = 0) && decide (c = 0))) := by
    unfold isZ
    simp only [List.all_cons, List.all_nil, Bool.and_true]
    rfl
  rw [h]
  cases decide (a = 0) <;> cases decide (b = 0) <;> cases decide (c = 0) <;> cases isZ u <;> cases isZ v <;> cases isZ t <;> rfl
set_option maxHeartbeats 2000000 in
set_option maxRecDepth 100000 in
theorem szero_c {p : Int} {n : Nat} {x : Value} {X : Her} {w : World} (hx : Hv w x X) (hX : isH p n X = true) (hn : n ≤ 8) :
    Calls Tryz.prog 64 #[x] w fun e w' => e = .returned (.bool (isZ (numsH X))) ∧ Below w.heap.size w w' := by
  obtain ⟨a1, b1, c1, u1, v1, t1, bd1, od1, cd1, bu1, ou1, cu1, r1, s1, q1, rfl, rfl, ba1, bb1, bc1, eu1, ev1, et1, ca1, cb1, cc1, cr1, cs1, cq1, er1, es1, eq1, kd1, ku1⟩ := Hv.op3 hx hX
  rw [isZ_three]
  have lu0 := eu1.1; have gl0 := leadN_le u1; have gz0 := isZ_lead u1
  have lu1 := ev1.1; have gl1 := leadN_le v1; have gz1 := isZ_lead v1
  have lu2 := et1.1; have gl2 := leadN_le t1; have gz2 := isZ_lead t1
  have HZ0 := Lib.hid gz0; have HZ1 := Lib.hid gz1; have HZ2 := Lib.hid gz2; clear gz0 gz1 gz2
  have HU0 := Lib.hid lu0; have HU1 := Lib.hid lu1; have HU2 := Lib.hid lu2; clear lu0 lu1 lu2
  obtain ⟨ar1, kr1, rfl, _⟩ := id er1.op; obtain ⟨as1, ks1, rfl, _⟩ := id es1.op; obtain ⟨aq1, kq1, rfl, _⟩ := id eq1.op
  go_enter Tryz.func64, Tryz.ntmps64
  have hb0 : Below w.heap.size w (w.alloc (.cells #[.slice (some ⟨bd1, od1, none⟩) 3 cd1, .slice (some ⟨bu1, ou1, none⟩) 3 cu1] 31)) := (by repeat (first | exact .refl _ _ | apply bwD | apply bwA | (refine bwS ?_ (by first | omega | simp <;> omega) _) | refine bwC ?_ (by assumption)))
  have ca1 := kept hb0 ca1; have cb1 := kept hb0 cb1; have cc1 := kept hb0 cc1; have cr1 := kept hb0 cr1; have cs1 := kept hb0 cs1; have cq1 := kept hb0 cq1; have er1 := er1.below hb0; have es1 := es1.below hb0; have eq1 := eq1.below hb0
  have e0 : (w.alloc (.cells #[.slice (some ⟨bd1, od1, none⟩) 3 cd1, .slice (some ⟨bu1, ou1, none⟩) 3 cu1] 31)).cell? ⟨w.heap.size, 0, none⟩ = some (.slice (some ⟨bd1, od1, none⟩) 3 cd1) := by simp [go_sem]
  have e1 : (w.alloc (.cells #[.slice (some ⟨bd1, od1, none⟩) 3 cd1, .slice (some ⟨bu1, ou1, none⟩) 3 cu1] 31)).cell? ⟨w.heap.size, 1, none⟩ = some (.slice (some ⟨bu1, ou1, none⟩) 3 cu1) := by simp [go_sem]
  have hbw0 : Below w.heap.size w (w.alloc (.cells #[.slice (some ⟨bd1, od1, none⟩) 3 cd1, .slice (some ⟨bu1, ou1, none⟩) 3 cu1] 31)) := (by repeat (first | exact .refl _ _ | apply bwD | apply bwA | (refine bwS ?_ (by first | omega | simp <;> omega) _) | refine bwC ?_ (by assumption)))
  go_wp2
  obtain ⟨W0, hW0⟩ : ∃ W, W = (w.alloc (.cells #[.slice (some ⟨bd1, od1, none⟩) 3 cd1, .slice (some ⟨bu1, ou1, none⟩) 3 cu1] 31)) := ⟨_, rfl⟩
  rw [← hW0] at hbw0 ca1 cb1 cc1 cr1 cs1 cq1 er1 es1 eq1 e0 e1  ⊢
  clear hW0
  have ca1_ := ca1
  have cb1_ := cb1
  have cc1_ := cc1
  have cr1_ := cr1
  have cs1_ := cs1
  have cq1_ := cq1
  have er1_ := er1
  have es1_ := es1
  have eq1_ := eq1
  have e0_ := e0
  have e1_ := e1
  go_loopw [3] (fun i wr => ∃ k : Nat, i = .int .i64 k ∧ (k = 0 ∨ (k = 1 ∧ (decide (a1 = 0) && isZ u1) = true) ∨ (k = 2 ∧ (decide (a1 = 0) && isZ u1) = true ∧ (decide (b1 = 0) && isZ v1) = true) ∨ (k = 3 ∧ (decide (a1 = 0) && isZ u1) = true ∧ (decide (b1 = 0) && isZ v1) = true ∧ (decide (c1 = 0) && isZ t1) = true)) ∧ Below W0.heap.size W0 wr) (fun i _ => 3 - (intOf i).toNat)
  case atStart => exact ⟨0, rfl, .inl rfl, Below.refl _ _⟩
  case round =>
    obtain ⟨k, rfl, hk, hb⟩ := hrel
    have ca1 := kept hb ca1; have cb1 := kept hb cb1; have cc1 := kept hb cc1; have cr1 := kept hb cr1; have cs1 := kept hb cs1; have cq1 := kept hb cq1; have er1 := er1.below hb; have es1 := es1.below hb; have eq1 := eq1.below hb; have e0 := kept hb e0; have e1 := kept hb e1
    have hbe := bwC hbw0 hb
    have HK := Lib.hid hk
    rcases hk with rfl | ⟨rfl, _⟩ | ⟨rfl, _⟩ | ⟨rfl, _⟩
    · skip
      by_cases ha_ : a1 = 0
      · cases hu_ : isZ u1
        · have hlt : leadN u1 < u1.length := by
            have h1 := HZ0.out
            rw [hu_] at h1
            have h2 : ¬ leadN u1 = u1.length := by simpa using h1.symm
            omega
          have hlt2 : (leadN u1 : Int) < (u1.length : Int) := by omega
          have hz : (decide (a1 = 0) && isZ u1) = false := by rw [hu_, Bool.and_false]
          have HZ := Lib.hid hz; have HF := Lib.hid hu_; clear hz hu_
          subst ha_
          go_wp2
          go_wp2_with fail
          refine region_flow [(false, [(0, 0), (1, 1), (2, 0), (3, 0), (4, 1), (5, 0), (6, 0), (7, 0), (8, 1), (9, 0), (10, 0), (11, 1), (13, 0), (14, 1), (15, 0), (16, 0), (17, 1), (18, 0), (12, 5)]), (false, [(19, 0), (20, 0)])] (by kernel_rfl) ?_
          refine norm_K fun K hK => ?_
          change wpList _ _ _ [_, _, _, _, _, _, _, _, _, _, _, _, _, _, _, _, _, _, _] _ _
          have hb21 : Below wr.heap.size wr wr.drew := (by repeat (first | exact .refl _ _ | apply bwD | apply bwA | (refine bwS ?_ (by first | omega | simp <;> omega) _) | refine bwC ?_ (by assumption)))
          have ca1 := kept hb21 ca1; have cr1 := kept hb21 cr1; have er1 := er1.below hb21; have e0 := kept hb21 e0; have e1 := kept hb21 e1
          go_wp2_with fail
          refine (first_c er1.sl (by have := HU0.out; omega)).mono ?_; rintro e w22 ⟨rfl, rfl⟩
          go_wp2_with fail
          have hz0 : Below wr.drew.heap.size wr.drew wr.drew := (by repeat (first | exact .refl _ _ | apply bwD | apply bwA | (refine bwS ?_ (by first | omega | simp <;> omega) _) | refine bwC ?_ (by assumption)))
          first | (refine hK _ _ ⟨hz0, ?_⟩; clear hK K) | refine ⟨hz0, ?_⟩
          clear hz0
          refine norm_K fun K hK => ?_
          change wpList _ _ _ [_, _] _ _
          go_wp2_with fail
          first | (refine hK _ _ ⟨rfl, ?_⟩; clear hK K) | refine ⟨rfl, ?_⟩
          go_wp2
          go_ret
          exact ⟨by first | rfl | (rw [HF.out]; rfl) | (rw [HF.out]; simp; done) | (simp; done) | (rw [HZ.out]; rfl) | (rw [HZ.out]; simp), by first | exact hbe | exact bwD hbe | exact (by repeat (first | exact .refl _ _ | apply bwD | apply bwA | (refine bwS ?_ (by first | omega | simp <;> omega) _) | refine bwC ?_ (by assumption)))⟩
        · have heq : leadN u1 = u1.length := by
            have h1 := HZ0.out
            rw [hu_] at h1
            simpa using h1.symm
          have hlt2 : ¬ ((leadN u1 : Int) < (u1.length : Int)) := by omega
          have hz : (decide (a1 = 0) && isZ u1) = true := by rw [hu_, ha_]; rfl
          have HZ := Lib.hid hz; clear hz hu_ heq
          subst ha_
          go_wp2
          go_wp2_with fail
          refine region_flow [(false, [(0, 0), (1, 1), (2, 0), (3, 0), (4, 1), (5, 0), (6, 0), (7, 0), (8, 1), (9, 0), (10, 0), (11, 1), (13, 0), (14, 1), (15, 0), (16, 0), (17, 1), (18, 0), (12, 5)]), (false, [(19, 0), (20, 0)])] (by kernel_rfl) ?_
          refine norm_K fun K hK => ?_
          change wpList _ _ _ [_, _, _, _, _, _, _, _, _, _, _, _, _, _, _, _, _, _, _] _ _
          have hb21 : Below wr.heap.size wr wr.drew := (by repeat (first | exact .refl _ _ | apply bwD | apply bwA | (refine bwS ?_ (by first | omega | simp <;> omega) _) | refine bwC ?_ (by assumption)))
          have ca1 := kept hb21 ca1; have cr1 := kept hb21 cr1; have er1 := er1.below hb21; have e0 := kept hb21 e0; have e1 := kept hb21 e1
          go_wp2_with fail
          refine (first_c er1.sl (by have := HU0.out; omega)).mono ?_; rintro e w22 ⟨rfl, rfl⟩
          go_wp2_with fail
          have hz0 : Below wr.drew.heap.size wr.drew wr.drew := (by repeat (first | exact .refl _ _ | apply bwD | apply bwA | (refine bwS ?_ (by first | omega | simp <;> omega) _) | refine bwC ?_ (by assumption)))
          first | (refine hK _ _ ⟨hz0, ?_⟩; clear hK K) | refine ⟨hz0, ?_⟩
          clear hz0
          refine norm_K fun K hK => ?_
          change wpList _ _ _ [_, _] _ _
          go_wp2_with fail
          first | (refine hK _ _ ⟨rfl, ?_⟩; clear hK K) | refine ⟨rfl, ?_⟩
          go_wp2
          go_roundw
          case rel =>
            have hz := HZ.out
            exact ⟨0 + 1, by go_num, .inr (.inl ⟨rfl, by first | exact hz | rfl⟩), by first | exact hb | exact hb.drew | exact (by repeat (first | exact .refl _ _ | apply bwD | apply bwA | (refine bwS ?_ (by first | omega | simp <;> omega) _) | refine bwC ?_ (by assumption)))⟩
          case measure => simp [intOf]
      · have hne : (a1 != 0) = true := by simpa using ha_
        have hz : (decide (a1 = 0) && isZ u1) = false := by rw [decide_eq_false ha_, Bool.false_and]
        have HZ := Lib.hid hz; clear hz
        go_wp2
        go_wp2_with fail
        refine region_flow [(false, [(0, 0), (1, 1), (2, 0), (3, 0), (4, 1), (5, 0), (6, 0), (7, 0), (8, 1), (9, 0), (10, 0), (11, 1), (13, 0), (14, 1), (15, 0), (16, 0), (17, 1), (18, 0), (12, 5)]), (false, [(19, 0), (20, 0)])] (by kernel_rfl) ?_
        refine norm_K fun K hK => ?_
        change wpList _ _ _ [_, _, _, _, _, _, _, _, _, _, _, _, _, _, _, _, _, _, _] _ _
        have hb21 : Below wr.heap.size wr wr.drew := (by repeat (first | exact .refl _ _ | apply bwD | apply bwA | (refine bwS ?_ (by first | omega | simp <;> omega) _) | refine bwC ?_ (by assumption)))
        have ca1 := kept hb21 ca1; have cr1 := kept hb21 cr1; have er1 := er1.below hb21; have e0 := kept hb21 e0; have e1 := kept hb21 e1
        go_wp2
        first | (refine hK _ _ ⟨(by repeat (first | exact .refl _ _ | apply bwD | apply bwA | (refine bwS ?_ (by first | omega | simp <;> omega) _) | refine bwC ?_ (by assumption))), ?_⟩; clear hK K) | refine ⟨(by repeat (first | exact .refl _ _ | apply bwD | apply bwA | (refine bwS ?_ (by first | omega | simp <;> omega) _) | refine bwC ?_ (by assumption))), ?_⟩
        refine norm_K fun K hK => ?_
        change wpList _ _ _ [_, _] _ _
        go_wp2_with fail
        first | (refine hK _ _ ⟨rfl, ?_⟩; clear hK K) | refine ⟨rfl, ?_⟩
        go_wp2
        go_ret
        exact ⟨by first | rfl | (simp; done) | (rw [HZ.out]; rfl) | (rw [HZ.out]; simp), by first | exact hbe | exact bwD hbe | exact (by repeat (first | exact .refl _ _ | apply bwD | apply bwA | (refine bwS ?_ (by first | omega | simp <;> omega) _) | refine bwC ?_ (by assumption)))⟩
    · skip
      by_cases ha_ : b1 = 0
      · cases hu_ : isZ v1
        · have hlt : leadN v1 < v1.length := by
            have h1 := HZ1.out
            rw [hu_] at h1
            have h2 : ¬ leadN v1 = v1.length := by simpa using h1.symm
            omega
          have hlt2 : (leadN v1 : Int) < (v1.length : Int) := by omega
          have hz : (decide (b1 = 0) && isZ v1) = false := by rw [hu_, Bool.and_false]
          have HZ := Lib.hid hz; have HF := Lib.hid hu_; clear hz hu_
          subst ha_
          go_wp2
          go_wp2_with fail
          refine region_flow [(false, [(0, 0), (1, 1), (2, 0), (3, 0), (4, 1), (5, 0), (6, 0), (7, 0), (8, 1), (9, 0), (10, 0), (11, 1), (13, 0), (14, 1), (15, 0), (16, 0), (17, 1), (18, 0), (12, 5)]), (false, [(19, 0), (20, 0)])] (by kernel_rfl) ?_
          refine norm_K fun K hK => ?_
          change wpList _ _ _ [_, _, _, _, _, _, _, _, _, _, _, _, _, _, _, _, _, _, _] _ _
          have hb21 : Below wr.heap.size wr wr.drew := (by repeat (first | exact .refl _ _ | apply bwD | apply bwA | (refine bwS ?_ (by first | omega | simp <;> omega) _) | refine bwC ?_ (by assumption)))
          have cb1 := kept hb21 cb1; have cs1 := kept hb21 cs1; have es1 := es1.below hb21; have e0 := kept hb21 e0; have e1 := kept hb21 e1
          go_wp2_with fail
          refine (first_c es1.sl (by have := HU1.out; omega)).mono ?_; rintro e w22 ⟨rfl, rfl⟩
          go_wp2_with fail
          have hz0 : Below wr.drew.heap.size wr.drew wr.drew := (by repeat (first | exact .refl _ _ | apply bwD | apply bwA | (refine bwS ?_ (by first | omega | simp <;> omega) _) | refine bwC ?_ (by assumption)))
          first | (refine hK _ _ ⟨hz0, ?_⟩; clear hK K) | refine ⟨hz0, ?_⟩
          clear hz0
          refine norm_K fun K hK => ?_
          change wpList _ _ _ [_, _] _ _
          go_wp2_with fail
          first | (refine hK _ _ ⟨rfl, ?_⟩; clear hK K) | refine ⟨rfl, ?_⟩
          go_wp2
          go_ret
          exact ⟨by first | rfl | (rw [HF.out]; rfl) | (rw [HF.out]; simp; done) | (simp; done) | (rw [HZ.out]; rfl) | (rw [HZ.out]; simp), by first | exact hbe | exact bwD hbe | exact (by repeat (first | exact .refl _ _ | apply bwD | apply bwA | (refine bwS ?_ (by first | omega | simp <;> omega) _) | refine bwC ?_ (by assumption)))⟩
        · have heq : leadN v1 = v1.length := by
            have h1 := HZ1.out
            rw [hu_] at h1
            simpa using h1.symm
          have hlt2 : ¬ ((leadN v1 : Int) < (v1.length : Int)) := by omega
          have hz : (decide (b1 = 0) && isZ v1) = true := by rw [hu_, ha_]; rfl
          have HZ := Lib.hid hz; clear hz hu_ heq
          subst ha_
          go_wp2
          go_wp2_with fail
          refine region_flow [(false, [(0, 0), (1, 1), (2, 0), (3, 0), (4, 1), (5, 0), (6, 0), (7, 0), (8, 1), (9, 0), (10, 0), (11, 1), (13, 0), (14, 1), (15, 0), (16, 0), (17, 1), (18, 0), (12, 5)]), (false, [(19, 0), (20, 0)])] (by kernel_rfl) ?_
          refine norm_K fun K hK => ?_
          change wpList _ _ _ [_, _, _, _, _, _, _, _, _, _, _, _, _, _, _, _, _, _, _] _ _
          have hb21 : Below wr.heap.size wr wr.drew := (by repeat (first | exact .refl _ _ | apply bwD | apply bwA | (refine bwS ?_ (by first | omega | simp <;> omega) _) | refine bwC ?_ (by assumption)))
          have cb1 := kept hb21 cb1; have cs1 := kept hb21 cs1; have es1 := es1.below hb21; have e0 := kept hb21 e0; have e1 := kept hb21 e1
          go_wp2_with fail
          refine (first_c es1.sl (by have := HU1.out; omega)).mono ?_; rintro e w22 ⟨rfl, rfl⟩
          go_wp2_with fail
          have hz0 : Below wr.drew.heap.size wr.drew wr.drew := (by repeat (first | exact .refl _ _ | apply bwD | apply bwA | (refine bwS ?_ (by first | omega | simp <;> omega) _) | refine bwC ?_ (by assumption)))
          first | (refine hK _ _ ⟨hz0, ?_⟩; clear hK K) | refine ⟨hz0, ?_⟩
          clear hz0
          refine norm_K fun K hK => ?_
          change wpList _ _ _ [_, _] _ _
          go_wp2_with fail
          first | (refine hK _ _ ⟨rfl, ?_⟩; clear hK K) | refine ⟨rfl, ?_⟩
          go_wp2
          go_roundw
          case rel =>
            have hz := HZ.out
            have hp_ : (decide (a1 = 0) && isZ u1) = true := by rcases HK.out with h | ⟨_, h⟩ | ⟨h, _⟩ | ⟨h, _⟩ <;> first | exact h | exact absurd h (by decide)
            exact ⟨1 + 1, by go_num, .inr (.inr (.inl ⟨rfl, hp_, by first | exact hz | rfl⟩)), by first | exact hb | exact hb.drew | exact (by repeat (first | exact .refl _ _ | apply bwD | apply bwA | (refine bwS ?_ (by first | omega | simp <;> omega) _) | refine bwC ?_ (by assumption)))⟩
          case measure => simp [intOf]
      · have hne : (b1 != 0) = true := by simpa using ha_
        have hz : (decide (b1 = 0) && isZ v1) = false := by rw [decide_eq_false ha_, Bool.false_and]
        have HZ := Lib.hid hz; clear hz
        go_wp2
        go_wp2_with fail
        refine region_flow [(false, [(0, 0), (1, 1), (2, 0), (3, 0), (4, 1), (5, 0), (6, 0), (7, 0), (8, 1), (9, 0), (10, 0), (11, 1), (13, 0), (14, 1), (15, 0), (16, 0), (17, 1), (18, 0), (12, 5)]), (false, [(19, 0), (20, 0)])] (by kernel_rfl) ?_
        refine norm_K fun K hK => ?_
        change wpList _ _ _ [_, _, _, _, _, _, _, _, _, _, _, _, _, _, _, _, _, _, _] _ _
        have hb21 : Below wr.heap.size wr wr.drew := (by repeat (first | exact .refl _ _ | apply bwD | apply bwA | (refine bwS ?_ (by first | omega | simp <;> omega) _) | refine bwC ?_ (by assumption)))
        have cb1 := kept hb21 cb1; have cs1 := kept hb21 cs1; have es1 := es1.below hb21; have e0 := kept hb21 e0; have e1 := kept hb21 e1
        go_wp2
        first | (refine hK _ _ ⟨(by repeat (first | exact .refl _ _ | apply bwD | apply bwA | (refine bwS ?_ (by first | omega | simp <;> omega) _) | refine bwC ?_ (by assumption))), ?_⟩; clear hK K) | refine ⟨(by repeat (first | exact .refl _ _ | apply bwD | apply bwA | (refine bwS ?_ (by first | omega | simp <;> omega) _) | refine bwC ?_ (by assumption))), ?_⟩
        refine norm_K fun K hK => ?_
        change wpList _ _ _ [_, _] _ _
        go_wp2_with fail
        first | (refine hK _ _ ⟨rfl, ?_⟩; clear hK K) | refine ⟨rfl, ?_⟩
        go_wp2
        go_ret
        exact ⟨by first | rfl | (simp; done) | (rw [HZ.out]; rfl) | (rw [HZ.out]; simp), by first | exact hbe | exact bwD hbe | exact (by repeat (first | exact .refl _ _ | apply bwD | apply bwA | (refine bwS ?_ (by first | omega | simp <;> omega) _) | refine bwC ?_ (by assumption)))⟩
    · skip
      by_cases ha_ : c1 = 0
      · cases hu_ : isZ t1
        · have hlt : leadN t1 < t1.length := by
            have h1 := HZ2.out
            rw [hu_] at h1
            have h2 : ¬ leadN t1 = t1.length := by simpa using h1.symm
            omega
          have hlt2 : (leadN t1 : Int) < (t1.length : Int) := by omega
          have hz : (decide (c1 = 0) && isZ t1) = false := by rw [hu_, Bool.and_false]
          have HZ := Lib.hid hz; have HF := Lib.hid hu_; clear hz hu_
          subst ha_
          go_wp2
          go_wp2_with fail
          refine region_flow [(false, [(0, 0), (1, 1), (2, 0), (3, 0), (4, 1), (5, 0), (6, 0), (7, 0), (8, 1), (9, 0), (10, 0), (11, 1), (13, 0), (14, 1), (15, 0), (16, 0), (17, 1), (18, 0), (12, 5)]), (false, [(19, 0), (20, 0)])] (by kernel_rfl) ?_
          refine norm_K fun K hK => ?_
          change wpList _ _ _ [_, _, _, _, _, _, _, _, _, _, _, _, _, _, _, _, _, _, _] _ _
          have hb21 : Below wr.heap.size wr wr.drew := (by repeat (first | exact .refl _ _ | apply bwD | apply bwA | (refine bwS ?_ (by first | omega | simp <;> omega) _) | refine bwC ?_ (by assumption)))
          have cc1 := kept hb21 cc1; have cq1 := kept hb21 cq1; have eq1 := eq1.below hb21; have e0 := kept hb21 e0; have e1 := kept hb21 e1
          go_wp2_with fail
          refine (first_c eq1.sl (by have := HU2.out; omega)).mono ?_; rintro e w22 ⟨rfl, rfl⟩
          go_wp2_with fail
          have hz0 : Below wr.drew.heap.size wr.drew wr.drew := (by repeat (first | exact .refl _ _ | apply bwD | apply bwA | (refine bwS ?_ (by first | omega | simp <;> omega) _) | refine bwC ?_ (by assumption)))
          first | (refine hK _ _ ⟨hz0, ?_⟩; clear hK K) | refine ⟨hz0, ?_⟩
          clear hz0
          refine norm_K fun K hK => ?_
          change wpList _ _ _ [_, _] _ _
          go_wp2_with fail
          first | (refine hK _ _ ⟨rfl, ?_⟩; clear hK K) | refine ⟨rfl, ?_⟩
          go_wp2
          go_ret
          exact ⟨by first | rfl | (rw [HF.out]; rfl) | (rw [HF.out]; simp; done) | (simp; done) | (rw [HZ.out]; rfl) | (rw [HZ.out]; simp), by first | exact hbe | exact bwD hbe | exact (by repeat (first | exact .refl _ _ | apply bwD | apply bwA | (refine bwS ?_ (by first | omega | simp <;> omega) _) | refine bwC ?_ (by assumption)))⟩
        · have heq : leadN t1 = t1.length := by
            have h1 := HZ2.out
            rw [hu_] at h1
            simpa using h1.symm
          have hlt2 : ¬ ((leadN t1 : Int) < (t1.length : Int)) := by omega
          have hz : (decide (c1 = 0) && isZ t1) = true := by rw [hu_, ha_]; rfl
          have HZ := Lib.hid hz; clear hz hu_ heq
          subst ha_
          go_wp2
          go_wp2_with fail
          refine region_flow [(false, [(0, 0), (1, 1), (2, 0), (3, 0), (4, 1), (5, 0), (6, 0), (7, 0), (8, 1), (9, 0), (10, 0), (11, 1), (13, 0), (14, 1), (15, 0), (16, 0), (17, 1), (18, 0), (12, 5)]), (false, [(19, 0), (20, 0)])] (by kernel_rfl) ?_
          refine norm_K fun K hK => ?_
          change wpList _ _ _ [_, _, _, _, _, _, _, _, _, _, _, _, _, _, _, _, _, _, _] _ _
          have hb21 : Below wr.heap.size wr wr.drew := (by repeat (first | exact .refl _ _ | apply bwD | apply bwA | (refine bwS ?_ (by first | omega | simp <;> omega) _) | refine bwC ?_ (by assumption)))
          have cc1 := kept hb21 cc1; have cq1 := kept hb21 cq1; have eq1 := eq1.below hb21; have e0 := kept hb21 e0; have e1 := kept hb21 e1
          go_wp2_with fail
          refine (first_c eq1.sl (by have := HU2.out; omega)).mono ?_; rintro e w22 ⟨rfl, rfl⟩
          go_wp2_with fail
          have hz0 : Below wr.drew.heap.size wr.drew wr.drew := (by repeat (first | exact .refl _ _ | apply bwD | apply bwA | (refine bwS ?_ (by first | omega | simp <;> omega) _) | refine bwC ?_ (by assumption)))
          first | (refine hK _ _ ⟨hz0, ?_⟩; clear hK K) | refine ⟨hz0, ?_⟩
          clear hz0
          refine norm_K fun K hK => ?_
          change wpList _ _ _ [_, _] _ _
          go_wp2_with fail
          first | (refine hK _ _ ⟨rfl, ?_⟩; clear hK K) | refine ⟨rfl, ?_⟩
          go_wp2
          go_roundw
          case rel =>
            have hz := HZ.out
            have hp_ : (decide (a1 = 0) && isZ u1) = true ∧ (decide (b1 = 0) && isZ v1) = true := by rcases HK.out with h | ⟨h, _⟩ | ⟨_, h⟩ | ⟨h, _⟩ <;> first | exact h | exact absurd h (by decide)
            exact ⟨2 + 1, by go_num, .inr (.inr (.inr ⟨rfl, hp_.1, hp_.2, by first | exact hz | rfl⟩)), by first | exact hb | exact hb.drew | exact (by repeat (first | exact .refl _ _ | apply bwD | apply bwA | (refine bwS ?_ (by first | omega | simp <;> omega) _) | refine bwC ?_ (by assumption)))⟩
          case measure => simp [intOf]
      · have hne : (c1 != 0) = true := by simpa using ha_
        have hz : (decide (c1 = 0) && isZ t1) = false := by rw [decide_eq_false ha_, Bool.false_and]
        have HZ := Lib.hid hz; clear hz
        go_wp2
        go_wp2_with fail
        refine region_flow [(false, [(0, 0), (1, 1), (2, 0), (3, 0), (4, 1), (5, 0), (6, 0), (7, 0), (8, 1), (9, 0), (10, 0), (11, 1), (13, 0), (14, 1), (15, 0), (16, 0), (17, 1), (18, 0), (12, 5)]), (false, [(19, 0), (20, 0)])] (by kernel_rfl) ?_
        refine norm_K fun K hK => ?_
        change wpList _ _ _ [_, _, _, _, _, _, _, _, _, _, _, _, _, _, _, _, _, _, _] _ _
        have hb21 : Below wr.heap.size wr wr.drew := (by repeat (first | exact .refl _ _ | apply bwD | apply bwA | (refine bwS ?_ (by first | omega | simp <;> omega) _) | refine bwC ?_ (by assumption)))
        have cc1 := kept hb21 cc1; have cq1 := kept hb21 cq1; have eq1 := eq1.below hb21; have e0 := kept hb21 e0; have e1 := kept hb21 e1
        go_wp2
        first | (refine hK _ _ ⟨(by repeat (first | exact .refl _ _ | apply bwD | apply bwA | (refine bwS ?_ (by first | omega | simp <;> omega) _) | refine bwC ?_ (by assumption))), ?_⟩; clear hK K) | refine ⟨(by repeat (first | exact .refl _ _ | apply bwD | apply bwA | (refine bwS ?_ (by first | omega | simp <;> omega) _) | refine bwC ?_ (by assumption))), ?_⟩
        refine norm_K fun K hK => ?_
        change wpList _ _ _ [_, _] _ _
        go_wp2_with fail
        first | (refine hK _ _ ⟨rfl, ?_⟩; clear hK K) | refine ⟨rfl, ?_⟩
        go_wp2
        go_ret
        exact ⟨by first | rfl | (simp; done) | (rw [HZ.out]; rfl) | (rw [HZ.out]; simp), by first | exact hbe | exact bwD hbe | exact (by repeat (first | exact .refl _ _ | apply bwD | apply bwA | (refine bwS ?_ (by first | omega | simp <;> omega) _) | refine bwC ?_ (by assumption)))⟩
    · skip
      have hp_ : (decide (a1 = 0) && isZ u1) = true ∧ (decide (b1 = 0) && isZ v1) = true ∧ (decide (c1 = 0) && isZ t1) = true := by rcases HK.out with h | ⟨h, _⟩ | ⟨h, _⟩ | ⟨_, h⟩ <;> first | exact h | exact absurd h (by decide)
      have HP := Lib.hid hp_; clear hp_
      go_wp2
      go_ret
      exact ⟨by first | rfl | (rw [HP.out.1, HP.out.2.1, HP.out.2.2]; rfl), hbe⟩
theorem srank_c {p : Int} {s x : Value} {st : List Int} {X : Her} {w : World} (hd : Dok p st) (hs : El w s st) (hx : Hv w x X) (hX : isH p (sz st.length) X = true) :
    Calls Tryz.prog 95 #[.agg #[.int .i64 p, s], x] w fun e w' => e = .returned (.int .i64 (rankH p st X)) ∧ Below w.heap.size w w' := by
  have hp1 := hd.hp.lo
  have hsz := sz_le hd
  have hA := adjH_is (p := p) (by omega) hX
  obtain ⟨a0, c0, rfl, _⟩ := id hs.op
  obtain ⟨dv1, uv1, rfl, hd1, hu1⟩ := id hx; obtain ⟨a1, c1, rfl, _⟩ := id hd1.op; obtain ⟨b1, k1, rfl, _⟩ := id hu1
  have hR : rankH p st X = if isZ (numsH X) = true then 0 else if isZ (numsH (adjH p st X)) = true then 1 else if detH p st X = 0 then 2 else 3 := rfl
  cases h0 : isZ (numsH X)
  case' true =>
    rw [if_pos h0] at hR
    have HR := Lib.hid hR; clear hR
    go_enter Tryz.func95, Tryz.ntmps95
    have hb0 : Below w.heap.size w ((w.alloc (.cells #[.int .i64 p, .slice a0 st.length c0] 26)).alloc (.cells #[.slice a1 X.dg.length c1, .slice b1 X.up.length k1] 31)) := (by repeat (first | exact .refl _ _ | apply bwD | apply bwA | (refine bwS ?_ (by first | omega | simp <;> omega) _) | refine bwC ?_ (by assumption)))
    have hs := hs.below hb0; have hx := hx.below hb0
    have d0 : ((w.alloc (.cells #[.int .i64 p, .slice a0 st.length c0] 26)).alloc (.cells #[.slice a1 X.dg.length c1, .slice b1 X.up.length k1] 31)).cell? ⟨w.heap.size, 0, none⟩ = some (.int .i64 p) := by simp [go_sem]
    have d1 : ((w.alloc (.cells #[.int .i64 p, .slice a0 st.length c0] 26)).alloc (.cells #[.slice a1 X.dg.length c1, .slice b1 X.up.length k1] 31)).cell? ⟨w.heap.size, 1, none⟩ = some (.slice a0 st.length c0) := by simp [go_sem]
    have e0 : ((w.alloc (.cells #[.int .i64 p, .slice a0 st.length c0] 26)).alloc (.cells #[.slice a1 X.dg.length c1, .slice b1 X.up.length k1] 31)).cell? ⟨w.heap.size + 1, 0, none⟩ = some (.slice a1 X.dg.length c1) := by simp [go_sem]
    have e1 : ((w.alloc (.cells #[.int .i64 p, .slice a0 st.length c0] 26)).alloc (.cells #[.slice a1 X.dg.length c1, .slice b1 X.up.length k1] 31)).cell? ⟨w.heap.size + 1, 1, none⟩ = some (.slice b1 X.up.length k1) := by simp [go_sem]
    go_wp2_with fail
    refine (szero_c hx hX hsz.2).mono ?_; rintro e w1 ⟨rfl, hb1⟩
    have hs := hs.below hb1; have hx := hx.below hb1; have d0 := kept hb1 d0; have d1 := kept hb1 d1; have e0 := kept hb1 e0; have e1 := kept hb1 e1
    go_wp2_with fail
    go_ret
    exact ⟨by rw [HR.out]; rfl, (by repeat (first | exact .refl _ _ | apply bwD | apply bwA | (refine bwS ?_ (by first | omega | simp <;> omega) _) | refine bwC ?_ (by assumption)))⟩
  rw [if_neg (by rw [h0]; decide)] at hR
  cases h1_ : isZ (numsH (adjH p st X))
  case' true =>
    rw [if_pos h1_] at hR
    have HR := Lib.hid hR; clear hR
    go_enter Tryz.func95, Tryz.ntmps95
    have hb0 : Below w.heap.size w ((w.alloc (.cells #[.int .i64 p, .slice a0 st.length c0] 26)).alloc (.cells #[.slice a1 X.dg.length c1, .slice b1 X.up.length k1] 31)) := (by repeat (first | exact .refl _ _ | apply bwD | apply bwA | (refine bwS ?_ (by first | omega | simp <;> omega) _) | refine bwC ?_ (by assumption)))
    have hs := hs.below hb0; have hx := hx.below hb0
    have d0 : ((w.alloc (.cells #[.int .i64 p, .slice a0 st.length c0] 26)).alloc (.cells #[.slice a1 X.dg.length c1, .slice b1 X.up.length k1] 31)).cell? ⟨w.heap.size, 0, none⟩ = some (.int .i64 p) := by simp [go_sem]
    have d1 : ((w.alloc (.cells #[.int .i64 p, .slice a0 st.length c0] 26)).alloc (.cells #[.slice a1 X.dg.length c1, .slice b1 X.up.length k1] 31)).cell? ⟨w.heap.size, 1, none⟩ = some (.slice a0 st.length c0) := by simp [go_sem]
    have e0 : ((w.alloc (.cells #[.int .i64 p, .slice a0 st.length c0] 26)).alloc (.cells #[.slice a1 X.dg.length c1, .slice b1 X.up.length k1] 31)).cell? ⟨w.heap.size + 1, 0, none⟩ = some (.slice a1 X.dg.length c1) := by simp [go_sem]
    have e1 : ((w.alloc (.cells #[.int .i64 p, .slice a0 st.length c0] 26)).alloc (.cells #[.slice a1 X.dg.length c1, .slice b1 X.up.length k1] 31)).cell? ⟨w.heap.size + 1, 1, none⟩ = some (.slice b1 X.up.length k1) := by simp [go_sem]
    go_wp2_with fail
    refine (szero_c hx hX hsz.2).mono ?_; rintro e w1 ⟨rfl, hb1⟩
    have hs := hs.below hb1; have hx := hx.below hb1; have d0 := kept hb1 d0; have d1 := kept hb1 d1; have e0 := kept hb1 e0; have e1 := kept hb1 e1
    go_wp2_with fail
    refine (sadj_c hd hs hx hX).mono ?_; rintro e w2 ⟨v2, rfl, h2, hb2⟩
    have hs := hs.below hb2; have hx := hx.below hb2; have d0 := kept hb2 d0; have d1 := kept hb2 d1; have e0 := kept hb2 e0; have e1 := kept hb2 e1
    go_wp2_with fail
    refine (szero_c h2.hv hA hsz.2).mono ?_; rintro e w3 ⟨rfl, hb3⟩
    have hs := hs.below hb3; have hx := hx.below hb3; have d0 := kept hb3 d0; have d1 := kept hb3 d1; have e0 := kept hb3 e0; have e1 := kept hb3 e1; have h2 := h2.below hb3
    go_wp2_with fail
    go_ret
    exact ⟨by rw [HR.out]; rfl, (by repeat (first | exact .refl _ _ | apply bwD | apply bwA | (refine bwS ?_ (by first | omega | simp <;> omega) _) | refine bwC ?_ (by assumption)))⟩
  rw [if_neg (by rw [h1_]; decide)] at hR
  by_cases h2_ : detH p st X = 0
  all_goals
    first | rw [if_pos h2_] at hR | rw [if_neg h2_] at hR
    obtain ⟨q, hq⟩ : ∃ q, q = detH p st X := ⟨_, rfl⟩
    rw [← hq] at h2_
    have HR := Lib.hid hR; have HQ := Lib.hid hq; clear hR hq
    try (have hne : (q == 0) = false := by simpa using h2_)
    go_enter Tryz.func95, Tryz.ntmps95
    have hb0 : Below w.heap.size w ((w.alloc (.cells #[.int .i64 p, .slice a0 st.length c0] 26)).alloc (.cells #[.slice a1 X.dg.length c1, .slice b1 X.up.length k1] 31)) := (by repeat (first | exact .refl _ _ | apply bwD | apply bwA | (refine bwS ?_ (by first | omega | simp <;> omega) _) | refine bwC ?_ (by assumption)))
    have hs := hs.below hb0; have hx := hx.below hb0
    have d0 : ((w.alloc (.cells #[.int .i64 p, .slice a0 st.length c0] 26)).alloc (.cells #[.slice a1 X.dg.length c1, .slice b1 X.up.length k1] 31)).cell? ⟨w.heap.size, 0, none⟩ = some (.int .i64 p) := by simp [go_sem]
    have d1 : ((w.alloc (.cells #[.int .i64 p, .slice a0 st.length c0] 26)).alloc (.cells #[.slice a1 X.dg.length c1, .slice b1 X.up.length k1] 31)).cell? ⟨w.heap.size, 1, none⟩ = some (.slice a0 st.length c0) := by simp [go_sem]
    have e0 : ((w.alloc (.cells #[.int .i64 p, .slice a0 st.length c0] 26)).alloc (.cells #[.slice a1 X.dg.length c1, .slice b1 X.up.length k1] 31)).cell? ⟨w.heap.size + 1, 0, none⟩ = some (.slice a1 X.dg.length c1) := by simp [go_sem]
    have e1 : ((w.alloc (.cells #[.int .i64 p, .slice a0 st.length c0] 26)).alloc (.cells #[.slice a1 X.dg.length c1, .slice b1 X.up.length k1] 31)).cell? ⟨w.heap.size + 1, 1, none⟩ = some (.slice b1 X.up.length k1) := by simp [go_sem]
    go_wp2_with fail
    refine (szero_c hx hX hsz.2).mono ?_; rintro e w1 ⟨rfl, hb1⟩
    have hs := hs.below hb1; have hx := hx.below hb1; have d0 := kept hb1 d0; have d1 := kept hb1 d1; have e0 := kept hb1 e0; have e1 := kept hb1 e1
    go_wp2_with fail
    refine (sadj_c hd hs hx hX).mono ?_; rintro e w2 ⟨v2, rfl, h2, hb2⟩
    have hs := hs.below hb2; have hx := hx.below hb2; have d0 := kept hb2 d0; have d1 := kept hb2 d1; have e0 := kept hb2 e0; have e1 := kept hb2 e1
    go_wp2_with fail
    refine (szero_c h2.hv hA hsz.2).mono ?_; rintro e w3 ⟨rfl, hb3⟩
    have hs := hs.below hb3; have hx := hx.below hb3; have d0 := kept hb3 d0; have d1 := kept hb3 d1; have e0 := kept hb3 e0; have e1 := kept hb3 e1; have h2 := h2.below hb3
    go_wp2_with fail
    refine (sdet_c hd hs hx hX).mono ?_; rintro e w4 ⟨rfl, hb4⟩
    have hs := hs.below hb4; have hx := hx.below hb4; have d0 := kept hb4 d0; have d1 := kept hb4 d1; have e0 := kept hb4 e0; have e1 := kept hb4 e1; have h2 := h2.below hb4
    rw [← HQ.out]
    go_wp2_with fail
    go_ret
    exact ⟨by rw [HR.out]; rfl, (by repeat (first | exact .refl _ _ | apply bwD | apply bwA | (refine bwS ?_ (by first | omega | simp <;> omega) _) | refine bwC ?_ (by assumption)))⟩
end Go.Proofs.YtgcelfnjijhmkaaGreat
