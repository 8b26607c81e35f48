/-
  Matrices of doublings: checks, columns, products with an element; program and reference.
-/
import Derived.Test.YtfcdhdkhfdhjfaaJas
import Derived.Test.YtfcdhdkhfdhjfaaDbT
import Derived.Test.YtfcdhdkhfdhjfaaLinE
namespace Go.Proofs.Ytfcdhdkhfdhjfaa
open Go.RowKit

theorem Sl.cellat {w : World} {a : Option Addr} {c : Nat} {xs : List Int} {i : Nat} (h : Sl w (.slice a xs.length c) xs) (hi : i < xs.length) : ∃ b off, a = some ⟨b, off, none⟩ ∧ w.cell? ⟨b, off + i, none⟩ = some (.int .i64 (xs.getD i 0)) := by
  obtain ⟨a', c', e, h⟩ := h
  cases e
  rcases h with h | ⟨b, off, rfl, h⟩
  · rw [h] at hi; simp at hi
  · exact ⟨b, off, rfl, h i hi⟩
def tabF (p : Int) (m : Nat) (r : List Int) : Bool := decide (r.length = m) && decide (1 ≤ r.length) && decide (r.length ≤ 16) && isL p r
theorem tab_def {p : Int} {L : List (List Int)} : tabB p L = (decide (L.length ≤ 16) && L.all (tabF p (L.getD 0 []).length)) := rfl
theorem tab_no {p : Int} {L : List (List Int)} {s : List Int} (h : s ∈ L) (hf : tabF p (L.getD 0 []).length s = false) : tabB p L = false := by
  rw [tab_def]
  have : L.all (tabF p (L.getD 0 []).length) = false := List.all_eq_false.2 ⟨s, h, by rw [hf]; decide⟩
  rw [this, Bool.and_false]
theorem smatrix_c {p : Int} {s m : Value} {st : List Int} {L : List (List Int)} {w : World} (hd : Dok p st) (hs : El w s st) (hr : Re w m L) (hL : ∀ r ∈ L, r.length ≤ 1048576) (hn : L.length ≤ 1048576) :
    Calls Try.prog 40 #[.agg #[.int .i64 p, s], m] w fun e w' => e = .returned (.bool (matB p (sz st.length) L)) ∧ Below w.heap.size w w' := by
  have hp1 := hd.hp.lo; have hp2 := hd.hp.hi; have hl3 := hd.hl
  obtain ⟨a0, c0, rfl, _⟩ := id hs.op
  obtain ⟨ar, cr, rfl, hr1, hr2, hR⟩ := hr
  have hcmp : ((L.length : Int) == ((sz st.length : Nat) : Int)) = decide (L.length = sz st.length) := by
    rw [Bool.eq_iff_iff, beq_iff_eq, decide_eq_true_eq]; omega
  obtain ⟨q, hq⟩ : ∃ q, q = decide (L.length = sz st.length) := ⟨_, rfl⟩
  have hm : matB p (sz st.length) L = (q && L.all (isE p (sz st.length))) := by rw [hq]; rfl
  rw [← hq] at hcmp
  have HM := Lib.hid hm; clear hm hq
  have hno : ∀ r ∈ L, isE p (sz st.length) r = false → (L.all (isE p (sz st.length))) = false := fun r hr h => List.all_eq_false.2 ⟨r, hr, by rw [h]; decide⟩
  have HNO := Lib.hid hno; clear hno
  have hbW : Below w.heap.size w (w.alloc (.cells #[.int .i64 p, .slice a0 st.length c0] 32)) := (by repeat (first | exact .refl _ _ | apply bwD | apply bwA | (refine bwS ?_ (by first | omega | simp <;> omega) _) | refine bwC ?_ (by assumption)))
  have hs := hs.below hbW
  have d0 : (w.alloc (.cells #[.int .i64 p, .slice a0 st.length c0] 32)).cell? ⟨w.heap.size, 0, none⟩ = some (.int .i64 p) := by simp [go_sem]
  have d1 : (w.alloc (.cells #[.int .i64 p, .slice a0 st.length c0] 32)).cell? ⟨w.heap.size, 1, none⟩ = some (.slice a0 st.length c0) := by simp [go_sem]
  obtain ⟨W, hWe⟩ : ∃ W, W = w.alloc (.cells #[.int .i64 p, .slice a0 st.length c0] 32) := ⟨_, rfl⟩
  have HW := Lib.hid hWe
  rw [← hWe] at hs d0 d1 hbW
  clear hWe
  go_enter Try.func40, Try.ntmps40
  go_wp2
  rw [← HW.out]
  go_loopw [5] (fun i wr => ∃ k : Nat, k ≤ L.length ∧ i = .int .i64 k ∧ (L.take k).all (isE p (sz st.length)) = true ∧ Below W.heap.size W wr) (fun i _ => L.length - (intOf i).toNat)
  case atStart => exact ⟨0, Nat.zero_le _, rfl, rfl, Below.refl _ _⟩
  case round =>
    obtain ⟨k, hk, rfl, hall, hb⟩ := hrel
    have hs := hs.below hb; have d0 := kept hb d0; have d1 := kept hb d1
    have hbx := bwC hbW hb
    by_cases hlt : k < L.length
    · obtain ⟨b, off, rfl, hcell⟩ := hR.resolve_left (fun e => by rw [e] at hlt; simp at hlt)
      obtain ⟨a2, c2, r, hr, hc, hE, ht⟩ := Re.get hcell hlt
      have hc := kept hbx hc
      have hE := hE.below hbx
      have hrl := hL r hr
      have hbd : Below wr.heap.size wr wr.drew := (by repeat (first | exact .refl _ _ | apply bwD | apply bwA | (refine bwS ?_ (by first | omega | simp <;> omega) _) | refine bwC ?_ (by assumption)))
      have hs := hs.below hbd; have d0 := kept hbd d0; have d1 := kept hbd d1; have hc := kept hbd hc; have hE := hE.below hbd
      have HT := Lib.hid ht; have HA := Lib.hid hall; clear ht hall
      go_wp2_with fail
      refine region_flow [(false, [(0, 1), (1, 0), (2, 0), (3, 0), (4, 1), (5, 4), (6, 0)])] (by kernel_rfl) ?_
      refine norm_K fun K hK => ?_
      change wpList _ _ _ [_, _, _, _, _, _, _] _ _
      go_wp2_with fail
      refine (selem_c hs hE (by omega) hrl (by omega) (by omega)).mono ?_; rintro e w1 ⟨rfl, hb1⟩
      cases hv : isE p (sz st.length) r
      · go_wp2_with fail
        first | (refine hK _ _ ⟨rfl, ?_⟩; clear hK K) | refine ⟨rfl, ?_⟩
        go_wp2_with fail
        go_ret
        exact ⟨by rw [HM.out, HNO.out r hr hv, Bool.and_false]; rfl, bwC (bwC hbx hbd) hb1⟩
      · go_wp2_with fail
        first | (refine hK _ _ ⟨rfl, ?_⟩; clear hK K) | refine ⟨rfl, ?_⟩
        go_wp2_with fail
        go_roundw
        case rel => exact ⟨k + 1, by omega, by go_num, by rw [HT.out, List.all_append, HA.out]; simp [hv], bwC (bwC hb hbd) hb1⟩
        case measure => simp [intOf]; omega
    · obtain rfl : k = L.length := by omega
      rw [take_all (Nat.le_refl _)] at hall
      have HA := Lib.hid hall; clear hall
      go_wp2_with fail
      refine (ssize_c (by omega)).mono ?_; rintro e w1 ⟨rfl, hb1⟩
      go_wp2_with fail
      go_ret
      exact ⟨by rw [HM.out, HA.out, Bool.and_true]; simp, bwC hbx hb1⟩
theorem istable_c {p : Int} {m : Value} {L : List (List Int)} {w : World} (hp : 0 ≤ p) (hp2 : p ≤ 1000) (hr : Re w m L) (hL : ∀ r ∈ L, r.length ≤ 1048576) (hn : L.length ≤ 1048576) :
    Calls Try.prog 91 #[.int .i64 p, m] w fun e w' => e = .returned (.bool (tabB p L)) ∧ w = w' := by
  obtain ⟨ar, cr, rfl, _, _, hR⟩ := hr
  by_cases h16 : 16 < L.length
  · have e : tabB p L = false := by unfold tabB; rw [decide_eq_false (by omega)]; rfl
    have E := Lib.hid e; clear e
    go_enter Try.func91, Try.ntmps91
    go_wp2
    go_ret
    exact ⟨by rw [E.out]; rfl, rfl⟩
  rcases hR with rfl | ⟨b, off, rfl, hcell⟩
  · go_enter Try.func91, Try.ntmps91
    go_wp2
    refine wp_loop_rounds 1 ?_; rw [rounds_succ]
    go_wp2
    go_ret
    exact ⟨by simp [tabB], rfl⟩
  obtain ⟨m0, hm0⟩ : ∃ m, m = (L.getD 0 []).length := ⟨_, rfl⟩
  have hdef : tabB p L = L.all (tabF p m0) := by rw [tab_def, decide_eq_true (by omega), hm0]; rfl
  have hno : ∀ s ∈ L, tabF p m0 s = false → tabB p L = false := fun s hs h => tab_no hs (by rw [← hm0]; exact h)
  have hfirst : 0 < L.length → ∃ a c, w.cell? ⟨b, off, none⟩ = some (.slice a m0 c) := fun h => by
    obtain ⟨u, h1, h2⟩ := hcell 0 h
    obtain ⟨a, c, rfl, _⟩ := h2.op
    refine ⟨a, c, ?_⟩
    rw [hm0, show L.getD 0 [] = L[0] by simp [List.getD_eq_getElem?_getD, h]]
    exact h1
  have HDEF := Lib.hid hdef; have HNO := Lib.hid hno; have HF := Lib.hid hfirst
  clear hdef hno hfirst hm0
  go_enter Try.func91, Try.ntmps91
  go_wp2
  go_loop [12] (fun i => ∃ k : Nat, k ≤ L.length ∧ i = .int .i64 k ∧ (L.take k).all (tabF p m0) = true) (fun i => L.length - (intOf i).toNat)
  case atStart => exact ⟨0, Nat.zero_le _, rfl, rfl⟩
  case round =>
    obtain ⟨k, hk, rfl, hall⟩ := hrel
    by_cases hlt : k < L.length
    · obtain ⟨a2, c2, s, hs, hc, hE, ht⟩ := Re.get hcell hlt
      obtain ⟨a3, c3, hc0⟩ := HF.out (by omega)
      have hrl := hL s hs
      have HT := Lib.hid ht; have HA := Lib.hid hall; clear ht hall
      have hdF : tabF p m0 s = (decide (s.length = m0) && decide (1 ≤ s.length) && decide (s.length ≤ 16) && isL p s) := rfl
      by_cases e1 : s.length = m0
      case neg =>
        have E := Lib.hid (HNO.out s hs (by rw [hdF, decide_eq_false e1]; rfl)); clear hdF
        have hne : ((s.length : Int) != (m0 : Int)) = true := by rw [bne_iff_ne]; omega
        go_wp2
        go_ret
        exact ⟨by rw [E.out]; rfl, rfl⟩
      have hne : ((s.length : Int) != (m0 : Int)) = false := by rw [e1]; simp
      rw [decide_eq_true e1, Bool.true_and] at hdF
      have E1 := Lib.hid e1; clear e1
      by_cases e2 : 1 ≤ s.length
      case neg =>
        have E := Lib.hid (HNO.out s hs (by rw [hdF, decide_eq_false e2]; rfl)); clear hdF
        go_wp2
        go_ret
        exact ⟨by rw [E.out]; rfl, rfl⟩
      rw [decide_eq_true e2, Bool.true_and] at hdF
      by_cases e3 : s.length ≤ 16
      case neg =>
        have E := Lib.hid (HNO.out s hs (by rw [hdF, decide_eq_false e3]; rfl)); clear hdF
        go_wp2
        go_ret
        exact ⟨by rw [E.out]; rfl, rfl⟩
      rw [decide_eq_true e3, Bool.true_and] at hdF
      cases hv : isL p s
      · have E := Lib.hid (HNO.out s hs (by rw [hdF, hv])); clear hdF
        go_wp2_with fail
        refine (is_c hp hp2 hE.sl hrl).mono ?_; rintro e w1 ⟨rfl, rfl⟩
        simp only [hv]
        go_wp2
        go_ret
        exact ⟨by rw [E.out]; rfl, rfl⟩
      · rw [hv] at hdF
        have HD := Lib.hid hdF; clear hdF
        go_wp2_with fail
        refine (is_c hp hp2 hE.sl hrl).mono ?_; rintro e w1 ⟨rfl, rfl⟩
        simp only [hv]
        go_wp2
        go_round
        case rel => exact ⟨k + 1, by omega, by go_num, by rw [HT.out, List.all_append, HA.out]; simp [HD.out]⟩
        case measure => simp [intOf]; omega
    · obtain rfl : k = L.length := by omega
      rw [take_all (Nat.le_refl _)] at hall
      have HA := Lib.hid hall; clear hall
      go_wp2
      go_ret
      exact ⟨by rw [HDEF.out, HA.out]; rfl, rfl⟩
theorem fismatrix_c {p : Int} {m : Value} {L : List (List Int)} {w : World} (hp : 0 ≤ p) (hp2 : p ≤ 1000) (hr : Re w m L) (hL : ∀ r ∈ L, r.length ≤ 1048576) (hn : L.length ≤ 1048576) :
    Calls Try.prog 74 #[.int .i64 p, m] w fun e w' => e = .returned (.bool (decide (0 < L.length) && tabB p L)) ∧ w = w' := by
  have hcon := fun W h => istable_c (w := W) hp hp2 h hL hn (m := m)
  obtain ⟨ar, cr, rfl, _⟩ := id hr
  obtain ⟨q, hq⟩ : ∃ q, q = tabB p L := ⟨_, rfl⟩
  simp only [← hq] at hcon ⊢
  clear hq
  by_cases h0 : 0 < L.length
  · rw [decide_eq_true h0, Bool.true_and]
    go_enter Try.func74, Try.ntmps74
    go_wp2_with fail
    refine (hcon _ hr).mono ?_; rintro e w1 ⟨rfl, rfl⟩
    go_wp2
    go_ret
    exact ⟨rfl, rfl⟩
  · rw [decide_eq_false h0, Bool.false_and]
    go_enter Try.func74, Try.ntmps74
    go_wp2
    go_ret
    exact ⟨rfl, rfl⟩
end Go.Proofs.Ytfcdhdkhfdhjfaa
