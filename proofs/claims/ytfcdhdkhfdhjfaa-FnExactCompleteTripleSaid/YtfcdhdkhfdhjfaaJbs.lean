/- Texts joined for a claim: CtI, KeB. -/
import Derived.Test.YtfcdhdkhfdhjfaaCtG
import Derived.Test.YtfcdhdkhfdhjfaaCtF
import Derived.Test.YtfcdhdkhfdhjfaaLbB
import Derived.Test.YtfcdhdkhfdhjfaaLbE
import Derived.Test.YtfcdhdkhfdhjfaaJay
import Derived.Test.YtfcdhdkhfdhjfaaJbi
import Derived.Test.YtfcdhdkhfdhjfaaLinG
import Derived.Maps.RangeWalk
import Derived.Maps.OwnOps
import Derived.Carry
/-
  CompleteTriple: the reference's function, walked.
-/
namespace Go.Proofs.Ytfcdhdkhfdhjfaa
open Go.RowKit

def RCompleteTriple1 (p : Int) (st : List Int) (M : List (List Int)) : Int := if chkT p st [M] = 0 then (if st.length = 3 ∧ skewB p (diagF p st) M = true then 0 else 5) else chkT p st [M]
def RCompleteTriple0 (p : Int) (st : List Int) (M : List (List Int)) : T3 := if RCompleteTriple1 p st M = 0 then cut3 8 (sumK p M.flatten (locN p st)) else ⟨[], [], []⟩
theorem chkT_one {p : Int} {st : List Int} {M : List (List Int)} (h : chkT p st [M] = 0) : Dok p st ∧ matB p (sz st.length) M = true := by
  unfold chkT at h
  split at h
  · next h1 =>
    split at h
    · next h2 => exact ⟨chk3_dok h1, by simpa using h2⟩
    · exact absurd h (by decide)
  · next h1 => exact absurd h h1
theorem flat_ev {p : Int} {n : Nat} {M : List (List Int)} (h : matB p n M = true) : Ev p (n * n) M.flatten := by
  obtain ⟨h1, h2⟩ := matB_iff.1 h
  refine ⟨by rw [flat_len (fun r hr => (h2 r hr).1), h1], fun x hx => ?_⟩
  obtain ⟨r, hr, hx⟩ := List.mem_flatten.1 hx
  exact (h2 r hr).2 x hx
theorem compl_mat {p : Int} {st : List Int} {M : List (List Int)} (hd : Dok p st) (h3 : st.length = 3) (hM : matB p (sz st.length) M = true) (hs : skewB p (diagF p st) M = true) :
    Ev p 64 M.flatten ∧ (∀ r ∈ basisL p 129 (wideL p M.flatten (locP p st)), leadN r ≠ 128) ∧ (∀ r ∈ locN p st, leadN r < 64) ∧ Ev p 128 (setL 128 (basisL p 129 (wideL p M.flatten (locP p st)))) ∧ M.flatten ++ setL 128 (basisL p 129 (wideL p M.flatten (locP p st))) = sumK p M.flatten (locN p st) := by
  have h8 := sz3 h3
  rw [h8] at hM
  have hf : Ev p 64 M.flatten := flat_ev hM
  obtain ⟨h1, h2⟩ := matB_iff.1 hM
  refine ⟨hf, compl_same hd h3 hf fun i k hi hk => ?_⟩
  have e1 : M.flatten.getD (i * 8 + k) 0 = (M.getD i []).getD k 0 := flat_at (fun r hr => (h2 r hr).1) (by omega) hk
  have e2 : M.flatten.getD (k * 8 + i) 0 = (M.getD k []).getD i 0 := flat_at (fun r hr => (h2 r hr).1) (by omega) hi
  rw [e1, e2]
  have hall : ∀ i k, i < 8 → k ≤ i → skG p (diagF p st) M i k = true := fun i k hi hk => by
    have e : skewB p (diagF p st) M = (List.range M.length).all fun i => (List.range (i + 1)).all (skG p (diagF p st) M i) := rfl
    rw [e, h1] at hs
    exact List.all_eq_true.1 (List.all_eq_true.1 hs i (List.mem_range.2 hi)) k (List.mem_range.2 (by omega))
  unfold dgN
  by_cases hki : k ≤ i
  · have e := hall i k hi hki
    unfold skG at e
    rw [beq_iff_eq] at e
    rw [Int.mul_comm ((diagF p st).getD i 0), Int.mul_comm ((diagF p st).getD k 0)]
    exact e
  · have e := hall k i hk (by omega)
    unfold skG at e
    rw [beq_iff_eq] at e
    rw [Int.mul_comm ((diagF p st).getD i 0), Int.mul_comm ((diagF p st).getD k 0), Int.add_comm]
    exact e
set_option maxHeartbeats 4000000 in
set_option maxRecDepth 100000 in
theorem stwo_c {p : Int} {x m : Value} {bl k : Nat} {st : List Int} {M : List (List Int)} {w : World} (hx : El w x st) (h0 : w.cell? ⟨bl, 0, none⟩ = some m) (hA : Re w m M) (hm : st.length ≤ 1048576) (hz : Msz M) :
    Calls Try.prog 18 #[.agg #[.int .i64 p, x], .slice (some ⟨bl, 0, none⟩) 1 k] w fun e w' => e = .returned (.int .i64 (chkT p st [M])) ∧ Below w.heap.size w w' := by
  obtain ⟨a0, c0, rfl, _⟩ := id hx.op
  obtain ⟨a1, c1, rfl, _⟩ := id hA
  have hcon := fun W h => sl14_c (w := W) (p := p) (x := .slice a0 st.length c0) h hm
  by_cases hk : chk3 p st [] = 0
  case neg =>
    rw [show chkT p st [M] = chk3 p st [] from if_neg hk]
    obtain ⟨r, hr⟩ : ∃ r, r = chk3 p st [] := ⟨_, rfl⟩
    simp only [← hr] at hcon hk ⊢
    clear hr
    have hne : (r == 0) = false := by simpa using hk
    go_enter Try.func18, Try.ntmps18
    have hb0 : Below w.heap.size w (w.alloc (.cells #[.int .i64 p, .slice a0 st.length c0] 32)) := (by repeat (first | exact .refl _ _ | apply bwD | apply bwA | (refine bwS ?_ (by first | omega | simp <;> omega) _) | refine bwC ?_ (by assumption)))
    have hx := hx.below hb0
    have d0 : (w.alloc (.cells #[.int .i64 p, .slice a0 st.length c0] 32)).cell? ⟨w.heap.size, 0, none⟩ = some (.int .i64 p) := by simp [go_sem]
    have d1 : (w.alloc (.cells #[.int .i64 p, .slice a0 st.length c0] 32)).cell? ⟨w.heap.size, 1, none⟩ = some (.slice a0 st.length c0) := by simp [go_sem]
    go_wp2_with fail
    refine (hcon _ hx).mono ?_; rintro e w1 ⟨rfl, hb1⟩
    have hx := hx.below hb1; have d0 := kept hb1 d0; have d1 := kept hb1 d1
    go_wp2_with fail
    go_ret
    exact ⟨rfl, (by repeat (first | exact .refl _ _ | apply bwD | apply bwA | (refine bwS ?_ (by first | omega | simp <;> omega) _) | refine bwC ?_ (by assumption)))⟩
  have hd := chk3_dok hk
  have hT : chkT p st [M] = if matB p (sz st.length) M = true then 0 else 2 := by
    unfold chkT
    rw [if_pos hk]
    simp only [List.all_cons, List.all_nil, Bool.and_true]
  simp only [hk] at hcon
  have kA := fun W h1 h2 => smatrix_c (w := W) (p := p) (s := .slice a0 st.length c0) (m := .slice a1 M.length c1) hd h1 h2 hz.h3 hz.h2
  rw [hT]
  obtain ⟨zA, hzA⟩ : ∃ z, z = matB p (sz st.length) M := ⟨_, rfl⟩
  simp only [← hzA] at kA ⊢
  clear hT hzA hk
  cases zA with
  | false =>
    rw [if_neg (by simp)]
    go_enter Try.func18, Try.ntmps18
    have hb0 : Below w.heap.size w (w.alloc (.cells #[.int .i64 p, .slice a0 st.length c0] 32)) := (by repeat (first | exact .refl _ _ | apply bwD | apply bwA | (refine bwS ?_ (by first | omega | simp <;> omega) _) | refine bwC ?_ (by assumption)))
    have hx := hx.below hb0; have hA := hA.below hb0; have h0 := kept hb0 h0
    have d0 : (w.alloc (.cells #[.int .i64 p, .slice a0 st.length c0] 32)).cell? ⟨w.heap.size, 0, none⟩ = some (.int .i64 p) := by simp [go_sem]
    have d1 : (w.alloc (.cells #[.int .i64 p, .slice a0 st.length c0] 32)).cell? ⟨w.heap.size, 1, none⟩ = some (.slice a0 st.length c0) := by simp [go_sem]
    go_wp2_with fail
    refine (hcon _ hx).mono ?_; rintro e w1 ⟨rfl, hb1⟩
    have hx := hx.below hb1; have hA := hA.below hb1; have h0 := kept hb1 h0; have d0 := kept hb1 d0; have d1 := kept hb1 d1
    go_wp2_with fail
    refine wp_loop_rounds 2 ?_; rw [rounds_succ]
    go_wp2_with fail
    refine region_flow [(false, [(0, 1), (1, 0), (2, 0), (3, 0), (4, 1), (5, 4), (6, 0)])] (by kernel_rfl) ?_
    refine norm_K fun K hK => ?_
    change wpList _ _ _ [_, _, _, _, _, _, _] _ _
    have hb2 : Below w1.heap.size w1 w1.drew := (by repeat (first | exact .refl _ _ | apply bwD | apply bwA | (refine bwS ?_ (by first | omega | simp <;> omega) _) | refine bwC ?_ (by assumption)))
    have hx := hx.below hb2; have hA := hA.below hb2; have h0 := kept hb2 h0; have d0 := kept hb2 d0; have d1 := kept hb2 d1
    generalize w1.drew = wq at *
    go_wp2_with fail
    refine (kA _ hx hA).mono ?_; rintro e w3 ⟨rfl, hb3⟩
    have hx := hx.below hb3; have hA := hA.below hb3; have h0 := kept hb3 h0; have d0 := kept hb3 d0; have d1 := kept hb3 d1
    go_wp2_with fail
    first | (refine hK _ _ ⟨rfl, ?_⟩; clear hK K) | refine ⟨rfl, ?_⟩
    go_wp2_with fail
    go_ret
    exact ⟨rfl, (by repeat (first | exact .refl _ _ | apply bwD | apply bwA | (refine bwS ?_ (by first | omega | simp <;> omega) _) | refine bwC ?_ (by assumption)))⟩
  | true =>
    rw [if_pos (by simp)]
    go_enter Try.func18, Try.ntmps18
    have hb0 : Below w.heap.size w (w.alloc (.cells #[.int .i64 p, .slice a0 st.length c0] 32)) := (by repeat (first | exact .refl _ _ | apply bwD | apply bwA | (refine bwS ?_ (by first | omega | simp <;> omega) _) | refine bwC ?_ (by assumption)))
    have hx := hx.below hb0; have hA := hA.below hb0; have h0 := kept hb0 h0
    have d0 : (w.alloc (.cells #[.int .i64 p, .slice a0 st.length c0] 32)).cell? ⟨w.heap.size, 0, none⟩ = some (.int .i64 p) := by simp [go_sem]
    have d1 : (w.alloc (.cells #[.int .i64 p, .slice a0 st.length c0] 32)).cell? ⟨w.heap.size, 1, none⟩ = some (.slice a0 st.length c0) := by simp [go_sem]
    go_wp2_with fail
    refine (hcon _ hx).mono ?_; rintro e w1 ⟨rfl, hb1⟩
    have hx := hx.below hb1; have hA := hA.below hb1; have h0 := kept hb1 h0; have d0 := kept hb1 d0; have d1 := kept hb1 d1
    go_wp2_with fail
    refine wp_loop_rounds 2 ?_; rw [rounds_succ]
    go_wp2_with fail
    refine region_flow [(false, [(0, 1), (1, 0), (2, 0), (3, 0), (4, 1), (5, 4), (6, 0)])] (by kernel_rfl) ?_
    refine norm_K fun K hK => ?_
    change wpList _ _ _ [_, _, _, _, _, _, _] _ _
    have hb2 : Below w1.heap.size w1 w1.drew := (by repeat (first | exact .refl _ _ | apply bwD | apply bwA | (refine bwS ?_ (by first | omega | simp <;> omega) _) | refine bwC ?_ (by assumption)))
    have hx := hx.below hb2; have hA := hA.below hb2; have h0 := kept hb2 h0; have d0 := kept hb2 d0; have d1 := kept hb2 d1
    generalize w1.drew = wq at *
    go_wp2_with fail
    refine (kA _ hx hA).mono ?_; rintro e w3 ⟨rfl, hb3⟩
    have hx := hx.below hb3; have hA := hA.below hb3; have h0 := kept hb3 h0; have d0 := kept hb3 d0; have d1 := kept hb3 d1
    go_wp2_with fail
    first | (refine hK _ _ ⟨rfl, ?_⟩; clear hK K) | refine ⟨rfl, ?_⟩
    go_wp2_with fail
    rw [rounds_succ]
    go_wp2_with fail
    go_ret
    exact ⟨rfl, (by repeat (first | exact .refl _ _ | apply bwD | apply bwA | (refine bwS ?_ (by first | omega | simp <;> omega) _) | refine bwC ?_ (by assumption)))⟩
end Go.Proofs.Ytfcdhdkhfdhjfaa
/-
  The kernel of rows by the program: the walk over its map.
-/
namespace Go.Proofs.Ytfcdhdkhfdhjfaa
open Go.RowKit Go.Maps

end Go.Proofs.Ytfcdhdkhfdhjfaa
