/- Texts joined for a claim: DbU, HcA, HcB, Tree. -/
import Derived.Test.YtmplpoccalccoaaDbT
import Derived.Test.YtmplpoccalccoaaFlow
/-
  The reference's norm and cyclic form.
-/
namespace Go.Proofs.Ytmplpoccalccoaa
open Go.RowKit

def diagF (p : Int) (st : List Int) : List Int := diagR p st.reverse
theorem diagF_snoc {p g : Int} {st : List Int} : diagF p (st ++ [g]) = diagF p st ++ scaleL p (diagF p st) (p - g) := by
  unfold diagF
  rw [List.reverse_append, List.reverse_singleton, List.singleton_append]; rfl
theorem diagF_len {p : Int} {st : List Int} : (diagF p st).length = sz st.length := by unfold diagF; rw [diagR_len, List.length_reverse]; rfl
theorem diagF_fp {p : Int} {st : List Int} (hp : 2 ≤ p) : Fp p (diagF p st) := diagR_fp hp
theorem sdiag_c {p : Int} {s : Value} {st : List Int} {w : World} (hd : Dok p st) (hs : El w s st) :
    Calls Try.prog 109 #[.agg #[.int .i64 p, s]] w fun e w' => ∃ v, e = .returned v ∧ FrI w' w.heap.size v (diagF p st) ∧ Below w.heap.size w w' := by
  have hp1 := hd.hp.lo
  have hp2 := hd.hp.hi
  have hl3 := hd.hl
  obtain ⟨a, c, rfl, _, _, hs'⟩ := id hs.op
  rcases hs' with rfl | ⟨b, off, rfl, hA⟩
  · rw [show diagF p [] = [1] from rfl]
    go_enter Try.func109, Try.ntmps109
    go_wp2
    refine wp_loop_rounds 1 ?_; rw [rounds_succ]
    go_wp2_with fail
    go_ret
    have ho := OwnI.lit (w := w.alloc (.cells #[.int .i64 p, .slice a ([] : List Int).length c] 32)) (B := w.heap.size) (by simp) [1] (by simp)
    exact ⟨_, rfl, by simpa using ho.fr, (by repeat (first | exact Below.refl _ _ | apply blw_drew | apply blw_alloc | (refine blw_set ?_ (by first | omega | (simp; done) | (simp; omega)) _) | refine below_chain ?_ (by assumption)))⟩
  have hW : Below w.heap.size w (w.alloc (.cells #[.int .i64 p, .slice (some ⟨b, off, none⟩) st.length c] 32)) := (by repeat (first | exact Below.refl _ _ | apply blw_drew | apply blw_alloc | (refine blw_set ?_ (by first | omega | (simp; done) | (simp; omega)) _) | refine below_chain ?_ (by assumption)))
  have hA := hA.below hW
  have d0 : (w.alloc (.cells #[.int .i64 p, .slice (some ⟨b, off, none⟩) st.length c] 32)).cell? ⟨w.heap.size, 0, none⟩ = some (.int .i64 p) := by simp [go_sem]
  have d1 : (w.alloc (.cells #[.int .i64 p, .slice (some ⟨b, off, none⟩) st.length c] 32)).cell? ⟨w.heap.size, 1, none⟩ = some (.slice (some ⟨b, off, none⟩) st.length c) := by simp [go_sem]
  go_enter Try.func109, Try.ntmps109
  go_wp2
  obtain ⟨W, hWe⟩ : ∃ W, W = w.alloc (.cells #[.int .i64 p, .slice (some ⟨b, off, none⟩) st.length c] 32) := ⟨_, rfl⟩
  have hlen : W.heap.size = w.heap.size + 1 := by rw [hWe]; simp
  rw [← hWe] at hA d0 d1 hW ⊢
  rw [← hlen]
  have HW := Lib.hid hWe; have HL := Lib.hid hlen; clear hWe hlen
  go_loopw [3, 4] (fun o i wr => ∃ k g cap : Nat, k ≤ st.length ∧ i = .int .i64 k ∧ o = .slice (some ⟨g, 0, none⟩) (sz k) cap ∧ OwnI wr W.heap.size g (sz k) cap (diagF p (st.take k)) ∧ Below W.heap.size W wr) (fun _ i _ => st.length - (intOf i).toNat)
  case atStart => exact ⟨0, _, _, Nat.zero_le _, rfl, rfl, OwnI.lit (Nat.le_refl _) [1] (by simp), (by repeat (first | exact Below.refl _ _ | apply blw_drew | apply blw_alloc | (refine blw_set ?_ (by first | omega | (simp; done) | (simp; omega)) _) | refine below_chain ?_ (by assumption)))⟩
  case round =>
    obtain ⟨k, g, cap, hk, rfl, rfl, hown, hb⟩ := hrel
    have g0 := kept hb d0
    have g1 := kept hb d1
    by_cases hlt : k < st.length
    · obtain ⟨z, hz, hc, ht⟩ := (hA.below hb).get hlt
      have hzb := hd.hs z hz
      have hsn := diagF_snoc (p := p) (g := z) (st := st.take k)
      rw [← ht] at hsn
      have hszk : sz (k + 1) = sz k + sz k := by unfold sz; rw [Nat.pow_succ]; omega
      have hk2 : sz k ≤ 8 := Nat.le_trans (Nat.pow_le_pow_right (by decide) (show k ≤ 3 by omega)) (by decide)
      have hk1 : 0 < sz k := Nat.pow_pos (by decide)
      have hbd : Below wr.heap.size wr wr.drew := (by repeat (first | exact Below.refl _ _ | apply blw_drew | apply blw_alloc | (refine blw_set ?_ (by first | omega | (simp; done) | (simp; omega)) _) | refine below_chain ?_ (by assumption)))
      have hown := hown.below hbd
      have hfp := diagF_fp (p := p) (st := st.take k) (by omega)
      have H := Lib.hid (And.intro hsn (And.intro hszk (And.intro ht hown.len))); clear hsn hszk ht
      go_wp2
      refine region_flow [(false, [(0, 0), (1, 0), (2, 1), (3, 0), (4, 1), (5, 0), (6, 1), (7, 0), (8, 0), (9, 1), (10, 0), (11, 0), (12, 4), (13, 4), (14, 0)])] (by kernel_rfl) ?_
      refine norm_K fun K hK => ?_
      change wpList _ _ _ [_, _, _, _, _, _, _, _, _, _, _, _, _, _, _] _ _
      go_wp2_with fail
      refine (sscale_c (by omega) (by omega) (by omega) (by omega) hown.sl (hfp.sm (by omega) (by omega)) (by have := H.out.2.2.2; omega)).mono ?_; rintro e w2 ⟨v, rfl, ⟨g2, cap2, rfl, hv⟩, hb2⟩
      have hown := hown.below hb2
      rw [scaleL_len, H.out.2.2.2] at hv ⊢
      have hbw : Below W.heap.size W w2 := below_chain hb (below_chain hbd hb2)
      go_wp2_with (at_builtin; refine app_int rfl _ _ rfl w2 W.heap.size g (sz k) cap _ rfl g2 0 (sz k) cap2 _ rfl hown hbw.size hv.at hv.len (by omega) (by omega) ?_; intro g' cap' w' hown' hgg hge)
      have hbw' := blw_grown hbw hgg hown.lt.1
      first | (refine hK _ _ ⟨rfl, ?_⟩; clear hK K) | refine ⟨rfl, ?_⟩
      go_wp2_with fail
      go_roundw
      case rel => exact ⟨k + 1, g', cap', by omega, by go_num, by rw [H.out.2.1], by rw [H.out.2.1, H.out.1]; exact hown', hbw'⟩
      case measure => simp [intOf]; omega
    · obtain rfl : k = st.length := by omega
      rw [take_all (Nat.le_refl _)] at hown
      go_wp2
      go_ret
      exact ⟨_, rfl, (hown.rebase (by have := hown.lt.1; have := hW.size; omega)).fr, below_chain hW hb⟩
end Go.Proofs.Ytmplpoccalccoaa
/-
  The checks of hermitian matrices: the program's.
-/
namespace Go.Proofs.Ytmplpoccalccoaa
open Go.RowKit

/-- The rows of a matrix are not too long. -/
structure Hsz (X : Her) : Prop where
  h1 : X.dg.length ≤ 1048576
  h2 : X.up.length ≤ 1048576
  h3 : ∀ xs ∈ X.up, xs.length ≤ 1048576
/-- A list of hermitian matrices. -/
def Lh (w : World) (v : Value) (l : List Her) : Prop :=
  ∃ a c, v = .slice a l.length c ∧ (l = [] ∨ ∃ b off, a = some ⟨b, off, none⟩ ∧ ∀ j (h : j < l.length), ∃ d u, w.cell? ⟨b, off + j * 2, none⟩ = some d ∧ w.cell? ⟨b, off + j * 2 + 1, none⟩ = some u ∧ Hv w (.agg #[d, u]) l[j])
theorem Lh.below {w w' : World} {v : Value} {l : List Her} (h : Lh w v l) (hb : Below w.heap.size w w') : Lh w' v l := by
  obtain ⟨a, c, rfl, h⟩ := h
  refine ⟨a, c, rfl, ?_⟩
  rcases h with h | ⟨b, off, ha, h⟩
  · exact .inl h
  · refine .inr ⟨b, off, ha, fun j hj => ?_⟩
    obtain ⟨d, u, h1, h2, h3⟩ := h j hj
    exact ⟨d, u, kept hb h1, kept hb h2, h3.below hb⟩
theorem Lh.get {w : World} {b off : Nat} {l : List Her} (h : ∀ j (h : j < l.length), ∃ d u, w.cell? ⟨b, off + j * 2, none⟩ = some d ∧ w.cell? ⟨b, off + j * 2 + 1, none⟩ = some u ∧ Hv w (.agg #[d, u]) l[j]) {m : Nat} (hm : m < l.length) :
    ∃ d u X, X ∈ l ∧ w.cell? ⟨b, off + m * 2, none⟩ = some d ∧ w.cell? ⟨b, off + m * 2 + 1, none⟩ = some u ∧ Hv w (.agg #[d, u]) X ∧ l.take (m + 1) = l.take m ++ [X] := by
  obtain ⟨d, u, h1, h2, h3⟩ := h m hm
  exact ⟨d, u, l[m], List.getElem_mem hm, h1, h2, h3, List.take_succ_eq_append_getElem hm⟩
theorem Lh.one {w : World} {d u : Value} {X : Her} {b c : Nat} (h : Hv w (.agg #[d, u]) X) (h0 : w.cell? ⟨b, 0, none⟩ = some d) (h1 : w.cell? ⟨b, 1, none⟩ = some u) : Lh w (.slice (some ⟨b, 0, none⟩) 1 c) [X] := by
  refine ⟨_, c, rfl, .inr ⟨b, 0, rfl, fun j hj => ?_⟩⟩
  obtain rfl : j = 0 := by simpa using hj
  exact ⟨d, u, h0, h1, h⟩
theorem chk3_dok {p : Int} {st : List Int} (h : chk3 p st [] = 0) : Dok p st := by
  unfold chk3 at h
  split at h
  · rename_i h1
    split at h
    · cases h
    · exact Dok.of h1 (by assumption)
  · cases h
end Go.Proofs.Ytmplpoccalccoaa
/-
  The reference's checks of hermitian matrices.
-/
namespace Go.Proofs.Ytmplpoccalccoaa
open Go.RowKit

end Go.Proofs.Ytmplpoccalccoaa
/-
  A region that draws its order, where at some steps one of two operations may come up: a tree of orders. Plain lemmas over any program.
-/
namespace Go.Proofs.Ytmplpoccalccoaa
open Go.RowKit

section
variable {P : Program} {ops : Array Oper}
end
end Go.Proofs.Ytmplpoccalccoaa
