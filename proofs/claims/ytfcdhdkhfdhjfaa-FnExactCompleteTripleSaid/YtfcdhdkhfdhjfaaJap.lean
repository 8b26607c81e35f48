/- Texts joined for a claim: Out, HcL, HcM, HcS, HcD, HcF, HcG, HcI, HcJ, Tree, HcQ, HcR, HcT, HcK, HcU. -/
import Derived.Test.YtfcdhdkhfdhjfaaJao
import Derived.Test.YtfcdhdkhfdhjfaaFlow
import Derived.Deep.DeepCutAuto
/-
  A local matrix in a block of two cells, to which numbers and rows are appended.
-/
namespace Go.Proofs.Ytfcdhdkhfdhjfaa
open Go.RowKit

def Bx (w : World) (b : Nat) (x y : Value) : Prop := w.heap[b]? = some (.cells #[x, y] 7777 (0, 0))
section
variable {w w' : World} {b : Nat} {x y : Value}
theorem Bx.lt (h : Bx w b x y) : b < w.heap.size := (Array.getElem?_eq_some_iff.1 h).1
theorem Bx.c0 (h : Bx w b x y) : w.cell? ⟨b, 0, none⟩ = some x := by
  unfold Bx at h; simp [World.cell?, h]
theorem Bx.c1 (h : Bx w b x y) : w.cell? ⟨b, 1, none⟩ = some y := by
  unfold Bx at h; simp [World.cell?, h]
theorem Bx.f0 (h : Bx w b x y) : w.frozen? ⟨b, 0, none⟩ = false := frozen_of_row _ _ _ _ _ h
theorem Bx.f1 (h : Bx w b x y) : w.frozen? ⟨b, 1, none⟩ = false := frozen_of_row _ _ _ _ _ h
theorem Bx.bl {B : Nat} (h : Bx w b x y) (hb : Below B w w') (hl : b < B) : Bx w' b x y := by
  unfold Bx at h ⊢
  rw [hb.block b hl]; exact h
theorem Bx.below (h : Bx w b x y) (hb : Below w.heap.size w w') : Bx w' b x y := h.bl hb h.lt
theorem Bx.set0 (h : Bx w b x y) (v : Value) : Bx (w.setCell ⟨b, 0, none⟩ v) b v y := heap_setCell_same _ _ _ _ _ _ h
theorem Bx.set1 (h : Bx w b x y) (v : Value) : Bx (w.setCell ⟨b, 1, none⟩ v) b x v := heap_setCell_same _ _ _ _ _ _ h
theorem Bx.far (h : Bx w b x y) {p : Addr} (hp : b ≠ p.block) (v : Value) : Bx (w.setCell p v) b x y := by
  unfold Bx at h ⊢
  rw [Below.heap_setCell _ _ _ _ hp]; exact h
end
section
variable {w : World} {B : Nat} {v : Value} {xs : List Int} {us : List Value} {xss : List (List Int)}
theorem ownsRow_set {E : TypeId} {n : Nat} {zs : List Value} (h : w.ownsRow B E 1 v n zs) {p : Addr} (hp : p.block < B) (u : Value) : (w.setCell p u).ownsRow B E 1 v n zs := by
  cases hv : v.ownBlock with
  | none =>
    refine ⟨h.1, ?_⟩
    rcases h.2 with h2 | ⟨g', cap', cur, rfl, _⟩
    · exact .inl h2
    · cases hv
  | some g =>
    refine ⟨h.1, ?_⟩
    rcases h.2 with h2 | ⟨g', cap', cur, rfl, h3, hh, h4⟩
    · exact .inl h2
    · exact .inr ⟨g', cap', cur, rfl, h3, by rw [Below.heap_setCell _ _ _ _ (by omega)]; exact hh, h4⟩
theorem OwN.set_ (h : OwN w B v xs) {p : Addr} (hp : p.block < B) (u : Value) : OwN (w.setCell p u) B v xs := ownsRow_set h hp u
theorem OwV.set_ (h : OwV w B v us) {p : Addr} (hp : p.block < B) (u : Value) : OwV (w.setCell p u) B v us := ownsRow_set h hp u
theorem RowsA.set_ (h : RowsA w B us xss) {p : Addr} (hp : p.block < B) (u : Value) : RowsA (w.setCell p u) B us xss := ⟨h.1, fun j a b => (h.2.1 j a b).set_ hp u, h.2.2⟩
end
structure Out (w : World) (N : Nat) (dv uv : Value) (us : List Value) (dg : List Int) (up : List (List Int)) : Prop where
  bx : Bx w N dv uv
  od : OwN w (N + 1) dv dg
  ou : OwV w (N + 1) uv us
  rows : RowsA w (N + 1) us up
  ne : ∀ z ∈ us, z.ownBlock ≠ dv.ownBlock
section
variable {w w' : World} {N : Nat} {dv uv : Value} {us : List Value} {dg : List Int} {up : List (List Int)}
theorem Out.below (h : Out w N dv uv us dg up) (hb : Below w.heap.size w w') : Out w' N dv uv us dg up := ⟨h.bx.below hb, h.od.below hb, h.ou.below hb, h.rows.below hb, h.ne⟩
theorem Out.row {W : World} (h : Out W N dv uv us dg up) {z nv : Value} {xs : List Int} (hz : FrI W (N + 1) z xs) (hne : ∀ y ∈ us, y.ownBlock ≠ z.ownBlock) (hnd : z.ownBlock ≠ dv.ownBlock) (ho : OwV w' (N + 1) nv (us ++ [z])) (hb : Below (N + 1) W w') (hg : W.grownBy w' uv.ownBlock) :
    Out (w'.setCell ⟨N, 1, none⟩ nv) N dv nv (us ++ [z]) dg (up ++ [xs]) := by
  refine ⟨(h.bx.bl hb (Nat.lt_succ_self _)).set1 nv, (h.od.kept hg (apart h.od h.ou)).set_ (Nat.lt_succ_self _) _, ho.set_ (Nat.lt_succ_self _) _, ((h.rows.app h.ou hg).snoc (hz.app h.ou hg) hne).set_ (Nat.lt_succ_self _) _, fun y hy => ?_⟩
  rcases List.mem_append.1 hy with hy | hy
  · exact h.ne y hy
  · rw [List.mem_singleton.1 hy]; exact hnd
theorem Out.fresh (h : Out w N dv uv us dg up) {z : Value} {xs : List Int} (hz : FrI w' w.heap.size z xs) : (∀ y ∈ us, y.ownBlock ≠ z.ownBlock) ∧ z.ownBlock ≠ dv.ownBlock := by
  refine ⟨h.rows.fresh hz, fun e => ?_⟩
  obtain ⟨g, hg, hg1, _⟩ := hz.blk
  rw [hg] at e
  have := (h.od.lt g e.symm).2
  omega
end
end Go.Proofs.Ytfcdhdkhfdhjfaa
/-
  The unit matrix.
-/
namespace Go.Proofs.Ytfcdhdkhfdhjfaa
open Go.RowKit

structure OutU (w : World) (N : Nat) (dv uv : Value) (us : List Value) (up : List (List Int)) : Prop where
  bx : Bx w N dv uv
  ou : OwV w (N + 1) uv us
  rows : RowsA w (N + 1) us up
theorem OutU.below {w w' : World} {N : Nat} {dv uv : Value} {us : List Value} {up : List (List Int)} (h : OutU w N dv uv us up) (hb : Below w.heap.size w w') : OutU w' N dv uv us up := ⟨h.bx.below hb, h.ou.below hb, h.rows.below hb⟩
theorem OutU.row {W w' : World} {N : Nat} {dv uv : Value} {us : List Value} {up : List (List Int)} (h : OutU W N dv uv us up) {z nv : Value} {xs : List Int} (hz : FrI W (N + 1) z xs) (hne : ∀ y ∈ us, y.ownBlock ≠ z.ownBlock) (ho : OwV w' (N + 1) nv (us ++ [z])) (hb : Below (N + 1) W w') (hg : W.grownBy w' uv.ownBlock) :
    OutU (w'.setCell ⟨N, 1, none⟩ nv) N dv nv (us ++ [z]) (up ++ [xs]) :=
  ⟨(h.bx.bl hb (Nat.lt_succ_self _)).set1 nv, ho.set_ (Nat.lt_succ_self _) _, ((h.rows.app h.ou hg).snoc (hz.app h.ou hg) hne).set_ (Nat.lt_succ_self _) _⟩
end Go.Proofs.Ytfcdhdkhfdhjfaa
/-
  Matrices out of rows of numbers; the program's unit.
-/
namespace Go.Proofs.Ytfcdhdkhfdhjfaa
open Go.RowKit

end Go.Proofs.Ytfcdhdkhfdhjfaa
/-
  The numbers of a matrix in one row, and sums of matrices: the program's.
-/
namespace Go.Proofs.Ytfcdhdkhfdhjfaa
open Go.RowKit

theorem flat_le {xss : List (List Int)} : ∀ k, (xss.take k).flatten.length ≤ xss.flatten.length := by
  intro k
  have h := congrArg List.flatten (List.take_append_drop k xss)
  rw [List.flatten_append] at h
  rw [← h, List.length_append]; omega
def totN (xss : List (List Int)) : Nat := xss.flatten.length
theorem totN_snoc {xss : List (List Int)} {xs : List Int} : totN (xss ++ [xs]) = totN xss + xs.length := by unfold totN; rw [List.flatten_append, List.length_append]; simp
set_option maxHeartbeats 1000000 in
set_option maxRecDepth 100000 in
theorem concat_c {x : Value} {xss : List (List Int)} {w : World} (hx : Re w x xss) (hne : ∀ xs ∈ xss, 0 < xs.length) (hn : 0 < xss.length) (hm : xss.flatten.length ≤ 1000) (hm2 : xss.length ≤ 1000) :
    Calls Try.prog 30 #[x] w fun e w' => ∃ v, e = .returned v ∧ FrI w' w.heap.size v xss.flatten ∧ Below w.heap.size w w' := by
  obtain ⟨a, c, rfl, h1, h2, hx⟩ := hx
  rcases hx with rfl | ⟨b, off, rfl, hx⟩
  · simp at hn
  have hpos : 0 < xss.flatten.length := by
    match xss, hn with
    | y :: ys, _ => have := hne y (by simp); simp; omega
  have hle := Lib.hid (show ∀ k, totN (xss.take k) ≤ totN xss from flat_le (xss := xss))
  change 0 < totN xss at hpos; change totN xss ≤ 1000 at hm
  have hx0 : ∀ j (h : j < xss.length), ∃ u, w.cell? ⟨b, off + j, none⟩ = some u ∧ El w u xss[j] := hx
  have HX := Lib.hid hx; clear hx
  go_enter Try.func30, Try.ntmps30
  go_wp2
  go_loop [3, 11] (fun q i => ∃ k : Nat, k ≤ xss.length ∧ i = .int .i64 k ∧ q = .int .i64 (totN (xss.take k) : Nat)) (fun _ i => xss.length - (intOf i).toNat)
  case atStart => exact ⟨0, Nat.zero_le _, rfl, rfl⟩
  case round =>
    obtain ⟨k, hk, rfl, rfl⟩ := hrel
    by_cases hlt : k < xss.length
    · obtain ⟨a1, c1, xs, hxs, hc, he, ht⟩ := Re.get HX.out hlt
      have hf := hle.out (k + 1)
      rw [ht, totN_snoc] at hf
      have hxl : xs.length ≤ 1000 := by omega
      obtain ⟨m, hmm⟩ : ∃ m, m = totN (xss.take k) := ⟨_, rfl⟩
      rw [← hmm] at hf ⊢
      have HT := Lib.hid ht; have HMM := Lib.hid hmm; clear ht hmm
      have hneg : ¬ ((m : Int) + (xs.length : Int) < 0) := by omega
      go_wp2
      go_round
      case rel => exact ⟨k + 1, by omega, by go_num, by rw [HT.out, totN_snoc, ← HMM.out]; go_num⟩
      case measure => simp [intOf]; omega
    · obtain rfl : k = xss.length := by omega
      rw [show totN (xss.take xss.length) = totN xss by rw [List.take_length]]
      obtain ⟨S, hS⟩ : ∃ S, S = totN xss := ⟨_, rfl⟩
      rw [← hS] at hpos hm ⊢
      have HS := Lib.hid hS; clear hS
      go_wp2_with fail
      refine (grow_c hpos hm).mono ?_; rintro e w1 ⟨g, cap, rfl, ho, hb⟩
      go_wp2
      go_loopw [6, 27] (fun q i wr => ∃ (k g cap m : Nat), k ≤ xss.length ∧ i = .int .i64 k ∧ q = .slice (some ⟨g, 0, none⟩) m cap ∧ m = totN (xss.take k) ∧ OwnI wr w.heap.size g m cap (xss.take k).flatten ∧ Below w.heap.size w wr) (fun _ i _ => xss.length - (intOf i).toNat)
      case atStart => exact ⟨0, g, cap, 0, Nat.zero_le _, rfl, rfl, rfl, ho, hb⟩
      case round =>
        clear ho hb
        obtain ⟨k, gg, cc, m, hk, rfl, rfl, hmk, ho, hb⟩ := hrel
        by_cases hlt : k < xss.length
        · obtain ⟨a1, c1, xs, hxs, hc, he, ht⟩ := Re.get HX.out hlt
          have hf := hle.out (k + 1)
          rw [ht, totN_snoc, ← hmk, ← HS.out] at hf
          have hxp := hne xs hxs
          have hc := kept hb hc
          obtain ⟨b1, o1, c2, e2, _, _, hA⟩ := (he.below hb).op1 hxp
          cases e2
          have HT := Lib.hid ht; have HMM := Lib.hid hmk; clear ht hmk
          obtain ⟨ys, hys⟩ : ∃ ys, ys = (xss.take k).flatten := ⟨_, rfl⟩
          rw [← hys] at ho
          have HYS := Lib.hid hys; clear hys
          go_wp2_with (at_builtin; refine app_int rfl _ _ rfl wr w.heap.size gg m cc ys rfl b1 o1 xs.length c1 xs rfl ho hb.size hA rfl hxp (by omega) ?_; intro g' cap' w' ho' hg' hge)
          go_roundw
          case rel => exact ⟨k + 1, g', cap', m + xs.length, by omega, by go_num, rfl, by rw [HT.out, totN_snoc, ← HMM.out], by rw [HT.out, List.flatten_append, ← HYS.out]; simpa using ho', blw_grown hb hg' ho.lt.1⟩
          case measure => simp [intOf]; omega
        · obtain rfl : k = xss.length := by omega
          have e : xss.take xss.length = xss := List.take_length
          rw [e] at hmk ho
          clear e
          have HMM := Lib.hid hmk; clear hmk
          go_wp2
          go_ret
          refine ⟨_, rfl, ⟨gg, cc, ?_, ?_⟩, hb⟩
          · rw [HMM.out]; rfl
          · have e := HMM.out; subst e; exact ho
end Go.Proofs.Ytfcdhdkhfdhjfaa
/-
  Determinants of hermitian matrices.
-/
namespace Go.Proofs.Ytfcdhdkhfdhjfaa
open Go.RowKit

end Go.Proofs.Ytfcdhdkhfdhjfaa
/-
  Entries of hermitian matrices and of their products.
-/
namespace Go.Proofs.Ytfcdhdkhfdhjfaa
open Go.RowKit

theorem Ev.plus {p k : Int} {n : Nat} {xs ys : List Int} (hp : 1 ≤ p) (h : Ev p n xs) (h' : Ev p n ys) : Ev p n (plusL p xs ys k) := ⟨by rw [plusL_len (by rw [h.1, h'.1])]; exact h.1, plusL_fp hp⟩
theorem Ev.scale {p k : Int} {n : Nat} {xs : List Int} (hp : 1 ≤ p) (h : Ev p n xs) : Ev p n (scaleL p xs k) := ⟨by rw [scaleL_len]; exact h.1, scaleL_fp hp⟩
theorem Ev.zero {p : Int} {n : Nat} (hp : 1 ≤ p) : Ev p n (List.replicate n 0) := ⟨List.length_replicate, fun x hx => by have := List.eq_of_mem_replicate hx; omega⟩
theorem Ev.one {p : Int} {n i : Nat} (hp : 2 ≤ p) : Ev p n (oneL n i) := ⟨oneL_len, oneL_fp hp⟩
end Go.Proofs.Ytfcdhdkhfdhjfaa
/-
  Entries of products of hermitian matrices.
-/
namespace Go.Proofs.Ytfcdhdkhfdhjfaa
open Go.RowKit

end Go.Proofs.Ytfcdhdkhfdhjfaa
/-
  Jordan products.
-/
namespace Go.Proofs.Ytfcdhdkhfdhjfaa
open Go.RowKit

end Go.Proofs.Ytfcdhdkhfdhjfaa
/-
  The reference's Jordan product, and the pairing.
-/
namespace Go.Proofs.Ytfcdhdkhfdhjfaa
open Go.RowKit

end Go.Proofs.Ytfcdhdkhfdhjfaa
/-
  A region that draws its order, where at some steps one of two operations may come up: a tree of orders. Plain lemmas over any program.
-/
namespace Go.Proofs.Ytfcdhdkhfdhjfaa
open Go.RowKit

section
variable {P : Program} {ops : Array Oper}
end
end Go.Proofs.Ytfcdhdkhfdhjfaa
/-
  The adjoint.
-/
namespace Go.Proofs.Ytfcdhdkhfdhjfaa
open Go.RowKit

end Go.Proofs.Ytfcdhdkhfdhjfaa
/-
  The reference's adjoint.
-/
namespace Go.Proofs.Ytfcdhdkhfdhjfaa
open Go.RowKit

end Go.Proofs.Ytfcdhdkhfdhjfaa
/-
  Sums of matrices: the reference's.
-/
namespace Go.Proofs.Ytfcdhdkhfdhjfaa
open Go.RowKit

end Go.Proofs.Ytfcdhdkhfdhjfaa
/-
  The pairing of hermitian matrices.
-/
namespace Go.Proofs.Ytfcdhdkhfdhjfaa
open Go.RowKit

end Go.Proofs.Ytfcdhdkhfdhjfaa
/-
  First places other than 0, rows and matrices of zeros, equality of rows.
-/
namespace Go.Proofs.Ytfcdhdkhfdhjfaa
open Go.RowKit

def leadN : List Int → Nat
  | [] => 0
  | x :: xs => if x = 0 then leadN xs + 1 else 0
theorem leadN_le : ∀ xs : List Int, leadN xs ≤ xs.length
  | [] => Nat.le_refl _
  | x :: xs => by
    unfold leadN
    have := leadN_le xs
    split <;> simp <;> omega
theorem drop_lead {xs : List Int} {k : Nat} (h : k < xs.length) : leadN (xs.drop k) = if xs[k] = 0 then leadN (xs.drop (k + 1)) + 1 else 0 := by
  rw [List.drop_eq_getElem_cons h]; rfl
theorem lead_c {x : Value} {xs : List Int} {w : World} (hx : Sl w x xs) (hm : xs.length ≤ 1000000) :
    Calls Try.prog 58 #[x] w fun e w' => e = .returned (.int .i64 (leadN xs)) ∧ w = w' := by
  obtain ⟨a, c, rfl, rfl | ⟨b, off, rfl, hx⟩⟩ := hx
  · go_enter Try.func58, Try.ntmps58
    go_wp2
    refine wp_loop_rounds 1 ?_; rw [rounds_succ]
    go_wp2
    go_ret
    exact ⟨rfl, rfl⟩
  go_enter Try.func58, Try.ntmps58
  go_wp2
  go_loop [3] (fun i => ∃ k : Nat, k ≤ xs.length ∧ i = .int .i64 k ∧ leadN xs = k + leadN (xs.drop k)) (fun i => xs.length - (intOf i).toNat)
  case atStart => exact ⟨0, Nat.zero_le _, rfl, by simp⟩
  case round =>
    obtain ⟨k, hk, rfl, hr⟩ := hrel
    by_cases hlt : k < xs.length
    · obtain ⟨u, hu, hcx, htx⟩ := hx.get hlt
      have hd := drop_lead hlt
      have hcx2 := hx.get' hlt
      obtain ⟨q, hq⟩ : ∃ q, q = xs[k] := ⟨_, rfl⟩
      rw [← hq] at hd hcx2
      have HR := Lib.hid hr; have HD := Lib.hid hd
      clear hr hd htx hcx hq hu u
      by_cases h0 : q = 0
      · subst h0
        go_wp2
        go_round
        case rel => exact ⟨k + 1, by omega, by go_num, by rw [HR.out, HD.out, if_pos rfl]; omega⟩
        case measure => simp [intOf]; omega
      · have hne : (q == 0) = false := by simpa using h0
        go_wp2
        go_ret
        exact ⟨by rw [HR.out, HD.out, if_neg h0]; rfl, rfl⟩
    · obtain rfl : k = xs.length := by omega
      rw [List.drop_length] at hr
      have HR := Lib.hid hr; clear hr
      go_wp2
      go_ret
      exact ⟨by rw [HR.out]; rfl, rfl⟩
theorem first_c {x : Value} {xs : List Int} {w : World} (hx : Sl w x xs) (hm : xs.length ≤ 1000000) :
    Calls Try.prog 21 #[x] w fun e w' => e = .returned (.int .i64 (leadN xs)) ∧ w = w' := by
  obtain ⟨a, c, rfl, rfl | ⟨b, off, rfl, hx⟩⟩ := hx
  · go_enter Try.func21, Try.ntmps21
    go_wp2
    refine wp_loop_rounds 1 ?_; rw [rounds_succ]
    go_wp2
    go_ret
    exact ⟨rfl, rfl⟩
  go_enter Try.func21, Try.ntmps21
  go_wp2
  go_loop [3] (fun i => ∃ k : Nat, k ≤ xs.length ∧ i = .int .i64 k ∧ leadN xs = k + leadN (xs.drop k)) (fun i => xs.length - (intOf i).toNat)
  case atStart => exact ⟨0, Nat.zero_le _, rfl, by simp⟩
  case round =>
    obtain ⟨k, hk, rfl, hr⟩ := hrel
    by_cases hlt : k < xs.length
    · obtain ⟨u, hu, hcx, htx⟩ := hx.get hlt
      have hd := drop_lead hlt
      have hcx2 := hx.get' hlt
      obtain ⟨q, hq⟩ : ∃ q, q = xs[k] := ⟨_, rfl⟩
      rw [← hq] at hd hcx2
      have HR := Lib.hid hr; have HD := Lib.hid hd
      clear hr hd htx hcx hq hu u
      by_cases h0 : q = 0
      · subst h0
        go_wp2
        go_round
        case rel => exact ⟨k + 1, by omega, by go_num, by rw [HR.out, HD.out, if_pos rfl]; omega⟩
        case measure => simp [intOf]; omega
      · have hne : (q == 0) = false := by simpa using h0
        go_wp2
        go_ret
        exact ⟨by rw [HR.out, HD.out, if_neg h0]; rfl, rfl⟩
    · obtain rfl : k = xs.length := by omega
      rw [List.drop_length] at hr
      have HR := Lib.hid hr; clear hr
      go_wp2
      go_ret
      exact ⟨by rw [HR.out]; rfl, rfl⟩
end Go.Proofs.Ytfcdhdkhfdhjfaa
