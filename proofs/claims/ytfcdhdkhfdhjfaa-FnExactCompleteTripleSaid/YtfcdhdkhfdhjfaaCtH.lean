/-
  The program's solution of a linear system, walked.
-/
import Derived.Test.YtfcdhdkhfdhjfaaCtF
import Derived.Test.YtfcdhdkhfdhjfaaLinG
import Derived.Test.YtfcdhdkhfdhjfaaJbs
import Derived.Deep.CutBlock
namespace Go.Proofs.Ytfcdhdkhfdhjfaa
open Go.RowKit

def zwL (L : List (List Int)) (cs : List Int) : List (List Int) := List.zipWith (fun r c => r ++ [c]) L cs
theorem zw_succ {L : List (List Int)} {cs : List Int} {k : Nat} (hk : k < L.length) (hl : cs.length = L.length) : zwL (L.take (k + 1)) (cs.take (k + 1)) = zwL (L.take k) (cs.take k) ++ [L[k] ++ [cs[k]'(by omega)]] := by
  unfold zwL
  rw [List.take_succ_eq_append_getElem hk, List.take_succ_eq_append_getElem (show k < cs.length by omega), List.zipWith_append (by rw [List.length_take, List.length_take, hl])]
  rfl
theorem zw_rw {p : Int} {N : Nat} {L : List (List Int)} {cs : List Int} (hL : Rw p N L) (hc : Fp p cs) : Rw p (N + 1) (zwL L cs) := by
  unfold zwL
  induction L generalizing cs with
  | nil => intro r h; simp at h
  | cons x L ih =>
    cases cs with
    | nil => intro r h; simp at h
    | cons c cs =>
      intro r h
      rw [List.zipWith_cons_cons] at h
      rcases List.mem_cons.1 h with rfl | h
      · obtain ⟨h1, h2⟩ := hL.cons.1
        exact ⟨by rw [List.length_append, h1]; rfl, fun y hy => (List.mem_append.1 hy).elim (h2 y) (fun hy => by rw [List.mem_singleton.1 hy]; exact hc c (by simp))⟩
      · exact ih hL.cons.2 (fun y hy => hc y (by simp [hy])) r h
theorem zw_len {L : List (List Int)} {cs : List Int} (hl : cs.length = L.length) : (zwL L cs).length = L.length := by unfold zwL; rw [List.length_zipWith, hl, Nat.min_self]
theorem setF_take {N k : Nat} {o : List Int} {R : List (List Int)} (hk : k < R.length) : setF N o (R.take (k + 1)) = (setF N o (R.take k)).set (leadN R[k]) (R[k].getD N 0) := by
  unfold setF
  rw [List.take_succ_eq_append_getElem hk, List.foldl_append]; rfl
theorem chg_set1 (w : World) (p : Addr) (v : Value) : Chg p.block (p.block + 1) w (w.setCell p v) :=
  ⟨rfl, rfl, rfl, by simp, fun k _ hr => Below.heap_setCell _ _ _ _ (by omega)⟩
theorem below_chg1 {B lo hi : Nat} {w w' w2 : World} (h : Below B w w') (hc : Chg lo hi w' w2) (hB : B ≤ lo) (hs : B ≤ w'.heap.size) : Below B w w2 :=
  ⟨hc.os.trans h.os, hc.tape.trans h.tape, hc.output.trans h.output, Nat.le_trans h.size hc.size, fun k hk => (hc.block k (by omega) (.inl (by omega))).trans (h.block k hk)⟩
set_option maxHeartbeats 8000000 in
set_option maxRecDepth 100000 in
theorem solve_c {p : Int} {rows v : Value} {N : Nat} {L : List (List Int)} {cs : List Int} {w : World} (hp : IsP p) (hL : Rw p N L) (hr : Re w rows L) (hv : Sl w v cs) (hc : Fp p cs) (hl : cs.length = L.length) (h0 : 0 < L.length) (hN1 : 1 ≤ N) (hN2 : N ≤ 900) (hn : L.length ≤ 100000) (hno : ∀ r ∈ basisL p (N + 1) (zwL L cs), leadN r ≠ N) :
    Calls Try.prog 34 #[.int .i64 p, rows, v] w fun e w' => ∃ u, e = .returned (.tuple #[u, .bool true]) ∧ FrI w' w.heap.size u (setL N (basisL p (N + 1) (zwL L cs))) ∧ Below w.heap.size w w' := by
  have hp1 := hp.lo; have hp2 := hp.hi
  have HL := Lib.hid hl
  have hW := zw_rw hL hc
  have hRf := (basis_rref hp hW).1
  have hlt0 : ∀ r ∈ basisL p (N + 1) (zwL L cs), leadN r < N := fun r h => by have a := hno r h; have b := (hRf.one r h).1; omega
  have hbas := fun (W : World) rows (h : Re W rows (zwL L cs)) => basisF_c (w := W) hp hW h (by omega) (by omega) (by rw [zw_len hl]; exact hn)
  obtain ⟨R, hR_⟩ : ∃ R, R = basisL p (N + 1) (zwL L cs) := ⟨_, rfl⟩
  rw [← hR_] at hRf hlt0 ⊢
  simp only [← hR_] at hbas
  clear hR_ hno hW
  have hRl : R.length ≤ N + 1 := hRf.short
  obtain ⟨ar, cr, rfl, hr1, hr2, hRR⟩ := id hr
  obtain ⟨br, off, rfl, hcell⟩ := hRR.resolve_left (fun e => by rw [e] at h0; simp at h0)
  clear hRR
  obtain ⟨av, cv, rfl, hv'⟩ := id hv
  obtain ⟨bv, ov, rfl, hAv⟩ := hv'.resolve_left (fun e => by rw [e] at hl; simp at hl; omega)
  obtain ⟨u0, hcu0, hE0⟩ := hcell 0 h0
  rw [Nat.add_zero] at hcu0
  obtain ⟨a0, c0, rfl, _⟩ := hE0.op
  have hN0 := (hL _ (List.getElem_mem h0)).1
  obtain ⟨x0, hx0⟩ : ∃ x0, x0 = L[0] := ⟨_, rfl⟩
  rw [← hx0] at hcu0 hE0 hN0
  rw [hN0] at hcu0
  have HCELL := Lib.hid hcell
  clear hx0 hN0 hE0 hcell hl
  have h0i : (0 : Int) < L.length := by omega
  have hbA : Below w.heap.size w (w.alloc (.cells #[] 22)) := (by repeat (first | exact .refl _ _ | apply bwD | apply bwA | (refine bwS ?_ (by first | omega | simp <;> omega) _) | refine bwC ?_ (by assumption)))
  have hoA : OwV (w.alloc (.cells #[] 22)) w.heap.size (.slice (some ⟨w.heap.size, 0, none⟩) 0 0) [] := OwV.new (Nat.le_refl _)
  go_enter Try.func34, Try.ntmps34
  go_wp2_with fail
  generalize w.alloc (.cells #[] 22) = w1 at *
  go_loopw [9, 23] (fun o i wr => ∃ (k : Nat) (us : List Value), k ≤ L.length ∧ i = .int .i64 k ∧ us.length = k ∧ OwV wr w.heap.size o us ∧ RowsF wr w.heap.size us (zwL (L.take k) (cs.take k)) ∧ (∃ a c, o = .slice a us.length c) ∧ Below w.heap.size w wr) (fun _ i _ => L.length - (intOf i).toNat)
  case atStart => exact ⟨0, [], Nat.zero_le _, rfl, rfl, hoA, RowsF.nil _ _, ⟨_, _, rfl⟩, hbA⟩
  case round =>
    clear hoA hbA
    obtain ⟨k, us, hk, rfl, hul, ho, hrow, ⟨aw, cw, rfl⟩, hbr⟩ := hrel
    have HUL := Lib.hid hul; clear hul
    by_cases hlt : k < L.length
    · obtain ⟨u, hcu, hE⟩ := HCELL.out k hlt
      obtain ⟨a2, c2, rfl, _⟩ := hE.op
      have hcu := kept hbr hcu
      have hE := hE.below hbr
      have hrl := (hL _ (List.getElem_mem hlt)).1
      have hkc : k < cs.length := by have := HL.out; omega
      have hcv := kept hbr (hAv k hkc)
      have hzs := zw_succ hlt HL.out
      obtain ⟨row, hrow_⟩ : ∃ row, row = L[k] := ⟨_, rfl⟩
      obtain ⟨z, hz_⟩ : ∃ z, z = cs[k] := ⟨_, rfl⟩
      have hzg : cs.getD k 0 = z := by rw [hz_, List.getD_eq_getElem?_getD, List.getElem?_eq_getElem hkc]; rfl
      rw [hzg] at hcv
      rw [← hrow_] at hcu hE hrl hzs; rw [← hz_] at hzs
      have HZS := Lib.hid hzs; have HRL := Lib.hid hrl
      have hkci : (k : Int) < cs.length := by omega
      clear hrow_ hz_ hzg hzs hrl
      generalize wr = wo at *
      go_wp2_with fail
      refine region_flows [(0, 0), (1, 0), (3, 0), (4, 0), (5, 0), (6, 1)] [[(false, [(2, 5)]), (true, [(7, 3)]), (false, [(8, 4), (9, 4), (10, 4), (11, 0)])], [(true, [(7, 3)]), (false, [(2, 5)]), (false, [(8, 4), (9, 4), (10, 4), (11, 0)])]] (by kernel_rfl) ?_
      refine norm_K fun K hK => ?_
      change wpList _ _ _ [_, _, _, _, _, _] _ _
      go_wp2_with fail
      refine hK _ _ fun segs hsegs => ?_
      clear hK K
      simp only [List.mem_cons, List.mem_nil_iff, or_false] at hsegs
      have hbq : Below wo.heap.size wo wo.drew := (by repeat (first | exact .refl _ _ | apply bwD | apply bwA | (refine bwS ?_ (by first | omega | simp <;> omega) _) | refine bwC ?_ (by assumption)))
      have hE := hE.below hbq; have ho := ho.below hbq; have hrow := hrow.below hbq
      have hbr := hbr.trans (hbq.mono hbr.size); have hbr_ := hbr
      clear hbq hcu hcv
      generalize wo.drew = W0 at *
      rcases hsegs with rfl | rfl
      · skip
        refine norm_K fun K hK => ?_
        change wpList _ _ _ [_] _ _
        go_wp2_with fail
        refine (clone_c hE.sl (by rw [HRL.out]; omega) (by rw [HRL.out]; omega)).mono ?_; rintro e w2 ⟨vc, rfl, ⟨g, cap, rfl, hg⟩, hb1⟩
        go_wp2_with fail
        first | (refine hK _ _ ⟨hb1, ?_⟩; clear hK K) | refine ⟨hb1, ?_⟩
        refine norm_K fun K hK => ?_
        change wpList _ _ _ [_] _ _
        go_wp2_with fail
        first | (refine hK _ _ ⟨(Below.refl _ _).alloc (Nat.le_refl _) _, ?_⟩; clear hK K) | refine ⟨(Below.refl _ _).alloc (Nat.le_refl _) _, ?_⟩
        have hl1 : At (w2.alloc (.cells #[.int .i64 z] 2)) w2.heap.size 0 [z] := (OwnI.lit (Nat.le_refl _) [z] (by simp)).at
        refine norm_K fun K hK => ?_
        change wpList _ _ _ [_, _, _, _] _ _
        refine app_int rfl _ _ rfl (w2.alloc (.cells #[.int .i64 z] 2)) W0.heap.size g row.length cap row rfl w2.heap.size 0 1 1 [z] rfl (hg.alloc _) (by have := hb1.size; simp; omega) hl1 rfl (by decide) (by have := HRL.out; omega) ?_; intro g' cap' w' hown' hg' hgg
        have hb2 : Below W0.heap.size W0 w' := blw_grown (hb1.alloc hb1.size _) hg' hg.lt.1
        have ho := ho.below hb2; have hrow := hrow.below hb2
        have hbr := hbr.trans (hb2.mono hbr.size)
        have hfr : FrI w' w.heap.size (.slice (some ⟨g', 0, none⟩) (row.length + 1) cap') (row ++ [z]) := by
          have h : FrI w' W0.heap.size (.slice (some ⟨g', 0, none⟩) (row.length + 1) cap') (row ++ [z]) := ⟨g', cap', by rw [List.length_append]; rfl, by rw [List.length_append]; exact hown'⟩
          exact h.more (Nat.le_trans hbr_.size (Nat.le_refl _))
        go_wp2_with (at_builtin; refine appr_one rfl _ _ rfl w' w.heap.size _ rfl (.slice aw us.length cw) us rfl (.slice (some ⟨g', 0, none⟩) (row.length + 1) cap') 1 rfl rfl ho hbr.size (by have := HUL.out; omega) ?_; intro g3 cap3 w3 hown3 hgb3 hg3 hge3)
        first | (refine hK _ _ ⟨rfl, ?_⟩; clear hK K) | refine ⟨rfl, ?_⟩
        go_wp2_with fail
        go_roundw
        case rel => exact ⟨k + 1, _, by omega, by go_num, by simp [HUL.out], hown3, by rw [HZS.out]; exact (hrow.app ho hg3).snoc (hfr.app ho hg3), ⟨some ⟨g3, 0, none⟩, cap3, by simp⟩, hbr.trans hgb3⟩
        case measure => simp [intOf]; omega
      · skip
        refine norm_K fun K hK => ?_
        change wpList _ _ _ [_] _ _
        go_wp2_with fail
        have hl1 : At (W0.alloc (.cells #[.int .i64 z] 2)) W0.heap.size 0 [z] := (OwnI.lit (Nat.le_refl _) [z] (by simp)).at
        first | (refine hK _ _ ⟨(Below.refl _ _).alloc (Nat.le_refl _) _, ?_⟩; clear hK K) | refine ⟨(Below.refl _ _).alloc (Nat.le_refl _) _, ?_⟩
        refine norm_K fun K hK => ?_
        change wpList _ _ _ [_] _ _
        go_wp2_with fail
        refine (clone_c (hE.below ((Below.refl _ _).alloc (Nat.le_refl _) _)).sl (by rw [HRL.out]; omega) (by rw [HRL.out]; omega)).mono ?_; rintro e w2 ⟨vc, rfl, ⟨g, cap, rfl, hg⟩, hb1⟩
        have hb3 : Below W0.heap.size W0 w2 := bwC ((Below.refl _ _).alloc (Nat.le_refl _) _) hb1
        go_wp2_with fail
        first | (refine hK _ _ ⟨hb3, ?_⟩; clear hK K) | refine ⟨hb3, ?_⟩
        refine norm_K fun K hK => ?_
        change wpList _ _ _ [_, _, _, _] _ _
        refine app_int rfl _ _ rfl w2 (W0.alloc (.cells #[.int .i64 z] 2)).heap.size g row.length cap row rfl W0.heap.size 0 1 1 [z] rfl hg hb1.size (hl1.below hb1) rfl (by decide) (by have := HRL.out; omega) ?_; intro g' cap' w' hown' hg' hgg
        have hgl := hg.lt.1
        simp at hgl
        have hb2 : Below W0.heap.size W0 w' := blw_grown hb3 hg' (by omega)
        have ho := ho.below hb2; have hrow := hrow.below hb2
        have hbr := hbr.trans (hb2.mono hbr.size)
        have hfr : FrI w' w.heap.size (.slice (some ⟨g', 0, none⟩) (row.length + 1) cap') (row ++ [z]) := by
          have h : FrI w' (W0.alloc (.cells #[.int .i64 z] 2)).heap.size (.slice (some ⟨g', 0, none⟩) (row.length + 1) cap') (row ++ [z]) := ⟨g', cap', by rw [List.length_append]; rfl, by rw [List.length_append]; exact hown'⟩
          exact h.more (by have := hbr_.size; simp; omega)
        go_wp2_with (at_builtin; refine appr_one rfl _ _ rfl w' w.heap.size _ rfl (.slice aw us.length cw) us rfl (.slice (some ⟨g', 0, none⟩) (row.length + 1) cap') 1 rfl rfl ho hbr.size (by have := HUL.out; omega) ?_; intro g3 cap3 w3 hown3 hgb3 hg3 hge3)
        first | (refine hK _ _ ⟨rfl, ?_⟩; clear hK K) | refine ⟨rfl, ?_⟩
        go_wp2_with fail
        go_roundw
        case rel => exact ⟨k + 1, _, by omega, by go_num, by simp [HUL.out], hown3, by rw [HZS.out]; exact (hrow.app ho hg3).snoc (hfr.app ho hg3), ⟨some ⟨g3, 0, none⟩, cap3, by simp⟩, hbr.trans hgb3⟩
        case measure => simp [intOf]; omega
    · obtain rfl : k = L.length := by omega
      have hre : Re wr (.slice aw us.length cw) (zwL L cs) := by
        have h := hrow.re ho
        rw [List.take_length, ← HL.out, List.take_length] at h
        exact h
      have hzl : 0 < N := by omega
      generalize wr = wo at *
      have hmk := fun W => run_make_row' (P := Try.prog) 22 2 (.int .i64 0) 8 Try.underlying22 infoI rfl .i64 .i64 N (by omega) (by omega) W
      have hmn := made_own (W := wo) (n := N) (by omega)
      have hbm : Below wo.heap.size wo (wo.alloc (.cells (madeCells #[Value.int .i64 0] N) 2)) := (by repeat (first | exact .refl _ _ | apply bwD | apply bwA | (refine bwS ?_ (by first | omega | simp <;> omega) _) | refine bwC ?_ (by assumption)))
      have hre := hre.below hbm
      go_wp2_with fail
      clear hmk
      generalize wo.alloc (.cells (madeCells #[Value.int .i64 0] N) 2) = w4 at *
      refine (hbas _ _ hre).mono ?_; rintro e w5 ⟨vb, rfl, hvb, hb5⟩
      obtain ⟨a5, c5, rfl, h51, h52, hR5⟩ := id hvb
      have hmn4 := hmn
      have hmn := hmn.below hb5
      have hbx : Below wo.heap.size wo w5 := bwC hbm hb5
      have hz4 : wo.heap.size + 1 ≤ w4.heap.size := by have := hmn4.lt; omega
      clear hb5 hbm hre hbas ho hrow hvb hmn4
      go_wp2_with fail
      go_loopw [46] (fun i wr => ∃ k : Nat, k ≤ R.length ∧ i = .int .i64 k ∧ OwnI wr wo.heap.size wo.heap.size N N (setF N (zeroL N) (R.take k)) ∧ Chg wo.heap.size (wo.heap.size + 1) w5 wr) (fun i _ => R.length - (intOf i).toNat)
      case atStart => exact ⟨0, Nat.zero_le _, rfl, hmn, Chg.refl⟩
      case round =>
        clear hmn
        obtain ⟨k, hk, rfl, hov, hcy⟩ := hrel
        by_cases hkl : k < R.length
        · obtain ⟨b0, rfl, hb0, hcell⟩ := hR5.resolve_left (fun e => by rw [e] at hkl; simp at hkl)
          obtain ⟨u, hcu, hE⟩ := hcell k hkl
          obtain ⟨g2, cap2, rfl, hE⟩ := hE
          have hrl := (hRf.rw_ _ (List.getElem_mem hkl)).1
          have hgE := hE.lt.1
          have hcu := hcy.cell hcu (.inr (by omega))
          have hE := hE.chg hcy (.inr (by omega))
          have hla := hlt0 _ (List.getElem_mem hkl)
          have hst := setF_take (N := N) (o := zeroL N) hkl
          have hcN := hE.hold (i := N) (by rw [hrl]; omega)
          obtain ⟨row, hrow_⟩ : ∃ row, row = R[k] := ⟨_, rfl⟩
          rw [← hrow_] at hcu hE hrl hla hst hcN
          obtain ⟨l, hl_⟩ : ∃ l, l = leadN row := ⟨_, rfl⟩
          obtain ⟨y, hy_⟩ : ∃ y, y = row.getD N 0 := ⟨_, rfl⟩
          rw [← hl_] at hla hst; rw [← hy_] at hst hcN
          have hne : ((l : Int) == N) = false := by simp; omega
          have hset := hov.set (i := l) y
          have hfr := hov.free l
          have hh := hov.hold (i := l) hla
          rw [hrl] at hcu hE
          have HST := Lib.hid hst; have HRL := Lib.hid hrl; have HLL := Lib.hid hl_
          have hlr : row.length ≤ 1000000 := by omega
          have hsl : Sl wr (.slice (some ⟨g2, 0, none⟩) (N + 1) cap2) row := by
            exact hE.fr.sl
          clear hst hrl hl_ hy_ hrow_ hcell
          go_wp2_with fail
          refine (lead_c hsl hlr).mono ?_; rintro e w6 ⟨rfl, rfl⟩
          rw [← HLL.out]
          go_wp2_with fail
          go_roundw
          case rel => exact ⟨k + 1, by omega, by go_num, by rw [HST.out]; exact hset, hcy.trans (chg_set1 wr ⟨wo.heap.size, l, none⟩ _)⟩
          case measure => simp [intOf]; omega
        · obtain rfl : k = R.length := by omega
          rw [List.take_length] at hov
          have hfin : FrI wr w.heap.size (.slice (some ⟨wo.heap.size, 0, none⟩) N N) (setL N R) := by
            have hln : (setL N R).length = N := by unfold setL; rw [setF_len, zero_len]
            have h : FrI wr wo.heap.size (.slice (some ⟨wo.heap.size, 0, none⟩) N N) (setL N R) := ⟨wo.heap.size, N, by rw [hln], by rw [hln]; exact hov⟩
            exact h.more hbr.size
          go_wp2_with fail
          go_ret2
          exact ⟨_, rfl, hfin, below_chg1 (hbr.trans (hbx.mono hbr.size)) hcy hbr.size (Nat.le_trans hbr.size hbx.size)⟩
end Go.Proofs.Ytfcdhdkhfdhjfaa
