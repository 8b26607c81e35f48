/- Texts joined for a claim: TgD, HeD, HeB. -/
import Derived.Test.YtgkceadllcjeoaaJbl
import Derived.Test.YtgkceadllcjeoaaTrB
import Derived.Test.YtgkceadllcjeoaaDbB
import Derived.Test.YtgkceadllcjeoaaDbS
import Derived.Test.YtgkceadllcjeoaaJan
import Derived.Test.YtgkceadllcjeoaaHeC
/-
  The checks of triples: program and reference.
-/
namespace Go.Proofs.Ytgkceadllcjeoaa
open Go.RowKit

def Ml (w : World) (v : Value) (Ms : List (List (List Int))) : Prop := ∃ b c, v = .slice (some ⟨b, 0, none⟩) Ms.length c ∧ ∀ j (h : j < Ms.length), ∃ u, w.cell? ⟨b, j, none⟩ = some u ∧ Re w u Ms[j]
theorem Ml.below {w w' : World} {v : Value} {Ms : List (List (List Int))} (h : Ml w v Ms) (hb : Below w.heap.size w w') : Ml w' v Ms := by
  obtain ⟨b, c, rfl, h⟩ := h
  refine ⟨b, c, rfl, fun j hj => ?_⟩
  obtain ⟨u, h1, h2⟩ := h j hj
  exact ⟨u, kept hb h1, h2.below hb⟩
theorem Ml.get {w : World} {b m : Nat} {Ms : List (List (List Int))} (h : ∀ j (h : j < Ms.length), ∃ u, w.cell? ⟨b, j, none⟩ = some u ∧ Re w u Ms[j]) (hm : m < Ms.length) :
    ∃ a c M, M ∈ Ms ∧ w.cell? ⟨b, m, none⟩ = some (.slice a M.length c) ∧ Re w (.slice a M.length c) M ∧ Ms.take (m + 1) = Ms.take m ++ [M] := by
  obtain ⟨u, h1, h2⟩ := h m hm
  obtain ⟨a, c, rfl, _⟩ := id h2
  exact ⟨a, c, Ms[m], List.getElem_mem hm, h1, h2, List.take_succ_eq_append_getElem hm⟩
section
variable {ops : Array Oper} {rest : List Oper} {o : Oper} {a : Act} {Q : Exit → Act → World → Prop}
end
theorem chkm1_c {p : Int} {x m : Value} {q : Nat} {st : List Int} {M : List (List Int)} {w : World} (h0 : w.cell? ⟨q, 0, none⟩ = some (.int .i64 p)) (h1 : w.cell? ⟨q, 1, none⟩ = some x) (hd : Dok p st) (hx : El w x st) (hr : Re w m M) (hm : Msz M) :
    Calls Try.prog 90 #[m, .pointer (some ⟨q, 0, none⟩)] w fun e w' => e = .returned (.bool (!matB p (sz st.length) M)) ∧ Below w.heap.size w w' := by
  obtain ⟨a, c, rfl, _⟩ := id hx.op
  obtain ⟨ar, cr, rfl, _⟩ := id hr
  have hcon := fun W h1 h2 => ismatrix_c (w := W) (p := p) (s := .slice a st.length c) (m := .slice ar M.length cr) hd h1 h2 hm.h3 hm.h2
  obtain ⟨b, hb⟩ : ∃ b, b = matB p (sz st.length) M := ⟨_, rfl⟩
  simp only [← hb] at hcon ⊢
  clear hb
  go_enter Try.func90, Try.ntmps90
  go_wp2_with fail
  refine (hcon _ hx hr).mono ?_; rintro e w1 ⟨rfl, hb1⟩
  go_wp2_with fail
  go_ret
  exact ⟨rfl, hb1⟩
theorem idxm_c {p : Int} {x l : Value} {q : Nat} {st : List Int} {Ms : List (List (List Int))} {w : World} (h0 : w.cell? ⟨q, 0, none⟩ = some (.int .i64 p)) (h1 : w.cell? ⟨q, 1, none⟩ = some x) (hd : Dok p st) (hx : El w x st) (hl : Ml w l Ms)
    (hm1 : Ms.length ≤ 1048576) (hm : ∀ M ∈ Ms, Msz M) :
    Calls Try.prog 125 #[l, .func (Fn.func 90) #[] #[.pointer (some ⟨q, 0, none⟩)]] w fun e w' =>
      ∃ k : Int, e = .returned (.int .i64 k) ∧ Found k (!Ms.all (matB p (sz st.length))) ∧ -1 ≤ k ∧ k ≤ 1048576 ∧ Below w.heap.size w w' := by
  obtain ⟨b, c, rfl, hl⟩ := hl
  go_enter Try.func125, Try.ntmps125
  go_wp2
  go_loopw [8] (fun i wr => ∃ k : Nat, k ≤ Ms.length ∧ i = .int .i64 k ∧ (Ms.take k).all (matB p (sz st.length)) = true ∧ Below w.heap.size w wr) (fun i _ => Ms.length - (intOf i).toNat)
  case atStart => exact ⟨0, Nat.zero_le _, rfl, rfl, Below.refl _ _⟩
  case round =>
    obtain ⟨k, hk, rfl, hr, hb⟩ := hrel
    by_cases hlt : k < Ms.length
    · obtain ⟨a1, c1, M, hM, hc0, hs0, ht⟩ := Ml.get hl hlt
      have hc := kept hb hc0
      have hs := hs0.below hb
      have g0 := kept hb h0
      have g1 := kept hb h1
      have gx := hx.below hb
      have hmx := hm M hM
      have H := Lib.hid (And.intro (all_snoc hr ht) (@all_no _ (matB p (sz st.length)) _ _ hM)); clear hr ht
      cases hv : matB p (sz st.length) M
      · go_wp2_with (go_at_call 90; refine (chkm1_c g0 g1 hd gx hs hmx).mono ?_; rintro e w1 ⟨rfl, hb1⟩; simp only [hv])
        go_ret
        exact ⟨_, rfl, by rw [H.out.2 hv]; unfold Found; simp, by omega, by omega, bwC hb hb1⟩
      · go_wp2_with (go_at_call 90; refine (chkm1_c g0 g1 hd gx hs hmx).mono ?_; rintro e w1 ⟨rfl, hb1⟩; simp only [hv])
        go_roundw
        case rel => exact ⟨k + 1, by omega, by go_num, by rw [H.out.1, hv], bwC hb hb1⟩
        case measure => simp [intOf]; omega
    · have e : Ms.take k = Ms := take_all (by omega)
      rw [e] at hr
      have H := Lib.hid hr; clear hr e
      go_wp2
      go_ret
      exact ⟨_, rfl, by rw [H.out]; unfold Found; rfl, by decide, by decide, hb⟩
theorem conm_c {p : Int} {x l : Value} {q : Nat} {st : List Int} {Ms : List (List (List Int))} {w : World} (h0 : w.cell? ⟨q, 0, none⟩ = some (.int .i64 p)) (h1 : w.cell? ⟨q, 1, none⟩ = some x) (hd : Dok p st) (hx : El w x st) (hl : Ml w l Ms)
    (hm1 : Ms.length ≤ 1048576) (hm : ∀ M ∈ Ms, Msz M) :
    Calls Try.prog 89 #[l, .func (Fn.func 90) #[] #[.pointer (some ⟨q, 0, none⟩)]] w fun e w' =>
      e = .returned (.bool (!Ms.all (matB p (sz st.length)))) ∧ Below w.heap.size w w' := by
  obtain ⟨a2, c2, rfl, _⟩ := id hl
  go_enter Try.func89, Try.ntmps89
  go_wp2_with (go_at_call 125; refine (idxm_c h0 h1 hd hx hl hm1 hm).mono ?_; rintro e w1 ⟨k, rfl, hk, hk1, hk2, hb1⟩; unfold Found at hk; have H := Lib.hid hk; clear hk)
  go_ret
  exact ⟨by rw [← H.out]; rfl, hb1⟩
end Go.Proofs.Ytgkceadllcjeoaa
/-
  Draws of doublings from a code; the laws' dice.
-/
namespace Go.Proofs.Ytgkceadllcjeoaa
open Go.RowKit

theorem Co.wide {w : World} {q q' n : Nat} {v : Value} (h : Co w q v n) (hq : q ≤ q') : Co w q' v n := by
  obtain ⟨a, c, rfl, hn, h⟩ := h
  refine ⟨a, c, rfl, hn, ?_⟩
  rcases h with h | ⟨b, off, ha, hb, h⟩
  · exact .inl h
  · exact .inr ⟨b, off, ha, by omega, h⟩
end Go.Proofs.Ytgkceadllcjeoaa
/-
  The laws' dice: the same as the source of the draws, over another struct.
-/
namespace Go.Proofs.Ytgkceadllcjeoaa
open Go.RowKit

def Dx (w : World) (q : Nat) (cv : Value) (i h : Int) : Prop := w.heap[q]? = some (.cells #[cv, .int .i64 i, .int .u64 h] 79 (0, 0))
def Dce (w : World) (q : Nat) : Prop := ∃ (cv : Value) (n i : Nat) (h : Int), Dx w q cv i h ∧ Co w q cv n ∧ i ≤ n ∧ 0 ≤ h ∧ h < 18446744073709551616
section
variable {w w' w2 : World} {q n B : Nat} {cv : Value} {i h' : Int}
theorem Dx.c0 (h : Dx w q cv i h') : w.cell? ⟨q, 0, none⟩ = some cv := by unfold Dx at h; simp [World.cell?, h]
theorem Dx.c1 (h : Dx w q cv i h') : w.cell? ⟨q, 1, none⟩ = some (.int .i64 i) := by unfold Dx at h; simp [World.cell?, h]
theorem Dx.c2 (h : Dx w q cv i h') : w.cell? ⟨q, 2, none⟩ = some (.int .u64 h') := by unfold Dx at h; simp [World.cell?, h]
theorem Dx.f (h : Dx w q cv i h') (k : Nat) : w.frozen? ⟨q, k, none⟩ = false := frozen_of_row _ _ _ _ _ h
theorem Dx.set1 (h : Dx w q cv i h') (i' : Int) : Dx (w.setCell ⟨q, 1, none⟩ (.int .i64 i')) q cv i' h' := heap_setCell_same _ _ _ _ _ _ h
theorem Dx.set2 (h : Dx w q cv i h') (k' : Int) : Dx (w.setCell ⟨q, 2, none⟩ (.int .u64 k')) q cv i k' := heap_setCell_same _ _ _ _ _ _ h
theorem Dx.lt (h : Dx w q cv i h') : q < w.heap.size := (Array.getElem?_eq_some_iff.1 h).1
theorem Dx.below (h : Dx w q cv i h') (hb : Below w.heap.size w w') : Dx w' q cv i h' := by
  unfold Dx at h ⊢
  rw [hb.block q (Array.getElem?_eq_some_iff.1 h).1]; exact h
theorem Dx.drew (h : Dx w q cv i h') : Dx w.drew q cv i h' := h
theorem Dce.lt (h : Dce w q) : q < w.heap.size := by obtain ⟨_, _, _, _, h, _⟩ := h; exact h.lt
theorem Dce.bl (h : Dce w q) (hb : Below B w w') (hq : q < B) : Dce w' q := by
  obtain ⟨cv, n, i, h, hx, hc, h1⟩ := h
  refine ⟨cv, n, i, h, ?_, hc.bl hb (by omega), h1⟩
  unfold Dx at hx ⊢
  rw [hb.block q hq]; exact hx
end
set_option maxHeartbeats 2000000 in
set_option maxRecDepth 100000 in
theorem dbelow_c {q : Nat} {n : Int} {w : World} (hs : Dce w q) (hn1 : -9223372036854775808 ≤ n) (hn2 : n ≤ 9223372036854775807) :
    Calls Try.prog 53 #[.pointer (some ⟨q, 0, none⟩), .int .i64 n] w fun e w' => ∃ x : Int, e = .returned (.int .i64 x) ∧ 0 ≤ x ∧ (x < n ∨ (n < 1 ∧ x = 0)) ∧ Dce w' q ∧ Chg q (q + 1) w w' ∧ w'.heap.size = w.heap.size := by
  obtain ⟨cv, m, i, h, hx, hc, hi1, hh0, hh1⟩ := id hs
  obtain ⟨a, c, rfl, hm, hby⟩ := id hc
  have c0 := hx.c0; have c1 := hx.c1; have c2 := hx.c2; have f1 := hx.f 1; have f2 := hx.f 2
  by_cases h1 : n < 1
  · go_enter Try.func53, Try.ntmps53
    go_wp2_with fail
    go_ret
    exact ⟨0, rfl, by omega, .inr ⟨h1, rfl⟩, hs, Chg.refl, rfl⟩
  · go_enter Try.func53, Try.ntmps53
    have hwr := wrap_u64 (IntKind.u64.wrap (h * 6364136223846793005) + 1442695040888963407)
    obtain ⟨h2, hh2⟩ : ∃ y, y = IntKind.u64.wrap (IntKind.u64.wrap (h * 6364136223846793005) + 1442695040888963407) := ⟨_, rfl⟩
    have hbd := hash_bd hwr.1 hwr.2
    rw [← hh2] at hbd hwr
    obtain ⟨x0, hx0⟩ : ∃ y, y = wrap64 (bits .and .u64 (h2 / 8589934592) 16777215) := ⟨_, rfl⟩
    rw [← hx0] at hbd
    have HH := Lib.hid hh2; have HX := Lib.hid hx0; clear hh2 hx0
    have hx2 := hx.set2 h2
    have hc2 := hc.chg (Chg.set w ⟨q, 2, none⟩ (.int .u64 h2)) (Nat.le_refl _)
    have hch := Chg.set w ⟨q, 2, none⟩ (.int .u64 h2)
    have hsz : (w.setCell ⟨q, 2, none⟩ (.int .u64 h2)).heap.size = w.heap.size := by simp
    go_upto_region 5 with fail
    rw [← HH.out, ← HX.out]
    obtain ⟨w1, hw1⟩ : ∃ x, x = w.setCell ⟨q, 2, none⟩ (.int .u64 h2) := ⟨_, rfl⟩
    rw [← hw1] at hx2 hc2 hch hsz ⊢
    clear hw1 c0 c1 c2 f1 f2
    have c0 := hx2.c0; have c1 := hx2.c1; have f1 := hx2.f 1
    by_cases hlt : i < m
    · rcases hby with h0 | ⟨b, off, rfl, hbq, _⟩
      · omega
      obtain ⟨a2, cc2, e2, _, hby2⟩ := id hc2
      cases e2
      rcases hby2 with h0 | ⟨b2, off2, e2, _, hby2⟩
      · omega
      cases e2
      obtain ⟨k, hk, hkc⟩ := hby2 i hlt
      have HB := Lib.hid hby2; clear hby2
      refine region_flow [(false, [(0, 0), (1, 0), (2, 0), (3, 1), (4, 0), (5, 0), (6, 0), (7, 1), (8, 0), (9, 0)])] (by kernel_rfl) ?_
      refine norm_K fun K hK => ?_
      change wpList _ _ _ [_, _, _, _, _, _, _, _, _, _] _ _
      go_wp2_with fail
      first | (refine hK _ _ ⟨rfl, ?_⟩; clear hK K) | refine ⟨rfl, ?_⟩
      go_upto_region 6 with fail
      refine region_flow [(false, [(0, 0), (1, 0), (2, 0), (3, 0), (4, 1), (5, 0), (6, 0), (7, 0), (8, 1), (9, 0), (10, 1), (11, 0), (12, 0), (13, 0)])] (by kernel_rfl) ?_
      refine norm_K fun K hK => ?_
      change wpList _ _ _ [_, _, _, _, _, _, _, _, _, _, _, _, _, _] _ _
      go_wp2_with fail
      first | (refine hK _ _ ⟨rfl, ?_⟩; clear hK K) | refine ⟨rfl, ?_⟩
      have hfin := tmod_bd (x := x0 + k) (n := n) (by omega) (by omega)
      go_wp2_with fail
      go_ret
      refine ⟨_, rfl, hfin.1, .inl hfin.2, ⟨_, m, i + 1, h2, (hx2.drew.drew.set1 ((i : Int) + 1)), ?_, by omega, hwr⟩, ?_, by simp [hsz]⟩
      · exact (hc2.drew_.drew_).chg (Chg.set _ ⟨q, 1, none⟩ _) (Nat.le_refl _)
      · exact (hch.trans (Chg.drew_.trans Chg.drew_)).trans (Chg.set _ ⟨q, 1, none⟩ _)
    · have hlt2 : ¬ ((i : Int) < (m : Int)) := by omega
      refine region_flow [(false, [(0, 0), (1, 0), (2, 0), (3, 1), (4, 0), (5, 0), (6, 0), (7, 1), (8, 0), (9, 0)])] (by kernel_rfl) ?_
      refine norm_K fun K hK => ?_
      change wpList _ _ _ [_, _, _, _, _, _, _, _, _, _] _ _
      go_wp2_with fail
      first | (refine hK _ _ ⟨rfl, ?_⟩; clear hK K) | refine ⟨rfl, ?_⟩
      have hfin := tmod_bd (x := x0) (n := n) (by omega) (by omega)
      go_wp2_with fail
      go_ret
      exact ⟨_, rfl, hfin.1, .inl hfin.2, ⟨_, m, i, h2, hx2.drew, hc2.drew_, hi1, hwr⟩, hch.trans Chg.drew_, hsz⟩
set_option maxHeartbeats 2000000 in
set_option maxRecDepth 100000 in
theorem droll_c {v : Value} {n : Nat} {sd : Int} {w : World} (hc : Co w w.heap.size v n) :
    Calls Try.prog 10 #[v, .int .u64 sd] w fun e w' => e = .returned (.pointer (some ⟨w.heap.size, 0, none⟩)) ∧ Dce w' w.heap.size ∧ w'.heap.size = w.heap.size + 1 ∧ Below w.heap.size w w' := by
  obtain ⟨a, c, rfl, hm, hby⟩ := id hc
  go_enter Try.func10, Try.ntmps10
  go_wp2
  go_loopw [6] (fun i wr => ∃ (k : Nat) (h : Int), k ≤ n ∧ i = .int .i64 k ∧ Dx wr w.heap.size (.slice a n c) 0 h ∧ 0 ≤ h ∧ h < 18446744073709551616 ∧ wr.heap.size = w.heap.size + 1 ∧ Below w.heap.size w wr) (fun i _ => n - (intOf i).toNat)
  case atStart => exact ⟨0, IntKind.u64.wrap (IntKind.u64.wrap (sd * 7681) + n), Nat.zero_le _, rfl, heap_alloc_new w _, (wrap_u64 _).1, (wrap_u64 _).2, by simp, (by repeat (first | exact .refl _ _ | apply bwD | apply bwA | (refine bwS ?_ (by first | omega | simp <;> omega) _) | refine bwC ?_ (by assumption)))⟩
  case round =>
    obtain ⟨k, h, hk, rfl, hx, h0, h1, hsz, hb⟩ := hrel
    have c0 := hx.c0; have c1 := hx.c1; have c2 := hx.c2; have f2 := hx.f 2
    by_cases hlt : k < n
    · have hc2 := hc.bl hb (Nat.le_refl _)
      obtain ⟨a2, cc2, e2, _, hby2⟩ := id hc2
      cases e2
      rcases hby2 with hz | ⟨b2, off2, rfl, hbq, hby2⟩
      · omega
      obtain ⟨y, hy, hyc⟩ := hby2 k hlt
      have hlt2 : (k : Int) < 4096 := by omega
      have HB := Lib.hid hby2; have HC := Lib.hid hby; clear hby2 hby
      have hwr2 := wrap_u64 (IntKind.u64.wrap (IntKind.u64.wrap (h * 1099511628211) + y) + 5)
      go_wp2
      refine region_flow [(false, [(0, 0), (1, 0), (2, 0), (3, 0), (4, 1), (5, 0), (6, 0), (7, 0), (8, 0), (9, 1), (10, 0), (11, 0), (12, 0), (13, 0), (14, 0), (15, 4)])] (by kernel_rfl) ?_
      refine norm_K fun K hK => ?_
      change wpList _ _ _ [_, _, _, _, _, _, _, _, _, _, _, _, _, _, _, _] _ _
      go_wp2_with fail
      first | (refine hK _ _ ⟨rfl, ?_⟩; clear hK K) | refine ⟨rfl, ?_⟩
      go_wp2
      go_roundw
      case rel => exact ⟨k + 1, _, by omega, by go_num, hx.drew.set2 _, (wrap_u64 _).1, (wrap_u64 _).2, by simp [hsz], (hb.drew).setCell (Nat.le_refl _) _⟩
      case measure => simp [intOf]; omega
    · obtain rfl : k = n := by omega
      have hnl : ¬ ((k : Int) < (k : Int)) := by omega
      go_wp2
      go_ret
      exact ⟨rfl, ⟨_, _, 0, h, hx, hc.bl hb (Nat.le_refl _), Nat.zero_le _, h0, h1⟩, hsz, hb⟩
end Go.Proofs.Ytgkceadllcjeoaa
