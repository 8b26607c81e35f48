/- Texts joined for a claim: Mark, TgA, TgB. -/
import Derived.Test.YtfcdhdkhfdhjfaaLawH
import Derived.Test.YtfcdhdkhfdhjfaaJay
import Derived.Test.YtfcdhdkhfdhjfaaJao
/-
  Marks on rows of rows and on matrices, and what a mark leaves as it was.
-/
namespace Go.Proofs.Ytfcdhdkhfdhjfaa
open Go.RowKit

structure Chg (lo hi : Nat) (w w' : World) : Prop where
  os : w'.os = w.os
  tape : w'.tape = w.tape
  output : w'.output = w.output
  size : w.heap.size ≤ w'.heap.size
  block : ∀ k, k < w.heap.size → (k < lo ∨ hi ≤ k) → w'.heap[k]? = w.heap[k]?
section
variable {lo hi lo' hi' B : Nat} {a w w' w2 : World} {v : Value} {xs : List Int}
theorem Chg.refl : Chg lo hi w w := ⟨rfl, rfl, rfl, Nat.le_refl _, fun _ _ _ => rfl⟩
theorem Chg.trans (h : Chg lo hi w w') (k : Chg lo hi w' w2) : Chg lo hi w w2 :=
  ⟨k.os.trans h.os, k.tape.trans h.tape, k.output.trans h.output, Nat.le_trans h.size k.size, fun j hj hr => (k.block j (Nat.lt_of_lt_of_le hj h.size) hr).trans (h.block j hj hr)⟩
theorem Chg.wide (h : Chg lo hi w w') (h1 : lo' ≤ lo) (h2 : hi ≤ hi') : Chg lo' hi' w w' := ⟨h.os, h.tape, h.output, h.size, fun k hk hr => h.block k hk (by omega)⟩
theorem Chg.below (h : Below w.heap.size w w') : Chg lo hi w w' := ⟨h.os, h.tape, h.output, h.size, fun k hk _ => h.block k hk⟩
theorem Chg.grown {row : Option Nat} (hg : w.grownBy w' row) (hr : ∀ g, row = some g → lo ≤ g ∧ g < hi) : Chg lo hi w w' :=
  ⟨hg.os, hg.tape, hg.output, hg.size, fun k hk h => hg.block k hk (fun e => by have := hr k e.symm; omega)⟩
theorem Chg.blw (h : Chg lo hi w w') (hb : Below a.heap.size a w) (hl : a.heap.size ≤ lo) : Below a.heap.size a w' :=
  ⟨h.os.trans hb.os, h.tape.trans hb.tape, h.output.trans hb.output, Nat.le_trans hb.size h.size, fun k hk => (h.block k (Nat.lt_of_lt_of_le hk hb.size) (.inl (by omega))).trans (hb.block k hk)⟩
theorem Chg.cell (h : Chg lo hi w w') {b o : Nat} (hc : w.cell? ⟨b, o, none⟩ = some v) (hr : b < lo ∨ hi ≤ b) : w'.cell? ⟨b, o, none⟩ = some v := by
  rw [World.cell?_of_block (w := w) (h.block b (World.block_lt_of_cell? w _ hc) hr)]; exact hc
theorem ownsRow_chg {E : TypeId} {n : Nat} {zs : List Value} (h : Chg lo hi w w') (ho : w.ownsRow B E 1 v n zs) (hr : ∀ g, v.ownBlock = some g → g < lo ∨ hi ≤ g) : w'.ownsRow B E 1 v n zs := by
  refine ⟨ho.1, ?_⟩
  rcases ho.2 with h2 | ⟨g', cap', cur, rfl, h3, hh, h4⟩
  · exact .inl h2
  · exact .inr ⟨g', cap', cur, rfl, h3, by rw [h.block g' (Array.getElem?_eq_some_iff.1 hh).1 (hr g' rfl)]; exact hh, h4⟩
theorem OwnI.chg {g n cap : Nat} (h : Chg lo hi w w') (ho : OwnI w B g n cap xs) (hr : g < lo ∨ hi ≤ g) : OwnI w' B g n cap xs :=
  ownsRow_chg h ho (fun j hj => by have e : g = j := Option.some.inj hj; omega)
theorem FrI.chg (h : Chg lo hi w w') (ho : FrI w B v xs) (hr : hi ≤ B) : FrI w' B v xs := by
  obtain ⟨g, cap, rfl, ho⟩ := ho
  exact ⟨g, cap, rfl, OwnI.chg h ho (by have := ho.lt.1; omega)⟩
theorem OwI.chg (h : Chg lo hi w w') (ho : OwI w B v xs) (hr : ∀ g, v.ownBlock = some g → g < lo ∨ hi ≤ g) : OwI w' B v xs := by
  rcases ho with ho | ⟨g, cap, cap', rfl, ho⟩
  · exact .inl ho
  · exact .inr ⟨g, cap, cap', rfl, OwnI.chg h ho (hr g rfl)⟩
theorem FrR.chg {us : List Value} {xss : List (List Int)} (h : Chg lo hi w w') (ho : FrR w B v us xss) (hr : hi ≤ B) : FrR w' B v us xss := by
  obtain ⟨g0, cap0, e0, hB0, _⟩ := ho.lt
  obtain ⟨g, cap, rfl, h1, h2, h3, h4⟩ := ho
  cases e0
  exact ⟨g0, cap0, rfl, ownsRow_chg h h1 (fun j hj => by have e : g0 = j := Option.some.inj hj; omega), h2, fun j a b => (h3 j a b).chg h hr, h4⟩
theorem FrH.chg {X : Her} (h : Chg lo hi w w') (ho : FrH w B v X) (hr : hi ≤ B) : FrH w' B v X := by
  obtain ⟨d, u, us, rfl, h1, h2, h3⟩ := ho
  exact ⟨d, u, us, rfl, h1.chg h hr, h2.chg h hr, h3⟩
theorem OwH.chg {X : Her} (h : Chg lo hi w w') (ho : OwH w B v X) (hr : hi ≤ B) : OwH w' B v X := by
  rcases ho with ho | ho
  · exact .inl ho
  · exact .inr (ho.chg h hr)
end
/-! ### Marked rows -/
def sumL : List (List Int) → Nat
  | [] => 0
  | x :: xs => x.length + sumL xs
def cntR (k : Int) : List (List Int) → List (List Int)
  | [] => []
  | x :: xs => cnt k x.length :: cntR (k + x.length) xs
theorem cntR_len {k : Int} {xss : List (List Int)} : (cntR k xss).length = xss.length := by
  induction xss generalizing k with
  | nil => rfl
  | cons x xs ih => simp [cntR, ih]
theorem sumL_snoc {xss : List (List Int)} {x : List Int} : sumL (xss ++ [x]) = sumL xss + x.length := by
  induction xss with
  | nil => simp [sumL]
  | cons y ys ih => simp [sumL, ih]; omega
theorem cntR_snoc {k : Int} {xss : List (List Int)} {x : List Int} : cntR k (xss ++ [x]) = cntR k xss ++ [cnt (k + sumL xss) x.length] := by
  induction xss generalizing k with
  | nil => simp [cntR, sumL]
  | cons y ys ih =>
    simp only [List.cons_append, cntR, ih, sumL]
    rw [show k + (y.length : Int) + (sumL ys : Int) = k + ((y.length + sumL ys : Nat) : Int) by omega]
theorem sumL_take {xss : List (List Int)} {m : Nat} : sumL (xss.take m) ≤ sumL xss := by
  induction xss generalizing m with
  | nil => simp [sumL]
  | cons y ys ih => cases m <;> simp [sumL, ih]
structure RowsI (w : World) (lo hi : Nat) (us : List Value) (xss : List (List Int)) : Prop where
  len : us.length = xss.length
  rows : ∀ j (h : j < us.length) (h' : j < xss.length), OwI w lo us[j] xss[j]
  hib : ∀ z ∈ us, ∀ g, z.ownBlock = some g → g < hi
  pw : us.Pairwise fun a b => ∀ g, a.ownBlock = some g → b.ownBlock ≠ some g
theorem RowsI.mark {w w' : World} {lo hi : Nat} {us : List Value} {xss : List (List Int)} (h : RowsI w lo hi us xss) {m : Nat} (hm : m < us.length) {ys : List Int} (hy : OwI w' lo us[m] ys) (hg : w.grownBy w' us[m].ownBlock) : RowsI w' lo hi us (xss.set m ys) := by
  refine ⟨by simp [h.len], fun j h1 h2 => ?_, h.hib, h.pw⟩
  have hl := h.len
  by_cases e : j = m
  · subst e; simpa using hy
  · have hk := h.rows j h1 (by omega)
    rw [List.getElem_set_ne (by omega)]
    rcases hk with hk | ⟨g, cap, cap', e1, hk⟩
    · exact .inl hk
    · refine .inr ⟨g, cap, cap', e1, hk.grown hg (fun e2 => ?_)⟩
      have e3 : us[j].ownBlock = some g := by rw [e1]; rfl
      rcases Nat.lt_or_gt_of_ne e with h3 | h3
      · exact List.pairwise_iff_getElem.1 h.pw j m h1 hm h3 g e3 e2.symm
      · exact List.pairwise_iff_getElem.1 h.pw m j hm h1 h3 g e2.symm e3
theorem mark_step {k : Int} {xss : List (List Int)} {m : Nat} (hm : m < xss.length) : (cntR k (xss.take m) ++ xss.drop m).set m (cnt (k + sumL (xss.take m)) xss[m].length) = cntR k (xss.take (m + 1)) ++ xss.drop (m + 1) ∧ sumL (xss.take (m + 1)) = sumL (xss.take m) + xss[m].length := by
  have hl : (cntR k (xss.take m)).length = m := by rw [cntR_len, List.length_take]; omega
  refine ⟨?_, ?_⟩
  · rw [List.set_append_right _ _ (by omega), hl, Nat.sub_self, List.drop_eq_getElem_cons hm, List.set_cons_zero, List.take_succ_eq_append_getElem hm, cntR_snoc]
    simp
  · rw [List.take_succ_eq_append_getElem hm, sumL_snoc]
end Go.Proofs.Ytfcdhdkhfdhjfaa
/-
  Norms of a doubling's basis, isometries, forms: program and reference.
-/
namespace Go.Proofs.Ytfcdhdkhfdhjfaa
open Go.RowKit

/-! ### Sums over places -/
def sumF (f : Nat → Int) : Nat → Int
  | 0 => 0
  | n + 1 => sumF f n + f n
theorem diagF_one {p : Int} {st : List Int} (hd : Dok p st) : diagF p st = (List.range (sz st.length)).map fun i => normL p st (oneL (sz st.length) i) := by
  refine ext_at (by rw [diagF_len]; simp) fun j hj => ?_
  rw [diagF_len] at hj
  rw [List.getD_eq_getElem?_getD (l := (List.range _).map _), List.getElem?_map, List.getElem?_range hj]
  exact (diag_one hd hj).symm
def Uo (w : World) (B g n : Nat) : Prop := (B ≤ g ∧ g < w.heap.size) ∧ ∀ j, j < n → ∃ gj c, w.cell? ⟨g, j, none⟩ = some (.slice (some ⟨gj, 0, none⟩) n c) ∧ OwnI w B gj n c (oneL n j)
theorem grow_chg {lo hi g : Nat} {a w w' : World} (h : Chg lo hi a w) (hg : w.grownBy w' (some g)) (hr : (lo ≤ g ∧ g < hi) ∨ a.heap.size ≤ g) : Chg lo hi a w' :=
  ⟨hg.os.trans h.os, hg.tape.trans h.tape, hg.output.trans h.output, Nat.le_trans h.size hg.size, fun k hk hk2 => by
    rw [hg.block k (Nat.lt_of_lt_of_le hk h.size) (fun e => by cases e; omega)]
    exact h.block k hk hk2⟩
section
variable {w w' : World} {B g n : Nat}
theorem Uo.below (h : Uo w B g n) (hb : Below w.heap.size w w') : Uo w' B g n := ⟨⟨h.1.1, Nat.lt_of_lt_of_le h.1.2 hb.size⟩, fun j hj => by
  obtain ⟨gj, c, h1, h2⟩ := h.2 j hj
  exact ⟨gj, c, kept hb h1, h2.below hb⟩⟩
theorem Uo.chg {lo hi : Nat} (h : Uo w B g n) (hc : Chg lo hi w w') (hr : hi ≤ B) : Uo w' B g n := ⟨⟨h.1.1, Nat.lt_of_lt_of_le h.1.2 hc.size⟩, fun j hj => by
  obtain ⟨gj, c, h1, h2⟩ := h.2 j hj
  exact ⟨gj, c, hc.cell h1 (.inr (Nat.le_trans hr h.1.1)), OwnI.chg hc h2 (.inr (Nat.le_trans hr h2.lt.1))⟩⟩
theorem Uo.un (h : Uo w B g n) : Un w g n := fun j hj => by
  obtain ⟨gj, c, h1, h2⟩ := h.2 j hj
  exact ⟨_, c, h1, h2.fr.el⟩
end
theorem unito_c {n : Nat} {w : World} (hn : n ≤ 1000) (h0 : 0 < n) :
    Calls Try.prog 75 #[.int .i64 n] w fun e w' => ∃ g cap, e = .returned (.slice (some ⟨g, 0, none⟩) n cap) ∧ Uo w' w.heap.size g n ∧ Below w.heap.size w w' := by
  refine (unit_c hn).mono ?_
  rintro e w' ⟨v, us, rfl, hU, hA, hform, hb⟩
  obtain ⟨g, cap, rfl⟩ := hform h0
  have hV : RowsF w' w.heap.size us ((List.range n).map (oneL n)) := ⟨hA.1, hA.2.1⟩
  refine ⟨g, cap, rfl, ⟨World.ownsRow.lt hU g rfl, fun j hj => ?_⟩, hb⟩
  obtain ⟨gj, cj, _, h1, h2, _⟩ := row_at (p := 2) (m := n) hU hV (fun r hr => by obtain ⟨i, _, rfl⟩ := List.mem_map.1 hr; exact Ev.one (by omega)) (j := j) (by simp; exact hj)
  have e : ((List.range n).map (oneL n)).getD j [] = oneL n j := by simp [List.getD_eq_getElem?_getD, hj]
  rw [e] at h2
  obtain ⟨g2, c2, e2, h3⟩ := h2
  rw [oneL_len] at e2 h3
  cases e2
  exact ⟨_, _, h1, h3⟩
set_option maxHeartbeats 1000000 in
theorem diag_c {p : Int} {s : Value} {st : List Int} {w : World} (hd : Dok p st) (hs : El w s st) :
    Calls Try.prog 53 #[.agg #[.int .i64 p, s]] w fun e w' => ∃ v, e = .returned v ∧ FrI w' w.heap.size v (diagF p st) ∧ Below w.heap.size w w' := by
  have hp1 := hd.hp.lo; have hp2 := hd.hp.hi; have hl3 := hd.hl; have hsz := sz_le hd
  obtain ⟨a0, c0, rfl, _⟩ := id hs.op
  have hszc := fun W => size_c (w := W) (p := p) (a := a0) (n := st.length) (c := c0) (by omega)
  have hnor := fun W x i (h : El W (.slice a0 st.length c0) st) (hx : El W x (oneL (sz st.length) i)) => norm_c (w := W) (p := p) hd h hx (Ev.unit1 (by omega))
  rw [diagF_one hd]
  obtain ⟨F, hF⟩ : ∃ F, F = fun i => normL p st (oneL (sz st.length) i) := ⟨_, rfl⟩
  have hFi : ∀ i, normL p st (oneL (sz st.length) i) = F i := fun i => by rw [hF]
  simp only [hFi] at hnor ⊢
  clear hFi hF
  obtain ⟨n, hn⟩ : ∃ n, n = sz st.length := ⟨_, rfl⟩
  simp only [← hn] at hszc hsz hnor ⊢
  have HN := Lib.hid hn; clear hn
  have hbW : Below w.heap.size w (w.alloc (.cells #[.int .i64 p, .slice a0 st.length c0] 32)) := (by repeat (first | exact .refl _ _ | apply bwD | apply bwA | (refine bwS ?_ (by first | omega | simp <;> omega) _) | refine bwC ?_ (by assumption)))
  have hs := hs.below hbW
  have d0 : (w.alloc (.cells #[.int .i64 p, .slice a0 st.length c0] 32)).cell? ⟨w.heap.size, 0, none⟩ = some (.int .i64 p) := by simp [go_sem]
  have d1 : (w.alloc (.cells #[.int .i64 p, .slice a0 st.length c0] 32)).cell? ⟨w.heap.size, 1, none⟩ = some (.slice a0 st.length c0) := by simp [go_sem]
  obtain ⟨u, hue⟩ : ∃ u, u = w.alloc (.cells #[.int .i64 p, .slice a0 st.length c0] 32) := ⟨_, rfl⟩
  have huz : u.heap.size = w.heap.size + 1 := by rw [hue]; simp
  have HW := Lib.hid hue; have HZ := Lib.hid huz
  rw [← hue] at hs d0 d1 hbW
  clear hue huz
  have hJ0 : OwnI (u.alloc (.cells #[] 2)) u.heap.size u.heap.size 0 0 [] := OwnI.new (Nat.le_refl _)
  have hbA : Below u.heap.size u (u.alloc (.cells #[] 2)) := (by repeat (first | exact .refl _ _ | apply bwD | apply bwA | (refine bwS ?_ (by first | omega | simp <;> omega) _) | refine bwC ?_ (by assumption)))
  have e0 := kept hbA d0; have e1 := kept hbA d1; have hsA := hs.below hbA
  have hzA : (u.alloc (.cells #[] 2)).heap.size = u.heap.size + 1 := by simp
  obtain ⟨u1, hu1⟩ : ∃ x, x = u.alloc (.cells #[] 2) := ⟨_, rfl⟩
  rw [← hu1] at hJ0 hbA e0 e1 hsA hzA
  have HU1 := Lib.hid hu1; have HZA := Lib.hid hzA
  clear hu1 hzA
  go_enter Try.func53, Try.ntmps53
  go_wp2_with fail
  rw [← HW.out, ← HU1.out]
  refine (hszc _).mono ?_; rintro e w1 ⟨rfl, hb1⟩
  have e0 := kept hb1 e0; have e1 := kept hb1 e1; have hJ0 := hJ0.below hb1
  go_wp2_with fail
  refine (unito_c (n := n) (by omega) (by omega)).mono ?_; rintro e w2 ⟨g1, k1, rfl, hU, hb2⟩
  have hJ0 := hJ0.below hb2
  have hbu := bwC hbA (bwC hb1 hb2)
  have hlo : u.heap.size + 1 ≤ w1.heap.size := by have := HZA.out; have := hb1.size; omega
  clear e0 e1 hsA hbA hb1
  have hzU : w.heap.size + 1 = u.heap.size := HZ.out.symm
  rw [hzU]
  clear hzU
  go_wp2_with fail
  go_loopw [3, 11] (fun o i wr => ∃ (k g cap : Nat), k ≤ n ∧ i = .int .i64 k ∧ o = .slice (some ⟨g, 0, none⟩) k cap ∧ OwnI wr u.heap.size g k cap ((List.range k).map F) ∧ ((u.heap.size ≤ g ∧ g < u.heap.size + 1) ∨ w2.heap.size ≤ g) ∧ Chg u.heap.size (u.heap.size + 1) w2 wr) (fun _ i _ => n - (intOf i).toNat)
  case atStart => exact ⟨0, u.heap.size, 0, Nat.zero_le _, rfl, rfl, hJ0, .inl ⟨Nat.le_refl _, by omega⟩, Chg.refl⟩
  case round =>
    clear hJ0
    obtain ⟨k, g, cap, hk, rfl, rfl, hown, hgr, hch⟩ := hrel
    have hb := hch.blw hbu (Nat.le_refl _)
    have hs := hs.below hb; have d0 := kept hb d0; have d1 := kept hb d1
    have hU := hU.chg hch hlo
    by_cases hlt : k < n
    · obtain ⟨a2, c2, hcu, hx⟩ := hU.un k hlt
      have hcon := hnor _ _ k hs hx
      obtain ⟨z, hz⟩ : ∃ z, z = F k := ⟨_, rfl⟩
      have hst : Hid ((List.range (k + 1)).map F = (List.range k).map F ++ [z]) := Lib.hid (by rw [List.range_succ, List.map_append, hz]; rfl)
      rw [← hz] at hcon
      clear hz
      go_wp2_with fail
      refine hcon.mono ?_; rintro e w3 ⟨rfl, hb3⟩
      have hown := hown.below hb3
      have hsz3 : u.heap.size ≤ w3.heap.size := by have := hb.size; have := hb3.size; omega
      go_wp2_with (at_builtin; refine app_one rfl _ _ rfl w3 u.heap.size g k cap _ rfl z _ rfl hown hsz3 (by omega) ?_; intro g' cap' w' hown' hb' hg' hgg)
      go_roundw
      case rel => exact ⟨k + 1, g', cap', by omega, by go_num, rfl, by rw [hst.out]; exact hown', by have := hch.size; have := hb3.size; rcases hgg with rfl | rfl <;> omega, grow_chg (hch.trans (Chg.below hb3)) hg' hgr⟩
      case measure => simp [intOf]; omega
    · obtain rfl : k = n := by omega
      go_wp2_with fail
      go_ret
      exact ⟨_, rfl, hown.fr.more hbW.size, bwC hbW hb⟩
end Go.Proofs.Ytfcdhdkhfdhjfaa
/-
  Isometries and forms of a doubling: program and reference, walked.
-/
namespace Go.Proofs.Ytfcdhdkhfdhjfaa
open Go.RowKit

theorem sform_c {p : Int} {s : Value} {st : List Int} {b off c i j k n : Nat} {w : World} (hd : Dok p st) (hs : El w s st) (hn : n = sz st.length) (hT : Tb w b off n (basF p st)) (hi : i < n) (hj : j < n) (hk : k < n) :
    Calls Try.prog 45 #[.agg #[.int .i64 p, s], .slice (some ⟨b, off, none⟩) n c, .int .i64 i, .int .i64 j, .int .i64 k] w fun e w' => e = .returned (.int .i64 (formF p st i j k)) ∧ Below w.heap.size w w' := by
  have hp1 := hd.hp.lo; have hp2 := hd.hp.hi; have hl3 := hd.hl; have hsz := sz_le hd
  rw [← hn] at hsz
  have HN := Lib.hid hn; clear hn
  obtain ⟨a0, c0, rfl, _⟩ := id hs.op
  have hbit := xor_bits i (by omega) j (by omega)
  obtain ⟨x, hx_⟩ : ∃ x, x = i ^^^ j := ⟨_, rfl⟩
  rw [← hx_] at hbit
  by_cases hxk : x = k
  · have hF : formF p st i j k = 2 * basF p st i j * basF p st k k % p := by unfold formF; rw [if_pos (by rw [← hx_]; exact hxk)]
    have b1 := basF_fp (p := p) (st := st) (i := i) (j := j) hd
    have b2 := basF_fp (p := p) (st := st) (i := k) (j := k) hd
    obtain ⟨bi, oi, ci, hci, hti⟩ := hT i hi
    have hcj := hti j hj
    obtain ⟨bk, ok, ck, hck, htk⟩ := hT k hk
    have hckk := htk k hk
    rw [hF]
    obtain ⟨y, hy⟩ : ∃ y, y = basF p st i j := ⟨_, rfl⟩
    obtain ⟨z, hz⟩ : ∃ z, z = basF p st k k := ⟨_, rfl⟩
    rw [← hy] at hcj b1 ⊢; rw [← hz] at hckk b2 ⊢
    have m1 := mulb (k := 2 * y) (y := z) (A := 26) (B := 13) (by omega) (by omega) (by omega) (by omega)
    clear hF hx_ hy hz hti htk hT
    subst hxk
    have hne : ((x : Int) != (x : Int)) = false := by simp
    go_enter Try.func45, Try.ntmps45
    have hb0 : Below w.heap.size w (w.alloc (.cells #[.int .i64 p, .slice a0 st.length c0] 32)) := (by repeat (first | exact .refl _ _ | apply bwD | apply bwA | (refine bwS ?_ (by first | omega | simp <;> omega) _) | refine bwC ?_ (by assumption)))
    have hs := hs.below hb0; have hci := kept hb0 hci; have hcj := kept hb0 hcj; have hck := kept hb0 hck; have hckk := kept hb0 hckk
    have d0 : (w.alloc (.cells #[.int .i64 p, .slice a0 st.length c0] 32)).cell? ⟨w.heap.size, 0, none⟩ = some (.int .i64 p) := by simp [go_sem]
    have d1 : (w.alloc (.cells #[.int .i64 p, .slice a0 st.length c0] 32)).cell? ⟨w.heap.size, 1, none⟩ = some (.slice a0 st.length c0) := by simp [go_sem]
    go_wp2_with fail
    refine region_flow [(false, [(0, 0), (1, 1), (2, 0), (3, 0), (4, 0), (5, 1), (6, 0), (7, 0), (8, 1), (9, 0), (10, 0), (11, 0), (12, 0), (13, 1), (14, 0), (15, 0), (16, 1), (17, 0), (18, 4), (19, 0)])] (by kernel_rfl) ?_
    refine norm_K fun K hK => ?_
    change wpList _ _ _ [_, _, _, _, _, _, _, _, _, _, _, _, _, _, _, _, _, _, _, _] _ _
    have hb1 : Below (w.alloc (.cells #[.int .i64 p, .slice a0 st.length c0] 32)).heap.size (w.alloc (.cells #[.int .i64 p, .slice a0 st.length c0] 32)) (w.alloc (.cells #[.int .i64 p, .slice a0 st.length c0] 32)).drew := (by repeat (first | exact .refl _ _ | apply bwD | apply bwA | (refine bwS ?_ (by first | omega | simp <;> omega) _) | refine bwC ?_ (by assumption)))
    have hs := hs.below hb1; have hci := kept hb1 hci; have hcj := kept hb1 hcj; have hck := kept hb1 hck; have hckk := kept hb1 hckk; have d0 := kept hb1 d0; have d1 := kept hb1 d1
    generalize (w.alloc (.cells #[.int .i64 p, .slice a0 st.length c0] 32)).drew = wq at *
    go_wp2_with fail
    refine (smod_c (by omega) (by omega)).mono ?_; rintro e w2 ⟨rfl, rfl⟩
    go_wp2_with fail
    first | (refine hK _ _ ⟨rfl, ?_⟩; clear hK K) | refine ⟨rfl, ?_⟩
    go_wp2_with fail
    go_ret
    exact ⟨rfl, (by repeat (first | exact .refl _ _ | apply bwD | apply bwA | (refine bwS ?_ (by first | omega | simp <;> omega) _) | refine bwC ?_ (by assumption)))⟩
  · have hF : formF p st i j k = 0 := by unfold formF; rw [if_neg (by rw [← hx_]; exact hxk)]
    rw [hF]
    clear hF hx_ hT
    have hne : ((x : Int) != (k : Int)) = true := by rw [bne_iff_ne]; omega
    go_enter Try.func45, Try.ntmps45
    go_wp2_with fail
    go_ret
    exact ⟨rfl, (by repeat (first | exact .refl _ _ | apply bwD | apply bwA | (refine bwS ?_ (by first | omega | simp <;> omega) _) | refine bwC ?_ (by assumption)))⟩
end Go.Proofs.Ytfcdhdkhfdhjfaa
