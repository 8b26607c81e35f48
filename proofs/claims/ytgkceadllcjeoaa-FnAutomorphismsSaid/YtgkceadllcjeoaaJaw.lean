/- Texts joined for a claim: TrA, Mark, MarkH, MarkI. -/
import Derived.Test.YtgkceadllcjeoaaJau
import Derived.Test.YtgkceadllcjeoaaDbT
import Derived.Test.YtgkceadllcjeoaaLinE
import Derived.Test.YtgkceadllcjeoaaJan
/-
  Matrices of doublings: checks, columns, products with an element; program and reference.
-/
namespace Go.Proofs.Ytgkceadllcjeoaa
open Go.RowKit

theorem Sl.cellat {w : World} {a : Option Addr} {c : Nat} {xs : List Int} {i : Nat} (h : Sl w (.slice a xs.length c) xs) (hi : i < xs.length) : ∃ b off, a = some ⟨b, off, none⟩ ∧ w.cell? ⟨b, off + i, none⟩ = some (.int .i64 (xs.getD i 0)) := by
  obtain ⟨a', c', e, h⟩ := h
  cases e
  rcases h with h | ⟨b, off, rfl, h⟩
  · rw [h] at hi; simp at hi
  · exact ⟨b, off, rfl, h i hi⟩
theorem col_take {L : List (List Int)} {s : List Int} {k i : Nat} (h : L.take (k + 1) = L.take k ++ [s]) : colL (L.take (k + 1)) i = colL (L.take k) i ++ [s.getD i 0] := by
  rw [h]; unfold colL; simp
theorem app_take {p : Int} {L : List (List Int)} {s v : List Int} {k : Nat} (h : L.take (k + 1) = L.take k ++ [s]) : applyL p (L.take (k + 1)) v = applyL p (L.take k) v ++ [dotL p s v] := by
  rw [h]; unfold applyL; simp
def tabF (p : Int) (m : Nat) (r : List Int) : Bool := decide (r.length = m) && decide (1 ≤ r.length) && decide (r.length ≤ 16) && isL p r
theorem tab_def {p : Int} {L : List (List Int)} : tabB p L = (decide (L.length ≤ 16) && L.all (tabF p (L.getD 0 []).length)) := rfl
theorem tab_no {p : Int} {L : List (List Int)} {s : List Int} (h : s ∈ L) (hf : tabF p (L.getD 0 []).length s = false) : tabB p L = false := by
  rw [tab_def]
  have : L.all (tabF p (L.getD 0 []).length) = false := List.all_eq_false.2 ⟨s, h, by rw [hf]; decide⟩
  rw [this, Bool.and_false]
theorem column_c {M : Value} {L : List (List Int)} {i : Nat} {w : World} (hr : Re w M L) (hL : ∀ r ∈ L, i < r.length) (hn : L.length ≤ 1000000) :
    Calls Try.prog 96 #[M, .int .i64 i] w fun e w' => ∃ v, e = .returned v ∧ FrI w' w.heap.size v (colL L i) ∧ Below w.heap.size w w' := by
  obtain ⟨ar, cr, rfl, hr1, hr2, hR⟩ := hr
  go_enter Try.func96, Try.ntmps96
  go_wp2_with fail
  have hb0 : Below w.heap.size w (w.alloc (.cells #[] 2)) := (by repeat (first | exact .refl _ _ | apply bwD | apply bwA | (refine bwS ?_ (by first | omega | simp <;> omega) _) | refine bwC ?_ (by assumption)))
  go_loopw [5, 11] (fun o q wr => ∃ (k g cap : Nat), k ≤ L.length ∧ q = .int .i64 k ∧ o = .slice (some ⟨g, 0, none⟩) k cap ∧ OwnI wr w.heap.size g k cap (colL (L.take k) i) ∧ Below w.heap.size w wr)
    (fun _ q _ => L.length - (intOf q).toNat)
  case atStart => exact ⟨0, w.heap.size, 0, Nat.zero_le _, rfl, rfl, OwnI.new (Nat.le_refl _), hb0⟩
  case round =>
    obtain ⟨k, g, cap, hk, rfl, rfl, hown, hbr⟩ := hrel
    by_cases hlt : k < L.length
    · obtain ⟨b, off, rfl, hcell⟩ := hR.resolve_left (fun e => by rw [e] at hlt; simp at hlt)
      obtain ⟨a2, c2, s, hs, hc, hE, ht⟩ := Re.get hcell hlt
      have hsl := hL s hs
      obtain ⟨b2, o2, rfl, hx⟩ := Sl.cellat hE.sl hsl
      have hc := kept hbr hc
      have hx := kept hbr hx
      have HT := Lib.hid (col_take (i := i) ht); clear ht
      obtain ⟨z, hz⟩ : ∃ z, z = s.getD i 0 := ⟨_, rfl⟩
      rw [← hz] at hx HT
      clear hz
      go_wp2_with (at_builtin; refine app_one rfl _ _ rfl wr w.heap.size g k cap _ rfl z _ rfl hown hbr.size (by omega) ?_; intro g' cap' w' hown' hb' hg' hgg)
      go_roundw
      case rel => exact ⟨k + 1, g', cap', by omega, by go_num, rfl, by rw [HT.out]; exact hown', hbr.trans hb'⟩
      case measure => simp [intOf]; omega
    · obtain rfl : k = L.length := by omega
      rw [take_all (Nat.le_refl _)] at hown
      go_wp2_with fail
      go_ret
      exact ⟨_, rfl, hown.fr, hbr⟩
theorem scolumn_c {M : Value} {L : List (List Int)} {i : Nat} {w : World} (hr : Re w M L) (hL : ∀ r ∈ L, i < r.length) (hn : L.length ≤ 1000000) :
    Calls Try.prog 101 #[M, .int .i64 i] w fun e w' => ∃ v, e = .returned v ∧ FrI w' w.heap.size v (colL L i) ∧ Below w.heap.size w w' := by
  obtain ⟨ar, cr, rfl, hr1, hr2, hR⟩ := hr
  go_enter Try.func101, Try.ntmps101
  go_wp2_with fail
  have hb0 : Below w.heap.size w (w.alloc (.cells #[] 2)) := (by repeat (first | exact .refl _ _ | apply bwD | apply bwA | (refine bwS ?_ (by first | omega | simp <;> omega) _) | refine bwC ?_ (by assumption)))
  go_loopw [5, 6] (fun o q wr => ∃ (k g cap : Nat), k ≤ L.length ∧ q = .int .i64 k ∧ o = .slice (some ⟨g, 0, none⟩) k cap ∧ OwnI wr w.heap.size g k cap (colL (L.take k) i) ∧ Below w.heap.size w wr)
    (fun _ q _ => L.length - (intOf q).toNat)
  case atStart => exact ⟨0, w.heap.size, 0, Nat.zero_le _, rfl, rfl, OwnI.new (Nat.le_refl _), hb0⟩
  case round =>
    obtain ⟨k, g, cap, hk, rfl, rfl, hown, hbr⟩ := hrel
    by_cases hlt : k < L.length
    · obtain ⟨b, off, rfl, hcell⟩ := hR.resolve_left (fun e => by rw [e] at hlt; simp at hlt)
      obtain ⟨a2, c2, s, hs, hc, hE, ht⟩ := Re.get hcell hlt
      have hsl := hL s hs
      obtain ⟨b2, o2, rfl, hx⟩ := Sl.cellat hE.sl hsl
      have hc := kept hbr hc
      have hx := kept hbr hx
      have HT := Lib.hid (col_take (i := i) ht); clear ht
      obtain ⟨z, hz⟩ : ∃ z, z = s.getD i 0 := ⟨_, rfl⟩
      rw [← hz] at hx HT
      clear hz
      go_wp2_with (at_builtin; refine app_one rfl _ _ rfl wr w.heap.size g k cap _ rfl z _ rfl hown hbr.size (by omega) ?_; intro g' cap' w' hown' hb' hg' hgg)
      go_roundw
      case rel => exact ⟨k + 1, g', cap', by omega, by go_num, rfl, by rw [HT.out]; exact hown', hbr.trans hb'⟩
      case measure => simp [intOf]; omega
    · obtain rfl : k = L.length := by omega
      rw [take_all (Nat.le_refl _)] at hown
      go_wp2_with fail
      go_ret
      exact ⟨_, rfl, hown.fr, hbr⟩
theorem apply_c {p : Int} {m v : Value} {n : Nat} {L : List (List Int)} {xs : List Int} {w : World} (hp : 1 ≤ p) (hp2 : p ≤ 1000) (hr : Re w m L) (hL : Rw p n L) (hv : El w v xs) (ev : Ev p n xs) (hn : n ≤ 100000) (hl : L.length ≤ 1000000) :
    Calls Try.prog 55 #[.int .i64 p, m, v] w fun e w' => ∃ u, e = .returned u ∧ FrI w' w.heap.size u (applyL p L xs) ∧ Below w.heap.size w w' := by
  obtain ⟨ar, cr, rfl, hr1, hr2, hR⟩ := hr
  go_enter Try.func55, Try.ntmps55
  go_wp2_with fail
  have hb0 : Below w.heap.size w (w.alloc (.cells #[] 2)) := (by repeat (first | exact .refl _ _ | apply bwD | apply bwA | (refine bwS ?_ (by first | omega | simp <;> omega) _) | refine bwC ?_ (by assumption)))
  go_loopw [7, 13] (fun o q wr => ∃ (k g cap : Nat), k ≤ L.length ∧ q = .int .i64 k ∧ o = .slice (some ⟨g, 0, none⟩) k cap ∧ OwnI wr w.heap.size g k cap (applyL p (L.take k) xs) ∧ Below w.heap.size w wr)
    (fun _ q _ => L.length - (intOf q).toNat)
  case atStart => exact ⟨0, w.heap.size, 0, Nat.zero_le _, rfl, rfl, OwnI.new (Nat.le_refl _), hb0⟩
  case round =>
    obtain ⟨k, g, cap, hk, rfl, rfl, hown, hbr⟩ := hrel
    by_cases hlt : k < L.length
    · obtain ⟨b, off, rfl, hcell⟩ := hR.resolve_left (fun e => by rw [e] at hlt; simp at hlt)
      obtain ⟨a2, c2, s, hs, hc, hE, ht⟩ := Re.get hcell hlt
      have es := hL s hs
      have hc := kept hbr hc
      have hE := hE.below hbr
      have hv := hv.below hbr
      have HT := Lib.hid (app_take (p := p) (v := xs) ht); clear ht
      have hdot := dot_c (w := wr) hp hp2 hE.sl hv.sl (es.2.sm (by omega) (by omega)) (ev.2.sm (by omega) (by omega)) (ev.1.trans es.1.symm) (by have := es.1; omega)
      obtain ⟨z, hz⟩ : ∃ z, z = dotL p s xs := ⟨_, rfl⟩
      rw [← hz] at hdot HT
      clear hz
      have ES := Lib.hid es; clear es
      go_wp2_with fail
      refine hdot.mono ?_; rintro e w1 ⟨rfl, rfl⟩
      go_wp2_with (at_builtin; refine app_one rfl _ _ rfl wr w.heap.size g k cap _ rfl z _ rfl hown hbr.size (by omega) ?_; intro g' cap' w' hown' hb' hg' hgg)
      go_roundw
      case rel => exact ⟨k + 1, g', cap', by omega, by go_num, rfl, by rw [HT.out]; exact hown', hbr.trans hb'⟩
      case measure => simp [intOf]; omega
    · obtain rfl : k = L.length := by omega
      rw [take_all (Nat.le_refl _)] at hown
      go_wp2_with fail
      go_ret
      exact ⟨_, rfl, hown.fr, hbr⟩
theorem istable_c {p : Int} {m : Value} {L : List (List Int)} {w : World} (hp : 0 ≤ p) (hp2 : p ≤ 1000) (hr : Re w m L) (hL : ∀ r ∈ L, r.length ≤ 1048576) (hn : L.length ≤ 1048576) :
    Calls Try.prog 138 #[.int .i64 p, m] w fun e w' => e = .returned (.bool (tabB p L)) ∧ w = w' := by
  obtain ⟨ar, cr, rfl, _, _, hR⟩ := hr
  by_cases h16 : 16 < L.length
  · have e : tabB p L = false := by unfold tabB; rw [decide_eq_false (by omega)]; rfl
    have E := Lib.hid e; clear e
    go_enter Try.func138, Try.ntmps138
    go_wp2
    go_ret
    exact ⟨by rw [E.out]; rfl, rfl⟩
  rcases hR with rfl | ⟨b, off, rfl, hcell⟩
  · go_enter Try.func138, Try.ntmps138
    go_wp2
    refine wp_loop_rounds 1 ?_; rw [rounds_succ]
    go_wp2
    go_ret
    exact ⟨by simp [tabB], rfl⟩
  obtain ⟨m0, hm0⟩ : ∃ m, m = (L.getD 0 []).length := ⟨_, rfl⟩
  have hdef : tabB p L = L.all (tabF p m0) := by rw [tab_def, decide_eq_true (by omega), hm0]; rfl
  have hno : ∀ s ∈ L, tabF p m0 s = false → tabB p L = false := fun s hs h => tab_no hs (by rw [← hm0]; exact h)
  have hfirst : 0 < L.length → ∃ a c, w.cell? ⟨b, off, none⟩ = some (.slice a m0 c) := fun h => by
    obtain ⟨u, h1, h2⟩ := hcell 0 h
    obtain ⟨a, c, rfl, _⟩ := h2.op
    refine ⟨a, c, ?_⟩
    rw [hm0, show L.getD 0 [] = L[0] by simp [List.getD_eq_getElem?_getD, h]]
    exact h1
  have HDEF := Lib.hid hdef; have HNO := Lib.hid hno; have HF := Lib.hid hfirst
  clear hdef hno hfirst hm0
  go_enter Try.func138, Try.ntmps138
  go_wp2
  go_loop [12] (fun i => ∃ k : Nat, k ≤ L.length ∧ i = .int .i64 k ∧ (L.take k).all (tabF p m0) = true) (fun i => L.length - (intOf i).toNat)
  case atStart => exact ⟨0, Nat.zero_le _, rfl, rfl⟩
  case round =>
    obtain ⟨k, hk, rfl, hall⟩ := hrel
    by_cases hlt : k < L.length
    · obtain ⟨a2, c2, s, hs, hc, hE, ht⟩ := Re.get hcell hlt
      obtain ⟨a3, c3, hc0⟩ := HF.out (by omega)
      have hrl := hL s hs
      have HT := Lib.hid ht; have HA := Lib.hid hall; clear ht hall
      have hdF : tabF p m0 s = (decide (s.length = m0) && decide (1 ≤ s.length) && decide (s.length ≤ 16) && isL p s) := rfl
      by_cases e1 : s.length = m0
      case neg =>
        have E := Lib.hid (HNO.out s hs (by rw [hdF, decide_eq_false e1]; rfl)); clear hdF
        have hne : ((s.length : Int) != (m0 : Int)) = true := by rw [bne_iff_ne]; omega
        go_wp2
        go_ret
        exact ⟨by rw [E.out]; rfl, rfl⟩
      have hne : ((s.length : Int) != (m0 : Int)) = false := by rw [e1]; simp
      rw [decide_eq_true e1, Bool.true_and] at hdF
      have E1 := Lib.hid e1; clear e1
      by_cases e2 : 1 ≤ s.length
      case neg =>
        have E := Lib.hid (HNO.out s hs (by rw [hdF, decide_eq_false e2]; rfl)); clear hdF
        go_wp2
        go_ret
        exact ⟨by rw [E.out]; rfl, rfl⟩
      rw [decide_eq_true e2, Bool.true_and] at hdF
      by_cases e3 : s.length ≤ 16
      case neg =>
        have E := Lib.hid (HNO.out s hs (by rw [hdF, decide_eq_false e3]; rfl)); clear hdF
        go_wp2
        go_ret
        exact ⟨by rw [E.out]; rfl, rfl⟩
      rw [decide_eq_true e3, Bool.true_and] at hdF
      cases hv : isL p s
      · have E := Lib.hid (HNO.out s hs (by rw [hdF, hv])); clear hdF
        go_wp2_with fail
        refine (is_c hp hp2 hE.sl hrl).mono ?_; rintro e w1 ⟨rfl, rfl⟩
        simp only [hv]
        go_wp2
        go_ret
        exact ⟨by rw [E.out]; rfl, rfl⟩
      · rw [hv] at hdF
        have HD := Lib.hid hdF; clear hdF
        go_wp2_with fail
        refine (is_c hp hp2 hE.sl hrl).mono ?_; rintro e w1 ⟨rfl, rfl⟩
        simp only [hv]
        go_wp2
        go_round
        case rel => exact ⟨k + 1, by omega, by go_num, by rw [HT.out, List.all_append, HA.out]; simp [HD.out]⟩
        case measure => simp [intOf]; omega
    · obtain rfl : k = L.length := by omega
      rw [take_all (Nat.le_refl _)] at hall
      have HA := Lib.hid hall; clear hall
      go_wp2
      go_ret
      exact ⟨by rw [HDEF.out, HA.out]; rfl, rfl⟩
theorem fismatrix_c {p : Int} {m : Value} {L : List (List Int)} {w : World} (hp : 0 ≤ p) (hp2 : p ≤ 1000) (hr : Re w m L) (hL : ∀ r ∈ L, r.length ≤ 1048576) (hn : L.length ≤ 1048576) :
    Calls Try.prog 126 #[.int .i64 p, m] w fun e w' => e = .returned (.bool (decide (0 < L.length) && tabB p L)) ∧ w = w' := by
  have hcon := fun W h => istable_c (w := W) hp hp2 h hL hn (m := m)
  obtain ⟨ar, cr, rfl, _⟩ := id hr
  obtain ⟨q, hq⟩ : ∃ q, q = tabB p L := ⟨_, rfl⟩
  simp only [← hq] at hcon ⊢
  clear hq
  by_cases h0 : 0 < L.length
  · rw [decide_eq_true h0, Bool.true_and]
    go_enter Try.func126, Try.ntmps126
    go_wp2_with fail
    refine (hcon _ hr).mono ?_; rintro e w1 ⟨rfl, rfl⟩
    go_wp2
    go_ret
    exact ⟨rfl, rfl⟩
  · rw [decide_eq_false h0, Bool.false_and]
    go_enter Try.func126, Try.ntmps126
    go_wp2
    go_ret
    exact ⟨rfl, rfl⟩
end Go.Proofs.Ytgkceadllcjeoaa
/-
  Marks on rows of rows and on matrices, and what a mark leaves as it was.
-/
namespace Go.Proofs.Ytgkceadllcjeoaa
open Go.RowKit

structure Chg (lo hi : Nat) (w w' : World) : Prop where
  os : w'.os = w.os
  tape : w'.tape = w.tape
  output : w'.output = w.output
  size : w.heap.size ≤ w'.heap.size
  block : ∀ k, k < w.heap.size → (k < lo ∨ hi ≤ k) → w'.heap[k]? = w.heap[k]?
section
variable {lo hi lo' hi' B : Nat} {a w w' w2 : World} {v : Value} {xs : List Int}
theorem Chg.refl : Chg lo hi w w := ⟨rfl, rfl, rfl, Nat.le_refl _, fun _ _ _ => rfl⟩
theorem Chg.trans (h : Chg lo hi w w') (k : Chg lo hi w' w2) : Chg lo hi w w2 :=
  ⟨k.os.trans h.os, k.tape.trans h.tape, k.output.trans h.output, Nat.le_trans h.size k.size, fun j hj hr => (k.block j (Nat.lt_of_lt_of_le hj h.size) hr).trans (h.block j hj hr)⟩
theorem Chg.wide (h : Chg lo hi w w') (h1 : lo' ≤ lo) (h2 : hi ≤ hi') : Chg lo' hi' w w' := ⟨h.os, h.tape, h.output, h.size, fun k hk hr => h.block k hk (by omega)⟩
theorem Chg.below (h : Below w.heap.size w w') : Chg lo hi w w' := ⟨h.os, h.tape, h.output, h.size, fun k hk _ => h.block k hk⟩
theorem Chg.grown {row : Option Nat} (hg : w.grownBy w' row) (hr : ∀ g, row = some g → lo ≤ g ∧ g < hi) : Chg lo hi w w' :=
  ⟨hg.os, hg.tape, hg.output, hg.size, fun k hk h => hg.block k hk (fun e => by have := hr k e.symm; omega)⟩
theorem Chg.blw (h : Chg lo hi w w') (hb : Below a.heap.size a w) (hl : a.heap.size ≤ lo) : Below a.heap.size a w' :=
  ⟨h.os.trans hb.os, h.tape.trans hb.tape, h.output.trans hb.output, Nat.le_trans hb.size h.size, fun k hk => (h.block k (Nat.lt_of_lt_of_le hk hb.size) (.inl (by omega))).trans (hb.block k hk)⟩
theorem Chg.cell (h : Chg lo hi w w') {b o : Nat} (hc : w.cell? ⟨b, o, none⟩ = some v) (hr : b < lo ∨ hi ≤ b) : w'.cell? ⟨b, o, none⟩ = some v := by
  rw [World.cell?_of_block (w := w) (h.block b (World.block_lt_of_cell? w _ hc) hr)]; exact hc
theorem ownsRow_chg {E : TypeId} {n : Nat} {zs : List Value} (h : Chg lo hi w w') (ho : w.ownsRow B E 1 v n zs) (hr : ∀ g, v.ownBlock = some g → g < lo ∨ hi ≤ g) : w'.ownsRow B E 1 v n zs := by
  refine ⟨ho.1, ?_⟩
  rcases ho.2 with h2 | ⟨g', cap', cur, rfl, h3, hh, h4⟩
  · exact .inl h2
  · exact .inr ⟨g', cap', cur, rfl, h3, by rw [h.block g' (Array.getElem?_eq_some_iff.1 hh).1 (hr g' rfl)]; exact hh, h4⟩
theorem OwnI.chg {g n cap : Nat} (h : Chg lo hi w w') (ho : OwnI w B g n cap xs) (hr : g < lo ∨ hi ≤ g) : OwnI w' B g n cap xs :=
  ownsRow_chg h ho (fun j hj => by have e : g = j := Option.some.inj hj; omega)
theorem FrI.chg (h : Chg lo hi w w') (ho : FrI w B v xs) (hr : hi ≤ B) : FrI w' B v xs := by
  obtain ⟨g, cap, rfl, ho⟩ := ho
  exact ⟨g, cap, rfl, OwnI.chg h ho (by have := ho.lt.1; omega)⟩
theorem OwI.chg (h : Chg lo hi w w') (ho : OwI w B v xs) (hr : ∀ g, v.ownBlock = some g → g < lo ∨ hi ≤ g) : OwI w' B v xs := by
  rcases ho with ho | ⟨g, cap, cap', rfl, ho⟩
  · exact .inl ho
  · exact .inr ⟨g, cap, cap', rfl, OwnI.chg h ho (hr g rfl)⟩
theorem FrR.chg {us : List Value} {xss : List (List Int)} (h : Chg lo hi w w') (ho : FrR w B v us xss) (hr : hi ≤ B) : FrR w' B v us xss := by
  obtain ⟨g0, cap0, e0, hB0, _⟩ := ho.lt
  obtain ⟨g, cap, rfl, h1, h2, h3, h4⟩ := ho
  cases e0
  exact ⟨g0, cap0, rfl, ownsRow_chg h h1 (fun j hj => by have e : g0 = j := Option.some.inj hj; omega), h2, fun j a b => (h3 j a b).chg h hr, h4⟩
theorem FrH.chg {X : Her} (h : Chg lo hi w w') (ho : FrH w B v X) (hr : hi ≤ B) : FrH w' B v X := by
  obtain ⟨d, u, us, rfl, h1, h2, h3⟩ := ho
  exact ⟨d, u, us, rfl, h1.chg h hr, h2.chg h hr, h3⟩
theorem OwH.chg {X : Her} (h : Chg lo hi w w') (ho : OwH w B v X) (hr : hi ≤ B) : OwH w' B v X := by
  rcases ho with ho | ho
  · exact .inl ho
  · exact .inr (ho.chg h hr)
end
/-! ### Marked rows -/
def sumL : List (List Int) → Nat
  | [] => 0
  | x :: xs => x.length + sumL xs
structure RowsI (w : World) (lo hi : Nat) (us : List Value) (xss : List (List Int)) : Prop where
  len : us.length = xss.length
  rows : ∀ j (h : j < us.length) (h' : j < xss.length), OwI w lo us[j] xss[j]
  hib : ∀ z ∈ us, ∀ g, z.ownBlock = some g → g < hi
  pw : us.Pairwise fun a b => ∀ g, a.ownBlock = some g → b.ownBlock ≠ some g
end Go.Proofs.Ytgkceadllcjeoaa
/-
  The laws' marks on rows of rows, doublings and matrices, and the reading of the marks.
-/
namespace Go.Proofs.Ytgkceadllcjeoaa
open Go.RowKit

def RgR (w : World) (lo hi : Nat) (v : Value) (us : List Value) (xss : List (List Int)) : Prop :=
  RowsI w lo hi us xss ∧ ((v = .slice none 0 0 ∧ us = []) ∨ ∃ g cap, v = .slice (some ⟨g, 0, none⟩) us.length cap ∧ (lo ≤ g ∧ g < w.heap.size) ∧ (∀ j (h : j < us.length), w.cell? ⟨g, j, none⟩ = some us[j]) ∧ ∀ z ∈ us, z.ownBlock ≠ some g)
theorem RgR.rs {w : World} {lo hi : Nat} {v : Value} {us : List Value} {xss : List (List Int)} (h : RgR w lo hi v us xss) : Rs w v xss := by
  obtain ⟨h1, h2⟩ := h
  have hl := h1.len
  rcases h2 with ⟨rfl, rfl⟩ | ⟨g, cap, rfl, _, h3, _⟩
  · obtain rfl : xss = [] := List.length_eq_zero_iff.1 (by simpa using hl.symm)
    exact ⟨none, 0, rfl, .inl rfl⟩
  · refine ⟨_, cap, by rw [hl], .inr ⟨g, 0, rfl, fun j hj => ⟨us[j]'(by omega), by rw [Nat.zero_add]; exact h3 j (by omega), (h1.rows j (by omega) hj).sl⟩⟩⟩
end Go.Proofs.Ytgkceadllcjeoaa
/-
  The laws' marks on doublings and matrices.
-/
namespace Go.Proofs.Ytgkceadllcjeoaa
open Go.RowKit

theorem OwI.same {w w' : World} {B : Nat} {v : Value} {xs : List Int} (h : OwI w B v xs) (he : ∀ g, g < w.heap.size → v.ownBlock = some g → w'.heap[g]? = w.heap[g]?) : OwI w' B v xs := by
  rcases h with h | ⟨g, cap, cap', rfl, h⟩
  · exact .inl h
  · obtain ⟨cur, hh, hc, ht⟩ := h.row
    exact .inr ⟨g, cap, cap', rfl, OwnI.mk_ h.lt.1 (by rw [he g h.lt.2 rfl]; exact hh) hc ht h.caps.1 h.caps.2⟩
def RgH (w : World) (lo hi : Nat) (v : Value) (X : Her) : Prop := ∃ d u us, v = .agg #[d, u] ∧ OwI w lo d X.dg ∧ RgR w lo hi u us X.up ∧ ∀ g, d.ownBlock = some g → (g < hi ∧ u.ownBlock ≠ some g ∧ ∀ z ∈ us, z.ownBlock ≠ some g)
theorem RgR.below {w w' : World} {lo hi : Nat} {v : Value} {us : List Value} {xss : List (List Int)} (h : RgR w lo hi v us xss) (hb : Below w.heap.size w w') : RgR w' lo hi v us xss := by
  obtain ⟨⟨h1, h2, h3, h4⟩, h5⟩ := h
  refine ⟨⟨h1, fun j a b => (h2 j a b).below hb, h3, h4⟩, ?_⟩
  rcases h5 with h5 | ⟨g, cap, rfl, h6, h7, h8⟩
  · exact .inl h5
  · exact .inr ⟨g, cap, rfl, ⟨h6.1, Nat.lt_of_lt_of_le h6.2 hb.size⟩, fun j a => kept hb (h7 j a), h8⟩
theorem RgR.grown {w w' : World} {lo hi : Nat} {v : Value} {us : List Value} {xss : List (List Int)} {row : Option Nat} (h : RgR w lo hi v us xss) (hg : w.grownBy w' row) (h9 : ∀ g, row = some g → v.ownBlock ≠ some g ∧ ∀ z ∈ us, z.ownBlock ≠ some g) : RgR w' lo hi v us xss := by
  obtain ⟨⟨h1, h2, h3, h4⟩, h5⟩ := h
  refine ⟨⟨h1, fun j a b => ?_, h3, h4⟩, ?_⟩
  · rcases h2 j a b with h | ⟨g, cap, cap', e, h⟩
    · exact .inl h
    · exact .inr ⟨g, cap, cap', e, h.grown hg (fun e2 => (h9 g e2.symm).2 _ (List.getElem_mem a) (by rw [e]; rfl))⟩
  rcases h5 with h5 | ⟨g, cap, rfl, h6, h7, h8⟩
  · exact .inl h5
  · refine .inr ⟨g, cap, rfl, ⟨h6.1, Nat.lt_of_lt_of_le h6.2 hg.size⟩, fun j a => ?_, h8⟩
    rw [World.cell?_of_block (w := w) (hg.block g h6.2 (fun e2 => (h9 g e2.symm).1 rfl))]; exact h7 j a
theorem RgH.hr {w : World} {lo hi : Nat} {v : Value} {X : Her} (h : RgH w lo hi v X) : Hr w v X := by
  obtain ⟨d, u, us, rfl, h1, h2, _⟩ := h
  exact ⟨d, u, rfl, h1.sl, h2.rs⟩
theorem RgH.below {w w' : World} {lo hi : Nat} {v : Value} {X : Her} (h : RgH w lo hi v X) (hb : Below w.heap.size w w') : RgH w' lo hi v X := by
  obtain ⟨d, u, us, rfl, h1, h2, h3⟩ := h
  exact ⟨d, u, us, rfl, h1.below hb, h2.below hb, h3⟩
theorem RgH.chg {w w' : World} {lo hi lo' hi' : Nat} {v : Value} {X : Her} (h : RgH w lo' hi' v X) (hc : Chg lo hi w w') (hr : hi ≤ lo') : RgH w' lo' hi' v X := by
  obtain ⟨d, u, us, rfl, h1, ⟨⟨k1, k2, k3, k4⟩, h5⟩, h3⟩ := h
  have far : ∀ {v : Value} {xs : List Int}, OwI w lo' v xs → OwI w' lo' v xs := fun ho => OwI.chg hc ho (fun g hg => .inr (Nat.le_trans hr (ho.blk g hg).1))
  refine ⟨d, u, us, rfl, far h1, ⟨⟨k1, fun j a b => far (k2 j a b), k3, k4⟩, ?_⟩, h3⟩
  rcases h5 with h5 | ⟨g, cap, rfl, h6, h7, h8⟩
  · exact .inl h5
  · exact .inr ⟨g, cap, rfl, ⟨h6.1, Nat.lt_of_lt_of_le h6.2 hc.size⟩, fun j a => hc.cell (h7 j a) (.inr (by omega)), h8⟩
structure Hs (X : Her) : Prop extends Hsz X where
  sum : sumL X.up ≤ 10000000
end Go.Proofs.Ytgkceadllcjeoaa
