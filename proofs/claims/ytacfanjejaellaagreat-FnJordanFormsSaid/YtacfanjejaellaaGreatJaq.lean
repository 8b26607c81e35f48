/- Texts joined for a claim: LawH, Mark, MarkH, MarkI, HcC. -/
import Derived.Test.YtacfanjejaellaaGreatHcB
import Derived.Test.YtacfanjejaellaaGreatTree
import Derived.Deep.DeepCutAuto
/-
  The laws' helpers over doublings and hermitian matrices: sizes, copies, comparison.
-/
namespace Go.Proofs.YtacfanjejaellaaGreat
open Go.RowKit

/-- Rows of rows that came in. -/
def Rs (w : World) (v : Value) (xss : List (List Int)) : Prop :=
  ∃ a c, v = .slice a xss.length c ∧ (xss = [] ∨ ∃ b off, a = some ⟨b, off, none⟩ ∧ ∀ j (h : j < xss.length), ∃ u, w.cell? ⟨b, off + j, none⟩ = some u ∧ Sl w u xss[j])
theorem Rs.below {w w' : World} {v : Value} {xss : List (List Int)} (h : Rs w v xss) (hb : Below w.heap.size w w') : Rs w' v xss := by
  obtain ⟨a, c, rfl, h⟩ := h
  refine ⟨a, c, rfl, ?_⟩
  rcases h with h | ⟨b, off, ha, h⟩
  · exact .inl h
  · refine .inr ⟨b, off, ha, fun j hj => ?_⟩
    obtain ⟨u, h1, h2⟩ := h j hj
    exact ⟨u, kept hb h1, h2.below hb⟩
theorem Re.rs {w : World} {v : Value} {xss : List (List Int)} (h : Re w v xss) : Rs w v xss := by
  obtain ⟨a, c, rfl, _, _, h⟩ := h
  refine ⟨a, c, rfl, ?_⟩
  rcases h with h | ⟨b, off, ha, h⟩
  · exact .inl h
  · refine .inr ⟨b, off, ha, fun j hj => ?_⟩
    obtain ⟨u, h1, h2⟩ := h j hj
    exact ⟨u, h1, h2.sl⟩
theorem Rs.get {w : World} {b off : Nat} {xss : List (List Int)} (h : ∀ j (h : j < xss.length), ∃ u, w.cell? ⟨b, off + j, none⟩ = some u ∧ Sl w u xss[j]) {m : Nat} (hm : m < xss.length) :
    ∃ a c xs, xs ∈ xss ∧ w.cell? ⟨b, off + m, none⟩ = some (.slice a xs.length c) ∧ Sl w (.slice a xs.length c) xs ∧ xss.take (m + 1) = xss.take m ++ [xs] ∧ xss.drop m = xs :: xss.drop (m + 1) := by
  obtain ⟨u, h1, a, c, rfl, h2⟩ := h m hm
  exact ⟨a, c, xss[m], List.getElem_mem hm, h1, ⟨a, c, rfl, h2⟩, List.take_succ_eq_append_getElem hm, List.drop_eq_getElem_cons hm⟩
/-- A hermitian matrix that came in. -/
def Hr (w : World) (v : Value) (X : Her) : Prop := ∃ d u, v = .agg #[d, u] ∧ Sl w d X.dg ∧ Rs w u X.up
theorem Hr.below {w w' : World} {v : Value} {X : Her} (h : Hr w v X) (hb : Below w.heap.size w w') : Hr w' v X := by
  obtain ⟨d, u, rfl, h1, h2⟩ := h
  exact ⟨d, u, rfl, h1.below hb, h2.below hb⟩
theorem Hv.hr {w : World} {v : Value} {X : Her} (h : Hv w v X) : Hr w v X := by
  obtain ⟨d, u, rfl, h1, h2⟩ := h
  exact ⟨d, u, rfl, h1.sl, h2.rs⟩
/-! ### Sizes -/
/-! ### Copies -/
theorem FrI.other {w : World} {B : Nat} {v : Value} {xs : List Int} (h : FrI w B v xs) {p : Addr} (hp : v.ownBlock ≠ some p.block) (u : Value) : FrI (w.setCell p u) B v xs := by
  obtain ⟨g, cap, rfl, h⟩ := h
  exact ⟨g, cap, rfl, h.other (fun e => hp (by rw [← e]; rfl)) u⟩
theorem FrR.other {w : World} {B : Nat} {v : Value} {us : List Value} {xss : List (List Int)} (h : FrR w B v us xss) {p : Addr} (hp : v.ownBlock ≠ some p.block) (hq : ∀ z ∈ us, z.ownBlock ≠ some p.block) (u : Value) : FrR (w.setCell p u) B v us xss := by
  obtain ⟨g0, cap0, e0, hB, hs, _⟩ := h.lt
  obtain ⟨g, cap, rfl, h1, h2, h3, h4⟩ := h
  cases e0
  exact ⟨g0, cap0, rfl, ownsRow_of h1 (Below.heap_setCell _ _ _ _ (fun e => hp (by rw [← e]; rfl))) hB, h2, fun j a b => (h3 j a b).other (hq _ (List.getElem_mem a)) u, h4⟩
end Go.Proofs.YtacfanjejaellaaGreat
/-
  Marks on rows of rows and on matrices, and what a mark leaves as it was.
-/
namespace Go.Proofs.YtacfanjejaellaaGreat
open Go.RowKit

/-- Blocks from lo to hi may have changed, no others. -/
structure Chg (lo hi : Nat) (w w' : World) : Prop where
  os : w'.os = w.os
  tape : w'.tape = w.tape
  output : w'.output = w.output
  size : w.heap.size ≤ w'.heap.size
  block : ∀ k, k < w.heap.size → (k < lo ∨ hi ≤ k) → w'.heap[k]? = w.heap[k]?
section
variable {lo hi lo' hi' B : Nat} {a w w' w2 : World} {v : Value} {xs : List Int}
theorem Chg.refl : Chg lo hi w w := ⟨rfl, rfl, rfl, Nat.le_refl _, fun _ _ _ => rfl⟩
theorem Chg.trans (h : Chg lo hi w w') (k : Chg lo hi w' w2) : Chg lo hi w w2 :=
  ⟨k.os.trans h.os, k.tape.trans h.tape, k.output.trans h.output, Nat.le_trans h.size k.size, fun j hj hr => (k.block j (Nat.lt_of_lt_of_le hj h.size) hr).trans (h.block j hj hr)⟩
theorem Chg.wide (h : Chg lo hi w w') (h1 : lo' ≤ lo) (h2 : hi ≤ hi') : Chg lo' hi' w w' := ⟨h.os, h.tape, h.output, h.size, fun k hk hr => h.block k hk (by omega)⟩
theorem Chg.below (h : Below w.heap.size w w') : Chg lo hi w w' := ⟨h.os, h.tape, h.output, h.size, fun k hk _ => h.block k hk⟩
theorem Chg.grown {row : Option Nat} (hg : w.grownBy w' row) (hr : ∀ g, row = some g → lo ≤ g ∧ g < hi) : Chg lo hi w w' :=
  ⟨hg.os, hg.tape, hg.output, hg.size, fun k hk h => hg.block k hk (fun e => by have := hr k e.symm; omega)⟩
theorem Chg.cell (h : Chg lo hi w w') {b o : Nat} (hc : w.cell? ⟨b, o, none⟩ = some v) (hr : b < lo ∨ hi ≤ b) : w'.cell? ⟨b, o, none⟩ = some v := by
  rw [World.cell?_of_block (w := w) (h.block b (World.block_lt_of_cell? w _ hc) hr)]; exact hc
theorem ownsRow_chg {E : TypeId} {n : Nat} {zs : List Value} (h : Chg lo hi w w') (ho : w.ownsRow B E 1 v n zs) (hr : ∀ g, v.ownBlock = some g → g < lo ∨ hi ≤ g) : w'.ownsRow B E 1 v n zs := by
  refine ⟨ho.1, ?_⟩
  rcases ho.2 with h2 | ⟨g', cap', cur, rfl, h3, hh, h4⟩
  · exact .inl h2
  · exact .inr ⟨g', cap', cur, rfl, h3, by rw [h.block g' (Array.getElem?_eq_some_iff.1 hh).1 (hr g' rfl)]; exact hh, h4⟩
theorem OwnI.chg {g n cap : Nat} (h : Chg lo hi w w') (ho : OwnI w B g n cap xs) (hr : g < lo ∨ hi ≤ g) : OwnI w' B g n cap xs :=
  ownsRow_chg h ho (fun j hj => by have e : g = j := Option.some.inj hj; omega)
theorem FrI.chg (h : Chg lo hi w w') (ho : FrI w B v xs) (hr : hi ≤ B) : FrI w' B v xs := by
  obtain ⟨g, cap, rfl, ho⟩ := ho
  exact ⟨g, cap, rfl, OwnI.chg h ho (by have := ho.lt.1; omega)⟩
theorem OwI.chg (h : Chg lo hi w w') (ho : OwI w B v xs) (hr : ∀ g, v.ownBlock = some g → g < lo ∨ hi ≤ g) : OwI w' B v xs := by
  rcases ho with ho | ⟨g, cap, cap', rfl, ho⟩
  · exact .inl ho
  · exact .inr ⟨g, cap, cap', rfl, OwnI.chg h ho (hr g rfl)⟩
theorem FrR.chg {us : List Value} {xss : List (List Int)} (h : Chg lo hi w w') (ho : FrR w B v us xss) (hr : hi ≤ B) : FrR w' B v us xss := by
  obtain ⟨g0, cap0, e0, hB0, _⟩ := ho.lt
  obtain ⟨g, cap, rfl, h1, h2, h3, h4⟩ := ho
  cases e0
  exact ⟨g0, cap0, rfl, ownsRow_chg h h1 (fun j hj => by have e : g0 = j := Option.some.inj hj; omega), h2, fun j a b => (h3 j a b).chg h hr, h4⟩
theorem FrH.chg {X : Her} (h : Chg lo hi w w') (ho : FrH w B v X) (hr : hi ≤ B) : FrH w' B v X := by
  obtain ⟨d, u, us, rfl, h1, h2, h3⟩ := ho
  exact ⟨d, u, us, rfl, h1.chg h hr, h2.chg h hr, h3⟩
theorem OwH.chg {X : Her} (h : Chg lo hi w w') (ho : OwH w B v X) (hr : hi ≤ B) : OwH w' B v X := by
  rcases ho with ho | ho
  · exact .inl ho
  · exact .inr (ho.chg h hr)
end
/-! ### Marked rows -/
def sumL : List (List Int) → Nat
  | [] => 0
  | x :: xs => x.length + sumL xs
/-- Rows in blocks of their own between lo and hi, or nil. -/
structure RowsI (w : World) (lo hi : Nat) (us : List Value) (xss : List (List Int)) : Prop where
  len : us.length = xss.length
  rows : ∀ j (h : j < us.length) (h' : j < xss.length), OwI w lo us[j] xss[j]
  hib : ∀ z ∈ us, ∀ g, z.ownBlock = some g → g < hi
  pw : us.Pairwise fun a b => ∀ g, a.ownBlock = some g → b.ownBlock ≠ some g
end Go.Proofs.YtacfanjejaellaaGreat
/-
  The laws' marks on rows of rows, doublings and matrices, and the reading of the marks.
-/
namespace Go.Proofs.YtacfanjejaellaaGreat
open Go.RowKit

/-- Rows with all their blocks between lo and hi. -/
def RgR (w : World) (lo hi : Nat) (v : Value) (us : List Value) (xss : List (List Int)) : Prop :=
  RowsI w lo hi us xss ∧ ((v = .slice none 0 0 ∧ us = []) ∨ ∃ g cap, v = .slice (some ⟨g, 0, none⟩) us.length cap ∧ (lo ≤ g ∧ g < w.heap.size) ∧ (∀ j (h : j < us.length), w.cell? ⟨g, j, none⟩ = some us[j]) ∧ ∀ z ∈ us, z.ownBlock ≠ some g)
theorem RgR.rs {w : World} {lo hi : Nat} {v : Value} {us : List Value} {xss : List (List Int)} (h : RgR w lo hi v us xss) : Rs w v xss := by
  obtain ⟨h1, h2⟩ := h
  have hl := h1.len
  rcases h2 with ⟨rfl, rfl⟩ | ⟨g, cap, rfl, _, h3, _⟩
  · obtain rfl : xss = [] := List.length_eq_zero_iff.1 (by simpa using hl.symm)
    exact ⟨none, 0, rfl, .inl rfl⟩
  · refine ⟨_, cap, by rw [hl], .inr ⟨g, 0, rfl, fun j hj => ⟨us[j]'(by omega), by rw [Nat.zero_add]; exact h3 j (by omega), (h1.rows j (by omega) hj).sl⟩⟩⟩
end Go.Proofs.YtacfanjejaellaaGreat
/-
  The laws' marks on doublings and matrices.
-/
namespace Go.Proofs.YtacfanjejaellaaGreat
open Go.RowKit

theorem OwI.same {w w' : World} {B : Nat} {v : Value} {xs : List Int} (h : OwI w B v xs) (he : ∀ g, g < w.heap.size → v.ownBlock = some g → w'.heap[g]? = w.heap[g]?) : OwI w' B v xs := by
  rcases h with h | ⟨g, cap, cap', rfl, h⟩
  · exact .inl h
  · obtain ⟨cur, hh, hc, ht⟩ := h.row
    exact .inr ⟨g, cap, cap', rfl, OwnI.mk_ h.lt.1 (by rw [he g h.lt.2 rfl]; exact hh) hc ht h.caps.1 h.caps.2⟩
/-- A matrix with all its blocks between lo and hi. -/
def RgH (w : World) (lo hi : Nat) (v : Value) (X : Her) : Prop := ∃ d u us, v = .agg #[d, u] ∧ OwI w lo d X.dg ∧ RgR w lo hi u us X.up ∧ ∀ g, d.ownBlock = some g → (g < hi ∧ u.ownBlock ≠ some g ∧ ∀ z ∈ us, z.ownBlock ≠ some g)
theorem RgR.below {w w' : World} {lo hi : Nat} {v : Value} {us : List Value} {xss : List (List Int)} (h : RgR w lo hi v us xss) (hb : Below w.heap.size w w') : RgR w' lo hi v us xss := by
  obtain ⟨⟨h1, h2, h3, h4⟩, h5⟩ := h
  refine ⟨⟨h1, fun j a b => (h2 j a b).below hb, h3, h4⟩, ?_⟩
  rcases h5 with h5 | ⟨g, cap, rfl, h6, h7, h8⟩
  · exact .inl h5
  · exact .inr ⟨g, cap, rfl, ⟨h6.1, Nat.lt_of_lt_of_le h6.2 hb.size⟩, fun j a => kept hb (h7 j a), h8⟩
theorem RgR.grown {w w' : World} {lo hi : Nat} {v : Value} {us : List Value} {xss : List (List Int)} {row : Option Nat} (h : RgR w lo hi v us xss) (hg : w.grownBy w' row) (h9 : ∀ g, row = some g → v.ownBlock ≠ some g ∧ ∀ z ∈ us, z.ownBlock ≠ some g) : RgR w' lo hi v us xss := by
  obtain ⟨⟨h1, h2, h3, h4⟩, h5⟩ := h
  refine ⟨⟨h1, fun j a b => ?_, h3, h4⟩, ?_⟩
  · rcases h2 j a b with h | ⟨g, cap, cap', e, h⟩
    · exact .inl h
    · exact .inr ⟨g, cap, cap', e, h.grown hg (fun e2 => (h9 g e2.symm).2 _ (List.getElem_mem a) (by rw [e]; rfl))⟩
  rcases h5 with h5 | ⟨g, cap, rfl, h6, h7, h8⟩
  · exact .inl h5
  · refine .inr ⟨g, cap, rfl, ⟨h6.1, Nat.lt_of_lt_of_le h6.2 hg.size⟩, fun j a => ?_, h8⟩
    rw [World.cell?_of_block (w := w) (hg.block g h6.2 (fun e2 => (h9 g e2.symm).1 rfl))]; exact h7 j a
theorem RgH.hr {w : World} {lo hi : Nat} {v : Value} {X : Her} (h : RgH w lo hi v X) : Hr w v X := by
  obtain ⟨d, u, us, rfl, h1, h2, _⟩ := h
  exact ⟨d, u, rfl, h1.sl, h2.rs⟩
theorem RgH.below {w w' : World} {lo hi : Nat} {v : Value} {X : Her} (h : RgH w lo hi v X) (hb : Below w.heap.size w w') : RgH w' lo hi v X := by
  obtain ⟨d, u, us, rfl, h1, h2, h3⟩ := h
  exact ⟨d, u, us, rfl, h1.below hb, h2.below hb, h3⟩
theorem RgH.chg {w w' : World} {lo hi lo' hi' : Nat} {v : Value} {X : Her} (h : RgH w lo' hi' v X) (hc : Chg lo hi w w') (hr : hi ≤ lo') : RgH w' lo' hi' v X := by
  obtain ⟨d, u, us, rfl, h1, ⟨⟨k1, k2, k3, k4⟩, h5⟩, h3⟩ := h
  have far : ∀ {v : Value} {xs : List Int}, OwI w lo' v xs → OwI w' lo' v xs := fun ho => OwI.chg hc ho (fun g hg => .inr (Nat.le_trans hr (ho.blk g hg).1))
  refine ⟨d, u, us, rfl, far h1, ⟨⟨k1, fun j a b => far (k2 j a b), k3, k4⟩, ?_⟩, h3⟩
  rcases h5 with h5 | ⟨g, cap, rfl, h6, h7, h8⟩
  · exact .inl h5
  · exact .inr ⟨g, cap, rfl, ⟨h6.1, Nat.lt_of_lt_of_le h6.2 hc.size⟩, fun j a => hc.cell (h7 j a) (.inr (by omega)), h8⟩
structure Hs (X : Her) : Prop extends Hsz X where
  sum : sumL X.up ≤ 10000000
end Go.Proofs.YtacfanjejaellaaGreat
/-
  Hermitian matrices by their parts; traces and determinants.
-/
namespace Go.Proofs.YtacfanjejaellaaGreat
open Go.RowKit

/-- A matrix that meets the check, cell by cell. -/
theorem Hv.op3 {w : World} {x : Value} {X : Her} {p : Int} {n : Nat} (h : Hv w x X) (hX : isH p n X = true) :
    ∃ a b c u v t bd od cd bu ou cu r s q, X = ⟨[a, b, c], [u, v, t]⟩ ∧ x = .agg #[.slice (some ⟨bd, od, none⟩) 3 cd, .slice (some ⟨bu, ou, none⟩) 3 cu] ∧
      (0 ≤ a ∧ a < p) ∧ (0 ≤ b ∧ b < p) ∧ (0 ≤ c ∧ c < p) ∧ Ev p n u ∧ Ev p n v ∧ Ev p n t ∧
      w.cell? ⟨bd, od, none⟩ = some (.int .i64 a) ∧ w.cell? ⟨bd, od + 1, none⟩ = some (.int .i64 b) ∧ w.cell? ⟨bd, od + 2, none⟩ = some (.int .i64 c) ∧
      w.cell? ⟨bu, ou, none⟩ = some r ∧ w.cell? ⟨bu, ou + 1, none⟩ = some s ∧ w.cell? ⟨bu, ou + 2, none⟩ = some q ∧ El w r u ∧ El w s v ∧ El w q t ∧ (3 ≤ cd ∧ cd ≤ 9223372036854775807) ∧ (3 ≤ cu ∧ cu ≤ 9223372036854775807) := by
  obtain ⟨a, b, c, u, v, t, rfl, h1, h2, h3, h4, h5, h6, eu, ev, et⟩ := isH_op hX
  obtain ⟨d, y, rfl, hd, hy⟩ := h
  obtain ⟨bd, od, cd, rfl, k1, k2, hA⟩ := hd.op1 (by simp)
  obtain ⟨ay, cu, rfl, k3, k4, hR⟩ := hy
  rcases hR with h0 | ⟨bu, ou, rfl, hR⟩
  · simp at h0
  obtain ⟨r, r1, r2⟩ := hR 0 (by simp)
  obtain ⟨s, s1, s2⟩ := hR 1 (by simp)
  obtain ⟨q, q1, q2⟩ := hR 2 (by simp)
  exact ⟨a, b, c, u, v, t, bd, od, cd, bu, ou, cu, r, s, q, rfl, rfl, ⟨h1, h2⟩, ⟨h3, h4⟩, ⟨h5, h6⟩, eu, ev, et, by simpa using hA 0 (by simp), by simpa using hA 1 (by simp), by simpa using hA 2 (by simp), by simpa using r1, s1, q1, r2, s2, q2, ⟨k1, k2⟩, ⟨k3, k4⟩⟩
theorem jtrace_c {p : Int} {s x : Value} {st : List Int} {X : Her} {w : World} (hd : Dok p st) (hs : El w s st) (hx : Hv w x X) (hX : isH p (sz st.length) X = true) :
    Calls Tryz.prog 62 #[.agg #[.int .i64 p, s], x] w fun e w' => e = .returned (.int .i64 (traceH p X)) ∧ Below w.heap.size w w' := by
  have hp1 := hd.hp.lo
  have hp2 := hd.hp.hi
  obtain ⟨a0, c0, rfl, _⟩ := id hs.op
  obtain ⟨a1, b1, c1, u1, v1, t1, bd1, od1, cd1, bu1, ou1, cu1, r1, s1, q1, rfl, rfl, ba1, bb1, bc1, eu1, ev1, et1, ca1, cb1, cc1, cr1, cs1, cq1, er1, es1, eq1, kd1, ku1⟩ := Hv.op3 hx hX
  rw [show traceH p ⟨[a1, b1, c1], [u1, v1, t1]⟩ = (a1 + b1 + c1) % p from rfl]
  go_enter Tryz.func62, Tryz.ntmps62
  have hb0 : Below w.heap.size w ((w.alloc (.cells #[.int .i64 p, .slice a0 st.length c0] 26)).alloc (.cells #[.slice (some ⟨bd1, od1, none⟩) 3 cd1, .slice (some ⟨bu1, ou1, none⟩) 3 cu1] 31)) := (by repeat (first | exact Below.refl _ _ | apply blw_drew | apply blw_alloc | (refine blw_set ?_ (by first | omega | (simp; done) | (simp; omega)) _) | refine below_chain ?_ (by assumption)))
  have hs := hs.below hb0; have ca1 := kept hb0 ca1; have cb1 := kept hb0 cb1; have cc1 := kept hb0 cc1
  have d0 : ((w.alloc (.cells #[.int .i64 p, .slice a0 st.length c0] 26)).alloc (.cells #[.slice (some ⟨bd1, od1, none⟩) 3 cd1, .slice (some ⟨bu1, ou1, none⟩) 3 cu1] 31)).cell? ⟨w.heap.size, 0, none⟩ = some (.int .i64 p) := by simp [go_sem]
  have d1 : ((w.alloc (.cells #[.int .i64 p, .slice a0 st.length c0] 26)).alloc (.cells #[.slice (some ⟨bd1, od1, none⟩) 3 cd1, .slice (some ⟨bu1, ou1, none⟩) 3 cu1] 31)).cell? ⟨w.heap.size, 1, none⟩ = some (.slice a0 st.length c0) := by simp [go_sem]
  have e0 : ((w.alloc (.cells #[.int .i64 p, .slice a0 st.length c0] 26)).alloc (.cells #[.slice (some ⟨bd1, od1, none⟩) 3 cd1, .slice (some ⟨bu1, ou1, none⟩) 3 cu1] 31)).cell? ⟨w.heap.size + 1, 0, none⟩ = some (.slice (some ⟨bd1, od1, none⟩) 3 cd1) := by simp [go_sem]
  have e1 : ((w.alloc (.cells #[.int .i64 p, .slice a0 st.length c0] 26)).alloc (.cells #[.slice (some ⟨bd1, od1, none⟩) 3 cd1, .slice (some ⟨bu1, ou1, none⟩) 3 cu1] 31)).cell? ⟨w.heap.size + 1, 1, none⟩ = some (.slice (some ⟨bu1, ou1, none⟩) 3 cu1) := by simp [go_sem]
  go_wp2_with fail
  refine region_flow [(false, [(0, 1), (2, 0), (3, 1), (4, 0), (5, 1), (6, 0), (7, 1), (8, 0), (9, 1), (10, 0), (11, 0), (12, 1), (13, 0), (14, 1), (15, 0), (1, 5)]), (false, [(16, 4), (17, 0)])] (by kernel_rfl) ?_
  refine norm_K fun K hK => ?_
  change wpList _ _ _ [_, _, _, _, _, _, _, _, _, _, _, _, _, _, _, _] _ _
  have hb1 : Below ((w.alloc (.cells #[.int .i64 p, .slice a0 st.length c0] 26)).alloc (.cells #[.slice (some ⟨bd1, od1, none⟩) 3 cd1, .slice (some ⟨bu1, ou1, none⟩) 3 cu1] 31)).heap.size ((w.alloc (.cells #[.int .i64 p, .slice a0 st.length c0] 26)).alloc (.cells #[.slice (some ⟨bd1, od1, none⟩) 3 cd1, .slice (some ⟨bu1, ou1, none⟩) 3 cu1] 31)) ((w.alloc (.cells #[.int .i64 p, .slice a0 st.length c0] 26)).alloc (.cells #[.slice (some ⟨bd1, od1, none⟩) 3 cd1, .slice (some ⟨bu1, ou1, none⟩) 3 cu1] 31)).drew := (by repeat (first | exact Below.refl _ _ | apply blw_drew | apply blw_alloc | (refine blw_set ?_ (by first | omega | (simp; done) | (simp; omega)) _) | refine below_chain ?_ (by assumption)))
  have hs := hs.below hb1; have ca1 := kept hb1 ca1; have cb1 := kept hb1 cb1; have cc1 := kept hb1 cc1; have d0 := kept hb1 d0; have d1 := kept hb1 d1; have e0 := kept hb1 e0; have e1 := kept hb1 e1
  go_wp2_with fail
  refine (dfield_c).mono ?_; rintro e w2 ⟨rfl, hb2⟩
  have hs := hs.below hb2; have ca1 := kept hb2 ca1; have cb1 := kept hb2 cb1; have cc1 := kept hb2 cc1; have d0 := kept hb2 d0; have d1 := kept hb2 d1; have e0 := kept hb2 e0; have e1 := kept hb2 e1
  go_wp2_with fail
  have hz0 : Below ((w.alloc (.cells #[.int .i64 p, .slice a0 st.length c0] 26)).alloc (.cells #[.slice (some ⟨bd1, od1, none⟩) 3 cd1, .slice (some ⟨bu1, ou1, none⟩) 3 cu1] 31)).drew.heap.size ((w.alloc (.cells #[.int .i64 p, .slice a0 st.length c0] 26)).alloc (.cells #[.slice (some ⟨bd1, od1, none⟩) 3 cd1, .slice (some ⟨bu1, ou1, none⟩) 3 cu1] 31)).drew w2 := (by repeat (first | exact Below.refl _ _ | apply blw_drew | apply blw_alloc | (refine blw_set ?_ (by first | omega | (simp; done) | (simp; omega)) _) | refine below_chain ?_ (by assumption)))
  first | (refine hK _ _ ⟨hz0, ?_⟩; clear hK K) | refine ⟨hz0, ?_⟩
  clear hz0
  refine norm_K fun K hK => ?_
  change wpList _ _ _ [_, _] _ _
  go_wp2_with fail
  refine (num_c (by omega) (by omega)).mono ?_; rintro e w3 ⟨rfl, rfl⟩
  go_wp2_with fail
  first | (refine hK _ _ ⟨rfl, ?_⟩; clear hK K) | refine ⟨rfl, ?_⟩
  go_wp2_with fail
  go_ret
  exact ⟨rfl, (by repeat (first | exact Below.refl _ _ | apply blw_drew | apply blw_alloc | (refine blw_set ?_ (by first | omega | (simp; done) | (simp; omega)) _) | refine below_chain ?_ (by assumption)))⟩
end Go.Proofs.YtacfanjejaellaaGreat
