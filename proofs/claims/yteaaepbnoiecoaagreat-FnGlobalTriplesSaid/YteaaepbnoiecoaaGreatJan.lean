/- Texts joined for a claim: LawH, Mark, MarkH, MarkI, HeA. -/
import Derived.Test.YteaaepbnoiecoaaGreatJak
import Derived.Deep.DeepCutAuto
import Derived.Laws.Bits64b
namespace Go.Proofs.YteaaepbnoiecoaaGreat
open Go.RowKit
def Rs (w : World) (v : Value) (xss : List (List Int)) : Prop :=
 ∃ a c, v = .slice a xss.length c /\ (xss = [] \/ ∃ b off, a = some ⟨b, off, none⟩ /\ ∀ j (h : j < xss.length), ∃ u, w.cell? ⟨b, off + j, none⟩ = some u /\ Sl w u xss[j])
theorem Rs.below {w w' : World} {v : Value} {xss : List (List Int)} (h : Rs w v xss) (hb : Below w.heap.size w w') : Rs w' v xss := by
 obtain ⟨a, c, rfl, h⟩ := h
 refine ⟨a, c, rfl, ?_⟩
 rcases h with h | ⟨b, off, ha, h⟩
 ·exact .inl h
 ·refine .inr ⟨b, off, ha, fun j hj => ?_⟩
  obtain ⟨u, h1, h2⟩ := h j hj
  exact ⟨u, kept hb h1, h2.below hb⟩
theorem Re.rs {w : World} {v : Value} {xss : List (List Int)} (h : Re w v xss) : Rs w v xss := by
 obtain ⟨a, c, rfl, _, _, h⟩ := h
 refine ⟨a, c, rfl, ?_⟩
 rcases h with h | ⟨b, off, ha, h⟩
 ·exact .inl h
 ·refine .inr ⟨b, off, ha, fun j hj => ?_⟩
  obtain ⟨u, h1, h2⟩ := h j hj
  exact ⟨u, h1, h2.sl⟩
theorem Rs.get {w : World} {b off : Nat} {xss : List (List Int)} (h : ∀ j (h : j < xss.length), ∃ u, w.cell? ⟨b, off + j, none⟩ = some u /\ Sl w u xss[j]) {m : Nat} (hm : m < xss.length) :
  ∃ a c xs, xs ∈ xss /\ w.cell? ⟨b, off + m, none⟩ = some (.slice a xs.length c) /\ Sl w (.slice a xs.length c) xs /\ xss.take (m + 1) = xss.take m ++ [xs] /\ xss.drop m = xs :: xss.drop (m + 1) := by
 obtain ⟨u, h1, a, c, rfl, h2⟩ := h m hm
 exact ⟨a, c, xss[m], List.getElem_mem hm, h1, ⟨a, c, rfl, h2⟩, List.take_succ_eq_append_getElem hm, List.drop_eq_getElem_cons hm⟩
def Hr (w : World) (v : Value) (X : Her) : Prop := ∃ d u, v = .agg #[d, u] /\ Sl w d X.dg /\ Rs w u X.up
theorem Hr.below {w w' : World} {v : Value} {X : Her} (h : Hr w v X) (hb : Below w.heap.size w w') : Hr w' v X := by
 obtain ⟨d, u, rfl, h1, h2⟩ := h
 exact ⟨d, u, rfl, h1.below hb, h2.below hb⟩
theorem Hv.hr {w : World} {v : Value} {X : Her} (h : Hv w v X) : Hr w v X := by
 obtain ⟨d, u, rfl, h1, h2⟩ := h
 exact ⟨d, u, rfl, h1.sl, h2.rs⟩
/-! ### Sizes -/
/-! ### Copies -/
theorem FrI.other {w : World} {B : Nat} {v : Value} {xs : List Int} (h : FrI w B v xs) {p : Addr} (hp : v.ownBlock ≠ some p.block) (u : Value) : FrI (w.setCell p u) B v xs := by
 obtain ⟨g, cap, rfl, h⟩ := h
 exact ⟨g, cap, rfl, h.other (fun e => hp (by rw [<- e]; rfl)) u⟩
theorem FrR.other {w : World} {B : Nat} {v : Value} {us : List Value} {xss : List (List Int)} (h : FrR w B v us xss) {p : Addr} (hp : v.ownBlock ≠ some p.block) (hq : ∀ z ∈ us, z.ownBlock ≠ some p.block) (u : Value) : FrR (w.setCell p u) B v us xss := by
 obtain ⟨g0, cap0, e0, hB, hs, _⟩ := h.lt
 obtain ⟨g, cap, rfl, h1, h2, h3, h4⟩ := h
 cases e0
 exact ⟨g0, cap0, rfl, ownsRow_of h1 (Below.heap_setCell _ _ _ _ (fun e => hp (by rw [<- e]; rfl))) hB, h2, fun j a b => (h3 j a b).other (hq _ (List.getElem_mem a)) u, h4⟩
structure Chg (lo hi : Nat) (w w' : World) : Prop where
 os : w'.os = w.os
 tape : w'.tape = w.tape
 output : w'.output = w.output
 size : w.heap.size <= w'.heap.size
 block : ∀ k, k < w.heap.size -> (k < lo \/ hi <= k) -> w'.heap[k]? = w.heap[k]?
section
variable {lo hi lo' hi' B : Nat} {a w w' w2 : World} {v : Value} {xs : List Int}
theorem Chg.refl : Chg lo hi w w := ⟨rfl, rfl, rfl, Nat.le_refl _, fun _ _ _ => rfl⟩
theorem Chg.trans (h : Chg lo hi w w') (k : Chg lo hi w' w2) : Chg lo hi w w2 :=
 ⟨k.os.trans h.os, k.tape.trans h.tape, k.output.trans h.output, Nat.le_trans h.size k.size, fun j hj hr => (k.block j (Nat.lt_of_lt_of_le hj h.size) hr).trans (h.block j hj hr)⟩
theorem Chg.wide (h : Chg lo hi w w') (h1 : lo' <= lo) (h2 : hi <= hi') : Chg lo' hi' w w' := ⟨h.os, h.tape, h.output, h.size, fun k hk hr => h.block k hk (by omega)⟩
theorem Chg.below (h : Below w.heap.size w w') : Chg lo hi w w' := ⟨h.os, h.tape, h.output, h.size, fun k hk _ => h.block k hk⟩
theorem Chg.grown {row : Option Nat} (hg : w.grownBy w' row) (hr : ∀ g, row = some g -> lo <= g /\ g < hi) : Chg lo hi w w' :=
 ⟨hg.os, hg.tape, hg.output, hg.size, fun k hk h => hg.block k hk (fun e => by have := hr k e.symm; omega)⟩
theorem Chg.blw (h : Chg lo hi w w') (hb : Below a.heap.size a w) (hl : a.heap.size <= lo) : Below a.heap.size a w' :=
 ⟨h.os.trans hb.os, h.tape.trans hb.tape, h.output.trans hb.output, Nat.le_trans hb.size h.size, fun k hk => (h.block k (Nat.lt_of_lt_of_le hk hb.size) (.inl (by omega))).trans (hb.block k hk)⟩
theorem Chg.cell (h : Chg lo hi w w') {b o : Nat} (hc : w.cell? ⟨b, o, none⟩ = some v) (hr : b < lo \/ hi <= b) : w'.cell? ⟨b, o, none⟩ = some v := by
 rw [World.cell?_of_block (w := w) (h.block b (World.block_lt_of_cell? w _ hc) hr)]; exact hc
theorem ownsRow_chg {E : TypeId} {n : Nat} {zs : List Value} (h : Chg lo hi w w') (ho : w.ownsRow B E 1 v n zs) (hr : ∀ g, v.ownBlock = some g -> g < lo \/ hi <= g) : w'.ownsRow B E 1 v n zs := by
 refine ⟨ho.1, ?_⟩
 rcases ho.2 with h2 | ⟨g', cap', cur, rfl, h3, hh, h4⟩
 ·exact .inl h2
 ·exact .inr ⟨g', cap', cur, rfl, h3, by rw [h.block g' (Array.getElem?_eq_some_iff.1 hh).1 (hr g' rfl)]; exact hh, h4⟩
theorem OwnI.chg {g n cap : Nat} (h : Chg lo hi w w') (ho : OwnI w B g n cap xs) (hr : g < lo \/ hi <= g) : OwnI w' B g n cap xs :=
 ownsRow_chg h ho (fun j hj => by have e : g = j := Option.some.inj hj; omega)
theorem FrI.chg (h : Chg lo hi w w') (ho : FrI w B v xs) (hr : hi <= B) : FrI w' B v xs := by
 obtain ⟨g, cap, rfl, ho⟩ := ho
 exact ⟨g, cap, rfl, OwnI.chg h ho (by have := ho.lt.1; omega)⟩
theorem OwI.chg (h : Chg lo hi w w') (ho : OwI w B v xs) (hr : ∀ g, v.ownBlock = some g -> g < lo \/ hi <= g) : OwI w' B v xs := by
 rcases ho with ho | ⟨g, cap, cap', rfl, ho⟩
 ·exact .inl ho
 ·exact .inr ⟨g, cap, cap', rfl, OwnI.chg h ho (hr g rfl)⟩
theorem FrR.chg {us : List Value} {xss : List (List Int)} (h : Chg lo hi w w') (ho : FrR w B v us xss) (hr : hi <= B) : FrR w' B v us xss := by
 obtain ⟨g0, cap0, e0, hB0, _⟩ := ho.lt
 obtain ⟨g, cap, rfl, h1, h2, h3, h4⟩ := ho
 cases e0
 exact ⟨g0, cap0, rfl, ownsRow_chg h h1 (fun j hj => by have e : g0 = j := Option.some.inj hj; omega), h2, fun j a b => (h3 j a b).chg h hr, h4⟩
theorem FrH.chg {X : Her} (h : Chg lo hi w w') (ho : FrH w B v X) (hr : hi <= B) : FrH w' B v X := by
 obtain ⟨d, u, us, rfl, h1, h2, h3⟩ := ho
 exact ⟨d, u, us, rfl, h1.chg h hr, h2.chg h hr, h3⟩
theorem OwH.chg {X : Her} (h : Chg lo hi w w') (ho : OwH w B v X) (hr : hi <= B) : OwH w' B v X := by
 rcases ho with ho | ho
 ·exact .inl ho
 ·exact .inr (ho.chg h hr)
end
/-! ### Marked rows -/
def sumL : List (List Int) -> Nat
 | [] => 0
 | x :: xs => x.length + sumL xs
structure RowsI (w : World) (lo hi : Nat) (us : List Value) (xss : List (List Int)) : Prop where
 len : us.length = xss.length
 rows : ∀ j (h : j < us.length) (h' : j < xss.length), OwI w lo us[j] xss[j]
 hib : ∀ z ∈ us, ∀ g, z.ownBlock = some g -> g < hi
 pw : us.Pairwise fun a b => ∀ g, a.ownBlock = some g -> b.ownBlock ≠ some g
def RgR (w : World) (lo hi : Nat) (v : Value) (us : List Value) (xss : List (List Int)) : Prop :=
 RowsI w lo hi us xss /\ ((v = .slice none 0 0 /\ us = []) \/ ∃ g cap, v = .slice (some ⟨g, 0, none⟩) us.length cap /\ (lo <= g /\ g < w.heap.size) /\ (∀ j (h : j < us.length), w.cell? ⟨g, j, none⟩ = some us[j]) /\ ∀ z ∈ us, z.ownBlock ≠ some g)
theorem RgR.rs {w : World} {lo hi : Nat} {v : Value} {us : List Value} {xss : List (List Int)} (h : RgR w lo hi v us xss) : Rs w v xss := by
 obtain ⟨h1, h2⟩ := h
 have hl := h1.len
 rcases h2 with ⟨rfl, rfl⟩ | ⟨g, cap, rfl, _, h3, _⟩
 ·obtain rfl : xss = [] := List.length_eq_zero_iff.1 (by simpa using hl.symm)
  exact ⟨none, 0, rfl, .inl rfl⟩
 ·refine ⟨_, cap, by rw [hl], .inr ⟨g, 0, rfl, fun j hj => ⟨us[j]'(by omega), by rw [Nat.zero_add]; exact h3 j (by omega), (h1.rows j (by omega) hj).sl⟩⟩⟩
theorem OwI.same {w w' : World} {B : Nat} {v : Value} {xs : List Int} (h : OwI w B v xs) (he : ∀ g, g < w.heap.size -> v.ownBlock = some g -> w'.heap[g]? = w.heap[g]?) : OwI w' B v xs := by
 rcases h with h | ⟨g, cap, cap', rfl, h⟩
 ·exact .inl h
 ·obtain ⟨cur, hh, hc, ht⟩ := h.row
  exact .inr ⟨g, cap, cap', rfl, OwnI.mk_ h.lt.1 (by rw [he g h.lt.2 rfl]; exact hh) hc ht h.caps.1 h.caps.2⟩
def RgH (w : World) (lo hi : Nat) (v : Value) (X : Her) : Prop := ∃ d u us, v = .agg #[d, u] /\ OwI w lo d X.dg /\ RgR w lo hi u us X.up /\ ∀ g, d.ownBlock = some g -> (g < hi /\ u.ownBlock ≠ some g /\ ∀ z ∈ us, z.ownBlock ≠ some g)
theorem RgR.below {w w' : World} {lo hi : Nat} {v : Value} {us : List Value} {xss : List (List Int)} (h : RgR w lo hi v us xss) (hb : Below w.heap.size w w') : RgR w' lo hi v us xss := by
 obtain ⟨⟨h1, h2, h3, h4⟩, h5⟩ := h
 refine ⟨⟨h1, fun j a b => (h2 j a b).below hb, h3, h4⟩, ?_⟩
 rcases h5 with h5 | ⟨g, cap, rfl, h6, h7, h8⟩
 ·exact .inl h5
 ·exact .inr ⟨g, cap, rfl, ⟨h6.1, Nat.lt_of_lt_of_le h6.2 hb.size⟩, fun j a => kept hb (h7 j a), h8⟩
theorem RgR.grown {w w' : World} {lo hi : Nat} {v : Value} {us : List Value} {xss : List (List Int)} {row : Option Nat} (h : RgR w lo hi v us xss) (hg : w.grownBy w' row) (h9 : ∀ g, row = some g -> v.ownBlock ≠ some g /\ ∀ z ∈ us, z.ownBlock ≠ some g) : RgR w' lo hi v us xss := by
 obtain ⟨⟨h1, h2, h3, h4⟩, h5⟩ := h
 refine ⟨⟨h1, fun j a b => ?_, h3, h4⟩, ?_⟩
 ·rcases h2 j a b with h | ⟨g, cap, cap', e, h⟩
  ·exact .inl h
  ·exact .inr ⟨g, cap, cap', e, h.grown hg (fun e2 => (h9 g e2.symm).2 _ (List.getElem_mem a) (by rw [e]; rfl))⟩
 rcases h5 with h5 | ⟨g, cap, rfl, h6, h7, h8⟩
 ·exact .inl h5
 ·refine .inr ⟨g, cap, rfl, ⟨h6.1, Nat.lt_of_lt_of_le h6.2 hg.size⟩, fun j a => ?_, h8⟩
  rw [World.cell?_of_block (w := w) (hg.block g h6.2 (fun e2 => (h9 g e2.symm).1 rfl))]; exact h7 j a
theorem RgH.hr {w : World} {lo hi : Nat} {v : Value} {X : Her} (h : RgH w lo hi v X) : Hr w v X := by
 obtain ⟨d, u, us, rfl, h1, h2, _⟩ := h
 exact ⟨d, u, rfl, h1.sl, h2.rs⟩
theorem RgH.below {w w' : World} {lo hi : Nat} {v : Value} {X : Her} (h : RgH w lo hi v X) (hb : Below w.heap.size w w') : RgH w' lo hi v X := by
 obtain ⟨d, u, us, rfl, h1, h2, h3⟩ := h
 exact ⟨d, u, us, rfl, h1.below hb, h2.below hb, h3⟩
theorem RgH.chg {w w' : World} {lo hi lo' hi' : Nat} {v : Value} {X : Her} (h : RgH w lo' hi' v X) (hc : Chg lo hi w w') (hr : hi <= lo') : RgH w' lo' hi' v X := by
 obtain ⟨d, u, us, rfl, h1, ⟨⟨k1, k2, k3, k4⟩, h5⟩, h3⟩ := h
 have far : ∀ {v : Value} {xs : List Int}, OwI w lo' v xs -> OwI w' lo' v xs := fun ho => OwI.chg hc ho (fun g hg => .inr (Nat.le_trans hr (ho.blk g hg).1))
 refine ⟨d, u, us, rfl, far h1, ⟨⟨k1, fun j a b => far (k2 j a b), k3, k4⟩, ?_⟩, h3⟩
 rcases h5 with h5 | ⟨g, cap, rfl, h6, h7, h8⟩
 ·exact .inl h5
 ·exact .inr ⟨g, cap, rfl, ⟨h6.1, Nat.lt_of_lt_of_le h6.2 hc.size⟩, fun j a => hc.cell (h7 j a) (.inr (by omega)), h8⟩
structure Hs (X : Her) : Prop extends Hsz X where
 sum : sumL X.up <= 10000000
def By (w : World) (b off n : Nat) : Prop := ∀ j, j < n -> ∃ k : Nat, k < 256 /\ w.cell? ⟨b, off + j, none⟩ = some (.int .u8 k)
def Co (w : World) (q : Nat) (v : Value) (n : Nat) : Prop := ∃ a c, v = .slice a n c /\ n <= 4096 /\ (n = 0 \/ ∃ b off, a = some ⟨b, off, none⟩ /\ b < q /\ By w b off n)
def Sx (w : World) (q : Nat) (cv : Value) (i h : Int) : Prop := w.heap[q]? = some (.cells #[cv, .int .i64 i, .int .u64 h] 92 (0, 0))
def Src (w : World) (q : Nat) : Prop := ∃ (cv : Value) (n i : Nat) (h : Int), Sx w q cv i h /\ Co w q cv n /\ i <= n /\ 0 <= h /\ h < 18446744073709551616
section
variable {w w' : World} {q n : Nat} {cv : Value} {i h' : Int}
theorem Sx.c0 (h : Sx w q cv i h') : w.cell? ⟨q, 0, none⟩ = some cv := by unfold Sx at h; simp [World.cell?, h]
theorem Sx.c1 (h : Sx w q cv i h') : w.cell? ⟨q, 1, none⟩ = some (.int .i64 i) := by unfold Sx at h; simp [World.cell?, h]
theorem Sx.c2 (h : Sx w q cv i h') : w.cell? ⟨q, 2, none⟩ = some (.int .u64 h') := by unfold Sx at h; simp [World.cell?, h]
theorem Sx.f (h : Sx w q cv i h') (k : Nat) : w.frozen? ⟨q, k, none⟩ = false := frozen_of_row _ _ _ _ _ h
theorem Sx.set1 (h : Sx w q cv i h') (i' : Int) : Sx (w.setCell ⟨q, 1, none⟩ (.int .i64 i')) q cv i' h' := heap_setCell_same _ _ _ _ _ _ h
theorem Sx.set2 (h : Sx w q cv i h') (k' : Int) : Sx (w.setCell ⟨q, 2, none⟩ (.int .u64 k')) q cv i k' := heap_setCell_same _ _ _ _ _ _ h
theorem Sx.lt (h : Sx w q cv i h') : q < w.heap.size := (Array.getElem?_eq_some_iff.1 h).1
theorem Sx.below (h : Sx w q cv i h') (hb : Below w.heap.size w w') : Sx w' q cv i h' := by
 unfold Sx at h ⊢
 rw [hb.block q (Array.getElem?_eq_some_iff.1 h).1]; exact h
theorem Sx.drew (h : Sx w q cv i h') : Sx w.drew q cv i h' := h
theorem Chg.set (w : World) (p : Addr) (v : Value) : Chg p.block (p.block + 1) w (w.setCell p v) :=
 ⟨rfl, rfl, rfl, by simp, fun k _ hr => Below.heap_setCell _ _ _ _ (by omega)⟩
theorem Co.chg {lo hi : Nat} (h : Co w q cv n) (hc : Chg lo hi w w') (hq : q <= lo) : Co w' q cv n := by
 obtain ⟨a, c, rfl, hn, h⟩ := h
 refine ⟨a, c, rfl, hn, ?_⟩
 rcases h with h | ⟨b, off, ha, hb, h⟩
 ·exact .inl h
 ·refine .inr ⟨b, off, ha, hb, fun j hj => ?_⟩
  obtain ⟨k, hk, hcell⟩ := h j hj
  exact ⟨k, hk, hc.cell hcell (.inl (by omega))⟩
theorem Co.below (h : Co w q cv n) (hb : Below w.heap.size w w') : Co w' q cv n := by
 obtain ⟨a, c, rfl, hn, h⟩ := h
 refine ⟨a, c, rfl, hn, ?_⟩
 rcases h with h | ⟨b, off, ha, hb2, h⟩
 ·exact .inl h
 ·refine .inr ⟨b, off, ha, hb2, fun j hj => ?_⟩
  obtain ⟨k, hk, hcell⟩ := h j hj
  exact ⟨k, hk, kept hb hcell⟩
theorem Co.drew_ (h : Co w q cv n) : Co w.drew q cv n := h
theorem Chg.drew_ {lo hi : Nat} : Chg lo hi w w.drew := ⟨rfl, rfl, rfl, Nat.le_refl _, fun _ _ _ => rfl⟩
theorem Src.lt (h : Src w q) : q < w.heap.size := by obtain ⟨_, _, _, _, h, _⟩ := h; exact h.lt
theorem Src.below (h : Src w q) (hb : Below w.heap.size w w') : Src w' q := by
 obtain ⟨cv, n, i, h, hx, hc, h1⟩ := h
 exact ⟨cv, n, i, h, hx.below hb, hc.below hb, h1⟩
end
theorem wrap_u64 (n : Int) : 0 <= IntKind.u64.wrap n /\ IntKind.u64.wrap n < 18446744073709551616 := by
 have e : IntKind.u64.wrap n = n % 18446744073709551616 := by simp [IntKind.wrap, IntKind.signed, IntKind.bits]
 rw [e]; omega
theorem hash_bd {h : Int} (h0 : 0 <= h) (h1 : h < 18446744073709551616) : 0 <= wrap64 (bits .and .u64 (h / 8589934592) 16777215) /\ wrap64 (bits .and .u64 (h / 8589934592) 16777215) <= 16777215 := by
 obtain ⟨k, hk⟩ := Int.eq_ofNat_of_zero_le (show 0 <= h / 8589934592 by omega)
 have e := bits_and_u64_nat k 16777215 (by omega) (by decide)
 have hle : k &&& 16777215 <= 16777215 := Nat.and_le_right
 rw [hk]
 rw [show ((16777215 : Nat) : Int) = 16777215 from rfl] at e
 rw [e]
 obtain ⟨m, hm⟩ : ∃ m, m = k &&& 16777215 := ⟨_, rfl⟩
 rw [<- hm] at hle ⊢
 have e2 : wrap64 (m : Int) = m := by simp only [wrap64]; omega
 rw [e2]; omega
theorem tmod_bd {x n : Int} (_ : 0 <= x) (h1 : 1 <= n) : 0 <= x % n /\ x % n < n :=
 ⟨Int.emod_nonneg _ (by omega), Int.emod_lt_of_pos _ (by omega)⟩
set_option maxHeartbeats 2000000 in
set_option maxRecDepth 100000 in
theorem snext_c {q : Nat} {n : Int} {w : World} (hs : Src w q) (hn1 : -9223372036854775808 <= n) (hn2 : n <= 9223372036854775807) :
  Calls Tryz.prog 36 #[.pointer (some ⟨q, 0, none⟩), .int .i64 n] w fun e w' => ∃ x : Int, e = .returned (.int .i64 x) /\ 0 <= x /\ (x < n \/ (n < 1 /\ x = 0)) /\ Src w' q /\ Chg q (q + 1) w w' /\ w'.heap.size = w.heap.size := by
 obtain ⟨cv, m, i, h, hx, hc, hi1, hh0, hh1⟩ := id hs
 obtain ⟨a, c, rfl, hm, hby⟩ := id hc
 have c0 := hx.c0; have c1 := hx.c1; have c2 := hx.c2; have f1 := hx.f 1; have f2 := hx.f 2
 by_cases h1 : n < 1
 ·go_enter Tryz.func36, Tryz.ntmps36
  go_wp2_with fail
  go_ret
  exact ⟨0, rfl, by omega, .inr ⟨h1, rfl⟩, hs, Chg.refl, rfl⟩
 ·go_enter Tryz.func36, Tryz.ntmps36
  have hwr := wrap_u64 (IntKind.u64.wrap (h * 6364136223846793005) + 1442695040888963407)
  obtain ⟨h2, hh2⟩ : ∃ y, y = IntKind.u64.wrap (IntKind.u64.wrap (h * 6364136223846793005) + 1442695040888963407) := ⟨_, rfl⟩
  have hbd := hash_bd hwr.1 hwr.2
  rw [<- hh2] at hbd hwr
  obtain ⟨x0, hx0⟩ : ∃ y, y = wrap64 (bits .and .u64 (h2 / 8589934592) 16777215) := ⟨_, rfl⟩
  rw [<- hx0] at hbd
  have HH := Lib.hid hh2; have HX := Lib.hid hx0; clear hh2 hx0
  have hx2 := hx.set2 h2
  have hc2 := hc.chg (Chg.set w ⟨q, 2, none⟩ (.int .u64 h2)) (Nat.le_refl _)
  have hch := Chg.set w ⟨q, 2, none⟩ (.int .u64 h2)
  have hsz : (w.setCell ⟨q, 2, none⟩ (.int .u64 h2)).heap.size = w.heap.size := by simp
  go_upto_region 5 with fail
  rw [<- HH.out, <- HX.out]
  obtain ⟨w1, hw1⟩ : ∃ x, x = w.setCell ⟨q, 2, none⟩ (.int .u64 h2) := ⟨_, rfl⟩
  rw [<- hw1] at hx2 hc2 hch hsz ⊢
  clear hw1 c0 c1 c2 f1 f2
  have c0 := hx2.c0; have c1 := hx2.c1; have f1 := hx2.f 1
  by_cases hlt : i < m
  ·rcases hby with h0 | ⟨b, off, rfl, hbq, _⟩
   ·omega
   obtain ⟨a2, cc2, e2, _, hby2⟩ := id hc2
   cases e2
   rcases hby2 with h0 | ⟨b2, off2, e2, _, hby2⟩
   ·omega
   cases e2
   obtain ⟨k, hk, hkc⟩ := hby2 i hlt
   have HB := Lib.hid hby2; clear hby2
   refine region_flow [(false, [(0, 0), (1, 0), (2, 0), (3, 1), (4, 0), (5, 0), (6, 0), (7, 1), (8, 0), (9, 0)])] (by kernel_rfl) ?_
   refine norm_K fun K hK => ?_
   change wpList _ _ _ [_, _, _, _, _, _, _, _, _, _] _ _
   go_wp2_with fail
   first | (refine hK _ _ ⟨rfl, ?_⟩; clear hK K) | refine ⟨rfl, ?_⟩
   go_upto_region 6 with fail
   refine region_flow [(false, [(0, 0), (1, 0), (2, 0), (3, 0), (4, 1), (5, 0), (6, 0), (7, 0), (8, 1), (9, 0), (10, 1), (11, 0), (12, 0), (13, 0)])] (by kernel_rfl) ?_
   refine norm_K fun K hK => ?_
   change wpList _ _ _ [_, _, _, _, _, _, _, _, _, _, _, _, _, _] _ _
   go_wp2_with fail
   first | (refine hK _ _ ⟨rfl, ?_⟩; clear hK K) | refine ⟨rfl, ?_⟩
   have hfin := tmod_bd (x := x0 + k) (n := n) (by omega) (by omega)
   go_wp2_with fail
   go_ret
   refine ⟨_, rfl, hfin.1, .inl hfin.2, ⟨_, m, i + 1, h2, (hx2.drew.drew.set1 ((i : Int) + 1)), ?_, by omega, hwr⟩, ?_, by simp [hsz]⟩
   ·exact (hc2.drew_.drew_).chg (Chg.set _ ⟨q, 1, none⟩ _) (Nat.le_refl _)
   ·exact (hch.trans (Chg.drew_.trans Chg.drew_)).trans (Chg.set _ ⟨q, 1, none⟩ _)
  ·have hlt2 : ¬ ((i : Int) < (m : Int)) := by omega
   refine region_flow [(false, [(0, 0), (1, 0), (2, 0), (3, 1), (4, 0), (5, 0), (6, 0), (7, 1), (8, 0), (9, 0)])] (by kernel_rfl) ?_
   refine norm_K fun K hK => ?_
   change wpList _ _ _ [_, _, _, _, _, _, _, _, _, _] _ _
   go_wp2_with fail
   first | (refine hK _ _ ⟨rfl, ?_⟩; clear hK K) | refine ⟨rfl, ?_⟩
   have hfin := tmod_bd (x := x0) (n := n) (by omega) (by omega)
   go_wp2_with fail
   go_ret
   exact ⟨_, rfl, hfin.1, .inl hfin.2, ⟨_, m, i, h2, hx2.drew, hc2.drew_, hi1, hwr⟩, hch.trans Chg.drew_, hsz⟩
section
variable {w w' w2 : World} {q n B : Nat} {cv : Value}
theorem Chg.bl {lo hi : Nat} (h : Chg lo hi w w') (hb : Below w.heap.size w' w2) : Chg lo hi w w2 :=
 ⟨hb.os.trans h.os, hb.tape.trans h.tape, hb.output.trans h.output, Nat.le_trans h.size hb.size, fun k hk hr => (hb.block k hk).trans (h.block k hk hr)⟩
theorem below_bchg {lo hi : Nat} (h : Below B w w') (hc : Chg lo hi w' w2) (hB : B <= lo) (hs : B <= w'.heap.size) : Below B w w2 :=
 ⟨hc.os.trans h.os, hc.tape.trans h.tape, hc.output.trans h.output, Nat.le_trans h.size hc.size, fun k hk => (hc.block k (by omega) (.inl (by omega))).trans (h.block k hk)⟩
theorem Co.bl (h : Co w q cv n) (hb : Below B w w') (hq : q <= B) : Co w' q cv n := by
 obtain ⟨a, c, rfl, hn, h⟩ := h
 refine ⟨a, c, rfl, hn, ?_⟩
 rcases h with h | ⟨b, off, ha, hb2, h⟩
 ·exact .inl h
 ·refine .inr ⟨b, off, ha, hb2, fun j hj => ?_⟩
  obtain ⟨k, hk, hcell⟩ := h j hj
  exact ⟨k, hk, by rw [World.cell?_of_block (w := w) (hb.block b (by omega))]; exact hcell⟩
theorem Src.bl (h : Src w q) (hb : Below B w w') (hq : q < B) : Src w' q := by
 obtain ⟨cv, n, i, h, hx, hc, h1⟩ := h
 refine ⟨cv, n, i, h, ?_, hc.bl hb (by omega), h1⟩
 unfold Sx at hx ⊢
 rw [hb.block q hq]; exact hx
end
set_option maxHeartbeats 2000000 in
set_option maxRecDepth 100000 in
theorem sfrom_c {v : Value} {n : Nat} {w : World} (hc : Co w w.heap.size v n) :
  Calls Tryz.prog 33 #[v] w fun e w' => e = .returned (.pointer (some ⟨w.heap.size, 0, none⟩)) /\ Src w' w.heap.size /\ w'.heap.size = w.heap.size + 1 /\ Below w.heap.size w w' := by
 obtain ⟨a, c, rfl, hm, hby⟩ := id hc
 go_enter Tryz.func33, Tryz.ntmps33
 go_wp2
 go_loopw [4] (fun i wr => ∃ (k : Nat) (h : Int), k <= n /\ i = .int .i64 k /\ Sx wr w.heap.size (.slice a n c) 0 h /\ 0 <= h /\ h < 18446744073709551616 /\ wr.heap.size = w.heap.size + 1 /\ Below w.heap.size w wr) (fun i _ => n - (intOf i).toNat)
 case atStart => exact ⟨0, 4409 + (n : Int), Nat.zero_le _, rfl, heap_alloc_new w _, by omega, by omega, by simp, bwT⟩
 case round =>
  obtain ⟨k, h, hk, rfl, hx, h0, h1, hsz, hb⟩ := hrel
  have c0 := hx.c0; have c1 := hx.c1; have c2 := hx.c2; have f2 := hx.f 2
  by_cases hlt : k < n
  ·have hc2 := hc.bl hb (Nat.le_refl _)
   obtain ⟨a2, cc2, e2, _, hby2⟩ := id hc2
   cases e2
   rcases hby2 with hz | ⟨b2, off2, rfl, hbq, hby2⟩
   ·omega
   obtain ⟨y, hy, hyc⟩ := hby2 k hlt
   have hlt2 : (k : Int) < 4096 := by omega
   have HB := Lib.hid hby2; have HC := Lib.hid hby; clear hby2 hby
   have hwr2 := wrap_u64 (IntKind.u64.wrap (IntKind.u64.wrap (h * 1099511628211) + y) + 11)
   go_wp2
   refine region_flow [(false, [(0, 0), (1, 0), (2, 0), (3, 0), (4, 1), (5, 0), (6, 0), (7, 0), (8, 0), (9, 1), (10, 0), (11, 0), (12, 0), (13, 0), (14, 0), (15, 4)])] (by kernel_rfl) ?_
   refine norm_K fun K hK => ?_
   change wpList _ _ _ [_, _, _, _, _, _, _, _, _, _, _, _, _, _, _, _] _ _
   go_wp2_with fail
   first | (refine hK _ _ ⟨rfl, ?_⟩; clear hK K) | refine ⟨rfl, ?_⟩
   go_wp2
   go_roundw
   case rel => exact ⟨k + 1, _, by omega, by go_num, hx.drew.set2 _, (wrap_u64 _).1, (wrap_u64 _).2, by simp [hsz], (hb.drew).setCell (Nat.le_refl _) _⟩
   case measure => simp [intOf]; omega
  ·obtain rfl : k = n := by omega
   have hnl : ¬ ((k : Int) < (k : Int)) := by omega
   go_wp2
   go_ret
   exact ⟨rfl, ⟨_, _, 0, h, hx, hc.bl hb (Nat.le_refl _), Nat.zero_le _, h0, h1⟩, hsz, hb⟩
theorem spick_c {q B g cap : Nat} {xs : List Int} {w : World} (hs : Src w q) (ho : OwnI w B g xs.length cap xs) (hg : g ≠ q) (h0 : 0 < xs.length) (hm : xs.length <= 1000) :
  Calls Tryz.prog 72 #[.pointer (some ⟨q, 0, none⟩), .slice (some ⟨g, 0, none⟩) xs.length cap] w fun e w' => ∃ x : Int, e = .returned (.int .i64 x) /\ x ∈ xs /\ Src w' q /\ Chg q (q + 1) w w' /\ w'.heap.size = w.heap.size := by
 go_enter Tryz.func72, Tryz.ntmps72
 go_wp2_with fail
 refine (snext_c hs (by omega) (by omega)).mono ?_; rintro e w1 ⟨x, rfl, hx0, hx1, hs1, hc1, hz1⟩
 obtain ⟨j, rfl⟩ := Int.eq_ofNat_of_zero_le hx0
 have hj : j < xs.length := by omega
 have hA := (OwnI.chg hc1 ho (by omega)).at
 have hcell := hA j hj
 rw [Nat.zero_add] at hcell
 have hmem : xs.getD j 0 ∈ xs := by
  rw [List.getD_eq_getElem?_getD, List.getElem?_eq_getElem hj]
  exact List.getElem_mem hj
 obtain ⟨y, hy⟩ : ∃ y, y = xs.getD j 0 := ⟨_, rfl⟩
 rw [<- hy] at hcell hmem
 clear hy hx1
 go_wp2_with fail
 go_ret
 exact ⟨y, rfl, hmem, hs1, hc1, hz1⟩
end Go.Proofs.YteaaepbnoiecoaaGreat
