/-
  Lists of triples of the call's own; LocalBasis by the program and by the reference.
-/
import Derived.Test.YtmplpoccalccoaaLbE
import Derived.Test.YtmplpoccalccoaaLbB
import Derived.Test.YtmplpoccalccoaaKeB
namespace Go.Proofs.Ytmplpoccalccoaa
open Go.RowKit

theorem infoT : (Try.prog.info? 34).map (fun i => (i.zero, i.size, i.bytes)) = some (some (.agg #[.slice none 0 0, .slice none 0 0, .slice none 0 0]), 3, 72) := by kernel_rfl
/-- What stays as long as its blocks stay. -/
structure Keeps (E : World → Nat → Nat → Value → Value → Value → T3 → Prop) : Prop where
  keep : ∀ {w w' : World} {lo hi : Nat} {a b c : Value} {T : T3}, E w lo hi a b c T → hi ≤ w'.heap.size → (∀ b, lo ≤ b → b < hi → w'.heap[b]? = w.heap[b]?) → E w' lo hi a b c T
  sz : ∀ {w : World} {lo hi : Nat} {a b c : Value} {T : T3}, E w lo hi a b c T → lo ≤ hi ∧ hi ≤ w.heap.size
theorem keepsG : Keeps TrG := ⟨fun h => h.keep, fun h => h.sz⟩
theorem keepsR : Keeps TrR := ⟨fun h => h.keep, fun h => h.sz⟩
/-- Triples in a row of their own, three cells each; each with its blocks in a range of its own. -/
structure LsT (E : World → Nat → Nat → Value → Value → Value → T3 → Prop) (w : World) (B : Nat) (v : Value) (zs : List Value) (lh : List (Nat × Nat)) (Ts : List T3) : Prop where
  own : w.ownsRow B 34 3 v Ts.length zs
  len : lh.length = Ts.length
  els : ∀ j (h : j < Ts.length) (h' : j < lh.length), ∃ a b c, zs[3 * j]? = some a ∧ zs[3 * j + 1]? = some b ∧ zs[3 * j + 2]? = some c ∧ E w lh[j].1 lh[j].2 a b c Ts[j] ∧ (∀ g, v.ownBlock = some g → g < lh[j].1 ∨ lh[j].2 ≤ g)
  lo : ∀ x ∈ lh, B ≤ x.1
  pw : lh.Pairwise fun x y => x.2 ≤ y.1
section
variable {E : World → Nat → Nat → Value → Value → Value → T3 → Prop} {w w' : World} {B : Nat} {v : Value} {zs : List Value} {lh : List (Nat × Nat)} {Ts : List T3}
theorem LsT.lt (h : LsT E w B v zs lh Ts) : ∀ g, v.ownBlock = some g → B ≤ g ∧ g < w.heap.size := World.ownsRow.lt h.own
theorem LsT.form (h : LsT E w B v zs lh Ts) : ∃ a c, v = .slice a Ts.length c := by
  rcases h.own.2 with ⟨e, h2⟩ | ⟨g, cap, cur, e, _⟩
  · exact ⟨none, 0, by rw [e, h2]⟩
  · exact ⟨_, _, e⟩
theorem LsT.below (hE : Keeps E) (h : LsT E w B v zs lh Ts) (hb : Below w.heap.size w w') : LsT E w' B v zs lh Ts := by
  refine ⟨World.ownsRow.kept h.own (row := none) ⟨hb.os, hb.tape, hb.output, hb.size, fun i hi _ => hb.block i hi⟩ (by cases v.ownBlock <;> simp), h.len, fun j hj hj' => ?_, h.lo, h.pw⟩
  obtain ⟨a, b, c, h1, h2, h3, h4, h5⟩ := h.els j hj hj'
  have hs := hE.sz h4
  exact ⟨a, b, c, h1, h2, h3, hE.keep h4 (Nat.le_trans hs.2 hb.size) fun k _ hk => hb.block k (by omega), h5⟩
theorem LsT.more {B' : Nat} (h : LsT E w B v zs lh Ts) (hB : B' ≤ B) : LsT E w B' v zs lh Ts := by
  refine ⟨⟨h.own.1, ?_⟩, h.len, h.els, fun x hx => Nat.le_trans hB (h.lo x hx), h.pw⟩
  rcases h.own.2 with h2 | ⟨g, cap, cur, e, h3, h4⟩
  · exact .inl h2
  · exact .inr ⟨g, cap, cur, e, Nat.le_trans hB h3, h4⟩
theorem LsT.start (hB : B ≤ w.heap.size) : LsT E (w.alloc (.cells #[] 34)) B (.slice (some ⟨w.heap.size, 0, none⟩) 0 0) [] [] [] :=
  ⟨World.ownsRow_made _ _ _ hB (by decide) rfl, rfl, (fun j h => by simp at h), (fun x h => by cases h), List.Pairwise.nil⟩
theorem LsT.snoc (hE : Keeps E) {W : World} (h : LsT E W B v zs lh Ts) {a b c nv : Value} {T : T3} {lo g' : Nat} (hX : E W lo W.heap.size a b c T) (hB : B ≤ lo) (hhi : ∀ x ∈ lh, x.2 ≤ lo) (hlo : ∀ g, v.ownBlock = some g → g < lo) (hn : nv.ownBlock = some g')
    (ho : w'.ownsRow B 34 3 nv (Ts.length + 1) (zs ++ [a, b, c])) (hb : Below B W w') (hg : W.grownBy w' v.ownBlock) (hge : v.ownBlock = some g' ∨ g' = W.heap.size + 1) : LsT E w' B nv (zs ++ [a, b, c]) (lh ++ [(lo, W.heap.size)]) (Ts ++ [T]) := by
  have hlen := h.own.1
  have hll := h.len
  refine ⟨by rw [List.length_append]; exact ho, by rw [List.length_append, List.length_append, hll]; rfl, fun j hj hj' => ?_, fun x hx => ?_, ?_⟩
  · rw [List.length_append] at hj
    simp at hj
    by_cases hj2 : j < Ts.length
    · obtain ⟨a1, b1, c1, h1, h2, h3, h4, h5⟩ := h.els j hj2 (by omega)
      have hs := hE.sz h4
      rw [List.getElem_append_left hj2, List.getElem_append_left (by omega)]
      refine ⟨a1, b1, c1, by rw [List.getElem?_append_left (by omega)]; exact h1, by rw [List.getElem?_append_left (by omega)]; exact h2, by rw [List.getElem?_append_left (by omega)]; exact h3, ?_, fun g hgn => ?_⟩
      · exact hE.keep h4 (Nat.le_trans hs.2 hb.size) fun k hk1 hk2 => hg.block k (by omega) (fun e => by have := h5 k e.symm; omega)
      · rw [hn] at hgn
        cases hgn
        rcases hge with e | e
        · exact h5 _ e
        · right; omega
    · obtain rfl : j = Ts.length := by omega
      have e1 : (Ts ++ [T])[Ts.length]'(by simp) = T := by simp
      have e2 : (lh ++ [(lo, W.heap.size)])[Ts.length]'(by simp; omega) = (lo, W.heap.size) := by simp [← hll]
      rw [e1, e2]
      refine ⟨a, b, c, by rw [List.getElem?_append_right (by omega)]; simp [show 3 * Ts.length - zs.length = 0 by omega], by rw [List.getElem?_append_right (by omega)]; simp [show 3 * Ts.length + 1 - zs.length = 1 by omega], by rw [List.getElem?_append_right (by omega)]; simp [show 3 * Ts.length + 2 - zs.length = 2 by omega], ?_, fun g hgn => ?_⟩
      · have hs := hE.sz hX
        exact hE.keep hX hb.size fun k hk1 hk2 => hg.block k hk2 (fun e => by have := hlo k e.symm; omega)
      · rw [hn] at hgn
        cases hgn
        rcases hge with e | e
        · exact .inl (hlo _ e)
        · right; show _ ≤ _; omega
  · rcases List.mem_append.1 hx with hx | hx
    · exact h.lo x hx
    · rw [List.mem_singleton.1 hx]; exact hB
  · rw [List.pairwise_append]
    exact ⟨h.pw, List.pairwise_singleton _ _, fun x hx y hy => by rw [List.mem_singleton.1 hy]; exact hhi x hx⟩
/-- All the ranges end where the heap ends. -/
theorem LsT.top (hE : Keeps E) (h : LsT E w B v zs lh Ts) : ∀ x ∈ lh, x.2 ≤ w.heap.size := fun x hx => by
  obtain ⟨j, hj, rfl⟩ := List.mem_iff_getElem.1 hx
  obtain ⟨a, b, c, _, _, _, h4, _⟩ := h.els j (by rw [← h.len]; exact hj) hj
  exact (hE.sz h4).2
end
section
variable {ops : Array Oper} {rest : List Oper} {o : Oper} {a : Act} {Q : Exit → Act → World → Prop}
/-- append(out, triple). -/
theorem appt_one (hgd : o.guard = none) (s x : Operand)
    (ho : o.op = .call { callee := .builtin .append, args := #[s, x], argTypes := #[53, 53] })
    (W : World) (B H : Nat) (hH : W.heap.size = H) (v : Value) (zs : List Value) (n : Nat) (hs : a.eval s = v) (d u e : Value) (c : Nat) (hx : a.eval x = .slice (some ⟨H, 0, none⟩) 1 c) (hd : d.oneCell' = true) (hu : u.oneCell' = true) (he : e.oneCell' = true)
    (hown : W.ownsRow B 34 3 v n zs) (hB : B ≤ W.heap.size) (hm : n ≤ 100000000)
    (h : ∀ g' cap' w', w'.ownsRow B 34 3 (.slice (some ⟨g', 0, none⟩) (n + 1) cap') (n + 1) (zs ++ [d, u, e]) → Below B W w' → W.grownBy w' v.ownBlock → (v.ownBlock = some g' ∨ g' = H + 1) → wpList Try.prog ops Q rest (a.put o.dst (.slice (some ⟨g', 0, none⟩) (n + 1) cap')) w') :
    wpList Try.prog ops Q (o :: rest) a (W.alloc (.cells #[d, u, e] 34)) := by
  subst hH
  obtain ⟨i0, hi, hz0, hz1, hz2⟩ := info_parts infoT
  refine wpList_append_lies (W.alloc (.cells #[d, u, e] 34)) hgd s x 53 ho B 34 i0 (.agg #[.slice none 0 0, .slice none 0 0, .slice none 0 0]) 3 72 Try.underlying53 hi hz0 hz1 hz2 rfl (by decide) v n zs hs (World.ownsRow.alloc hown _) ⟨W.heap.size, 0, none⟩ 1 c [d, u, e] hx rfl ?_ ?_ (by decide) (by simp only [maxLen]; omega) (by omega) (by simp; omega) _ rfl ?_
  · intro j y hy
    rw [addz]
    rcases j with _ | _ | _ | j
    · simp at hy
      subst hy
      simp [go_sem]
    · simp at hy
      subst hy
      simp [go_sem]
    · simp at hy
      subst hy
      simp [go_sem]
    · simp at hy
  · intro y hy
    simp at hy
    rcases hy with rfl | rfl | rfl <;> assumption
  · intro g cap w' h1 h2 h3 _
    refine h g cap w' h1 (((Below.refl B W).alloc hB _).grown h2 (by simp; omega) fun k hk => (World.ownsRow.lt hown k hk).1) ⟨h2.os, h2.tape, h2.output, by have := h2.size; simp at this; omega, fun k hk hne => ?_⟩ (by simpa using h3)
    rw [h2.block k (by simp; omega) hne]
    exact Below.heap_alloc _ _ _ hk
end
def RLocalBasis1 (p : Int) (st : List Int) : Int := if chk3 p st [] = 0 then (if st.length = 3 then 5 else 0) else chk3 p st []
def RLocalBasis0 (p : Int) (st : List Int) : List T3 := if RLocalBasis1 p st = 0 then (locN p st).map (cut3 (sz st.length)) else []
/-- A list of triples of the call's own, or nil. -/
def OwT (E : World → Nat → Nat → Value → Value → Value → T3 → Prop) (w : World) (B : Nat) (v : Value) (Ts : List T3) : Prop := (v = .slice none 0 0 ∧ Ts = []) ∨ ∃ zs lh, LsT E w B v zs lh Ts
end Go.Proofs.Ytmplpoccalccoaa
