/-
  Hermitian matrices out of lists of numbers, and the lists of their numbers: the program's walks.
-/
import Derived.Test.YtmplpoccalccoaaJau
import Derived.Lib.AppendZeros
namespace Go.Proofs.Ytmplpoccalccoaa
open Go.RowKit

theorem FrH.mk_ {w1 w2 : World} {B : Nat} {d u : Value} {us : List Value} {dg : List Int} {up : List (List Int)} (h1 : FrI w1 B d dg) (hb : Below w1.heap.size w1 w2) (h2 : FrR w2 w1.heap.size u us up) (hB : B ≤ w1.heap.size) : FrH w2 B (.agg #[d, u]) ⟨dg, up⟩ := by
  refine ⟨d, u, us, rfl, h1.below hb, h2.more hB, fun z hz e => ?_⟩
  obtain ⟨g, hg, hg1, _⟩ : ∃ g, z.ownBlock = some g ∧ w1.heap.size ≤ g ∧ g < w2.heap.size := by
    obtain ⟨_, _, _, _, h4, h5, h6⟩ := h2
    exact RowsA.mem ⟨h4, h5, h6⟩ hz
  obtain ⟨gd, hgd, _, hgd2⟩ := h1.blk
  rw [hg, hgd] at e
  cases e
  omega
theorem FrI.set_ {w : World} {B : Nat} {v : Value} {xs : List Int} (h : FrI w B v xs) {p : Addr} (hp : p.block < B) (u : Value) : FrI (w.setCell p u) B v xs := by
  obtain ⟨g, cap, rfl, h⟩ := h
  exact ⟨g, cap, rfl, h.other (by have := h.lt.1; omega) u⟩
theorem FrR.set_ {w : World} {B : Nat} {v : Value} {us : List Value} {xss : List (List Int)} (h : FrR w B v us xss) {p : Addr} (hp : p.block < B) (u : Value) : FrR (w.setCell p u) B v us xss := by
  obtain ⟨g0, cap0, e0, hB, hs, _⟩ := h.lt
  obtain ⟨g, cap, rfl, h1, h2, h3, h4⟩ := h
  cases e0
  exact ⟨g0, cap0, rfl, ownsRow_of h1 (Below.heap_setCell _ _ _ _ (by omega)) hB, h2, fun j a b => (h3 j a b).set_ hp u, h4⟩
theorem FrH.set_ {w : World} {B : Nat} {v : Value} {X : Her} (h : FrH w B v X) {p : Addr} (hp : p.block < B) (u : Value) : FrH (w.setCell p u) B v X := by
  obtain ⟨d, u', us, rfl, h1, h2, h3⟩ := h
  exact ⟨d, u', us, rfl, h1.set_ hp u, h2.set_ hp u, h3⟩
theorem zero_size (n : Nat) : (Builtin.zeroCells #[Value.int .i64 0] n).size = n := by
  unfold Builtin.zeroCells
  simp
set_option maxRecDepth 100000 in
theorem grow_c {n : Nat} {w : World} (h0 : 0 < n) (hn : n ≤ 1000) :
    Calls Try.prog 119 #[.slice none 0 0, .int .i64 n] w fun e w' => ∃ g cap, e = .returned (.slice (some ⟨g, 0, none⟩) 0 cap) ∧ OwnI w' w.heap.size g 0 cap [] ∧ Below w.heap.size w w' := by
  obtain ⟨i0, hi, hz0, hz1, hz2⟩ := info_parts infoI
  have hrun := fun W => Lib.run_append_nil_zeros (P := Try.prog) W 22 3 22 2 i0 (.int .i64 0) .i64 .i64 Try.underlying22 Try.underlying3 hi hz0 n h0 (by omega) (by omega) (by rw [hz2]; omega)
  have hcap := grownCap_ge w n 0 2
  have hcap2 := grownCap_le_maxLen w n 0 2 (by simp only [maxLen]; omega)
  have hcs := zero_size
  obtain ⟨C, hC⟩ : ∃ C, C = Builtin.zeroCells #[Value.int .i64 0] n ++ Builtin.zeroCells #[Value.int .i64 0] (grownCap w n 0 2 - n) := ⟨_, rfl⟩
  have hsz : C.size = grownCap w n 0 2 := by rw [hC, Array.size_append, hcs, hcs]; omega
  have hr := hrun w
  rw [show (Value.int .i64 0).cells = #[Value.int .i64 0] from rfl, ← hC] at hr
  obtain ⟨k, hk⟩ : ∃ k, k = grownCap w n 0 2 := ⟨_, rfl⟩
  rw [← hk] at hcap hcap2 hsz hr
  simp only [maxLen] at hcap2
  have HR := Lib.hid hr; have HS := Lib.hid hsz
  clear hrun hcs hC hr hk hsz
  go_enter Try.func119, Try.ntmps119
  go_wp2_with (at_builtin; refine Lib.wpList_append_run _ rfl _ _ _ _ rfl (.slice none 0 0) (.int .i64 n) rfl rfl _ _ HR.out ?_)
  go_ret
  exact ⟨_, _, rfl, OwnI.mk_ (cur := C) (Nat.le_refl _) (heap_alloc_new w.drew _) HS.out (by simp) (Nat.zero_le _) (by simp only [maxLen]; omega), (by repeat (first | exact Below.refl _ _ | apply blw_drew | apply blw_alloc | (refine blw_set ?_ (by first | omega | (simp; done) | (simp; omega)) _) | refine below_chain ?_ (by assumption)))⟩
end Go.Proofs.Ytmplpoccalccoaa
