/-
  Appending rows to rows of the call's own, and numbers to a row that may be nil; rows in blocks of their own.
-/
import Derived.Test.YtfcdhdkhfdhjfaaDbN
namespace Go.Proofs.Ytfcdhdkhfdhjfaa
open Go.RowKit

theorem infoR : (Try.prog.info? 22).map (fun i => (i.zero, i.size, i.bytes)) = some (some (.slice none 0 0), 1, 24) := by kernel_rfl
def OwV (w : World) (B : Nat) (v : Value) (us : List Value) : Prop := w.ownsRow B 22 1 v us.length us
def OwN (w : World) (B : Nat) (v : Value) (xs : List Int) : Prop := w.ownsRow B 2 1 v xs.length (xs.map (Value.int .i64))
theorem made_own {W : World} {n : Nat} (hn : n ≤ 1048576) : OwnI (W.alloc (.cells (madeCells #[Value.int .i64 0] n) 2)) W.heap.size W.heap.size n n (List.replicate n 0) := by
  refine OwnI.mk_ (Nat.le_refl _) (heap_alloc_new W _) ?_ ?_ (Nat.le_refl _) (by simp only [maxLen]; omega)
  · simp [madeCells]
  · rw [made_list]; simp
section
variable {w w' : World} {B B' : Nat} {v : Value} {us : List Value} {xs : List Int}
theorem OwV.nil (w : World) (B : Nat) : OwV w B (.slice none 0 0) [] := World.ownsRow_nil _ _ _ _
theorem OwN.nil (w : World) (B : Nat) : OwN w B (.slice none 0 0) [] := World.ownsRow_nil _ _ _ _
theorem OwV.new (h : B ≤ w.heap.size) : OwV (w.alloc (.cells #[] 22)) B (.slice (some ⟨w.heap.size, 0, none⟩) 0 0) [] := World.ownsRow_made _ _ _ h (by decide) rfl
theorem OwV.kept {row : Option Nat} (h : OwV w B v us) (hg : w.grownBy w' row) (hne : v.ownBlock = none ∨ v.ownBlock ≠ row) : OwV w' B v us := World.ownsRow.kept h hg hne
theorem OwV.below (h : OwV w B v us) (hb : Below w.heap.size w w') : OwV w' B v us := World.ownsRow.kept h (row := none) ⟨hb.os, hb.tape, hb.output, hb.size, fun i hi _ => hb.block i hi⟩ (by
  cases v.ownBlock <;> simp)
theorem OwN.below (h : OwN w B v xs) (hb : Below w.heap.size w w') : OwN w' B v xs := World.ownsRow.kept h (row := none) ⟨hb.os, hb.tape, hb.output, hb.size, fun i hi _ => hb.block i hi⟩ (by
  cases v.ownBlock <;> simp)
theorem OwN.kept {row : Option Nat} (h : OwN w B v xs) (hg : w.grownBy w' row) (hne : v.ownBlock = none ∨ v.ownBlock ≠ row) : OwN w' B v xs := World.ownsRow.kept h hg hne
theorem OwN.fr (h : OwN w B v xs) (hn : 0 < xs.length) : FrI w B v xs := by
  obtain ⟨g, cap, rfl, _⟩ := World.ownsRow.form h hn
  exact ⟨g, cap, rfl, h⟩
theorem FrI.own (h : FrI w B v xs) : OwN w B v xs := by
  obtain ⟨g, cap, rfl, h⟩ := h
  exact h
theorem row_type {E : TypeId} {n : Nat} {zs : List Value} {g : Nat} (h : w.ownsRow B E 1 v n zs) (hg : v.ownBlock = some g) : ∃ cur, w.heap[g]? = some (.cells cur E (0, 0)) := by
  rcases h.2 with ⟨rfl, _⟩ | ⟨g', cap', cur, rfl, _, hh, _⟩
  · cases hg
  · cases hg; exact ⟨cur, hh⟩
theorem apart {u : Value} (h : OwN w B u xs) (k : OwV w B' v us) : u.ownBlock = none ∨ u.ownBlock ≠ v.ownBlock := by
  cases hu : u.ownBlock with
  | none => exact .inl rfl
  | some g =>
    refine .inr fun e => ?_
    obtain ⟨c1, h1⟩ := row_type h hu
    obtain ⟨c2, h2⟩ := row_type k e.symm
    rw [h1] at h2
    injection h2 with h3
    injection h3 with _ h4
    exact absurd h4 (by decide)
theorem apart' {u : Value} (h : OwN w B u xs) (k : OwV w B' v us) : v.ownBlock = none ∨ v.ownBlock ≠ u.ownBlock := by
  rcases apart h k with h1 | h1
  · cases hv : v.ownBlock with
    | none => exact .inl rfl
    | some g => exact .inr (by rw [h1]; simp)
  · exact .inr (Ne.symm h1)
theorem OwN.lt (h : OwN w B v xs) : ∀ g, v.ownBlock = some g → B ≤ g ∧ g < w.heap.size := World.ownsRow.lt h
theorem OwV.lt (h : OwV w B v us) : ∀ g, v.ownBlock = some g → B ≤ g ∧ g < w.heap.size := World.ownsRow.lt h
end
def RowsA (w : World) (B : Nat) (us : List Value) (xss : List (List Int)) : Prop :=
  us.length = xss.length ∧ (∀ j (h : j < us.length) (h' : j < xss.length), FrI w B us[j] xss[j]) ∧ us.Pairwise fun a b => a.ownBlock ≠ b.ownBlock
section
variable {w w' : World} {B B' : Nat} {v u : Value} {us us' : List Value} {xss : List (List Int)} {xs : List Int}
theorem RowsA.nil (w : World) (B : Nat) : RowsA w B [] [] := ⟨rfl, fun j h => by simp at h, List.Pairwise.nil⟩
theorem RowsA.below (h : RowsA w B us xss) (hb : Below w.heap.size w w') : RowsA w' B us xss := ⟨h.1, fun j a b => (h.2.1 j a b).below hb, h.2.2⟩
theorem RowsA.more (h : RowsA w B us xss) (hB : B' ≤ B) : RowsA w B' us xss := ⟨h.1, fun j a b => (h.2.1 j a b).more hB, h.2.2⟩
theorem FrI.kept {row : Option Nat} (h : FrI w B u xs) (hg : w.grownBy w' row) (hne : u.ownBlock ≠ row) : FrI w' B u xs := by
  obtain ⟨g, cap, rfl, h⟩ := h
  exact ⟨g, cap, rfl, h.grown hg hne⟩
theorem FrI.blk (h : FrI w B u xs) : ∃ g, u.ownBlock = some g ∧ B ≤ g ∧ g < w.heap.size := by
  obtain ⟨g, cap, rfl, h⟩ := h
  exact ⟨g, rfl, h.lt⟩
theorem FrI.app (h : FrI w B u xs) (ho : OwV w B' v us) (hg : w.grownBy w' v.ownBlock) : FrI w' B u xs := by
  refine h.kept hg ?_
  obtain ⟨g, hgu, _⟩ := h.blk
  rcases apart h.own ho with e | e
  · rw [hgu] at e; cases e
  · exact e
theorem RowsA.app (h : RowsA w B us xss) (ho : OwV w B' v us') (hg : w.grownBy w' v.ownBlock) : RowsA w' B us xss := ⟨h.1, fun j a b => (h.2.1 j a b).app ho hg, h.2.2⟩
theorem RowsA.far {row : Option Nat} (h : RowsA w B us xss) (hg : w.grownBy w' row) (hne : ∀ z ∈ us, z.ownBlock ≠ row) : RowsA w' B us xss := ⟨h.1, fun j a b => (h.2.1 j a b).kept hg (hne _ (List.getElem_mem a)), h.2.2⟩
theorem RowsA.mem (h : RowsA w B us xss) {z : Value} (hz : z ∈ us) : ∃ g, z.ownBlock = some g ∧ B ≤ g ∧ g < w.heap.size := by
  obtain ⟨j, hj, rfl⟩ := List.getElem_of_mem hz
  exact (h.2.1 j hj (by have := h.1; omega)).blk
theorem RowsA.fresh (h : RowsA w B us xss) {w2 : World} (hu : FrI w2 w.heap.size u xs) : ∀ z ∈ us, z.ownBlock ≠ u.ownBlock := fun z hz e => by
  obtain ⟨g, hg, _, h2⟩ := h.mem hz
  obtain ⟨g2, hg2, h3, _⟩ := hu.blk
  rw [hg, hg2] at e
  cases e
  omega
theorem RowsA.snoc (h : RowsA w B us xss) (hu : FrI w B u xs) (hne : ∀ z ∈ us, z.ownBlock ≠ u.ownBlock) : RowsA w B (us ++ [u]) (xss ++ [xs]) := by
  refine ⟨by simp [h.1], fun j a b => ?_, List.pairwise_append.2 ⟨h.2.2, List.pairwise_singleton _ _, fun z hz y hy => by rw [List.mem_singleton.1 hy]; exact hne z hz⟩⟩
  rw [List.length_append] at a
  simp at a
  by_cases hj : j < us.length
  · have := h.1
    rw [List.getElem_append_left hj, List.getElem_append_left (by omega)]
    exact h.2.1 j hj (by omega)
  · obtain rfl : j = us.length := by omega
    have e := h.1
    have h1 : (us ++ [u])[us.length]'(by simp) = u := by simp
    have h2 : (xss ++ [xs])[us.length]'(by simp [e]) = xs := by simp [e]
    rw [h1, h2]; exact hu
theorem frR_mk (h : RowsA w B us xss) (ho : OwV w B v us) (hn : 0 < us.length) : FrR w B v us xss := by
  obtain ⟨g, cap, rfl, _⟩ := World.ownsRow.form ho hn
  exact ⟨g, cap, rfl, ho, h.1, h.2.1, h.2.2⟩
end
section
variable {ops : Array Oper} {rest : List Oper} {o : Oper} {a : Act} {Q : Exit → Act → World → Prop} {K : Act → World → Prop} {E : Prop}
theorem appr_one (hgd : o.guard = none) (s x : Operand)
    (ho : o.op = .call { callee := .builtin .append, args := #[s, x], argTypes := #[25, 25] })
    (W : World) (B H : Nat) (hH : W.heap.size = H) (v : Value) (us : List Value) (hs : a.eval s = v) (z : Value) (c : Nat) (hx : a.eval x = .slice (some ⟨H, 0, none⟩) 1 c) (hz : z.oneCell' = true)
    (hown : OwV W B v us) (hB : B ≤ W.heap.size) (hm : us.length ≤ 100000000)
    (h : ∀ g' cap' w', OwV w' B (.slice (some ⟨g', 0, none⟩) (us.length + 1) cap') (us ++ [z]) → Below B W w' → W.grownBy w' v.ownBlock → (v.ownBlock = some g' ∨ g' = H + 1) → wpList Try.prog ops Q rest (a.put o.dst (.slice (some ⟨g', 0, none⟩) (us.length + 1) cap')) w') :
    wpList Try.prog ops Q (o :: rest) a (W.alloc (.cells #[z] 22)) := by
  subst hH
  obtain ⟨i0, hi, hz0, hz1, hz2⟩ := info_parts infoR
  refine wpList_append_lies (W.alloc (.cells #[z] 22)) hgd s x 25 ho B 22 i0 (.slice none 0 0) 1 24 Try.underlying25 hi hz0 hz1 hz2 rfl (by decide) v us.length us hs (World.ownsRow.alloc hown _) ⟨W.heap.size, 0, none⟩ 1 c [z] hx rfl ?_ ?_ (by decide) (by simp only [maxLen]; omega) (by omega) (by simp; omega) _ rfl ?_
  · intro j u hu
    rw [addz]
    have : j = 0 := by
      rcases j with _ | j
      · rfl
      · simp at hu
    subst this
    simp at hu
    subst hu
    simp [go_sem]
  · intro u hu
    simp at hu
    subst hu; exact hz
  · intro g cap w' h1 h2 h3 _
    refine h g cap w' (by simpa [OwV] using h1) (((Below.refl B W).alloc hB _).grown h2 (by simp; omega) fun k hk => (OwV.lt hown k hk).1) ⟨h2.os, h2.tape, h2.output, by have := h2.size; simp at this; omega, fun k hk hne => ?_⟩ (by simpa using h3)
    rw [h2.block k (by simp; omega) hne]
    exact Below.heap_alloc _ _ _ hk
theorem appn_one (hgd : o.guard = none) (s x : Operand)
    (ho : o.op = .call { callee := .builtin .append, args := #[s, x], argTypes := #[22, 22] })
    (W : World) (B H : Nat) (hH : W.heap.size = H) (v : Value) (xs : List Int) (hs : a.eval s = v) (z : Int) (c : Nat) (hx : a.eval x = .slice (some ⟨H, 0, none⟩) 1 c)
    (hown : OwN W B v xs) (hB : B ≤ W.heap.size) (hm : xs.length ≤ 100000000)
    (h : ∀ g' cap' w', OwN w' B (.slice (some ⟨g', 0, none⟩) (xs.length + 1) cap') (xs ++ [z]) → Below B W w' → W.grownBy w' v.ownBlock → (v.ownBlock = some g' ∨ g' = H + 1) → wpList Try.prog ops Q rest (a.put o.dst (.slice (some ⟨g', 0, none⟩) (xs.length + 1) cap')) w') :
    wpList Try.prog ops Q (o :: rest) a (W.alloc (.cells #[.int .i64 z] 2)) := by
  subst hH
  obtain ⟨i0, hi, hz0, hz1, hz2⟩ := info_parts infoI
  refine wpList_append_lies (W.alloc (.cells #[.int .i64 z] 2)) hgd s x 22 ho B 2 i0 (.int .i64 0) 1 8 Try.underlying22 hi hz0 hz1 hz2 rfl (by decide) v xs.length (xs.map (Value.int .i64)) hs (World.ownsRow.alloc hown _) ⟨W.heap.size, 0, none⟩ 1 c [.int .i64 z] hx rfl ?_ ?_ (by decide) (by simp only [maxLen]; omega) (by omega) (by simp; omega) _ rfl ?_
  · intro j u hu
    rw [addz]
    have : j = 0 := by
      rcases j with _ | j
      · rfl
      · simp at hu
    subst this
    simp at hu
    subst hu
    simp [go_sem]
  · intro u hu
    simp at hu
    subst hu; rfl
  · intro g cap w' h1 h2 h3 _
    refine h g cap w' (by simpa [OwN] using h1) (((Below.refl B W).alloc hB _).grown h2 (by simp; omega) fun k hk => (OwN.lt hown k hk).1) ⟨h2.os, h2.tape, h2.output, by have := h2.size; simp at this; omega, fun k hk hne => ?_⟩ (by simpa using h3)
    rw [h2.block k (by simp; omega) hne]
    exact Below.heap_alloc _ _ _ hk
end
theorem oneL_len {n i : Nat} : (oneL n i).length = n := by simp [oneL]
theorem oneL_fp {p : Int} {n i : Nat} (hp : 2 ≤ p) : Fp p (oneL n i) := fun x hx => by
  unfold oneL at hx
  rcases List.mem_or_eq_of_mem_set hx with h | h
  · have := List.eq_of_mem_replicate h; omega
  · omega
theorem made_set {W : World} {n k : Nat} (u : Int) (hn : n ≤ 1048576) : OwnI (W.alloc (.cells ((madeCells #[Value.int .i64 0] n).setIfInBounds k (.int .i64 u)) 2)) W.heap.size W.heap.size n n ((List.replicate n 0).set k u) := by
  refine OwnI.mk_ (Nat.le_refl _) (heap_alloc_new W _) ?_ ?_ (Nat.le_refl _) (by simp only [maxLen]; omega)
  · simp [madeCells]
  · rw [Array.toList_setIfInBounds, made_list, List.map_set, List.take_of_length_le (by simp)]; simp
theorem unit_c {n : Nat} {w : World} (hn : n ≤ 1000) :
    Calls Try.prog 75 #[.int .i64 n] w fun e w' => ∃ v us, e = .returned v ∧ OwV w' w.heap.size v us ∧ RowsA w' w.heap.size us ((List.range n).map (oneL n)) ∧ (0 < n → ∃ g cap, v = .slice (some ⟨g, 0, none⟩) n cap) ∧ Below w.heap.size w w' := by
  have hmk := fun W => run_make_row' (P := Try.prog) 22 2 (.int .i64 0) 8 Try.underlying22 infoI rfl .i64 .i64 n (by omega) (by omega) W
  go_enter Try.func75, Try.ntmps75
  go_wp2
  go_loopw [3, 8] (fun o i wr => ∃ (k g cap : Nat) (us : List Value), k ≤ n ∧ i = .int .i64 k ∧ o = .slice (some ⟨g, 0, none⟩) k cap ∧ us.length = k ∧ OwV wr w.heap.size (.slice (some ⟨g, 0, none⟩) k cap) us ∧ RowsA wr w.heap.size us ((List.range k).map (oneL n)) ∧ Below w.heap.size w wr)
    (fun _ i _ => n - (intOf i).toNat)
  case atStart => exact ⟨0, w.heap.size, 0, [], Nat.zero_le _, rfl, rfl, rfl, OwV.new (Nat.le_refl _), RowsA.nil _ _, (by repeat (first | exact .refl _ _ | apply bwD | apply bwA | (refine bwS ?_ (by first | omega | simp <;> omega) _) | refine bwC ?_ (by assumption)))⟩
  case round =>
    obtain ⟨k, g, cap, us, hk, rfl, rfl, hul, ho, hr, hb⟩ := hrel
    have HU := Lib.hid hul; clear hul
    by_cases hlt : k < n
    · have hnew := made_own (W := wr) (n := n) (by omega)
      have hold := hnew.hold (i := k) hlt
      have hfree := hnew.free k
      obtain ⟨q, hq⟩ : ∃ q, q = (List.replicate n (0 : Int)).getD k 0 := ⟨_, rfl⟩
      rw [← hq] at hold; clear hq hnew
      have hrow := (made_set (W := wr) (n := n) (k := k) 1 (by omega)).fr
      have hbA : Below wr.heap.size wr (wr.alloc (.cells ((madeCells #[Value.int .i64 0] n).setIfInBounds k (.int .i64 1)) 2)) := (by repeat (first | exact .refl _ _ | apply bwD | apply bwA | (refine bwS ?_ (by first | omega | simp <;> omega) _) | refine bwC ?_ (by assumption)))
      have ho := ho.below hbA
      have hr2 := hr.below hbA
      have hf := hr.fresh hrow
      have hbw := bwC hb hbA
      obtain rfl := HU.out
      go_wp2_with (at_builtin; refine appr_one rfl _ _ rfl _ w.heap.size (wr.heap.size + 1) (by simp) (.slice (some ⟨g, 0, none⟩) us.length cap) us rfl (.slice (some ⟨wr.heap.size, 0, none⟩) n n) 1 rfl rfl ho hbw.size (by omega) ?_; intro g' cap' w' ho' hb' hg' hge)
      go_roundw
      case rel =>
        refine ⟨us.length + 1, g', cap', us ++ [_], by omega, by go_num, rfl, by simp, ho', ?_, hbw.trans hb'⟩
        · rw [List.range_succ, List.map_append]
          exact (hr2.app ho hg').snoc ((hrow.more (by have := hb.size; omega)).app ho hg') hf
      case measure => simp [intOf]; omega
    · obtain rfl : k = n := by omega
      go_wp2
      go_ret
      exact ⟨_, us, rfl, ho, hr, fun _ => ⟨_, _, rfl⟩, hb⟩
end Go.Proofs.Ytfcdhdkhfdhjfaa
