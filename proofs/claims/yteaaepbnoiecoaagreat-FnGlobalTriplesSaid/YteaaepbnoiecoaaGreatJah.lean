/- Texts joined for a claim: DbN, App. -/
import Derived.Test.YteaaepbnoiecoaaGreatDbM
namespace Go.Proofs.YteaaepbnoiecoaaGreat
open Go.RowKit
structure Dok (p : Int) (st : List Int) : Prop where
 hp : IsP p
 hl : st.length <= 3
 hs : ∀ s ∈ st, 1 <= s /\ s <= p - 1
theorem Dok.of {p : Int} {st : List Int} (h : isD p st = true) (h2 : ¬ 3 < st.length) : Dok p st := by
 obtain ⟨h1, _, h3⟩ := isD_iff.1 h
 exact ⟨h1, by omega, h3⟩
theorem Dok.fp {p : Int} {st : List Int} (h : Dok p st) : Fp p st := fun x hx => by have := h.hs x hx; omega
theorem Dok.fr {p : Int} {st : List Int} (h : Dok p st) : Fp p st.reverse := fun x hx => h.fp x (by simpa using hx)
theorem sz_le {p : Int} {st : List Int} (h : Dok p st) : 1 <= sz st.length /\ sz st.length <= 8 :=
 ⟨Nat.pow_pos (by decide), Nat.le_trans (Nat.pow_le_pow_right (by decide) h.hl) (by decide)⟩
theorem times_c {p : Int} {s x y : Value} {st xs ys : List Int} {w : World} (hd : Dok p st) (hs : El w s st) (hx : El w x xs) (hy : El w y ys) (ex : Ev p (sz st.length) xs) (ey : Ev p (sz st.length) ys) :
  Calls Tryz.prog 21 #[.agg #[.int .i64 p, s], x, y] w fun e w' => ∃ v, e = .returned v /\ FrI w' w.heap.size v (mulL p st xs ys) /\ Below w.heap.size w w' := by
 have hp := hd.hp
 have hfr := hd.fr
 have hsz := sz_le hd
 have hlr : st.reverse.length = st.length := by simp
 have hl3 := hd.hl
 have hcon := fun (W : World) (s x y : Value) (hs : El W s st) hx hy => doubled_c st.reverse (w := W) (p := p) (s := s) (x := x) (y := y) (xs := xs) (ys := ys) hp (by omega) (by rw [List.reverse_reverse]; exact hs) hfr hx hy (by rw [hlr]; exact ex) (by rw [hlr]; exact ey)
 obtain ⟨a, c, rfl, _⟩ := id hs.op
 obtain ⟨a1, c1, rfl, _⟩ := id hx.op
 obtain ⟨a2, c2, rfl, _⟩ := id hy.op
 clear hlr hfr
 go_enter Tryz.func21, Tryz.ntmps21
 have hb0 : Below w.heap.size w (w.alloc (.cells #[.int .i64 p, .slice a st.length c] 26)) := bwT
 have hs := hs.below hb0; have hx := hx.below hb0; have hy := hy.below hb0
 have d0 : (w.alloc (.cells #[.int .i64 p, .slice a st.length c] 26)).cell? ⟨w.heap.size, 0, none⟩ = some (.int .i64 p) := by simp [go_sem]
 have d1 : (w.alloc (.cells #[.int .i64 p, .slice a st.length c] 26)).cell? ⟨w.heap.size, 1, none⟩ = some (.slice a st.length c) := by simp [go_sem]
 go_wp2_with fail
 refine region_flow [(false, [(0, 1), (2, 0), (3, 1), (4, 0), (5, 0), (1, 5)]), (false, [(6, 4), (7, 0)])] (by kernel_rfl) ?_
 refine norm_K fun K hK => ?_
 change wpList _ _ _ [_, _, _, _, _, _] _ _
 have hb1 : Below (w.alloc (.cells #[.int .i64 p, .slice a st.length c] 26)).heap.size (w.alloc (.cells #[.int .i64 p, .slice a st.length c] 26)) (w.alloc (.cells #[.int .i64 p, .slice a st.length c] 26)).drew := bwT
 have hs := hs.below hb1; have hx := hx.below hb1; have hy := hy.below hb1; have d0 := kept hb1 d0; have d1 := kept hb1 d1
 go_wp2_with fail
 refine (dfield_c).mono ?_; rintro e w2 ⟨rfl, hb2⟩
 have hs := hs.below hb2; have hx := hx.below hb2; have hy := hy.below hb2; have d0 := kept hb2 d0; have d1 := kept hb2 d1
 go_wp2_with fail
 have hz0 : Below (w.alloc (.cells #[.int .i64 p, .slice a st.length c] 26)).drew.heap.size (w.alloc (.cells #[.int .i64 p, .slice a st.length c] 26)).drew w2 := bwT
 first | (refine hK _ _ ⟨hz0, ?_⟩; clear hK K) | refine ⟨hz0, ?_⟩
 clear hz0
 refine norm_K fun K hK => ?_
 change wpList _ _ _ [_, _] _ _
 go_wp2_with fail
 refine (hcon _ _ _ _ hs hx hy).mono ?_; rintro e w3 ⟨z, rfl, hz, hb3⟩
 have hs := hs.below hb3; have hx := hx.below hb3; have hy := hy.below hb3; have d0 := kept hb3 d0; have d1 := kept hb3 d1
 go_wp2_with fail
 first | (refine hK _ _ ⟨rfl, ?_⟩; clear hK K) | refine ⟨rfl, ?_⟩
 go_wp2_with fail
 go_ret
 exact ⟨_, rfl, hz.more (below_le bwT), bwT⟩
theorem norm_c {p : Int} {s x : Value} {st xs : List Int} {w : World} (hd : Dok p st) (hs : El w s st) (hx : El w x xs) (ex : Ev p (sz st.length) xs) :
  Calls Tryz.prog 40 #[.agg #[.int .i64 p, s], x] w fun e w' => e = .returned (.int .i64 (normL p st xs)) /\ Below w.heap.size w w' := by
 have hsz := sz_le hd
 have hp1 := hd.hp.lo
 have hp2 := hd.hp.hi
 have L1 := Lib.hid ex.1
 have e2 := mulL_ev (by omega) ex (ex.conj (by omega))
 have L2 := Lib.hid e2.1
 have hN : normL p st xs = (mulL p st xs (conjL p xs)).getD 0 0 := rfl
 obtain ⟨q, hq⟩ : ∃ q, q = (mulL p st xs (conjL p xs)).getD 0 0 := ⟨_, rfl⟩
 rw [hN, <- hq]
 have HQ := Lib.hid hq; clear hq hN
 obtain ⟨a, c, rfl, _⟩ := id hs.op
 obtain ⟨a1, c1, rfl, _⟩ := id hx.op
 go_enter Tryz.func40, Tryz.ntmps40
 have hb0 : Below w.heap.size w (w.alloc (.cells #[.int .i64 p, .slice a st.length c] 26)) := bwT
 have hs := hs.below hb0; have hx := hx.below hb0
 have d0 : (w.alloc (.cells #[.int .i64 p, .slice a st.length c] 26)).cell? ⟨w.heap.size, 0, none⟩ = some (.int .i64 p) := by simp [go_sem]
 have d1 : (w.alloc (.cells #[.int .i64 p, .slice a st.length c] 26)).cell? ⟨w.heap.size, 1, none⟩ = some (.slice a st.length c) := by simp [go_sem]
 go_wp2_with fail
 refine region_flow [(false, [(0, 1), (1, 0), (2, 1), (4, 0), (3, 5)]), (false, [(5, 5)]), (false, [(6, 4), (7, 0), (8, 1), (9, 0)])] (by kernel_rfl) ?_
 refine norm_K fun K hK => ?_
 change wpList _ _ _ [_, _, _, _, _] _ _
 have hb1 : Below (w.alloc (.cells #[.int .i64 p, .slice a st.length c] 26)).heap.size (w.alloc (.cells #[.int .i64 p, .slice a st.length c] 26)) (w.alloc (.cells #[.int .i64 p, .slice a st.length c] 26)).drew := bwT
 have hs := hs.below hb1; have hx := hx.below hb1; have d0 := kept hb1 d0; have d1 := kept hb1 d1
 go_wp2_with fail
 refine (dfield_c).mono ?_; rintro e w2 ⟨rfl, hb2⟩
 have hs := hs.below hb2; have hx := hx.below hb2; have d0 := kept hb2 d0; have d1 := kept hb2 d1
 go_wp2_with fail
 have hz0 : Below (w.alloc (.cells #[.int .i64 p, .slice a st.length c] 26)).drew.heap.size (w.alloc (.cells #[.int .i64 p, .slice a st.length c] 26)).drew w2 := bwT
 first | (refine hK _ _ ⟨hz0, ?_⟩; clear hK K) | refine ⟨hz0, ?_⟩
 clear hz0
 refine norm_K fun K hK => ?_
 change wpList _ _ _ [_] _ _
 go_wp2_with fail
 refine (conj_c (by omega) (by omega) hx (by rw [L1.out]; omega) ex.2 (by rw [L1.out]; omega)).mono ?_; rintro e w3 ⟨z, rfl, hz, hb3⟩
 have hs := hs.below hb3; have hx := hx.below hb3; have d0 := kept hb3 d0; have d1 := kept hb3 d1
 go_wp2_with fail
 have hz1 : Below (w.alloc (.cells #[.int .i64 p, .slice a st.length c] 26)).drew.heap.size (w.alloc (.cells #[.int .i64 p, .slice a st.length c] 26)).drew w3 := bwT
 first | (refine hK _ _ ⟨hz1, ?_⟩; clear hK K) | refine ⟨hz1, ?_⟩
 clear hz1
 refine norm_K fun K hK => ?_
 change wpList _ _ _ [_, _, _, _] _ _
 go_wp2_with fail
 refine (times_c hd hs hx hz.el ex (ex.conj (by omega))).mono ?_; rintro e w4 ⟨t, rfl, ⟨g, cap, rfl, ht⟩, hb4⟩
 have hs := hs.below hb4; have hx := hx.below hb4; have d0 := kept hb4 d0; have d1 := kept hb4 d1; have hz := hz.below hb4
 rw [L2.out] at ht ⊢
 have hc := ht.hold (i := 0) (by omega)
 rw [<- HQ.out] at hc
 go_wp2_with fail
 first | (refine hK _ _ ⟨rfl, ?_⟩; clear hK K) | refine ⟨rfl, ?_⟩
 go_wp2_with fail
 go_ret
 exact ⟨rfl, bwT⟩
theorem trace_c {p : Int} {s x : Value} {st xs : List Int} {w : World} (hp : IsP p) (hs : El w s st) (hx : El w x xs) (fx : Fp p xs) (hne : 0 < xs.length) :
  Calls Tryz.prog 23 #[.agg #[.int .i64 p, s], x] w fun e w' => e = .returned (.int .i64 (2 * xs.getD 0 0 % p)) /\ Below w.heap.size w w' := by
 have hp1 := hp.lo
 have hp2 := hp.hi
 have hb := fx.g0 (by omega) 0
 obtain ⟨b1, o1, c1, rfl, h1, h2, hA⟩ := hx.op1 hne
 have hc := hA.get0 hne
 obtain ⟨q, hq⟩ : ∃ q, q = xs.getD 0 0 := ⟨_, rfl⟩
 rw [<- hq] at hc hb ⊢
 clear hq hA hx
 obtain ⟨a, c, rfl, _⟩ := id hs.op
 go_enter Tryz.func23, Tryz.ntmps23
 have hb0 : Below w.heap.size w (w.alloc (.cells #[.int .i64 p, .slice a st.length c] 26)) := bwT
 have hs := hs.below hb0; have hc := kept hb0 hc
 have d0 : (w.alloc (.cells #[.int .i64 p, .slice a st.length c] 26)).cell? ⟨w.heap.size, 0, none⟩ = some (.int .i64 p) := by simp [go_sem]
 have d1 : (w.alloc (.cells #[.int .i64 p, .slice a st.length c] 26)).cell? ⟨w.heap.size, 1, none⟩ = some (.slice a st.length c) := by simp [go_sem]
 go_wp2_with fail
 refine region_flow [(false, [(0, 1), (2, 0), (3, 0), (4, 1), (5, 0), (1, 5)]), (false, [(6, 4), (7, 0)])] (by kernel_rfl) ?_
 refine norm_K fun K hK => ?_
 change wpList _ _ _ [_, _, _, _, _, _] _ _
 have hb1 : Below (w.alloc (.cells #[.int .i64 p, .slice a st.length c] 26)).heap.size (w.alloc (.cells #[.int .i64 p, .slice a st.length c] 26)) (w.alloc (.cells #[.int .i64 p, .slice a st.length c] 26)).drew := bwT
 have hs := hs.below hb1; have hc := kept hb1 hc; have d0 := kept hb1 d0; have d1 := kept hb1 d1
 go_wp2_with fail
 refine (dfield_c).mono ?_; rintro e w2 ⟨rfl, hb2⟩
 have hs := hs.below hb2; have hc := kept hb2 hc; have d0 := kept hb2 d0; have d1 := kept hb2 d1
 go_wp2_with fail
 have hz0 : Below (w.alloc (.cells #[.int .i64 p, .slice a st.length c] 26)).drew.heap.size (w.alloc (.cells #[.int .i64 p, .slice a st.length c] 26)).drew w2 := bwT
 first | (refine hK _ _ ⟨hz0, ?_⟩; clear hK K) | refine ⟨hz0, ?_⟩
 clear hz0
 refine norm_K fun K hK => ?_
 change wpList _ _ _ [_, _] _ _
 go_wp2_with fail
 refine (num_c (by omega) (by omega)).mono ?_; rintro e w3 ⟨rfl, rfl⟩
 go_wp2_with fail
 first | (refine hK _ _ ⟨rfl, ?_⟩; clear hK K) | refine ⟨rfl, ?_⟩
 go_wp2_with fail
 go_ret
 exact ⟨rfl, bwT⟩
theorem infoR : (Tryz.prog.info? 24).map (fun i => (i.zero, i.size, i.bytes)) = some (some (.slice none 0 0), 1, 24) := by kernel_rfl
def OwV (w : World) (B : Nat) (v : Value) (us : List Value) : Prop := w.ownsRow B 24 1 v us.length us
def OwN (w : World) (B : Nat) (v : Value) (xs : List Int) : Prop := w.ownsRow B 2 1 v xs.length (xs.map (Value.int .i64))
theorem made_own {W : World} {n : Nat} (hn : n <= 1048576) : OwnI (W.alloc (.cells (madeCells #[Value.int .i64 0] n) 2)) W.heap.size W.heap.size n n (List.replicate n 0) := by
 refine OwnI.mk_ (Nat.le_refl _) (heap_alloc_new W _) ?_ ?_ (Nat.le_refl _) (by simp only [maxLen]; omega)
 ·simp [madeCells]
 ·rw [made_list]; simp
section
variable {w w' : World} {B B' : Nat} {v : Value} {us : List Value} {xs : List Int}
theorem OwV.nil (w : World) (B : Nat) : OwV w B (.slice none 0 0) [] := World.ownsRow_nil _ _ _ _
theorem OwN.nil (w : World) (B : Nat) : OwN w B (.slice none 0 0) [] := World.ownsRow_nil _ _ _ _
theorem OwV.new (h : B <= w.heap.size) : OwV (w.alloc (.cells #[] 24)) B (.slice (some ⟨w.heap.size, 0, none⟩) 0 0) [] := World.ownsRow_made _ _ _ h (by decide) rfl
theorem OwV.kept {row : Option Nat} (h : OwV w B v us) (hg : w.grownBy w' row) (hne : v.ownBlock = none \/ v.ownBlock ≠ row) : OwV w' B v us := World.ownsRow.kept h hg hne
theorem OwV.below (h : OwV w B v us) (hb : Below w.heap.size w w') : OwV w' B v us := World.ownsRow.kept h (row := none) ⟨hb.os, hb.tape, hb.output, hb.size, fun i hi _ => hb.block i hi⟩ (by
 cases v.ownBlock <;> simp)
theorem OwN.below (h : OwN w B v xs) (hb : Below w.heap.size w w') : OwN w' B v xs := World.ownsRow.kept h (row := none) ⟨hb.os, hb.tape, hb.output, hb.size, fun i hi _ => hb.block i hi⟩ (by
 cases v.ownBlock <;> simp)
theorem OwN.kept {row : Option Nat} (h : OwN w B v xs) (hg : w.grownBy w' row) (hne : v.ownBlock = none \/ v.ownBlock ≠ row) : OwN w' B v xs := World.ownsRow.kept h hg hne
theorem OwN.fr (h : OwN w B v xs) (hn : 0 < xs.length) : FrI w B v xs := by
 obtain ⟨g, cap, rfl, _⟩ := World.ownsRow.form h hn
 exact ⟨g, cap, rfl, h⟩
theorem FrI.own (h : FrI w B v xs) : OwN w B v xs := by
 obtain ⟨g, cap, rfl, h⟩ := h
 exact h
theorem row_type {E : TypeId} {n : Nat} {zs : List Value} {g : Nat} (h : w.ownsRow B E 1 v n zs) (hg : v.ownBlock = some g) : ∃ cur, w.heap[g]? = some (.cells cur E (0, 0)) := by
 rcases h.2 with ⟨rfl, _⟩ | ⟨g', cap', cur, rfl, _, hh, _⟩
 ·cases hg
 ·cases hg; exact ⟨cur, hh⟩
theorem apart {u : Value} (h : OwN w B u xs) (k : OwV w B' v us) : u.ownBlock = none \/ u.ownBlock ≠ v.ownBlock := by
 cases hu : u.ownBlock with
 | none => exact .inl rfl
 | some g =>
  refine .inr fun e => ?_
  obtain ⟨c1, h1⟩ := row_type h hu
  obtain ⟨c2, h2⟩ := row_type k e.symm
  rw [h1] at h2
  injection h2 with h3
  injection h3 with _ h4
  exact absurd h4 (by decide)
theorem OwN.lt (h : OwN w B v xs) : ∀ g, v.ownBlock = some g -> B <= g /\ g < w.heap.size := World.ownsRow.lt h
theorem OwV.lt (h : OwV w B v us) : ∀ g, v.ownBlock = some g -> B <= g /\ g < w.heap.size := World.ownsRow.lt h
end
def RowsA (w : World) (B : Nat) (us : List Value) (xss : List (List Int)) : Prop :=
 us.length = xss.length /\ (∀ j (h : j < us.length) (h' : j < xss.length), FrI w B us[j] xss[j]) /\ us.Pairwise fun a b => a.ownBlock ≠ b.ownBlock
section
variable {w w' : World} {B B' : Nat} {v u : Value} {us us' : List Value} {xss : List (List Int)} {xs : List Int}
theorem RowsA.nil (w : World) (B : Nat) : RowsA w B [] [] := ⟨rfl, fun j h => by simp at h, List.Pairwise.nil⟩
theorem RowsA.below (h : RowsA w B us xss) (hb : Below w.heap.size w w') : RowsA w' B us xss := ⟨h.1, fun j a b => (h.2.1 j a b).below hb, h.2.2⟩
theorem RowsA.more (h : RowsA w B us xss) (hB : B' <= B) : RowsA w B' us xss := ⟨h.1, fun j a b => (h.2.1 j a b).more hB, h.2.2⟩
theorem FrI.kept {row : Option Nat} (h : FrI w B u xs) (hg : w.grownBy w' row) (hne : u.ownBlock ≠ row) : FrI w' B u xs := by
 obtain ⟨g, cap, rfl, h⟩ := h
 exact ⟨g, cap, rfl, h.grown hg hne⟩
theorem FrI.blk (h : FrI w B u xs) : ∃ g, u.ownBlock = some g /\ B <= g /\ g < w.heap.size := by
 obtain ⟨g, cap, rfl, h⟩ := h
 exact ⟨g, rfl, h.lt⟩
theorem FrI.app (h : FrI w B u xs) (ho : OwV w B' v us) (hg : w.grownBy w' v.ownBlock) : FrI w' B u xs := by
 refine h.kept hg ?_
 obtain ⟨g, hgu, _⟩ := h.blk
 rcases apart h.own ho with e | e
 ·rw [hgu] at e; cases e
 ·exact e
theorem RowsA.app (h : RowsA w B us xss) (ho : OwV w B' v us') (hg : w.grownBy w' v.ownBlock) : RowsA w' B us xss := ⟨h.1, fun j a b => (h.2.1 j a b).app ho hg, h.2.2⟩
theorem RowsA.far {row : Option Nat} (h : RowsA w B us xss) (hg : w.grownBy w' row) (hne : ∀ z ∈ us, z.ownBlock ≠ row) : RowsA w' B us xss := ⟨h.1, fun j a b => (h.2.1 j a b).kept hg (hne _ (List.getElem_mem a)), h.2.2⟩
theorem RowsA.mem (h : RowsA w B us xss) {z : Value} (hz : z ∈ us) : ∃ g, z.ownBlock = some g /\ B <= g /\ g < w.heap.size := by
 obtain ⟨j, hj, rfl⟩ := List.getElem_of_mem hz
 exact (h.2.1 j hj (by have := h.1; omega)).blk
theorem RowsA.fresh (h : RowsA w B us xss) {w2 : World} (hu : FrI w2 w.heap.size u xs) : ∀ z ∈ us, z.ownBlock ≠ u.ownBlock := fun z hz e => by
 obtain ⟨g, hg, _, h2⟩ := h.mem hz
 obtain ⟨g2, hg2, h3, _⟩ := hu.blk
 rw [hg, hg2] at e
 cases e
 omega
theorem RowsA.snoc (h : RowsA w B us xss) (hu : FrI w B u xs) (hne : ∀ z ∈ us, z.ownBlock ≠ u.ownBlock) : RowsA w B (us ++ [u]) (xss ++ [xs]) := by
 refine ⟨by simp [h.1], fun j a b => ?_, List.pairwise_append.2 ⟨h.2.2, List.pairwise_singleton _ _, fun z hz y hy => by rw [List.mem_singleton.1 hy]; exact hne z hz⟩⟩
 rw [List.length_append] at a
 simp at a
 by_cases hj : j < us.length
 ·have := h.1
  rw [List.getElem_append_left hj, List.getElem_append_left (by omega)]
  exact h.2.1 j hj (by omega)
 ·obtain rfl : j = us.length := by omega
  have e := h.1
  have h1 : (us ++ [u])[us.length]'(by simp) = u := by simp
  have h2 : (xss ++ [xs])[us.length]'(by simp [e]) = xs := by simp [e]
  rw [h1, h2]; exact hu
end
section
variable {ops : Array Oper} {rest : List Oper} {o : Oper} {a : Act} {Q : Exit -> Act -> World -> Prop} {K : Act -> World -> Prop} {E : Prop}
theorem appr_one (hgd : o.guard = none) (s x : Operand)
  (ho : o.op = .call { callee := .builtin .append, args := #[s, x], argTypes := #[27, 27] })
  (W : World) (B H : Nat) (hH : W.heap.size = H) (v : Value) (us : List Value) (hs : a.eval s = v) (z : Value) (c : Nat) (hx : a.eval x = .slice (some ⟨H, 0, none⟩) 1 c) (hz : z.oneCell' = true)
  (hown : OwV W B v us) (hB : B <= W.heap.size) (hm : us.length <= 100000000)
  (h : ∀ g' cap' w', OwV w' B (.slice (some ⟨g', 0, none⟩) (us.length + 1) cap') (us ++ [z]) -> Below B W w' -> W.grownBy w' v.ownBlock -> (v.ownBlock = some g' \/ g' = H + 1) -> wpList Tryz.prog ops Q rest (a.put o.dst (.slice (some ⟨g', 0, none⟩) (us.length + 1) cap')) w') :
  wpList Tryz.prog ops Q (o :: rest) a (W.alloc (.cells #[z] 24)) := by
 subst hH
 obtain ⟨i0, hi, hz0, hz1, hz2⟩ := info_parts infoR
 refine wpList_append_lies (W.alloc (.cells #[z] 24)) hgd s x 27 ho B 24 i0 (.slice none 0 0) 1 24 Tryz.underlying27 hi hz0 hz1 hz2 rfl (by decide) v us.length us hs (World.ownsRow.alloc hown _) ⟨W.heap.size, 0, none⟩ 1 c [z] hx rfl ?_ ?_ (by decide) (by simp only [maxLen]; omega) (by omega) (by simp; omega) _ rfl ?_
 ·intro j u hu
  rw [addz]
  have : j = 0 := by
   rcases j with _ | j
   ·rfl
   ·simp at hu
  subst this
  simp at hu
  subst hu
  simp [go_sem]
 ·intro u hu
  simp at hu
  subst hu; exact hz
 ·intro g cap w' h1 h2 h3 _
  refine h g cap w' (by simpa [OwV] using h1) (((Below.refl B W).alloc hB _).grown h2 (by simp; omega) fun k hk => (OwV.lt hown k hk).1) ⟨h2.os, h2.tape, h2.output, by have := h2.size; simp at this; omega, fun k hk hne => ?_⟩ (by simpa using h3)
  rw [h2.block k (by simp; omega) hne]
  exact Below.heap_alloc _ _ _ hk
theorem appn_one (hgd : o.guard = none) (s x : Operand)
  (ho : o.op = .call { callee := .builtin .append, args := #[s, x], argTypes := #[24, 24] })
  (W : World) (B H : Nat) (hH : W.heap.size = H) (v : Value) (xs : List Int) (hs : a.eval s = v) (z : Int) (c : Nat) (hx : a.eval x = .slice (some ⟨H, 0, none⟩) 1 c)
  (hown : OwN W B v xs) (hB : B <= W.heap.size) (hm : xs.length <= 100000000)
  (h : ∀ g' cap' w', OwN w' B (.slice (some ⟨g', 0, none⟩) (xs.length + 1) cap') (xs ++ [z]) -> Below B W w' -> W.grownBy w' v.ownBlock -> (v.ownBlock = some g' \/ g' = H + 1) -> wpList Tryz.prog ops Q rest (a.put o.dst (.slice (some ⟨g', 0, none⟩) (xs.length + 1) cap')) w') :
  wpList Tryz.prog ops Q (o :: rest) a (W.alloc (.cells #[.int .i64 z] 2)) := by
 subst hH
 obtain ⟨i0, hi, hz0, hz1, hz2⟩ := info_parts infoI
 refine wpList_append_lies (W.alloc (.cells #[.int .i64 z] 2)) hgd s x 24 ho B 2 i0 (.int .i64 0) 1 8 Tryz.underlying24 hi hz0 hz1 hz2 rfl (by decide) v xs.length (xs.map (Value.int .i64)) hs (World.ownsRow.alloc hown _) ⟨W.heap.size, 0, none⟩ 1 c [.int .i64 z] hx rfl ?_ ?_ (by decide) (by simp only [maxLen]; omega) (by omega) (by simp; omega) _ rfl ?_
 ·intro j u hu
  rw [addz]
  have : j = 0 := by
   rcases j with _ | j
   ·rfl
   ·simp at hu
  subst this
  simp at hu
  subst hu
  simp [go_sem]
 ·intro u hu
  simp at hu
  subst hu; rfl
 ·intro g cap w' h1 h2 h3 _
  refine h g cap w' (by simpa [OwN] using h1) (((Below.refl B W).alloc hB _).grown h2 (by simp; omega) fun k hk => (OwN.lt hown k hk).1) ⟨h2.os, h2.tape, h2.output, by have := h2.size; simp at this; omega, fun k hk hne => ?_⟩ (by simpa using h3)
  rw [h2.block k (by simp; omega) hne]
  exact Below.heap_alloc _ _ _ hk
end
theorem oneL_len {n i : Nat} : (oneL n i).length = n := by simp [oneL]
theorem oneL_fp {p : Int} {n i : Nat} (hp : 2 <= p) : Fp p (oneL n i) := fun x hx => by
 unfold oneL at hx
 rcases List.mem_or_eq_of_mem_set hx with h | h
 ·have := List.eq_of_mem_replicate h; omega
 ·omega
theorem made_set {W : World} {n k : Nat} (u : Int) (hn : n <= 1048576) : OwnI (W.alloc (.cells ((madeCells #[Value.int .i64 0] n).setIfInBounds k (.int .i64 u)) 2)) W.heap.size W.heap.size n n ((List.replicate n 0).set k u) := by
 refine OwnI.mk_ (Nat.le_refl _) (heap_alloc_new W _) ?_ ?_ (Nat.le_refl _) (by simp only [maxLen]; omega)
 ·simp [madeCells]
 ·rw [Array.toList_setIfInBounds, made_list, List.map_set, List.take_of_length_le (by simp)]; simp
theorem unit_c {n : Nat} {w : World} (hn : n <= 1000) :
  Calls Tryz.prog 55 #[.int .i64 n] w fun e w' => ∃ v us, e = .returned v /\ OwV w' w.heap.size v us /\ RowsA w' w.heap.size us ((List.range n).map (oneL n)) /\ (0 < n -> ∃ g cap, v = .slice (some ⟨g, 0, none⟩) n cap) /\ Below w.heap.size w w' := by
 have hmk := fun W => run_make_row' (P := Tryz.prog) 24 2 (.int .i64 0) 8 Tryz.underlying24 infoI rfl .i64 .i64 n (by omega) (by omega) W
 go_enter Tryz.func55, Tryz.ntmps55
 go_wp2
 go_loopw [3, 8] (fun o i wr => ∃ (k g cap : Nat) (us : List Value), k <= n /\ i = .int .i64 k /\ o = .slice (some ⟨g, 0, none⟩) k cap /\ us.length = k /\ OwV wr w.heap.size (.slice (some ⟨g, 0, none⟩) k cap) us /\ RowsA wr w.heap.size us ((List.range k).map (oneL n)) /\ Below w.heap.size w wr)
  (fun _ i _ => n - (intOf i).toNat)
 case atStart => exact ⟨0, w.heap.size, 0, [], Nat.zero_le _, rfl, rfl, rfl, OwV.new (Nat.le_refl _), RowsA.nil _ _, bwT⟩
 case round =>
  obtain ⟨k, g, cap, us, hk, rfl, rfl, hul, ho, hr, hb⟩ := hrel
  have HU := Lib.hid hul; clear hul
  by_cases hlt : k < n
  ·have hnew := made_own (W := wr) (n := n) (by omega)
   have hold := hnew.hold (i := k) hlt
   have hfree := hnew.free k
   obtain ⟨q, hq⟩ : ∃ q, q = (List.replicate n (0 : Int)).getD k 0 := ⟨_, rfl⟩
   rw [<- hq] at hold; clear hq hnew
   have hrow := (made_set (W := wr) (n := n) (k := k) 1 (by omega)).fr
   have hbA : Below wr.heap.size wr (wr.alloc (.cells ((madeCells #[Value.int .i64 0] n).setIfInBounds k (.int .i64 1)) 2)) := bwT
   have ho := ho.below hbA
   have hr2 := hr.below hbA
   have hf := hr.fresh hrow
   have hbw := bwC hb hbA
   obtain rfl := HU.out
   go_wp2_with (at_builtin; refine appr_one rfl _ _ rfl _ w.heap.size (wr.heap.size + 1) (by simp) (.slice (some ⟨g, 0, none⟩) us.length cap) us rfl (.slice (some ⟨wr.heap.size, 0, none⟩) n n) 1 rfl rfl ho hbw.size (by omega) ?_; intro g' cap' w' ho' hb' hg' hge)
   go_roundw
   case rel =>
    refine ⟨us.length + 1, g', cap', us ++ [_], by omega, by go_num, rfl, by simp, ho', ?_, hbw.trans hb'⟩
    ·rw [List.range_succ, List.map_append]
     exact (hr2.app ho hg').snoc ((hrow.more (by have := hb.size; omega)).app ho hg') hf
   case measure => simp [intOf]; omega
  ·obtain rfl : k = n := by omega
   go_wp2
   go_ret
   exact ⟨_, us, rfl, ho, hr, fun _ => ⟨_, _, rfl⟩, hb⟩
end Go.Proofs.YteaaepbnoiecoaaGreat
