/-
  PeirceDimensions: the reference's basis of the hermitian matrices.
-/
import Derived.Test.YtmplpoccalccoaaGreatPdB
import Derived.Test.YtmplpoccalccoaaGreatLinE
import Derived.Test.YtmplpoccalccoaaGreatTreeB
import Derived.Test.YtmplpoccalccoaaGreatHcY
import Derived.Test.YtmplpoccalccoaaGreatHcL
import Derived.Test.YtmplpoccalccoaaGreatLawH
import Derived.Test.YtmplpoccalccoaaGreatHcX
namespace Go.Proofs.YtmplpoccalccoaaGreat
open Go.RowKit

def zH (n : Nat) : Her := ⟨[0, 0, 0], [List.replicate n 0, List.replicate n 0, List.replicate n 0]⟩
theorem mult_unit0 {p : Int} {n : Nat} : multH p (unitH n) 0 = zH n := by
  have h : ∀ n : Nat, scaleL p (List.replicate n 0) 0 = List.replicate n 0 := fun n => by
    unfold scaleL
    rw [List.map_replicate]; simp
  unfold multH unitH zH Her.r
  simp only [List.getD_cons_zero, List.getD_cons_succ, h]
  simp [scaleL]
theorem unitH_is0 {p : Int} {n : Nat} (hp : 2 ≤ p) : isH p n (unitH n) = true :=
  have h : Ev p n (List.replicate n 0) := ⟨by simp, fun x hx => by have := List.eq_of_mem_replicate hx; omega⟩
  isH_mk ⟨by omega, by omega⟩ ⟨by omega, by omega⟩ ⟨by omega, by omega⟩ h h h
theorem base_tab : ∀ n ∈ [1, 2, 4, 8], (∀ i < 3, (([0, 0, 0] : List Int).set i 1 = (baseH n i).dg ∧ (zH n).up = (baseH n i).up)) ∧
    ∀ q < 3, ∀ r < 8, r < n → ([0, 0, 0] : List Int) = (baseH n (3 + (n * q + r))).dg ∧ (zH n).up.set q ((List.replicate n (0 : Int)).set r 1) = (baseH n (3 + (n * q + r))).up := by decide +kernel
theorem sz_in {k : Nat} (h : k ≤ 3) : sz k ∈ [1, 2, 4, 8] := by
  rcases (show k = 0 ∨ k = 1 ∨ k = 2 ∨ k = 3 by omega) with rfl | rfl | rfl | rfl <;> decide
/-! ### Matrices in a row of the call's own -/
structure LstF (w : World) (B : Nat) (v : Value) (zs : List Value) (Xs : List Her) : Prop where
  own : w.ownsRow B 34 2 v Xs.length zs
  els : ∀ j (h : j < Xs.length), ∃ d u, zs[2 * j]? = some d ∧ zs[2 * j + 1]? = some u ∧ FrH w B (.agg #[d, u]) Xs[j]
section
variable {w w' : World} {B : Nat} {v : Value} {zs : List Value} {Xs : List Her}
theorem FrH.grownH {X : Her} {g : Nat} (h : FrH w B v X) (hg : w.grownBy w' (some g)) (hT : ∃ cur fr, w.heap[g]? = some (.cells cur 34 fr)) : FrH w' B v X := by
  obtain ⟨cur, fr, hT⟩ := hT
  have hI : ∀ {u : Value} {xs : List Int}, FrI w B u xs → FrI w' B u xs := fun {u xs} h => by
    obtain ⟨g1, c1, rfl, h1⟩ := h
    refine ⟨g1, c1, rfl, h1.grown hg fun e => ?_⟩
    cases e
    obtain ⟨cur2, hh, _⟩ := h1.row
    rw [hh] at hT
    injection hT with h3
    injection h3 with _ h4
    exact absurd h4 (by decide)
  obtain ⟨d, u, us, rfl, h1, h2, h3⟩ := h
  refine ⟨d, u, us, rfl, hI h1, ?_, h3⟩
  obtain ⟨g2, c2, rfl, k1, k2, k3, k4⟩ := h2
  refine ⟨g2, c2, rfl, World.ownsRow.kept k1 hg (.inr fun e => ?_), k2, fun j a b => hI (k3 j a b), k4⟩
  have e2 : g2 = g := Option.some.inj e
  subst e2
  obtain ⟨cur2, hh⟩ := row_type k1 (g := g2) rfl
  rw [hh] at hT
  injection hT with h3
  injection h3 with _ h4
  exact absurd h4 (by decide)
theorem LstF.below (h : LstF w B v zs Xs) (hb : Below w.heap.size w w') : LstF w' B v zs Xs := by
  refine ⟨World.ownsRow.kept h.own (row := none) ⟨hb.os, hb.tape, hb.output, hb.size, fun i hi _ => hb.block i hi⟩ (by cases v.ownBlock <;> simp), fun j hj => ?_⟩
  obtain ⟨d, u, h1, h2, h3⟩ := h.els j hj
  exact ⟨d, u, h1, h2, h3.below hb⟩
theorem LstF.start (hB : B ≤ w.heap.size) : LstF (w.alloc (.cells #[] 34)) B (.slice (some ⟨w.heap.size, 0, none⟩) 0 0) [] [] :=
  ⟨World.ownsRow_made _ _ _ hB (by decide) rfl, fun j h => by simp at h⟩
theorem row_type2 {E : TypeId} {n : Nat} {zs : List Value} {g : Nat} (h : w.ownsRow B E 2 v n zs) (hg : v.ownBlock = some g) : ∃ cur, w.heap[g]? = some (.cells cur E (0, 0)) := by
  rcases h.2 with ⟨rfl, _⟩ | ⟨g', cap', cur, rfl, _, hh, _⟩
  · cases hg
  · cases hg; exact ⟨cur, hh⟩
theorem LstF.snoc {W : World} {g : Nat} (h : LstF W B v zs Xs) {d u nv : Value} {X : Her} (hX : FrH W B (.agg #[d, u]) X) (hv : v.ownBlock = some g)
    (ho : w'.ownsRow B 34 2 nv (Xs.length + 1) (zs ++ [d, u])) (hg : W.grownBy w' v.ownBlock) : LstF w' B nv (zs ++ [d, u]) (Xs ++ [X]) := by
  have hlen := h.own.1
  obtain ⟨cur, hT⟩ := row_type2 h.own hv
  rw [hv] at hg
  refine ⟨by rw [List.length_append]; exact ho, fun j hj => ?_⟩
  rw [List.length_append] at hj
  simp at hj
  by_cases hj2 : j < Xs.length
  · obtain ⟨d1, u1, h1, h2, h3⟩ := h.els j hj2
    refine ⟨d1, u1, by rw [List.getElem?_append_left (by omega)]; exact h1, by rw [List.getElem?_append_left (by omega)]; exact h2, ?_⟩
    rw [List.getElem_append_left hj2]
    exact h3.grownH hg ⟨_, _, hT⟩
  · obtain rfl : j = Xs.length := by omega
    refine ⟨d, u, by rw [List.getElem?_append_right (by omega)]; simp [show 2 * Xs.length - zs.length = 0 by omega], by rw [List.getElem?_append_right (by omega)]; simp [show 2 * Xs.length + 1 - zs.length = 1 by omega], ?_⟩
    have e : (Xs ++ [X])[Xs.length]'(by simp) = X := by simp
    rw [e]
    exact hX.grownH hg ⟨_, _, hT⟩
theorem LstF.lh (h : LstF w B v zs Xs) (hn : ∃ g cap, v = .slice (some ⟨g, 0, none⟩) Xs.length cap) : Lh w v Xs := by
  obtain ⟨g, cap, rfl⟩ := hn
  refine ⟨_, cap, rfl, .inr ⟨g, 0, rfl, fun j hj => ?_⟩⟩
  obtain ⟨d, u, h1, h2, h3⟩ := h.els j hj
  have c1 := World.ownsRow.cells h.own (g := g) rfl (2 * j) d h1
  have c2 := World.ownsRow.cells h.own (g := g) rfl (2 * j + 1) u h2
  rw [addz] at c1 c2
  exact ⟨d, u, by rw [show 0 + j * 2 = 2 * j by omega]; exact c1, by rw [show 0 + j * 2 + 1 = 2 * j + 1 by omega]; exact c2, h3.hv⟩
end
theorem infoH2 : (Tryz.prog.info? 34).map (fun i => (i.zero, i.size, i.bytes)) = some (some (.agg #[.slice none 0 0, .slice none 0 0]), 2, 48) := by kernel_rfl
section
variable {ops : Array Oper} {rest : List Oper} {o : Oper} {a : Act} {Q : Exit → Act → World → Prop}
/-- append(out, matrix). -/
theorem apph_two (hgd : o.guard = none) (s x : Operand)
    (ho : o.op = .call { callee := .builtin .append, args := #[s, x], argTypes := #[46, 46] })
    (W : World) (B H : Nat) (hH : W.heap.size = H) (v : Value) (zs : List Value) (n : Nat) (hs : a.eval s = v) (d u : Value) (c : Nat) (hx : a.eval x = .slice (some ⟨H, 0, none⟩) 1 c) (hd : d.oneCell' = true) (hu : u.oneCell' = true)
    (hown : W.ownsRow B 34 2 v n zs) (hB : B ≤ W.heap.size) (hm : n ≤ 100000000)
    (h : ∀ g' cap' w', w'.ownsRow B 34 2 (.slice (some ⟨g', 0, none⟩) (n + 1) cap') (n + 1) (zs ++ [d, u]) → Below B W w' → W.grownBy w' v.ownBlock → (v.ownBlock = some g' ∨ g' = H + 1) → wpList Tryz.prog ops Q rest (a.put o.dst (.slice (some ⟨g', 0, none⟩) (n + 1) cap')) w') :
    wpList Tryz.prog ops Q (o :: rest) a (W.alloc (.cells #[d, u] 34)) := by
  subst hH
  obtain ⟨i0, hi, hz0, hz1, hz2⟩ := info_parts infoH2
  refine wpList_append_lies (W.alloc (.cells #[d, u] 34)) hgd s x 46 ho B 34 i0 (.agg #[.slice none 0 0, .slice none 0 0]) 2 48 Tryz.underlying46 hi hz0 hz1 hz2 rfl (by decide) v n zs hs (World.ownsRow.alloc hown _) ⟨W.heap.size, 0, none⟩ 1 c [d, u] hx rfl ?_ ?_ (by decide) (by simp only [maxLen]; omega) (by omega) (by simp; omega) _ rfl ?_
  · intro j y hy
    rw [addz]
    rcases j with _ | _ | j
    · simp at hy
      subst hy
      simp [go_sem]
    · simp at hy
      subst hy
      simp [go_sem]
    · simp at hy
  · intro y hy
    simp at hy
    rcases hy with rfl | rfl <;> assumption
  · intro g cap w' h1 h2 h3 _
    refine h g cap w' h1 (((Below.refl B W).alloc hB _).grown h2 (by simp; omega) fun k hk => (World.ownsRow.lt hown k hk).1) ⟨h2.os, h2.tape, h2.output, by have := h2.size; simp at this; omega, fun k hk hne => ?_⟩ (by simpa using h3)
    rw [h2.block k (by simp; omega) hne]
    exact Below.heap_alloc _ _ _ hk
end
/-! ### A number of a matrix set -/
section
variable {w : World} {B : Nat}
theorem FrH.setD {u : Value} {X : Her} {g n cap : Nat} (h : FrH w B (.agg #[.slice (some ⟨g, 0, none⟩) n cap, u]) X) (i : Nat) (x : Int) : FrH (w.setCell ⟨g, i, none⟩ (.int .i64 x)) B (.agg #[.slice (some ⟨g, 0, none⟩) n cap, u]) ⟨X.dg.set i x, X.up⟩ := by
  obtain ⟨d2, u2, us, e, h1, h2, h3⟩ := h
  cases e
  obtain ⟨g1, c1, e, h1⟩ := h1
  cases e
  have hu : u.ownBlock ≠ some g := fun e => by
    obtain ⟨g2, c2, rfl, k1, _⟩ := h2
    obtain ⟨cur2, hh⟩ := row_type k1 (g := g) e
    obtain ⟨cur3, hh3, _⟩ := h1.row
    rw [hh] at hh3
    injection hh3 with h3
    injection h3 with _ h4
    exact absurd h4 (by decide)
  refine ⟨_, u, us, rfl, ?_, h2.other (p := ⟨g, i, none⟩) hu (fun z hz => h3 z hz) _, h3⟩
  have h5 := (h1.set (i := i) x).fr
  exact h5
theorem FrH.setU {d u : Value} {X : Her} {q n : Nat} (h : FrH w B (.agg #[d, u]) X) (hq : q < X.up.length) (hn : (X.up.getD q []).length = n) (r : Nat) (x : Int) :
    ∃ g cap gr cr, u = .slice (some ⟨g, 0, none⟩) X.up.length cap ∧ w.cell? ⟨g, q, none⟩ = some (.slice (some ⟨gr, 0, none⟩) n cr) ∧ (r < n → w.cell? ⟨gr, r, none⟩ = some (.int .i64 ((X.up.getD q []).getD r 0))) ∧ w.frozen? ⟨gr, r, none⟩ = false ∧ B ≤ gr ∧ OwnI w B gr n cr (X.up.getD q []) ∧
      FrH (w.setCell ⟨gr, r, none⟩ (.int .i64 x)) B (.agg #[d, u]) ⟨X.dg, X.up.set q ((X.up.getD q []).set r x)⟩ := by
  obtain ⟨d2, u2, us, e, h1, h2, h3⟩ := h
  cases e
  have hre := h2.re
  obtain ⟨g, cap, rfl, k1, k2, k3, k4⟩ := id h2
  have hxq : X.up.getD q [] = X.up[q] := by simp [List.getD_eq_getElem?_getD, hq]
  have hfq := k3 q (by omega) hq
  rw [← hxq] at hfq
  obtain ⟨gr, cr, er, hO⟩ := hfq
  rw [hn] at er hO
  have hcell := World.ownsRow.cells k1 (g := g) rfl q (us[q]'(by omega)) (by simp)
  rw [addz, er] at hcell
  refine ⟨g, cap, gr, cr, by rw [k2], hcell, fun hr => hO.hold hr, hO.free r, hO.lt.1, hO, ?_⟩
  have hqm : us[q]'(by omega) ∈ us := List.getElem_mem _
  have hd : d.ownBlock ≠ some gr := fun e => h3 _ hqm (by rw [er, e]; rfl)
  have hg : g ≠ gr := fun e => by
    subst e
    obtain ⟨cur2, hh⟩ := row_type k1 (g := g) rfl
    obtain ⟨cur3, hh3, _⟩ := hO.row
    rw [hh] at hh3
    injection hh3 with h3
    injection h3 with _ h4
    exact absurd h4 (by decide)
  refine ⟨d, _, us, rfl, h1.other (p := ⟨gr, r, none⟩) hd _, ⟨g, cap, rfl, ownsRow_of k1 (Below.heap_setCell _ _ _ _ hg) (World.ownsRow.lt k1 g rfl).1, by rw [k2]; simp, fun j a b => ?_, k4⟩, h3⟩
  have hj : j < X.up.length := by simpa using b
  rw [List.getElem_set]
  split
  · next e =>
    subst e
    rw [er]
    exact (hO.set (i := r) x).fr
  · next e =>
    refine (k3 j a hj).other (fun e2 => ?_) _
    have hp := List.pairwise_iff_getElem.1 k4
    rcases Nat.lt_or_gt_of_ne e with h | h
    · exact hp q j (by omega) a h (by rw [er, e2]; rfl)
    · exact hp j q a (by omega) h (by rw [er, e2]; rfl)
end
theorem FrH.openZ {w : World} {B n N : Nat} {d u x y : Value} (h : FrH w B (.agg #[d, u]) (zH n)) (hN : Bx w N x y) : ∃ g1 c1 g2 c2, d = .slice (some ⟨g1, 0, none⟩) 3 c1 ∧ u = .slice (some ⟨g2, 0, none⟩) 3 c2 ∧ B ≤ g1 ∧ g1 ≠ N ∧ (∀ i < 3, w.cell? ⟨g1, i, none⟩ = some (.int .i64 0)) ∧ (∀ i, w.frozen? ⟨g1, i, none⟩ = false) := by
  obtain ⟨d2, u2, us, e, h1, h2, h3⟩ := h
  cases e
  obtain ⟨g1, c1, rfl, hO⟩ := h1
  obtain ⟨g2, c2, rfl, k1, k2, _⟩ := h2
  have hO : OwnI w B g1 3 c1 [0, 0, 0] := hO
  refine ⟨g1, c1, g2, c2, rfl, by rw [k2]; rfl, hO.lt.1, fun e => ?_, fun i hi => ?_, fun i => hO.free i⟩
  · subst e
    obtain ⟨cur3, hh3, _⟩ := hO.row
    unfold Bx at hN
    rw [hN] at hh3
    injection hh3 with h3
    injection h3 with _ h4
    exact absurd h4 (by decide)
  · have := hO.hold hi
    rw [this]
    rcases (show i = 0 ∨ i = 1 ∨ i = 2 by omega) with rfl | rfl | rfl <;> rfl
theorem Bx.apartI {w : World} {B N g n c : Nat} {x y : Value} {xs : List Int} (hN : Bx w N x y) (h : OwnI w B g n c xs) : g ≠ N := fun e => by
  subst e
  obtain ⟨cur3, hh3, _⟩ := h.row
  unfold Bx at hN
  rw [hN] at hh3
  injection hh3 with h3
  injection h3 with _ h4
  exact absurd h4 (by decide)
set_option maxHeartbeats 4000000 in
set_option maxRecDepth 100000 in
theorem sbasis_c {p : Int} {s : Value} {st : List Int} {w : World} (hd : Dok p st) (hs : El w s st) :
    Calls Tryz.prog 21 #[.agg #[.int .i64 p, s]] w fun e w' => ∃ v, e = .returned v ∧ Lh w' v ((List.range (3 + (sz st.length + sz st.length + sz st.length))).map (baseH (sz st.length))) ∧ Below w.heap.size w w' := by
  have hp1 := hd.hp.lo
  have hsz := sz_le hd
  have hl3 := hd.hl
  have iU : isH p (sz st.length) (unitH (sz st.length)) = true := unitH_is0 (by omega)
  have htab := base_tab _ (sz_in hl3)
  obtain ⟨a0, c0, rfl, _⟩ := id hs.op
  have hszc := fun W => ssize_c (w := W) (p := p) (a := a0) (n := st.length) (c := c0) (by omega)
  obtain ⟨n, hn⟩ : ∃ n, n = sz st.length := ⟨_, rfl⟩
  simp only [← hn] at hszc htab hsz ⊢
  have HN := Lib.hid hn; have HTB := Lib.hid htab; clear hn htab
  have hbW : Below w.heap.size w (w.alloc (.cells #[.int .i64 p, .slice a0 st.length c0] 32)) := (by repeat (first | exact Below.refl _ _ | apply blw_drew | apply blw_alloc | (refine blw_set ?_ (by first | omega | (simp; done) | (simp; omega)) _) | refine below_chain ?_ (by assumption)))
  have hs := hs.below hbW
  have d0 : (w.alloc (.cells #[.int .i64 p, .slice a0 st.length c0] 32)).cell? ⟨w.heap.size, 0, none⟩ = some (.int .i64 p) := by simp [go_sem]
  have d1 : (w.alloc (.cells #[.int .i64 p, .slice a0 st.length c0] 32)).cell? ⟨w.heap.size, 1, none⟩ = some (.slice a0 st.length c0) := by simp [go_sem]
  obtain ⟨W0, hW0⟩ : ∃ W, W = w.alloc (.cells #[.int .i64 p, .slice a0 st.length c0] 32) := ⟨_, rfl⟩
  rw [← hW0] at hs d0 d1 hbW
  have HW0 := Lib.hid hW0
  have hbA : Below W0.heap.size W0 (W0.alloc (.cells #[] 34)) := (by repeat (first | exact Below.refl _ _ | apply blw_drew | apply blw_alloc | (refine blw_set ?_ (by first | omega | (simp; done) | (simp; omega)) _) | refine below_chain ?_ (by assumption)))
  have hs1 := hs.below hbA; have e0 := kept hbA d0; have e1 := kept hbA d1
  have hL0 := LstF.start (w := W0) (B := W0.heap.size) (Nat.le_refl _)
  have e0' := e0; have e1' := e1
  rw [hW0] at e0' e1'
  go_enter Tryz.func21, Tryz.ntmps21
  go_wp2_with fail
  refine (hszc _).mono ?_; rintro e w1 ⟨rfl, hb1⟩
  clear e0' e1'
  rw [← hW0] at hb1
  have hz0 : W0.heap.size = w.heap.size + 1 := by rw [hW0]; simp
  rw [hz0] at hL0
  have HZ0 := Lib.hid hz0
  clear hW0 hz0
  have hL0 := hL0.below hb1
  have hb2 := below_chain hbA hb1
  clear hs1 e0 e1 hbA hb1
  go_wp2_with fail
  go_loopw [3, 5] (fun o i wr => ∃ (k g cap : Nat) (zs : List Value), k ≤ 3 + (n + n + n) ∧ i = .int .i64 k ∧ o = .slice (some ⟨g, 0, none⟩) k cap ∧ LstF wr W0.heap.size (.slice (some ⟨g, 0, none⟩) k cap) zs ((List.range k).map (baseH n)) ∧ Below W0.heap.size W0 wr)
    (fun _ i _ => 3 + (n + n + n) - (intOf i).toNat)
  case atStart => exact ⟨0, w.heap.size + 1, 0, [], Nat.zero_le _, rfl, rfl, by rw [HZ0.out]; exact hL0, hb2⟩
  case round =>
    clear hL0 hb2
    obtain ⟨k, g, cap, zs, hk, rfl, rfl, hL, hbr⟩ := hrel
    by_cases hlt : k < 3 + (n + n + n)
    · have hs := hs.below hbr; have d0 := kept hbr d0; have d1 := kept hbr d1
      generalize wr = wo at *
      go_upto_region 6 with fail
      go_cut [6] (fun s_ wx => ∃ N d u, s_ = .pointer (some ⟨N, 0, none⟩) ∧ wo.heap.size ≤ N ∧ Bx wx N d u ∧ FrH wx wo.heap.size (.agg #[d, u]) (multH p (unitH (sz st.length)) 0) ∧ Below wo.heap.size wo wx)
      case first =>
        refine region_tq [(0, 1), (1, 1)] (.two 2 5 (.two 3 5 (.lin [(false, [(4, 5)]), (false, [(5, 4)])]) 4 5 (.lin [(false, [(3, 4), (5, 4)])])) 4 5 (.lin [(false, [(2, 5)]), (false, [(3, 4), (5, 4)])])) (by kernel_rfl) ?_
        refine norm_K fun K hK => ?_
        change wpList _ _ _ [_, _] _ _
        go_wp2_with fail
        have hbq : Below wo.heap.size wo wo.drew := (by repeat (first | exact Below.refl _ _ | apply blw_drew | apply blw_alloc | (refine blw_set ?_ (by first | omega | (simp; done) | (simp; omega)) _) | refine below_chain ?_ (by assumption)))
        have hs := hs.below hbq; have d0 := kept hbq d0; have d1 := kept hbq d1
        have szq : wo.heap.size = wo.drew.heap.size := rfl
        generalize wo.drew = wq at *
        refine hK _ _ ?_; clear hK K
        refine ⟨?_, ?_⟩
        · skip
          refine norm_K fun K hK => ?_
          change wpList _ _ _ [_] _ _
          go_wp2_with fail
          refine (sunit_c hs hl3).mono ?_; rintro e w41 ⟨v1, rfl, h1, hb41⟩
          have hs := hs.below hb41; have d0 := kept hb41 d0; have d1 := kept hb41 d1
          have sz41 : wq.heap.size ≤ w41.heap.size := hb41.size
          go_wp2_with fail
          first | (refine hK _ _ ⟨(by repeat (first | exact Below.refl _ _ | apply blw_drew | apply blw_alloc | (refine blw_set ?_ (by first | omega | (simp; done) | (simp; omega)) _) | refine below_chain ?_ (by assumption))), ?_⟩; clear hK K) | refine ⟨(by repeat (first | exact Below.refl _ _ | apply blw_drew | apply blw_alloc | (refine blw_set ?_ (by first | omega | (simp; done) | (simp; omega)) _) | refine below_chain ?_ (by assumption))), ?_⟩
          refine ⟨?_, ?_⟩
          · skip
            refine norm_K fun K hK => ?_
            change wpList _ _ _ [_] _ _
            go_wp2_with fail
            refine (sscale16_c (k := 0) hd hs h1.hv iU (by decide) (by decide)).mono ?_; rintro e w42 ⟨v2, rfl, h2, hb42⟩
            have hs := hs.below hb42; have d0 := kept hb42 d0; have d1 := kept hb42 d1; have h1 := h1.below hb42
            have sz42 : w41.heap.size ≤ w42.heap.size := hb42.size
            obtain ⟨d2, u2, us2, rfl, ⟨g2, k2_, rfl, q2⟩, hu2_, hne2⟩ := id h2; obtain ⟨g3, k3_, rfl, hq3_⟩ := id hu2_; clear hq3_ hu2_ q2
            go_wp2_with fail
            first | (refine hK _ _ ⟨(by repeat (first | exact Below.refl _ _ | apply blw_drew | apply blw_alloc | (refine blw_set ?_ (by first | omega | (simp; done) | (simp; omega)) _) | refine below_chain ?_ (by assumption))), ?_⟩; clear hK K) | refine ⟨(by repeat (first | exact Below.refl _ _ | apply blw_drew | apply blw_alloc | (refine blw_set ?_ (by first | omega | (simp; done) | (simp; omega)) _) | refine below_chain ?_ (by assumption))), ?_⟩
            refine norm_K fun K hK => ?_
            change wpList _ _ _ [_] _ _
            go_wp2_with fail
            have hb43 : Below w42.heap.size w42 (w42.alloc (.cells #[.slice none 0 0, .slice none 0 0] 34)) := (by repeat (first | exact Below.refl _ _ | apply blw_drew | apply blw_alloc | (refine blw_set ?_ (by first | omega | (simp; done) | (simp; omega)) _) | refine below_chain ?_ (by assumption)))
            have h2A := h2; have hbA := hb43
            have hs := hs.below hb43; have d0 := kept hb43 d0; have d1 := kept hb43 d1; have h1 := h1.below hb43; have h2 := h2.below hb43
            have hN : Bx (w42.alloc (.cells #[.slice none 0 0, .slice none 0 0] 34)) w42.heap.size (.slice none 0 0) (.slice none 0 0) := heap_alloc_new _ _
            have sz43 : w42.heap.size + 1 = (w42.alloc (.cells #[.slice none 0 0, .slice none 0 0] 34)).heap.size := by simp
            go_wp2_with fail
            obtain ⟨w43, hw_⟩ : ∃ x, x = (w42.alloc (.cells #[.slice none 0 0, .slice none 0 0] 34)) := ⟨_, rfl⟩
            rw [← hw_] at hb43 sz43 hs d0 d1 h1 h2 hN hbA ⊢; clear hw_
            go_wp2_with fail
            first | (refine hK _ _ ⟨(by repeat (first | exact Below.refl _ _ | apply blw_drew | apply blw_alloc | (refine blw_set ?_ (by first | omega | (simp; done) | (simp; omega)) _) | refine below_chain ?_ (by assumption))), ?_⟩; clear hK K) | refine ⟨(by repeat (first | exact Below.refl _ _ | apply blw_drew | apply blw_alloc | (refine blw_set ?_ (by first | omega | (simp; done) | (simp; omega)) _) | refine below_chain ?_ (by assumption))), ?_⟩
            refine norm_K fun K hK => ?_
            change wpList _ _ _ [_] _ _
            have rc0 := hN.c0; have rc1 := hN.c1; have rf0 := hN.f0; have rf1 := hN.f1
            go_wp2_with fail
            first | (refine hK _ _ ⟨rfl, ?_⟩; clear hK K) | refine ⟨rfl, ?_⟩
            go_wp2_with fail
            go_meet
            case rel => exact ⟨w42.heap.size, _, _, rfl, by omega, (hN.set0 _).set1 _, (h2A.below (blw_set (p := ⟨w42.heap.size, 1, none⟩) (blw_set (p := ⟨w42.heap.size, 0, none⟩) hbA (Nat.le_refl _) _) (Nat.le_refl _) _)).more (by omega), (by repeat (first | exact Below.refl _ _ | apply blw_drew | apply blw_alloc | (refine blw_set ?_ (by first | omega | (simp; done) | (simp; omega)) _) | refine below_chain ?_ (by assumption)))⟩
          · skip
            refine norm_K fun K hK => ?_
            change wpList _ _ _ [_] _ _
            go_wp2_with fail
            have hb42 : Below w41.heap.size w41 (w41.alloc (.cells #[.slice none 0 0, .slice none 0 0] 34)) := (by repeat (first | exact Below.refl _ _ | apply blw_drew | apply blw_alloc | (refine blw_set ?_ (by first | omega | (simp; done) | (simp; omega)) _) | refine below_chain ?_ (by assumption)))
            have hs := hs.below hb42; have d0 := kept hb42 d0; have d1 := kept hb42 d1; have h1 := h1.below hb42
            have hN : Bx (w41.alloc (.cells #[.slice none 0 0, .slice none 0 0] 34)) w41.heap.size (.slice none 0 0) (.slice none 0 0) := heap_alloc_new _ _
            have sz42 : w41.heap.size + 1 = (w41.alloc (.cells #[.slice none 0 0, .slice none 0 0] 34)).heap.size := by simp
            go_wp2_with fail
            obtain ⟨w42, hw_⟩ : ∃ x, x = (w41.alloc (.cells #[.slice none 0 0, .slice none 0 0] 34)) := ⟨_, rfl⟩
            rw [← hw_] at hb42 sz42 hs d0 d1 h1 hN ⊢; clear hw_
            go_wp2_with fail
            first | (refine hK _ _ ⟨(by repeat (first | exact Below.refl _ _ | apply blw_drew | apply blw_alloc | (refine blw_set ?_ (by first | omega | (simp; done) | (simp; omega)) _) | refine below_chain ?_ (by assumption))), ?_⟩; clear hK K) | refine ⟨(by repeat (first | exact Below.refl _ _ | apply blw_drew | apply blw_alloc | (refine blw_set ?_ (by first | omega | (simp; done) | (simp; omega)) _) | refine below_chain ?_ (by assumption))), ?_⟩
            refine norm_K fun K hK => ?_
            change wpList _ _ _ [_, _] _ _
            go_wp2_with fail
            refine (sscale16_c (k := 0) hd hs h1.hv iU (by decide) (by decide)).mono ?_; rintro e w43 ⟨v2, rfl, h2, hb43⟩
            have hs := hs.below hb43; have d0 := kept hb43 d0; have d1 := kept hb43 d1; have h1 := h1.below hb43; have hN := hN.below hb43
            have sz43 : w42.heap.size ≤ w43.heap.size := hb43.size
            obtain ⟨d2, u2, us2, rfl, ⟨g2, k2_, rfl, q2⟩, hu2_, hne2⟩ := id h2; obtain ⟨g3, k3_, rfl, hq3_⟩ := id hu2_; clear hq3_ hu2_ q2
            have rc0 := hN.c0; have rc1 := hN.c1; have rf0 := hN.f0; have rf1 := hN.f1
            go_wp2_with fail
            first | (refine hK _ _ ⟨rfl, ?_⟩; clear hK K) | refine ⟨rfl, ?_⟩
            go_wp2_with fail
            go_meet
            case rel => exact ⟨w41.heap.size, _, _, rfl, by omega, (hN.set0 _).set1 _, ((h2.set_ (p := ⟨w41.heap.size, 0, none⟩) (show w41.heap.size < _ by omega) _).set_ (p := ⟨w41.heap.size, 1, none⟩) (show w41.heap.size < _ by omega) _).more (by omega), (by repeat (first | exact Below.refl _ _ | apply blw_drew | apply blw_alloc | (refine blw_set ?_ (by first | omega | (simp; done) | (simp; omega)) _) | refine below_chain ?_ (by assumption)))⟩
        · skip
          refine norm_K fun K hK => ?_
          change wpList _ _ _ [_] _ _
          go_wp2_with fail
          have hb41 : Below wq.heap.size wq (wq.alloc (.cells #[.slice none 0 0, .slice none 0 0] 34)) := (by repeat (first | exact Below.refl _ _ | apply blw_drew | apply blw_alloc | (refine blw_set ?_ (by first | omega | (simp; done) | (simp; omega)) _) | refine below_chain ?_ (by assumption)))
          have hs := hs.below hb41; have d0 := kept hb41 d0; have d1 := kept hb41 d1
          have hN : Bx (wq.alloc (.cells #[.slice none 0 0, .slice none 0 0] 34)) wq.heap.size (.slice none 0 0) (.slice none 0 0) := heap_alloc_new _ _
          have sz41 : wq.heap.size + 1 = (wq.alloc (.cells #[.slice none 0 0, .slice none 0 0] 34)).heap.size := by simp
          go_wp2_with fail
          obtain ⟨w41, hw_⟩ : ∃ x, x = (wq.alloc (.cells #[.slice none 0 0, .slice none 0 0] 34)) := ⟨_, rfl⟩
          rw [← hw_] at hb41 sz41 hs d0 d1 hN ⊢; clear hw_
          go_wp2_with fail
          first | (refine hK _ _ ⟨(by repeat (first | exact Below.refl _ _ | apply blw_drew | apply blw_alloc | (refine blw_set ?_ (by first | omega | (simp; done) | (simp; omega)) _) | refine below_chain ?_ (by assumption))), ?_⟩; clear hK K) | refine ⟨(by repeat (first | exact Below.refl _ _ | apply blw_drew | apply blw_alloc | (refine blw_set ?_ (by first | omega | (simp; done) | (simp; omega)) _) | refine below_chain ?_ (by assumption))), ?_⟩
          refine norm_K fun K hK => ?_
          change wpList _ _ _ [_] _ _
          go_wp2_with fail
          refine (sunit_c hs hl3).mono ?_; rintro e w42 ⟨v1, rfl, h1, hb42⟩
          have hs := hs.below hb42; have d0 := kept hb42 d0; have d1 := kept hb42 d1; have hN := hN.below hb42
          have sz42 : w41.heap.size ≤ w42.heap.size := hb42.size
          go_wp2_with fail
          first | (refine hK _ _ ⟨(by repeat (first | exact Below.refl _ _ | apply blw_drew | apply blw_alloc | (refine blw_set ?_ (by first | omega | (simp; done) | (simp; omega)) _) | refine below_chain ?_ (by assumption))), ?_⟩; clear hK K) | refine ⟨(by repeat (first | exact Below.refl _ _ | apply blw_drew | apply blw_alloc | (refine blw_set ?_ (by first | omega | (simp; done) | (simp; omega)) _) | refine below_chain ?_ (by assumption))), ?_⟩
          refine norm_K fun K hK => ?_
          change wpList _ _ _ [_, _] _ _
          go_wp2_with fail
          refine (sscale16_c (k := 0) hd hs h1.hv iU (by decide) (by decide)).mono ?_; rintro e w43 ⟨v2, rfl, h2, hb43⟩
          have hs := hs.below hb43; have d0 := kept hb43 d0; have d1 := kept hb43 d1; have hN := hN.below hb43; have h1 := h1.below hb43
          have sz43 : w42.heap.size ≤ w43.heap.size := hb43.size
          obtain ⟨d2, u2, us2, rfl, ⟨g2, k2_, rfl, q2⟩, hu2_, hne2⟩ := id h2; obtain ⟨g3, k3_, rfl, hq3_⟩ := id hu2_; clear hq3_ hu2_ q2
          have rc0 := hN.c0; have rc1 := hN.c1; have rf0 := hN.f0; have rf1 := hN.f1
          go_wp2_with fail
          first | (refine hK _ _ ⟨rfl, ?_⟩; clear hK K) | refine ⟨rfl, ?_⟩
          go_wp2_with fail
          go_meet
          case rel => exact ⟨wq.heap.size, _, _, rfl, by omega, (hN.set0 _).set1 _, ((h2.set_ (p := ⟨wq.heap.size, 0, none⟩) (show wq.heap.size < _ by omega) _).set_ (p := ⟨wq.heap.size, 1, none⟩) (show wq.heap.size < _ by omega) _).more (by omega), (by repeat (first | exact Below.refl _ _ | apply blw_drew | apply blw_alloc | (refine blw_set ?_ (by first | omega | (simp; done) | (simp; omega)) _) | refine below_chain ?_ (by assumption)))⟩
      case' rest => skip
      obtain ⟨N0, dN, uN, rfl, hN0, hN, hF, hbC⟩ := hcut
      have hs := hs.below hbC; have d0 := kept hbC d0; have d1 := kept hbC d1
      rw [mult_unit0, ← HN.out] at hF
      obtain ⟨g1, c1, g2, c2, rfl, rfl, hg1, hgN, hcz, hfz⟩ := hF.openZ hN
      have n0 := hN.c0; have n1 := hN.c1
      have hgN' : N0 ≠ g1 := fun e => hgN e.symm
      by_cases hk3 : k < 3
      · have hck := hcz k hk3
        have hfk := hfz k
        clear hcz hfz
        have hX0 := hF.setD k 1
        rw [show (Her.mk ((zH n).dg.set k 1) (zH n).up) = baseH n k by
          obtain ⟨t1, t2⟩ := HTB.out.1 k hk3
          show Her.mk (([0, 0, 0] : List Int).set k 1) (zH n).up = _
          rw [t1, t2]] at hX0
        have hX := hX0.more (B' := W0.heap.size) (by have := hbr.size; omega)
        have hbY := blw_set (p := ⟨g1, k, none⟩) hbC hg1 (.int .i64 1)
        have hL := hL.below hbY
        have hrg := Lib.hid (show (List.range (k + 1)).map (baseH n) = (List.range k).map (baseH n) ++ [baseH n k] by rw [List.range_succ, List.map_append]; rfl)
        have hrl : ((List.range k).map (baseH n)).length = k := by simp
        obtain ⟨XS, hXS⟩ : ∃ XS, XS = (List.range k).map (baseH n) := ⟨_, rfl⟩
        rw [← hXS] at hL hrl hrg
        have hown := hL.own
        rw [hrl] at hown
        have HRL := Lib.hid hrl; clear hrl hXS hX0
        go_wp2_with (at_builtin; refine apph_two rfl _ _ rfl (wc.setCell ⟨g1, k, none⟩ (.int .i64 1)) W0.heap.size wc.heap.size (by simp [World.setCell]) (.slice (some ⟨g, 0, none⟩) k cap) zs k rfl (.slice (some ⟨g1, 0, none⟩) 3 c1) (.slice (some ⟨g2, 0, none⟩) 3 c2) 1 rfl rfl rfl hown (by have := hbY.size; have := hbr.size; omega) (by omega) ?_; intro g' cap' w' ho' hb' hg' hge)
        have hL' := hL.snoc (by exact hX) rfl (by rw [HRL.out]; exact ho') hg'
        go_roundw
        case rel => exact ⟨k + 1, g', cap', _, by omega, by go_num, rfl, by rw [hrg.out]; exact hL', (below_chain hbr hbY).trans hb'⟩
        case measure => simp [intOf]; omega
      · obtain ⟨t, rfl⟩ := Nat.exists_eq_add_of_le (show 3 ≤ k by omega)
        clear n0 n1 hcz hfz
        have hk3' : ¬ ((3 + t : Nat) : Int) < 3 := by omega
        go_wp2_with fail
        refine region_flow [(false, [(0, 0), (1, 1), (2, 0), (3, 0), (4, 0), (5, 0), (6, 0), (7, 1), (8, 0), (9, 0), (10, 0), (11, 0), (12, 0), (13, 4)])] (by kernel_rfl) ?_
        refine norm_K fun K hK => ?_
        change wpList _ _ _ [_, _, _, _, _, _, _, _, _, _, _, _, _, _] _ _
        have hb21 : Below wc.heap.size wc wc.drew := (by repeat (first | exact Below.refl _ _ | apply blw_drew | apply blw_alloc | (refine blw_set ?_ (by first | omega | (simp; done) | (simp; omega)) _) | refine below_chain ?_ (by assumption)))
        have hN := hN.below hb21; have hF := hF.below hb21; have hs := hs.below hb21; have d0 := kept hb21 d0; have d1 := kept hb21 d1
        have hbC := below_chain hbC hb21
        generalize wc.drew = wq at *
        have n0 := hN.c0; have n1 := hN.c1
        have hn0 : 0 < n := by omega
        have hdm := Nat.div_add_mod t n
        have hr : t % n < n := Nat.mod_lt _ hn0
        have hq : t / n < 3 := by
          refine Nat.div_lt_of_lt_mul ?_
          rw [Nat.mul_comm]; omega
        have hqi : 0 ≤ (3 + (t : Int) - 3) / (n : Int) ∧ (3 + (t : Int) - 3) / (n : Int) < 3 := by
          rw [show 3 + (t : Int) - 3 = (t : Int) by omega]
          exact ⟨Int.natCast_nonneg (t / n), Int.ofNat_lt.2 hq⟩
        have hri : 0 ≤ (3 + (t : Int) - 3) % (n : Int) ∧ (3 + (t : Int) - 3) % (n : Int) < (n : Int) := by
          rw [show 3 + (t : Int) - 3 = (t : Int) by omega]
          exact ⟨Int.natCast_nonneg (t % n), Int.ofNat_lt.2 hr⟩
        have hzl : ((zH n).up.getD (t / n) []).length = n := by
          rcases (show ∀ x : Nat, x < 3 → x = 0 ∨ x = 1 ∨ x = 2 by omega) (t / n) hq with e | e | e <;> rw [e] <;> simp [zH]
        obtain ⟨g2', cap2', gr, cr, he2, hcr, hcx, hfr, hgr, hOr, hX0⟩ := hF.setU (q := t / n) (by exact hq) hzl (t % n) 1
        cases he2
        have hgrN := hN.apartI hOr
        have hgrN' : N0 ≠ gr := fun e => hgrN e.symm
        have hcx := hcx hr
        have hzr : (zH n).up.getD (t / n) [] = List.replicate n 0 := by
          rcases (show ∀ x : Nat, x < 3 → x = 0 ∨ x = 1 ∨ x = 2 by omega) (t / n) hq with e | e | e <;> rw [e] <;> rfl
        rw [show (Her.mk (zH n).dg ((zH n).up.set (t / n) (((zH n).up.getD (t / n) []).set (t % n) 1))) = baseH n (3 + t) by
          obtain ⟨t1, t2⟩ := HTB.out.2 (t / n) hq (t % n) (by omega) hr
          rw [hdm] at t1 t2
          rw [hzr, t2]
          show Her.mk ([0, 0, 0] : List Int) _ = _
          rw [t1]] at hX0
        have hX := hX0.more (B' := W0.heap.size) (by have := hbr.size; omega)
        have hbY := blw_set (p := ⟨gr, t % n, none⟩) hbC hgr (.int .i64 1)
        have hL := hL.below hbY
        have hrg := Lib.hid (show (List.range (3 + t + 1)).map (baseH n) = (List.range (3 + t)).map (baseH n) ++ [baseH n (3 + t)] by rw [List.range_succ, List.map_append]; rfl)
        have hrl : ((List.range (3 + t)).map (baseH n)).length = 3 + t := by simp
        obtain ⟨XS, hXS⟩ : ∃ XS, XS = (List.range (3 + t)).map (baseH n) := ⟨_, rfl⟩
        rw [← hXS] at hL hrl hrg
        have hown := hL.own
        rw [hrl] at hown
        have HRL := Lib.hid hrl; have HDM := Lib.hid hdm; clear hrl hXS hX0 hzl hzr hdm
        go_wp2_with fail
        first | (refine hK _ _ ⟨rfl, ?_⟩; clear hK K) | refine ⟨rfl, ?_⟩
        go_wp2_with (at_builtin; refine apph_two rfl _ _ rfl (wq.setCell ⟨gr, t % n, none⟩ (.int .i64 1)) W0.heap.size wq.heap.size (by simp [World.setCell]) (.slice (some ⟨g, 0, none⟩) (3 + t) cap) zs (3 + t) rfl (.slice (some ⟨g1, 0, none⟩) 3 c1) (.slice (some ⟨g2, 0, none⟩) 3 c2) 1 rfl rfl rfl hown (by have := hbY.size; have := hbr.size; omega) (by omega) ?_; intro g' cap' w' ho' hb' hg' hge)
        have hL' := hL.snoc (by exact hX) rfl (by rw [HRL.out]; exact ho') hg'
        go_roundw
        case rel => exact ⟨3 + t + 1, g', cap', _, by omega, by go_num, rfl, by rw [hrg.out]; exact hL', (below_chain hbr hbY).trans hb'⟩
        case measure => simp [intOf]; omega
    · obtain rfl : k = 3 + (n + n + n) := by omega
      go_wp2_with fail
      go_ret
      exact ⟨_, rfl, hL.lh ⟨g, cap, by simp⟩, below_chain hbW hbr⟩
end Go.Proofs.YtmplpoccalccoaaGreat
