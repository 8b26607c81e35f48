/- Texts joined for a claim: HcE, Out, HeA. -/
import Derived.Test.YtilgbekffbphgaaGreatJak
import Derived.Lib.AppendZeros
import Derived.Laws.Bits64b
namespace Go.Proofs.YtilgbekffbphgaaGreat
open Go.RowKit
theorem FrI.set_ {w : World} {B : Nat} {v : Value} {xs : List Int} (h : FrI w B v xs) {p : Addr} (hp : p.block < B) (u : Value) : FrI (w.setCell p u) B v xs := by
 obtain ⟨g, cap, rfl, h⟩ := h
 exact ⟨g, cap, rfl, h.other (by have := h.lt.1; omega) u⟩
theorem FrR.set_ {w : World} {B : Nat} {v : Value} {us : List Value} {xss : List (List Int)} (h : FrR w B v us xss) {p : Addr} (hp : p.block < B) (u : Value) : FrR (w.setCell p u) B v us xss := by
 obtain ⟨g0, cap0, e0, hB, hs, _⟩ := h.lt
 obtain ⟨g, cap, rfl, h1, h2, h3, h4⟩ := h
 cases e0
 exact ⟨g0, cap0, rfl, ownsRow_of h1 (Below.heap_setCell _ _ _ _ (by omega)) hB, h2, fun j a b => (h3 j a b).set_ hp u, h4⟩
theorem FrH.set_ {w : World} {B : Nat} {v : Value} {X : Her} (h : FrH w B v X) {p : Addr} (hp : p.block < B) (u : Value) : FrH (w.setCell p u) B v X := by
 obtain ⟨d, u', us, rfl, h1, h2, h3⟩ := h
 exact ⟨d, u', us, rfl, h1.set_ hp u, h2.set_ hp u, h3⟩
theorem zero_size (n : Nat) : (Builtin.zeroCells #[Value.int .i64 0] n).size = n := by
 unfold Builtin.zeroCells
 simp
set_option maxRecDepth 100000 in
theorem grow_c {n : Nat} {w : World} (h0 : 0 < n) (hn : n <= 1000) :
  Calls Tryz.prog 123 #[.slice none 0 0, .int .i64 n] w fun e w' => ∃ g cap, e = .returned (.slice (some ⟨g, 0, none⟩) 0 cap) /\ OwnI w' w.heap.size g 0 cap [] /\ Below w.heap.size w w' := by
 obtain ⟨i0, hi, hz0, hz1, hz2⟩ := info_parts infoI
 have hrun := fun W => Lib.run_append_nil_zeros (P := Tryz.prog) W 24 3 24 2 i0 (.int .i64 0) .i64 .i64 Tryz.underlying24 Tryz.underlying3 hi hz0 n h0 (by omega) (by omega) (by rw [hz2]; omega)
 have hcap := grownCap_ge w n 0 2
 have hcap2 := grownCap_le_maxLen w n 0 2 (by simp only [maxLen]; omega)
 have hcs := zero_size
 obtain ⟨C, hC⟩ : ∃ C, C = Builtin.zeroCells #[Value.int .i64 0] n ++ Builtin.zeroCells #[Value.int .i64 0] (grownCap w n 0 2 - n) := ⟨_, rfl⟩
 have hsz : C.size = grownCap w n 0 2 := by rw [hC, Array.size_append, hcs, hcs]; omega
 have hr := hrun w
 rw [show (Value.int .i64 0).cells = #[Value.int .i64 0] from rfl, <- hC] at hr
 obtain ⟨k, hk⟩ : ∃ k, k = grownCap w n 0 2 := ⟨_, rfl⟩
 rw [<- hk] at hcap hcap2 hsz hr
 simp only [maxLen] at hcap2
 have HR := Lib.hid hr; have HS := Lib.hid hsz
 clear hrun hcs hC hr hk hsz
 go_enter Tryz.func123, Tryz.ntmps123
 go_wp2_with (at_builtin; refine Lib.wpList_append_run _ rfl _ _ _ _ rfl (.slice none 0 0) (.int .i64 n) rfl rfl _ _ HR.out ?_)
 go_ret
 exact ⟨_, _, rfl, OwnI.mk_ (cur := C) (Nat.le_refl _) (heap_alloc_new w.drew _) HS.out (by simp) (Nat.zero_le _) (by simp only [maxLen]; omega), bwT⟩
def Bx (w : World) (b : Nat) (x y : Value) : Prop := w.heap[b]? = some (.cells #[x, y] 29 (0, 0))
section
variable {w w' : World} {b : Nat} {x y : Value}
theorem Bx.lt (h : Bx w b x y) : b < w.heap.size := (Array.getElem?_eq_some_iff.1 h).1
theorem Bx.c0 (h : Bx w b x y) : w.cell? ⟨b, 0, none⟩ = some x := by
 unfold Bx at h; simp [World.cell?, h]
theorem Bx.c1 (h : Bx w b x y) : w.cell? ⟨b, 1, none⟩ = some y := by
 unfold Bx at h; simp [World.cell?, h]
theorem Bx.f0 (h : Bx w b x y) : w.frozen? ⟨b, 0, none⟩ = false := frozen_of_row _ _ _ _ _ h
theorem Bx.f1 (h : Bx w b x y) : w.frozen? ⟨b, 1, none⟩ = false := frozen_of_row _ _ _ _ _ h
theorem Bx.bl {B : Nat} (h : Bx w b x y) (hb : Below B w w') (hl : b < B) : Bx w' b x y := by
 unfold Bx at h ⊢
 rw [hb.block b hl]; exact h
theorem Bx.below (h : Bx w b x y) (hb : Below w.heap.size w w') : Bx w' b x y := h.bl hb h.lt
theorem Bx.set0 (h : Bx w b x y) (v : Value) : Bx (w.setCell ⟨b, 0, none⟩ v) b v y := heap_setCell_same _ _ _ _ _ _ h
theorem Bx.set1 (h : Bx w b x y) (v : Value) : Bx (w.setCell ⟨b, 1, none⟩ v) b x v := heap_setCell_same _ _ _ _ _ _ h
theorem Bx.far (h : Bx w b x y) {p : Addr} (hp : b ≠ p.block) (v : Value) : Bx (w.setCell p v) b x y := by
 unfold Bx at h ⊢
 rw [Below.heap_setCell _ _ _ _ hp]; exact h
end
section
variable {w : World} {B : Nat} {v : Value} {xs : List Int} {us : List Value} {xss : List (List Int)}
theorem ownsRow_set {E : TypeId} {n : Nat} {zs : List Value} (h : w.ownsRow B E 1 v n zs) {p : Addr} (hp : p.block < B) (u : Value) : (w.setCell p u).ownsRow B E 1 v n zs := by
 cases hv : v.ownBlock with
 | none =>
  refine ⟨h.1, ?_⟩
  rcases h.2 with h2 | ⟨g', cap', cur, rfl, _⟩
  ·exact .inl h2
  ·cases hv
 | some g =>
  refine ⟨h.1, ?_⟩
  rcases h.2 with h2 | ⟨g', cap', cur, rfl, h3, hh, h4⟩
  ·exact .inl h2
  ·exact .inr ⟨g', cap', cur, rfl, h3, by rw [Below.heap_setCell _ _ _ _ (by omega)]; exact hh, h4⟩
theorem OwN.set_ (h : OwN w B v xs) {p : Addr} (hp : p.block < B) (u : Value) : OwN (w.setCell p u) B v xs := ownsRow_set h hp u
theorem OwV.set_ (h : OwV w B v us) {p : Addr} (hp : p.block < B) (u : Value) : OwV (w.setCell p u) B v us := ownsRow_set h hp u
theorem RowsA.set_ (h : RowsA w B us xss) {p : Addr} (hp : p.block < B) (u : Value) : RowsA (w.setCell p u) B us xss := ⟨h.1, fun j a b => (h.2.1 j a b).set_ hp u, h.2.2⟩
end
structure Out (w : World) (N : Nat) (dv uv : Value) (us : List Value) (dg : List Int) (up : List (List Int)) : Prop where
 bx : Bx w N dv uv
 od : OwN w (N + 1) dv dg
 ou : OwV w (N + 1) uv us
 rows : RowsA w (N + 1) us up
 ne : ∀ z ∈ us, z.ownBlock ≠ dv.ownBlock
section
variable {w w' : World} {N : Nat} {dv uv : Value} {us : List Value} {dg : List Int} {up : List (List Int)}
theorem Out.start (h : Bx w N (.slice none 0 0) (.slice none 0 0)) : Out w N (.slice none 0 0) (.slice none 0 0) [] [] [] := ⟨h, OwN.nil _ _, OwV.nil _ _, RowsA.nil _ _, fun z hz => by simp at hz⟩
theorem Out.below (h : Out w N dv uv us dg up) (hb : Below w.heap.size w w') : Out w' N dv uv us dg up := ⟨h.bx.below hb, h.od.below hb, h.ou.below hb, h.rows.below hb, h.ne⟩
theorem Out.num {W : World} (h : Out W N dv uv us dg up) {nv : Value} {z : Int} {g' : Nat} (hn : nv.ownBlock = some g') (ho : OwN w' (N + 1) nv (dg ++ [z])) (hb : Below (N + 1) W w') (hg : W.grownBy w' dv.ownBlock) (hge : dv.ownBlock = some g' \/ g' = W.heap.size + 1) :
  Out (w'.setCell ⟨N, 0, none⟩ nv) N nv uv us (dg ++ [z]) up := by
 refine ⟨(h.bx.bl hb (Nat.lt_succ_self _)).set0 nv, ho.set_ (Nat.lt_succ_self _) _, (h.ou.kept hg (apart' h.od h.ou)).set_ (Nat.lt_succ_self _) _, (h.rows.far hg h.ne).set_ (Nat.lt_succ_self _) _, fun y hy => ?_⟩
 rw [hn]
 rcases hge with e | e
 ·rw [<- e]; exact h.ne y hy
 ·obtain ⟨g, hg1, _, hg2⟩ := h.rows.mem hy
  rw [hg1]
  intro e2; cases e2; omega
theorem Out.row {W : World} (h : Out W N dv uv us dg up) {z nv : Value} {xs : List Int} (hz : FrI W (N + 1) z xs) (hne : ∀ y ∈ us, y.ownBlock ≠ z.ownBlock) (hnd : z.ownBlock ≠ dv.ownBlock) (ho : OwV w' (N + 1) nv (us ++ [z])) (hb : Below (N + 1) W w') (hg : W.grownBy w' uv.ownBlock) :
  Out (w'.setCell ⟨N, 1, none⟩ nv) N dv nv (us ++ [z]) dg (up ++ [xs]) := by
 refine ⟨(h.bx.bl hb (Nat.lt_succ_self _)).set1 nv, (h.od.kept hg (apart h.od h.ou)).set_ (Nat.lt_succ_self _) _, ho.set_ (Nat.lt_succ_self _) _, ((h.rows.app h.ou hg).snoc (hz.app h.ou hg) hne).set_ (Nat.lt_succ_self _) _, fun y hy => ?_⟩
 rcases List.mem_append.1 hy with hy | hy
 ·exact h.ne y hy
 ·rw [List.mem_singleton.1 hy]; exact hnd
theorem Out.fresh (h : Out w N dv uv us dg up) {z : Value} {xs : List Int} (hz : FrI w' w.heap.size z xs) : (∀ y ∈ us, y.ownBlock ≠ z.ownBlock) /\ z.ownBlock ≠ dv.ownBlock := by
 refine ⟨h.rows.fresh hz, fun e => ?_⟩
 obtain ⟨g, hg, hg1, _⟩ := hz.blk
 rw [hg] at e
 have := (h.od.lt g e.symm).2
 omega
theorem Out.frh (h : Out w N dv uv us dg up) (h1 : 0 < dg.length) (h2 : 0 < us.length) : FrH w (N + 1) (.agg #[dv, uv]) ⟨dg, up⟩ := ⟨dv, uv, us, rfl, h.od.fr h1, frR_mk h.rows h.ou h2, h.ne⟩
theorem Out.ul (h : Out w N dv uv us dg up) : us.length = up.length := h.rows.1
end
def By (w : World) (b off n : Nat) : Prop := ∀ j, j < n -> ∃ k : Nat, k < 256 /\ w.cell? ⟨b, off + j, none⟩ = some (.int .u8 k)
def Co (w : World) (q : Nat) (v : Value) (n : Nat) : Prop := ∃ a c, v = .slice a n c /\ n <= 4096 /\ (n = 0 \/ ∃ b off, a = some ⟨b, off, none⟩ /\ b < q /\ By w b off n)
def Sx (w : World) (q : Nat) (cv : Value) (i h : Int) : Prop := w.heap[q]? = some (.cells #[cv, .int .i64 i, .int .u64 h] 67 (0, 0))
def Src (w : World) (q : Nat) : Prop := ∃ (cv : Value) (n i : Nat) (h : Int), Sx w q cv i h /\ Co w q cv n /\ i <= n /\ 0 <= h /\ h < 18446744073709551616
section
variable {w w' : World} {q n : Nat} {cv : Value} {i h' : Int}
theorem Sx.c0 (h : Sx w q cv i h') : w.cell? ⟨q, 0, none⟩ = some cv := by unfold Sx at h; simp [World.cell?, h]
theorem Sx.c1 (h : Sx w q cv i h') : w.cell? ⟨q, 1, none⟩ = some (.int .i64 i) := by unfold Sx at h; simp [World.cell?, h]
theorem Sx.c2 (h : Sx w q cv i h') : w.cell? ⟨q, 2, none⟩ = some (.int .u64 h') := by unfold Sx at h; simp [World.cell?, h]
theorem Sx.f (h : Sx w q cv i h') (k : Nat) : w.frozen? ⟨q, k, none⟩ = false := frozen_of_row _ _ _ _ _ h
theorem Sx.set1 (h : Sx w q cv i h') (i' : Int) : Sx (w.setCell ⟨q, 1, none⟩ (.int .i64 i')) q cv i' h' := heap_setCell_same _ _ _ _ _ _ h
theorem Sx.set2 (h : Sx w q cv i h') (k' : Int) : Sx (w.setCell ⟨q, 2, none⟩ (.int .u64 k')) q cv i k' := heap_setCell_same _ _ _ _ _ _ h
theorem Sx.lt (h : Sx w q cv i h') : q < w.heap.size := (Array.getElem?_eq_some_iff.1 h).1
theorem Sx.below (h : Sx w q cv i h') (hb : Below w.heap.size w w') : Sx w' q cv i h' := by
 unfold Sx at h ⊢
 rw [hb.block q (Array.getElem?_eq_some_iff.1 h).1]; exact h
theorem Sx.drew (h : Sx w q cv i h') : Sx w.drew q cv i h' := h
theorem Chg.set (w : World) (p : Addr) (v : Value) : Chg p.block (p.block + 1) w (w.setCell p v) :=
 ⟨rfl, rfl, rfl, by simp, fun k _ hr => Below.heap_setCell _ _ _ _ (by omega)⟩
theorem Co.chg {lo hi : Nat} (h : Co w q cv n) (hc : Chg lo hi w w') (hq : q <= lo) : Co w' q cv n := by
 obtain ⟨a, c, rfl, hn, h⟩ := h
 refine ⟨a, c, rfl, hn, ?_⟩
 rcases h with h | ⟨b, off, ha, hb, h⟩
 ·exact .inl h
 ·refine .inr ⟨b, off, ha, hb, fun j hj => ?_⟩
  obtain ⟨k, hk, hcell⟩ := h j hj
  exact ⟨k, hk, hc.cell hcell (.inl (by omega))⟩
theorem Co.below (h : Co w q cv n) (hb : Below w.heap.size w w') : Co w' q cv n := by
 obtain ⟨a, c, rfl, hn, h⟩ := h
 refine ⟨a, c, rfl, hn, ?_⟩
 rcases h with h | ⟨b, off, ha, hb2, h⟩
 ·exact .inl h
 ·refine .inr ⟨b, off, ha, hb2, fun j hj => ?_⟩
  obtain ⟨k, hk, hcell⟩ := h j hj
  exact ⟨k, hk, kept hb hcell⟩
theorem Co.drew_ (h : Co w q cv n) : Co w.drew q cv n := h
theorem Chg.drew_ {lo hi : Nat} : Chg lo hi w w.drew := ⟨rfl, rfl, rfl, Nat.le_refl _, fun _ _ _ => rfl⟩
theorem Src.lt (h : Src w q) : q < w.heap.size := by obtain ⟨_, _, _, _, h, _⟩ := h; exact h.lt
theorem Src.below (h : Src w q) (hb : Below w.heap.size w w') : Src w' q := by
 obtain ⟨cv, n, i, h, hx, hc, h1⟩ := h
 exact ⟨cv, n, i, h, hx.below hb, hc.below hb, h1⟩
end
theorem wrap_u64 (n : Int) : 0 <= IntKind.u64.wrap n /\ IntKind.u64.wrap n < 18446744073709551616 := by
 have e : IntKind.u64.wrap n = n % 18446744073709551616 := by simp [IntKind.wrap, IntKind.signed, IntKind.bits]
 rw [e]; omega
theorem hash_bd {h : Int} (h0 : 0 <= h) (h1 : h < 18446744073709551616) : 0 <= wrap64 (bits .and .u64 (h / 8589934592) 16777215) /\ wrap64 (bits .and .u64 (h / 8589934592) 16777215) <= 16777215 := by
 obtain ⟨k, hk⟩ := Int.eq_ofNat_of_zero_le (show 0 <= h / 8589934592 by omega)
 have e := bits_and_u64_nat k 16777215 (by omega) (by decide)
 have hle : k &&& 16777215 <= 16777215 := Nat.and_le_right
 rw [hk]
 rw [show ((16777215 : Nat) : Int) = 16777215 from rfl] at e
 rw [e]
 obtain ⟨m, hm⟩ : ∃ m, m = k &&& 16777215 := ⟨_, rfl⟩
 rw [<- hm] at hle ⊢
 have e2 : wrap64 (m : Int) = m := by simp only [wrap64]; omega
 rw [e2]; omega
theorem tmod_bd {x n : Int} (_ : 0 <= x) (h1 : 1 <= n) : 0 <= x % n /\ x % n < n :=
 ⟨Int.emod_nonneg _ (by omega), Int.emod_lt_of_pos _ (by omega)⟩
set_option maxHeartbeats 2000000 in
set_option maxRecDepth 100000 in
theorem snext_c {q : Nat} {n : Int} {w : World} (hs : Src w q) (hn1 : -9223372036854775808 <= n) (hn2 : n <= 9223372036854775807) :
  Calls Tryz.prog 32 #[.pointer (some ⟨q, 0, none⟩), .int .i64 n] w fun e w' => ∃ x : Int, e = .returned (.int .i64 x) /\ 0 <= x /\ (x < n \/ (n < 1 /\ x = 0)) /\ Src w' q /\ Chg q (q + 1) w w' /\ w'.heap.size = w.heap.size := by
 obtain ⟨cv, m, i, h, hx, hc, hi1, hh0, hh1⟩ := id hs
 obtain ⟨a, c, rfl, hm, hby⟩ := id hc
 have c0 := hx.c0; have c1 := hx.c1; have c2 := hx.c2; have f1 := hx.f 1; have f2 := hx.f 2
 by_cases h1 : n < 1
 ·go_enter Tryz.func32, Tryz.ntmps32
  go_wp2_with fail
  go_ret
  exact ⟨0, rfl, by omega, .inr ⟨h1, rfl⟩, hs, Chg.refl, rfl⟩
 ·go_enter Tryz.func32, Tryz.ntmps32
  have hwr := wrap_u64 (IntKind.u64.wrap (h * 6364136223846793005) + 1442695040888963407)
  obtain ⟨h2, hh2⟩ : ∃ y, y = IntKind.u64.wrap (IntKind.u64.wrap (h * 6364136223846793005) + 1442695040888963407) := ⟨_, rfl⟩
  have hbd := hash_bd hwr.1 hwr.2
  rw [<- hh2] at hbd hwr
  obtain ⟨x0, hx0⟩ : ∃ y, y = wrap64 (bits .and .u64 (h2 / 8589934592) 16777215) := ⟨_, rfl⟩
  rw [<- hx0] at hbd
  have HH := Lib.hid hh2; have HX := Lib.hid hx0; clear hh2 hx0
  have hx2 := hx.set2 h2
  have hc2 := hc.chg (Chg.set w ⟨q, 2, none⟩ (.int .u64 h2)) (Nat.le_refl _)
  have hch := Chg.set w ⟨q, 2, none⟩ (.int .u64 h2)
  have hsz : (w.setCell ⟨q, 2, none⟩ (.int .u64 h2)).heap.size = w.heap.size := by simp
  go_upto_region 5 with fail
  rw [<- HH.out, <- HX.out]
  obtain ⟨w1, hw1⟩ : ∃ x, x = w.setCell ⟨q, 2, none⟩ (.int .u64 h2) := ⟨_, rfl⟩
  rw [<- hw1] at hx2 hc2 hch hsz ⊢
  clear hw1 c0 c1 c2 f1 f2
  have c0 := hx2.c0; have c1 := hx2.c1; have f1 := hx2.f 1
  by_cases hlt : i < m
  ·rcases hby with h0 | ⟨b, off, rfl, hbq, _⟩
   ·omega
   obtain ⟨a2, cc2, e2, _, hby2⟩ := id hc2
   cases e2
   rcases hby2 with h0 | ⟨b2, off2, e2, _, hby2⟩
   ·omega
   cases e2
   obtain ⟨k, hk, hkc⟩ := hby2 i hlt
   have HB := Lib.hid hby2; clear hby2
   refine region_flow [(false, [(0, 0), (1, 0), (2, 0), (3, 1), (4, 0), (5, 0), (6, 0), (7, 1), (8, 0), (9, 0)])] (by kernel_rfl) ?_
   refine norm_K fun K hK => ?_
   change wpList _ _ _ [_, _, _, _, _, _, _, _, _, _] _ _
   go_wp2_with fail
   first | (refine hK _ _ ⟨rfl, ?_⟩; clear hK K) | refine ⟨rfl, ?_⟩
   go_upto_region 6 with fail
   refine region_flow [(false, [(0, 0), (1, 0), (2, 0), (3, 0), (4, 1), (5, 0), (6, 0), (7, 0), (8, 1), (9, 0), (10, 1), (11, 0), (12, 0), (13, 0)])] (by kernel_rfl) ?_
   refine norm_K fun K hK => ?_
   change wpList _ _ _ [_, _, _, _, _, _, _, _, _, _, _, _, _, _] _ _
   go_wp2_with fail
   first | (refine hK _ _ ⟨rfl, ?_⟩; clear hK K) | refine ⟨rfl, ?_⟩
   have hfin := tmod_bd (x := x0 + k) (n := n) (by omega) (by omega)
   go_wp2_with fail
   go_ret
   refine ⟨_, rfl, hfin.1, .inl hfin.2, ⟨_, m, i + 1, h2, (hx2.drew.drew.set1 ((i : Int) + 1)), ?_, by omega, hwr⟩, ?_, by simp [hsz]⟩
   ·exact (hc2.drew_.drew_).chg (Chg.set _ ⟨q, 1, none⟩ _) (Nat.le_refl _)
   ·exact (hch.trans (Chg.drew_.trans Chg.drew_)).trans (Chg.set _ ⟨q, 1, none⟩ _)
  ·have hlt2 : ¬ ((i : Int) < (m : Int)) := by omega
   refine region_flow [(false, [(0, 0), (1, 0), (2, 0), (3, 1), (4, 0), (5, 0), (6, 0), (7, 1), (8, 0), (9, 0)])] (by kernel_rfl) ?_
   refine norm_K fun K hK => ?_
   change wpList _ _ _ [_, _, _, _, _, _, _, _, _, _] _ _
   go_wp2_with fail
   first | (refine hK _ _ ⟨rfl, ?_⟩; clear hK K) | refine ⟨rfl, ?_⟩
   have hfin := tmod_bd (x := x0) (n := n) (by omega) (by omega)
   go_wp2_with fail
   go_ret
   exact ⟨_, rfl, hfin.1, .inl hfin.2, ⟨_, m, i, h2, hx2.drew, hc2.drew_, hi1, hwr⟩, hch.trans Chg.drew_, hsz⟩
section
variable {w w' w2 : World} {q n B : Nat} {cv : Value}
theorem Chg.bl {lo hi : Nat} (h : Chg lo hi w w') (hb : Below w.heap.size w' w2) : Chg lo hi w w2 :=
 ⟨hb.os.trans h.os, hb.tape.trans h.tape, hb.output.trans h.output, Nat.le_trans h.size hb.size, fun k hk hr => (hb.block k hk).trans (h.block k hk hr)⟩
theorem below_bchg {lo hi : Nat} (h : Below B w w') (hc : Chg lo hi w' w2) (hB : B <= lo) (hs : B <= w'.heap.size) : Below B w w2 :=
 ⟨hc.os.trans h.os, hc.tape.trans h.tape, hc.output.trans h.output, Nat.le_trans h.size hc.size, fun k hk => (hc.block k (by omega) (.inl (by omega))).trans (h.block k hk)⟩
theorem Co.bl (h : Co w q cv n) (hb : Below B w w') (hq : q <= B) : Co w' q cv n := by
 obtain ⟨a, c, rfl, hn, h⟩ := h
 refine ⟨a, c, rfl, hn, ?_⟩
 rcases h with h | ⟨b, off, ha, hb2, h⟩
 ·exact .inl h
 ·refine .inr ⟨b, off, ha, hb2, fun j hj => ?_⟩
  obtain ⟨k, hk, hcell⟩ := h j hj
  exact ⟨k, hk, by rw [World.cell?_of_block (w := w) (hb.block b (by omega))]; exact hcell⟩
theorem Src.bl (h : Src w q) (hb : Below B w w') (hq : q < B) : Src w' q := by
 obtain ⟨cv, n, i, h, hx, hc, h1⟩ := h
 refine ⟨cv, n, i, h, ?_, hc.bl hb (by omega), h1⟩
 unfold Sx at hx ⊢
 rw [hb.block q hq]; exact hx
end
set_option maxHeartbeats 2000000 in
set_option maxRecDepth 100000 in
theorem sfrom_c {v : Value} {n : Nat} {w : World} (hc : Co w w.heap.size v n) :
  Calls Tryz.prog 16 #[v] w fun e w' => e = .returned (.pointer (some ⟨w.heap.size, 0, none⟩)) /\ Src w' w.heap.size /\ w'.heap.size = w.heap.size + 1 /\ Below w.heap.size w w' := by
 obtain ⟨a, c, rfl, hm, hby⟩ := id hc
 go_enter Tryz.func16, Tryz.ntmps16
 go_wp2
 go_loopw [4] (fun i wr => ∃ (k : Nat) (h : Int), k <= n /\ i = .int .i64 k /\ Sx wr w.heap.size (.slice a n c) 0 h /\ 0 <= h /\ h < 18446744073709551616 /\ wr.heap.size = w.heap.size + 1 /\ Below w.heap.size w wr) (fun i _ => n - (intOf i).toNat)
 case atStart => exact ⟨0, 4409 + (n : Int), Nat.zero_le _, rfl, heap_alloc_new w _, by omega, by omega, by simp, bwT⟩
 case round =>
  obtain ⟨k, h, hk, rfl, hx, h0, h1, hsz, hb⟩ := hrel
  have c0 := hx.c0; have c1 := hx.c1; have c2 := hx.c2; have f2 := hx.f 2
  by_cases hlt : k < n
  ·have hc2 := hc.bl hb (Nat.le_refl _)
   obtain ⟨a2, cc2, e2, _, hby2⟩ := id hc2
   cases e2
   rcases hby2 with hz | ⟨b2, off2, rfl, hbq, hby2⟩
   ·omega
   obtain ⟨y, hy, hyc⟩ := hby2 k hlt
   have hlt2 : (k : Int) < 4096 := by omega
   have HB := Lib.hid hby2; have HC := Lib.hid hby; clear hby2 hby
   have hwr2 := wrap_u64 (IntKind.u64.wrap (IntKind.u64.wrap (h * 1099511628211) + y) + 11)
   go_wp2
   refine region_flow [(false, [(0, 0), (1, 0), (2, 0), (3, 0), (4, 1), (5, 0), (6, 0), (7, 0), (8, 0), (9, 1), (10, 0), (11, 0), (12, 0), (13, 0), (14, 0), (15, 4)])] (by kernel_rfl) ?_
   refine norm_K fun K hK => ?_
   change wpList _ _ _ [_, _, _, _, _, _, _, _, _, _, _, _, _, _, _, _] _ _
   go_wp2_with fail
   first | (refine hK _ _ ⟨rfl, ?_⟩; clear hK K) | refine ⟨rfl, ?_⟩
   go_wp2
   go_roundw
   case rel => exact ⟨k + 1, _, by omega, by go_num, hx.drew.set2 _, (wrap_u64 _).1, (wrap_u64 _).2, by simp [hsz], (hb.drew).setCell (Nat.le_refl _) _⟩
   case measure => simp [intOf]; omega
  ·obtain rfl : k = n := by omega
   have hnl : ¬ ((k : Int) < (k : Int)) := by omega
   go_wp2
   go_ret
   exact ⟨rfl, ⟨_, _, 0, h, hx, hc.bl hb (Nat.le_refl _), Nat.zero_le _, h0, h1⟩, hsz, hb⟩
theorem spick_c {q B g cap : Nat} {xs : List Int} {w : World} (hs : Src w q) (ho : OwnI w B g xs.length cap xs) (hg : g ≠ q) (h0 : 0 < xs.length) (hm : xs.length <= 1000) :
  Calls Tryz.prog 80 #[.pointer (some ⟨q, 0, none⟩), .slice (some ⟨g, 0, none⟩) xs.length cap] w fun e w' => ∃ x : Int, e = .returned (.int .i64 x) /\ x ∈ xs /\ Src w' q /\ Chg q (q + 1) w w' /\ w'.heap.size = w.heap.size := by
 go_enter Tryz.func80, Tryz.ntmps80
 go_wp2_with fail
 refine (snext_c hs (by omega) (by omega)).mono ?_; rintro e w1 ⟨x, rfl, hx0, hx1, hs1, hc1, hz1⟩
 obtain ⟨j, rfl⟩ := Int.eq_ofNat_of_zero_le hx0
 have hj : j < xs.length := by omega
 have hA := (OwnI.chg hc1 ho (by omega)).at
 have hcell := hA j hj
 rw [Nat.zero_add] at hcell
 have hmem : xs.getD j 0 ∈ xs := by
  rw [List.getD_eq_getElem?_getD, List.getElem?_eq_getElem hj]
  exact List.getElem_mem hj
 obtain ⟨y, hy⟩ : ∃ y, y = xs.getD j 0 := ⟨_, rfl⟩
 rw [<- hy] at hcell hmem
 clear hy hx1
 go_wp2_with fail
 go_ret
 exact ⟨y, rfl, hmem, hs1, hc1, hz1⟩
end Go.Proofs.YtilgbekffbphgaaGreat
