/- Texts joined for a claim: GuS, GuB. -/
import Derived.Test.YteaaepbnoiecoaaGreatLsF
import Derived.Test.YteaaepbnoiecoaaGreatTrA
import Derived.Test.YteaaepbnoiecoaaGreatGuA
import Derived.Test.YteaaepbnoiecoaaGreatJbb
import Derived.Test.YteaaepbnoiecoaaGreatJak
import Derived.Test.YteaaepbnoiecoaaGreatJay
namespace Go.Proofs.YteaaepbnoiecoaaGreat
open Go.RowKit
section
variable {w : World} {b off b2 k B m : Nat} {xs : List Int} {xss : List (List Int)} {v : Value} {y z p : Int}
theorem At.setI (h : At w b off xs) : ∃ ys, ys.length = xs.length /\ (Fp p xs -> 0 <= z -> z < p -> Fp p ys) /\ At (w.setCell ⟨b2, k, none⟩ (.int .i64 z)) b off ys := by
 by_cases hb : b2 = b /\ off <= k /\ k < off + xs.length
 ·obtain ⟨rfl, h1, h2⟩ := hb
  refine ⟨xs.set (k - off) z, by simp, fun hf h3 h4 x hx => ?_, fun j hj => ?_⟩
  ·rcases List.mem_or_eq_of_mem_set hx with hx | rfl
   ·exact hf x hx
   ·exact ⟨h3, h4⟩
  ·rw [List.length_set] at hj
   by_cases e : j = k - off
   ·subst e
    have hc := h (k - off) hj
    rw [show off + (k - off) = k by omega] at hc ⊢
    rw [World.cell?_setCell_same w _ _ hc]
    simp [List.getD_eq_getElem?_getD, hj]
   ·rw [World.cell?_setCell_other w _ _ _ (by intro e2; cases e2; omega), h j hj]
    simp only [List.getD_eq_getElem?_getD]
    rw [List.getElem?_set_ne (by omega)]
 ·refine ⟨xs, rfl, fun hf _ _ => hf, fun j hj => ?_⟩
  rw [World.cell?_setCell_other w _ _ _ (by intro e2; cases e2; exact hb ⟨rfl, by omega, by omega⟩)]
  exact h j hj
theorem Blk.setI (h : Blk w v) : Blk (w.setCell ⟨b2, k, none⟩ (.int .i64 z)) v := fun b off sp n c e => by
 obtain ⟨cs, T, hh⟩ := h b off sp n c e
 by_cases hb : b = b2
 ·subst hb
  exact ⟨_, _, heap_setCell_same _ _ _ _ _ _ hh⟩
 ·exact ⟨cs, T, by rw [Below.heap_setCell _ _ _ _ hb]; exact hh⟩
theorem ElF.setI (h : ElF w B v xs) : ∃ ys, ys.length = xs.length /\ (Fp p xs -> 0 <= z -> z < p -> Fp p ys) /\ ElF (w.setCell ⟨b2, k, none⟩ (.int .i64 z)) B v ys := by
 obtain ⟨⟨h1, h2⟩, hf⟩ := h
 have hf' := hf.setI (b2 := b2) (k := k) (z := z)
 obtain ⟨a, c, rfl, h3, h4, h5⟩ := h1.op
 have hz : (w.setCell ⟨b2, k, none⟩ (.int .i64 z)).heap.size = w.heap.size := by simp
 rcases h5 with rfl | ⟨b, off, rfl, h5⟩
 ·exact ⟨[], rfl, fun hf _ _ => hf, ⟨El.mk_ h3 h4 (.inl rfl), fun b off sp n c e => by rw [hz]; exact h2 b off sp n c e⟩, hf'⟩
 ·obtain ⟨ys, e1, e2, e3⟩ := h5.setI (b2 := b2) (k := k) (z := z) (p := p)
  refine ⟨ys, e1, e2, ⟨?_, fun b off sp n c e => by rw [hz]; exact h2 b off sp n c e⟩, hf'⟩
  rw [<- e1] at h3 ⊢
  exact El.mk_ h3 h4 (.inr ⟨b, off, rfl, e3⟩)
theorem ReG.setI (hc : w.cell? ⟨b2, k, none⟩ = some (.int .i64 y)) (h : ReG w B v xss) : ∃ yss : List (List Int), yss.length = xss.length /\ (∀ (Q : List Int -> Prop), (∀ r ∈ xss, ∀ s : List Int, s.length = r.length -> (Fp p r -> 0 <= z -> z < p -> Fp p s) -> Q s) -> ∀ s ∈ yss, Q s) /\ ReG (w.setCell ⟨b2, k, none⟩ (.int .i64 z)) B v yss := by
 obtain ⟨a, c, rfl, h1, h2, h⟩ := h
 rcases h with rfl | ⟨b, off, rfl, hB, h⟩
 ·exact ⟨[], rfl, fun Q _ s hs => by simp at hs, a, c, rfl, h1, h2, .inl rfl⟩
 ·have key : ∀ j : Nat, ∃ ys : List Int, ∀ hj : j < xss.length, ys.length = xss[j].length /\ (Fp p xss[j] -> 0 <= z -> z < p -> Fp p ys) /\ ∃ u, (w.setCell ⟨b2, k, none⟩ (.int .i64 z)).cell? ⟨b, off + j, none⟩ = some u /\ ElF (w.setCell ⟨b2, k, none⟩ (.int .i64 z)) B u ys := fun j => by
   by_cases hj : j < xss.length
   ·obtain ⟨u, hu, he⟩ := h j hj
    obtain ⟨ys, e1, e2, e3⟩ := he.setI (b2 := b2) (k := k) (z := z) (p := p)
    refine ⟨ys, fun _ => ⟨e1, e2, u, ?_, e3⟩⟩
    rw [World.cell?_setCell_other w _ _ _ (fun e => ?_)]
    ·exact hu
    ·rw [e, hu] at hc
     obtain ⟨a2, c2, rfl, _⟩ := he.1.1.op
     cases hc
   ·exact ⟨[], fun h => absurd h hj⟩
  obtain ⟨f, hf⟩ := Classical.axiomOfChoice key
  have hl : ((List.range xss.length).map f).length = xss.length := by simp
  refine ⟨(List.range xss.length).map f, hl, fun Q hQ s hs => ?_, ?_⟩
  ·obtain ⟨j, hj, rfl⟩ := List.mem_map.1 hs
   rw [List.mem_range] at hj
   obtain ⟨e1, e2, _⟩ := hf j hj
   exact hQ _ (List.getElem_mem hj) _ e1 e2
  ·refine ⟨_, c, by rw [hl], by omega, h2, .inr ⟨b, off, rfl, hB, fun j hj => ?_⟩⟩
   rw [hl] at hj
   obtain ⟨e1, e2, u, hu, he⟩ := hf j hj
   exact ⟨u, hu, by simpa using he⟩
end
def MtR (w : World) (B : Nat) (p : Int) (m : Nat) (v : Value) : Prop := ∃ A, ReG w B v A /\ matB p m A = true
def SqR (w : World) (B m : Nat) (v : Value) : Prop := ∃ A : List (List Int), ReG w B v A /\ A.length <= m /\ ∀ r ∈ A, r.length <= m
def EvR (w : World) (B : Nat) (p : Int) (m : Nat) (v : Value) : Prop := ∃ xs, ElF w B v xs /\ Ev p m xs
section
variable {w w' : World} {B B' m : Nat} {v : Value} {p : Int}
theorem MtR.below (h : MtR w B p m v) (hb : Below w.heap.size w w') : MtR w' B p m v := by
 obtain ⟨A, h1, h2⟩ := h
 exact ⟨A, h1.below hb, h2⟩
theorem MtR.chg {lo hi : Nat} (h : MtR w B p m v) (hc : Chg lo hi w w') (hr : hi <= B) : MtR w' B p m v := by
 obtain ⟨A, h1, h2⟩ := h
 exact ⟨A, h1.chg hc hr, h2⟩
theorem MtR.more (h : MtR w B p m v) (hB : B' <= B) : MtR w B' p m v := by
 obtain ⟨A, h1, h2⟩ := h
 exact ⟨A, h1.more hB, h2⟩
theorem MtR.form (h : MtR w B p m v) : ∃ a c, v = .slice a m c := by
 obtain ⟨A, h1, h2⟩ := h
 obtain ⟨a, c, rfl⟩ := h1.shape
 rw [(matB_iff.1 h2).1]
 exact ⟨a, c, rfl⟩
theorem MtR.sq (h : MtR w B p m v) : SqR w B m v := by
 obtain ⟨A, h1, h2⟩ := h
 obtain ⟨h3, h4⟩ := matB_iff.1 h2
 exact ⟨A, h1, by omega, fun r hr => by have := (h4 r hr).1; omega⟩
theorem SqR.below (h : SqR w B m v) (hb : Below w.heap.size w w') : SqR w' B m v := by
 obtain ⟨A, h1, h2⟩ := h
 exact ⟨A, h1.below hb, h2⟩
theorem SqR.chg {lo hi : Nat} (h : SqR w B m v) (hc : Chg lo hi w w') (hr : hi <= B) : SqR w' B m v := by
 obtain ⟨A, h1, h2⟩ := h
 exact ⟨A, h1.chg hc hr, h2⟩
theorem SqR.more (h : SqR w B m v) (hB : B' <= B) : SqR w B' m v := by
 obtain ⟨A, h1, h2⟩ := h
 exact ⟨A, h1.more hB, h2⟩
theorem SqR.wide {m' : Nat} (h : SqR w B m v) (hm : m <= m') : SqR w B m' v := by
 obtain ⟨A, h1, h2, h3⟩ := h
 exact ⟨A, h1, by omega, fun r hr => by have := h3 r hr; omega⟩
theorem SqR.form (h : SqR w B m v) : ∃ a n c, v = .slice a n c := by
 obtain ⟨A, h1, h2⟩ := h
 obtain ⟨a, c, rfl⟩ := h1.shape
 exact ⟨a, _, c, rfl⟩
theorem SqR.setI {b2 k : Nat} {y z : Int} (h : SqR w B m v) (hc : w.cell? ⟨b2, k, none⟩ = some (.int .i64 y)) : SqR (w.setCell ⟨b2, k, none⟩ (.int .i64 z)) B m v := by
 obtain ⟨A, h1, h2, h3⟩ := h
 obtain ⟨A', e1, e2, e3⟩ := h1.setI (p := 0) (z := z) hc
 exact ⟨A', e3, by omega, e2 (fun s => s.length <= m) fun r hr s hs _ => by have := h3 r hr; omega⟩
theorem MtR.setI {b2 k : Nat} {y z : Int} (h : MtR w B p m v) (hc : w.cell? ⟨b2, k, none⟩ = some (.int .i64 y)) (h0 : 0 <= z) (hp : z < p) : MtR (w.setCell ⟨b2, k, none⟩ (.int .i64 z)) B p m v := by
 obtain ⟨A, h1, h2⟩ := h
 obtain ⟨h3, h4⟩ := matB_iff.1 h2
 obtain ⟨A', e1, e2, e3⟩ := h1.setI (p := p) (z := z) hc
 exact ⟨A', e3, matB_iff.2 ⟨by omega, e2 (Ev p m) fun r hr s hs hf => ⟨by rw [hs]; exact (h4 r hr).1, hf (h4 r hr).2 h0 hp⟩⟩⟩
theorem EvR.setI {b2 k : Nat} {z : Int} (h : EvR w B p m v) (h0 : 0 <= z) (hp : z < p) : EvR (w.setCell ⟨b2, k, none⟩ (.int .i64 z)) B p m v := by
 obtain ⟨xs, h1, h2, h3⟩ := h
 obtain ⟨ys, e1, e2, e3⟩ := h1.setI (b2 := b2) (k := k) (p := p) (z := z)
 exact ⟨ys, e3, by omega, e2 h3 h0 hp⟩
theorem EvR.below (h : EvR w B p m v) (hb : Below w.heap.size w w') : EvR w' B p m v := by
 obtain ⟨A, h1, h2⟩ := h
 exact ⟨A, h1.below hb, h2⟩
theorem EvR.chg {lo hi : Nat} (h : EvR w B p m v) (hc : Chg lo hi w w') (hr : hi <= B) : EvR w' B p m v := by
 obtain ⟨A, h1, h2⟩ := h
 exact ⟨A, h1.chg hc hr, h2⟩
theorem EvR.more (h : EvR w B p m v) (hB : B' <= B) : EvR w B' p m v := by
 obtain ⟨A, h1, h2⟩ := h
 exact ⟨A, h1.more hB, h2⟩
theorem MtR.at {i k : Nat} (h : MtR w B p m v) (hi : i < m) (hk : k < m) : ∃ b off c b2 o2 c2 y, v = .slice (some ⟨b, off, none⟩) m c /\ m <= c /\ c <= 9223372036854775807 /\ w.cell? ⟨b, off + i, none⟩ = some (.slice (some ⟨b2, o2, none⟩) m c2) /\ m <= c2 /\ c2 <= 9223372036854775807 /\ w.cell? ⟨b2, o2 + k, none⟩ = some (.int .i64 y) /\ (∀ j, w.frozen? ⟨b2, j, none⟩ = false) /\ B <= b2 /\ b2 < w.heap.size := by
 obtain ⟨A, ⟨a, c, rfl, h1, h2, h⟩, hm⟩ := h
 obtain ⟨h3, h4⟩ := matB_iff.1 hm
 rcases h with rfl | ⟨b, off, rfl, hB, h⟩
 ·simp at h3; omega
 ·obtain ⟨u, hu, ⟨he, hl⟩, hf⟩ := h i (by omega)
  have hr := (h4 _ (List.getElem_mem (show i < A.length by omega))).1
  obtain ⟨b2, o2, c2, rfl, g1, g2, hA⟩ := he.op1 (by omega)
  have hc := hA k (by omega)
  have hlt := hl _ _ _ _ _ rfl
  obtain ⟨cs, T, hh⟩ := hf _ _ _ _ _ rfl
  exact ⟨b, off, c, b2, o2, c2, _, by rw [h3], by omega, h2, by rw [<- hr]; exact hu, by omega, g2, hc, fun j => frozen_of_row _ _ _ _ _ hh, hlt.1, hlt.2⟩
theorem EvR.at {k : Nat} (h : EvR w B p m v) (hk : k < m) : ∃ b off c y, v = .slice (some ⟨b, off, none⟩) m c /\ m <= c /\ c <= 9223372036854775807 /\ w.cell? ⟨b, off + k, none⟩ = some (.int .i64 y) /\ (∀ j, w.frozen? ⟨b, j, none⟩ = false) /\ B <= b /\ b < w.heap.size := by
 obtain ⟨xs, ⟨⟨he, hl⟩, hf⟩, h3, h4⟩ := h
 obtain ⟨b, off, c, rfl, g1, g2, hA⟩ := he.op1 (by omega)
 have hc := hA k (by omega)
 have hlt := hl _ _ _ _ _ rfl
 obtain ⟨cs, T, hh⟩ := hf _ _ _ _ _ rfl
 exact ⟨b, off, c, _, by rw [h3], by omega, g2, hc, fun j => frozen_of_row _ _ _ _ _ hh, hlt.1, hlt.2⟩
theorem MtR.keep (h : MtR w B p m v) (hz : w.heap.size <= w'.heap.size) (hk : ∀ b, B <= b -> b < w.heap.size -> w'.heap[b]? = w.heap[b]?) : MtR w' B p m v := by
 obtain ⟨A, h1, h2⟩ := h
 exact ⟨A, h1.keep hz hk, h2⟩
theorem SqR.keep (h : SqR w B m v) (hz : w.heap.size <= w'.heap.size) (hk : ∀ b, B <= b -> b < w.heap.size -> w'.heap[b]? = w.heap[b]?) : SqR w' B m v := by
 obtain ⟨A, h1, h2⟩ := h
 exact ⟨A, h1.keep hz hk, h2⟩
end
def TrE (w : World) (A B C : List (List Int)) (e : Ending) (w' : World) : Prop := ∃ a b c, e = .returned (.agg #[a, b, c]) /\ ReG w' w.heap.size a A /\ ReG w' w.heap.size b B /\ ReG w' w.heap.size c C /\ Below w.heap.size w w'
section
variable {w w' : World} {B : Nat} {v : Value} {xss : List (List Int)}
theorem tre_fin {W : World} {N r : Nat} {a b c : Value} {A B C : List (List Int)} (hr : r < N) (hwr : w.heap.size <= r) (ha : ReG W N a A) (hb : ReG W N b B) (hc : ReG W N c C) (hw : Below w.heap.size w W) :
  TrE w A B C (.returned (.agg #[a, b, c])) (((W.setCell ⟨r, 0, none⟩ a).setCell ⟨r, 1, none⟩ b).setCell ⟨r, 2, none⟩ c) := by
 have hN : w.heap.size <= N := by omega
 exact ⟨a, b, c, rfl, (((ha.set hr _).set hr _).set hr _).more hN, (((hb.set hr _).set hr _).set hr _).more hN, (((hc.set hr _).set hr _).set hr _).more hN, bwS (bwS (bwS hw hwr _) hwr _) hwr _⟩
end
theorem sumR_mat {p : Int} {m : Nat} {A B : List (List Int)} {k : Int} (hp : 1 <= p) (mA : matB p m A = true) (mB : matB p m B = true) : matB p m (sumR p A k B) = true := by
 obtain ⟨a1, a2⟩ := matB_iff.1 mA
 obtain ⟨b1, b2⟩ := matB_iff.1 mB
 refine matB_iff.2 ⟨by unfold sumR; simp; omega, fun r hr => ?_⟩
 unfold sumR at hr
 obtain ⟨i, hi, rfl⟩ := List.getElem_of_mem hr
 simp only [List.length_zipWith] at hi
 rw [List.getElem_zipWith]
 exact Ev.plus hp (a2 _ (List.getElem_mem (by omega))) (b2 _ (List.getElem_mem (by omega)))
def mulC (p : Int) (m : Nat) (A B : List (List Int)) : List (List Int) := colsM m fun k => applyL p A (colL B k)
theorem mulC_mat {p : Int} {m : Nat} {A B : List (List Int)} (hp : 1 <= p) (mA : matB p m A = true) : matB p m (mulC p m A B) = true := (colsM_ok fun i _ => applyL_ev hp mA _).1
theorem un_mat {p : Int} {st xs : List Int} (hd : Dok p st) (hx : Ev p (sz st.length) xs) : matB p (sz st.length) (unA p st xs) = true /\ matB p (sz st.length) (unB p st xs) = true /\ matB p (sz st.length) (unC p st xs) = true := by
 obtain ⟨e1, e2, e3⟩ := unit_ev hd hx
 exact ⟨(colsM_ok fun i _ => e1 i).1, (colsM_ok fun i _ => e2 i).1, (colsM_ok fun i _ => e3 i).1⟩
section
variable {p : Int} {s x y z : Value} {st xs ys zs : List Int} {w : World}
set_option maxHeartbeats 4000000 in
theorem sown2_c {m : Value} {L : List (List Int)} (hr : Re w m L) (hL : ∀ r ∈ L, 0 < r.length /\ r.length <= 1000) (h0 : 0 < L.length) (hn : L.length <= 1000) :
  Calls Tryz.prog 111 #[m] w fun e w' => ∃ v, e = .returned v /\ ReG w' w.heap.size v L /\ Below w.heap.size w w' := by
 obtain ⟨ar, cr, rfl, hr1, hr2, hR⟩ := hr
 obtain ⟨b, off, rfl, hcell⟩ := hR.resolve_left (fun e => by rw [e] at h0; simp at h0)
 have HL := Lib.hid hL; clear hL
 have h0i : (0 : Int) < L.length := by omega
 have hb0 : Below w.heap.size w (w.alloc (.cells #[] 24)) := bwT
 have hl0 := LsF.new (w := w) (B := w.heap.size) (Nat.le_refl _)
 go_enter Tryz.func111, Tryz.ntmps111
 go_wp2_with fail
 go_loopw [3, 4] (fun o q wr => ∃ (k : Nat) (us : List Value), k <= L.length /\ q = .int .i64 k /\ LsF wr w.heap.size o us (L.take k) /\ Below w.heap.size w wr) (fun _ q _ => L.length - (intOf q).toNat)
 case atStart => exact ⟨0, [], Nat.zero_le _, rfl, hl0, hb0⟩
 case round =>
  clear hl0 hb0
  obtain ⟨k, us, hk, rfl, hl, hbr⟩ := hrel
  obtain ⟨al, cl, rfl⟩ := hl.form
  have hul := hl.len; rw [List.length_take, Nat.min_eq_left hk] at hul
  have HUL := Lib.hid hul; clear hul
  by_cases hlt : k < L.length
  ·have hlti : (k : Int) < L.length := by omega
   obtain ⟨a3, c3, t, ht, hc, hE, htk⟩ := Re.get hcell hlt
   have hc := kept hbr hc
   have hE := hE.below hbr
   have htl := HL.out t ht
   have HT := Lib.hid htk; clear htk
   obtain ⟨I, hI⟩ : ∃ I, I = L.take k := ⟨_, rfl⟩
   rw [<- hI] at hl HT
   clear hI
   generalize wr = wo at *
   go_wp2_with fail
   refine (own_c hE.sl htl.1 (by omega)).mono ?_; rintro e w4 ⟨v4, rfl, hv4, hb4⟩
   obtain ⟨a4, c4, rfl, _⟩ := id hv4.el.op
   have hzn := hl.fresh hv4.elr
   have hl4 := hl.below hb4
   have hz4 : ElF w4 w.heap.size _ t := hv4.elf.more hbr.size
   have hb5 := hbr.trans (hb4.mono hbr.size)
   clear hl hE hc hv4 hb4
   go_wp2_with (at_builtin; refine appr_one rfl _ _ rfl w4 w.heap.size _ rfl (.slice al us.length cl) us rfl (.slice a4 t.length c4) 1 rfl rfl hl4.own hb5.size (by have := HUL.out; omega) ?_; intro g' cap' w8 hown' hgb' hg' hge)
   have hl8 := hl4.snoc hz4 hzn (nv := .slice (some ⟨g', 0, none⟩) (us.length + 1) cap') rfl hown' hgb' hg' hge
   go_roundw
   case rel => exact ⟨k + 1, _, by omega, by go_num, by rw [HT.out]; exact hl8, hb5.trans hgb'⟩
   case measure => simp [intOf]; omega
  ·obtain rfl : k = L.length := by omega
   have hlf : ¬ (L.length : Int) < L.length := by omega
   rw [take_all (Nat.le_refl _)] at hl
   go_wp2_with fail
   go_ret
   exact ⟨_, rfl, hl.reg, hbr⟩
set_option maxHeartbeats 4000000 in
theorem sown15_c {a b c : Value} {A B C : List (List Int)} {m : Nat} (hm1 : 1 <= m) (hm8 : m <= 16) (hA : Re w a A) (hB : Re w b B) (hC : Re w c C) (mA : matB p m A = true) (mB : matB p m B = true) (mC : matB p m C = true) :
  Calls Tryz.prog 112 #[.agg #[a, b, c]] w fun e w' => TrE w A B C e w' := by
 obtain ⟨a1, c1, rfl, _⟩ := id hA
 obtain ⟨a2, c2, rfl, _⟩ := id hB
 obtain ⟨a3, c3, rfl, _⟩ := id hC
 have kk : ∀ {M : List (List Int)} {v : Value} {W : World}, matB p m M = true -> Re W v M -> Calls Tryz.prog 111 #[v] W fun e w' => ∃ v, e = .returned v /\ ReG w' W.heap.size v M /\ Below W.heap.size W w' := fun hM h => by
  obtain ⟨h1, h2⟩ := matB_iff.1 hM
  exact sown2_c h (fun r hr => by have := (h2 r hr).1; omega) (by omega) (by omega)
 have kA := fun W v (h : Re W v A) => kk mA h
 have kB := fun W v (h : Re W v B) => kk mB h
 have kC := fun W v (h : Re W v C) => kk mC h
 clear kk mA mB mC
 go_enter Tryz.func112, Tryz.ntmps112
 have hb0 : Below w.heap.size w ((w.alloc (.cells #[.slice a1 A.length c1, .slice a2 B.length c2, .slice a3 C.length c3] 29)).alloc (.cells #[.slice none 0 0, .slice none 0 0, .slice none 0 0] 29)) := bwT
 have hA := hA.below hb0; have hB := hB.below hb0; have hC := hC.below hb0
 have e0 : ((w.alloc (.cells #[.slice a1 A.length c1, .slice a2 B.length c2, .slice a3 C.length c3] 29)).alloc (.cells #[.slice none 0 0, .slice none 0 0, .slice none 0 0] 29)).cell? ⟨w.heap.size, 0, none⟩ = some (.slice a1 A.length c1) := by simp [go_sem]
 have e1 : ((w.alloc (.cells #[.slice a1 A.length c1, .slice a2 B.length c2, .slice a3 C.length c3] 29)).alloc (.cells #[.slice none 0 0, .slice none 0 0, .slice none 0 0] 29)).cell? ⟨w.heap.size, 1, none⟩ = some (.slice a2 B.length c2) := by simp [go_sem]
 have e2 : ((w.alloc (.cells #[.slice a1 A.length c1, .slice a2 B.length c2, .slice a3 C.length c3] 29)).alloc (.cells #[.slice none 0 0, .slice none 0 0, .slice none 0 0] 29)).cell? ⟨w.heap.size, 2, none⟩ = some (.slice a3 C.length c3) := by simp [go_sem]
 have r0 : ((w.alloc (.cells #[.slice a1 A.length c1, .slice a2 B.length c2, .slice a3 C.length c3] 29)).alloc (.cells #[.slice none 0 0, .slice none 0 0, .slice none 0 0] 29)).cell? ⟨w.heap.size + 1, 0, none⟩ = some (.slice none 0 0) := by simp [go_sem]
 have r1 : ((w.alloc (.cells #[.slice a1 A.length c1, .slice a2 B.length c2, .slice a3 C.length c3] 29)).alloc (.cells #[.slice none 0 0, .slice none 0 0, .slice none 0 0] 29)).cell? ⟨w.heap.size + 1, 1, none⟩ = some (.slice none 0 0) := by simp [go_sem]
 have r2 : ((w.alloc (.cells #[.slice a1 A.length c1, .slice a2 B.length c2, .slice a3 C.length c3] 29)).alloc (.cells #[.slice none 0 0, .slice none 0 0, .slice none 0 0] 29)).cell? ⟨w.heap.size + 1, 2, none⟩ = some (.slice none 0 0) := by simp [go_sem]
 have hr : Bt ((w.alloc (.cells #[.slice a1 A.length c1, .slice a2 B.length c2, .slice a3 C.length c3] 29)).alloc (.cells #[.slice none 0 0, .slice none 0 0, .slice none 0 0] 29)) (w.heap.size + 1) (.slice none 0 0) (.slice none 0 0) (.slice none 0 0) := by
  have h := heap_alloc_new (w.alloc (.cells #[.slice a1 A.length c1, .slice a2 B.length c2, .slice a3 C.length c3] 29)) (.cells #[.slice none 0 0, .slice none 0 0, .slice none 0 0] 29)
  rw [show (w.alloc (.cells #[.slice a1 A.length c1, .slice a2 B.length c2, .slice a3 C.length c3] 29)).heap.size = w.heap.size + 1 by simp] at h
  exact h
 clear r0 r1 r2
 go_wp2_with fail
 refine region_flow [(false, [(0, 0), (1, 1), (3, 0), (4, 1), (6, 0), (7, 1), (2, 5)]), (false, [(5, 5)]), (false, [(8, 4), (9, 0), (10, 4)])] (by kernel_rfl) ?_
 refine norm_K fun K hK => ?_
 change wpList _ _ _ [_, _, _, _, _, _, _] _ _
 have hb1 : Below ((w.alloc (.cells #[.slice a1 A.length c1, .slice a2 B.length c2, .slice a3 C.length c3] 29)).alloc (.cells #[.slice none 0 0, .slice none 0 0, .slice none 0 0] 29)).heap.size ((w.alloc (.cells #[.slice a1 A.length c1, .slice a2 B.length c2, .slice a3 C.length c3] 29)).alloc (.cells #[.slice none 0 0, .slice none 0 0, .slice none 0 0] 29)) ((w.alloc (.cells #[.slice a1 A.length c1, .slice a2 B.length c2, .slice a3 C.length c3] 29)).alloc (.cells #[.slice none 0 0, .slice none 0 0, .slice none 0 0] 29)).drew := bwT
 have hA := hA.below hb1; have hB := hB.below hb1; have hC := hC.below hb1; have e0 := kept hb1 e0; have e1 := kept hb1 e1; have e2 := kept hb1 e2; have hr := hr.below hb1
 generalize ((w.alloc (.cells #[.slice a1 A.length c1, .slice a2 B.length c2, .slice a3 C.length c3] 29)).alloc (.cells #[.slice none 0 0, .slice none 0 0, .slice none 0 0] 29)).drew = wq at *
 have hzq : w.heap.size + 1 + 1 <= wq.heap.size := by have := hb1.size; simpa using this
 go_wp2_with fail
 refine (kA _ _ hA).mono ?_; rintro e w2 ⟨v1, rfl, h1, hb2⟩
 have hA := hA.below hb2; have hB := hB.below hb2; have hC := hC.below hb2; have e0 := kept hb2 e0; have e1 := kept hb2 e1; have e2 := kept hb2 e2; have hr := hr.below hb2
 go_wp2_with fail
 have hz0 : Below wq.heap.size wq w2 := bwT
 first | (refine hK _ _ ⟨hz0, ?_⟩; clear hK K) | refine ⟨hz0, ?_⟩
 clear hz0
 refine norm_K fun K hK => ?_
 change wpList _ _ _ [_] _ _
 obtain ⟨g1, k1, rfl⟩ := h1.shape
 have h1 := h1.more hzq
 go_wp2_with fail
 refine (kB _ _ hB).mono ?_; rintro e w3 ⟨v2, rfl, h2, hb3⟩
 have hA := hA.below hb3; have hB := hB.below hb3; have hC := hC.below hb3; have e0 := kept hb3 e0; have e1 := kept hb3 e1; have e2 := kept hb3 e2; have hr := hr.below hb3; have h1 := h1.below hb3
 go_wp2_with fail
 have hz1 : Below wq.heap.size wq w3 := bwT
 first | (refine hK _ _ ⟨hz1, ?_⟩; clear hK K) | refine ⟨hz1, ?_⟩
 clear hz1
 refine norm_K fun K hK => ?_
 change wpList _ _ _ [_, _, _] _ _
 obtain ⟨g2, k2, rfl⟩ := h2.shape
 have h2 := h2.more (Nat.le_trans hzq hb2.size)
 go_wp2_with fail
 refine (kC _ _ hC).mono ?_; rintro e w4 ⟨v3, rfl, h3, hb4⟩
 have hA := hA.below hb4; have hB := hB.below hb4; have hC := hC.below hb4; have e0 := kept hb4 e0; have e1 := kept hb4 e1; have e2 := kept hb4 e2; have hr := hr.below hb4; have h1 := h1.below hb4; have h2 := h2.below hb4
 obtain ⟨g3, k3, rfl⟩ := h3.shape
 have h3 := h3.more (Nat.le_trans hzq (Nat.le_trans hb2.size hb3.size))
 have hfin : Below w.heap.size w w4 := bwT
 have r0 := hr.c0; have r1 := hr.c1; have r2 := hr.c2; have rf0 := hr.f 0; have rf1 := hr.f 1; have rf2 := hr.f 2
 go_wp2_with fail
 first | (refine hK _ _ ⟨rfl, ?_⟩; clear hK K) | refine ⟨rfl, ?_⟩
 go_wp2_with fail
 refine bodyPost_ret (v := .agg #[.slice g1 A.length k1, .slice g2 B.length k2, .slice g3 C.length k3]) (by simp [results, Tryz.results112, go_sem, r0, r1, r2]) rfl ?_
 exact tre_fin (by omega) (by omega) h1 h2 h3 hfin
end
end Go.Proofs.YteaaepbnoiecoaaGreat
