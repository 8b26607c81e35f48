import Derived.Deep.CutBlock
import Derived.Test.YteaaepbnoiecoaaGreatJbl
import Derived.Test.YteaaepbnoiecoaaGreatDpL
namespace Go.Proofs.YteaaepbnoiecoaaGreat
open Go.RowKit
def SqE (w : World) (B m : Nat) (v : Value) : Prop := ∃ A : List (List Int), ReR w B v A /\ A.length <= m /\ ∀ r ∈ A, r.length <= m
section
variable {w w' : World} {B B' m N : Nat} {v a b c : Value} {p : Int}
theorem SqE.keep (h : SqE w B m v) (hz : w.heap.size <= w'.heap.size) (hk : ∀ b, B <= b -> b < w.heap.size -> w'.heap[b]? = w.heap[b]?) : SqE w' B m v := by
 obtain ⟨A, h1, h2⟩ := h
 exact ⟨A, h1.keep hz hk, h2⟩
theorem SqE.below (h : SqE w B m v) (hb : Below w.heap.size w w') : SqE w' B m v := h.keep hb.size fun b _ h2 => hb.block b h2
theorem SqE.chg {lo hi : Nat} (h : SqE w B m v) (hc : Chg lo hi w w') (hr : hi <= B) : SqE w' B m v := h.keep hc.size fun b h1 h2 => hc.block b h2 (.inr (Nat.le_trans hr h1))
theorem SqE.more (h : SqE w B m v) (hB : B' <= B) : SqE w B' m v := by
 obtain ⟨A, h1, h2⟩ := h
 exact ⟨A, h1.more hB, h2⟩
theorem SqE.form (h : SqE w B m v) : ∃ a n c, v = .slice a n c := by
 obtain ⟨A, ⟨a, c, rfl, _⟩, _⟩ := h
 exact ⟨a, _, c, rfl⟩
theorem SqR.sqe (h : SqR w B m v) : SqE w B m v := by
 obtain ⟨A, h1, h2⟩ := h
 exact ⟨A, h1.rer, h2⟩
theorem MtR.sqe (h : MtR w B p m v) (hm : m <= 16) : SqE w B 16 v := (h.sq.wide hm).sqe
def Tq (w : World) (B N : Nat) (p : Int) (m : Nat) (a b c : Value) : Prop := ∃ (W : World) (lo : Nat), B <= lo /\ Tm W lo p m a b c /\ W.heap.size <= w.heap.size /\ (∀ b, lo <= b -> b < W.heap.size -> b ≠ N) /\ ∀ b, lo <= b -> b < W.heap.size -> w.heap[b]? = W.heap[b]?
theorem Tq.tm (h : Tq w B N p m a b c) : Tm w B p m a b c := by
 obtain ⟨W, lo, h1, h2, h3, _, h5⟩ := h
 exact (h2.keep h3 h5).more h1
theorem Tq.below (h : Tq w B N p m a b c) (hb : Below w.heap.size w w') : Tq w' B N p m a b c := by
 obtain ⟨W, lo, h1, h2, h3, h4, h5⟩ := h
 exact ⟨W, lo, h1, h2, Nat.le_trans h3 hb.size, h4, fun b hb1 hb2 => by rw [hb.block b (by omega)]; exact h5 b hb1 hb2⟩
theorem Tq.chg {lo' hi : Nat} (h : Tq w B N p m a b c) (hc : Chg lo' hi w w') (hr : hi <= B) : Tq w' B N p m a b c := by
 obtain ⟨W, lo, h1, h2, h3, h4, h5⟩ := h
 exact ⟨W, lo, h1, h2, Nat.le_trans h3 hc.size, h4, fun b hb1 hb2 => by rw [hc.block b (by omega) (.inr (by omega))]; exact h5 b hb1 hb2⟩
theorem Tq.set (h : Tq w B N p m a b c) (k : Nat) (u : Value) : Tq (w.setCell ⟨N, k, none⟩ u) B N p m a b c := by
 obtain ⟨W, lo, h1, h2, h3, h4, h5⟩ := h
 exact ⟨W, lo, h1, h2, by simpa using h3, h4, fun b hb1 hb2 => by rw [Below.heap_setCell _ _ _ _ (h4 b hb1 hb2)]; exact h5 b hb1 hb2⟩
theorem Tq.old (h : Tm w B p m a b c) (hN : w.heap.size <= N) : Tq w B N p m a b c := ⟨w, B, Nat.le_refl _, h, Nat.le_refl _, fun b _ h2 => by omega, fun _ _ _ => rfl⟩
theorem Tq.new (h : Tm w B' p m a b c) (hB : B <= B') (hN : N < B') : Tq w B N p m a b c := ⟨w, B', hB, h, Nat.le_refl _, fun b h1 _ => by omega, fun _ _ _ => rfl⟩
theorem Bt.noint {b k : Nat} {y : Int} {a1 a2 a3 : Option Addr} {n1 n2 n3 c1 c2 c3 : Nat} (h : Bt w N (.slice a1 n1 c1) (.slice a2 n2 c2) (.slice a3 n3 c3)) (hc : w.cell? ⟨b, k, none⟩ = some (.int .i64 y)) : b ≠ N := by
 rintro rfl
 unfold Bt at h
 simp only [World.cell?, h] at hc
 rcases k with _ | _ | _ | k <;> simp at hc
theorem cell_blk {b k : Nat} (h : w.cell? ⟨b, k, none⟩ = some v) : ∃ cs T fr, w.heap[b]? = some (.cells cs T fr) := by
 unfold World.cell? at h
 split at h
 ·exact ⟨_, _, _, by assumption⟩
 ·cases h
theorem MtR.at0 (h : MtR w B p m v) (h0 : 0 < m) : ∃ b off c b2 o2 c2 y, v = .slice (some ⟨b, off, none⟩) m c /\ w.cell? ⟨b, off, none⟩ = some (.slice (some ⟨b2, o2, none⟩) m c2) /\ w.cell? ⟨b2, o2, none⟩ = some (.int .i64 y) /\ (∀ j, w.frozen? ⟨b2, j, none⟩ = false) /\ B <= b2 /\ b2 < w.heap.size /\ B <= b /\ ∃ cs T fr, w.heap[b]? = some (.cells cs T fr) := by
 have hB : ∀ b off c, v = .slice (some ⟨b, off, none⟩) m c -> B <= b := fun b off c e => by
  obtain ⟨A, ⟨a, c', rfl, h1, h2, h⟩, hm⟩ := h
  obtain ⟨h3, _⟩ := matB_iff.1 hm
  rcases h with rfl | ⟨b', off', rfl, hB, _⟩
  ·simp at h3; omega
  ·cases e; exact hB
 obtain ⟨b, off, c, b2, o2, c2, y, rfl, _, _, h1, _, _, h2, h3, h4, h5⟩ := h.at h0 h0
 rw [Nat.add_zero] at h1 h2
 exact ⟨b, off, c, b2, o2, c2, y, rfl, h1, h2, h3, h4, h5, hB _ _ _ rfl, cell_blk h1⟩
end
def DrTr (w : World) (q : Nat) (e : Ending) (w' : World) : Prop := ∃ (p : Int) (v a b c : Value) (st : List Int), e = .returned (.tuple #[.agg #[.int .i64 p, v], .agg #[a, b, c]]) /\ 0 <= p /\ p <= 17 /\ st.length <= 5 /\ ElR w' w.heap.size v st /\ SqE w' w.heap.size 16 a /\ SqE w' w.heap.size 16 b /\ SqE w' w.heap.size 16 c /\ Src w' q /\ Chg q (q + 1) w w'
theorem drtr_fin {w W : World} {q : Nat} {p : Int} {v a b c : Value} {st : List Int} (hq : q < w.heap.size) (hp1 : 0 <= p) (hp2 : p <= 17) (hl : st.length <= 5) (hE : ElR W (w.heap.size + 1 + 1) v st) (ha : SqE W (w.heap.size + 1 + 1) 16 a) (hb : SqE W (w.heap.size + 1 + 1) 16 b) (hcc : SqE W (w.heap.size + 1 + 1) 16 c)
  (hs : Src W q) (hc : Chg q (q + 1) w W) : DrTr w q (.returned (.tuple #[.agg #[.int .i64 p, v], .agg #[a, b, c]])) (((((W.setCell ⟨w.heap.size, 0, none⟩ (.int .i64 p)).setCell ⟨w.heap.size, 1, none⟩ v).setCell ⟨w.heap.size + 1, 0, none⟩ a).setCell ⟨w.heap.size + 1, 1, none⟩ b).setCell ⟨w.heap.size + 1, 2, none⟩ c) := by
 have hk : ∀ x, w.heap.size + 1 + 1 <= x -> x < W.heap.size -> (((((W.setCell ⟨w.heap.size, 0, none⟩ (.int .i64 p)).setCell ⟨w.heap.size, 1, none⟩ v).setCell ⟨w.heap.size + 1, 0, none⟩ a).setCell ⟨w.heap.size + 1, 1, none⟩ b).setCell ⟨w.heap.size + 1, 2, none⟩ c).heap[x]? = W.heap[x]? := fun x hx _ => by
  rw [Below.heap_setCell _ _ _ _ (show x ≠ w.heap.size + 1 by omega), Below.heap_setCell _ _ _ _ (show x ≠ w.heap.size + 1 by omega), Below.heap_setCell _ _ _ _ (show x ≠ w.heap.size + 1 by omega), Below.heap_setCell _ _ _ _ (show x ≠ w.heap.size by omega), Below.heap_setCell _ _ _ _ (show x ≠ w.heap.size by omega)]
 have hz : W.heap.size <= (((((W.setCell ⟨w.heap.size, 0, none⟩ (.int .i64 p)).setCell ⟨w.heap.size, 1, none⟩ v).setCell ⟨w.heap.size + 1, 0, none⟩ a).setCell ⟨w.heap.size + 1, 1, none⟩ b).setCell ⟨w.heap.size + 1, 2, none⟩ c).heap.size := by simp
 have hbF : Below w.heap.size W (((((W.setCell ⟨w.heap.size, 0, none⟩ (.int .i64 p)).setCell ⟨w.heap.size, 1, none⟩ v).setCell ⟨w.heap.size + 1, 0, none⟩ a).setCell ⟨w.heap.size + 1, 1, none⟩ b).setCell ⟨w.heap.size + 1, 2, none⟩ c) :=
  (((((Below.refl _ W).setCell (p := ⟨w.heap.size, 0, none⟩) (Nat.le_refl _) _).setCell (p := ⟨w.heap.size, 1, none⟩) (Nat.le_refl _) _).setCell (p := ⟨w.heap.size + 1, 0, none⟩) (Nat.le_succ _) _).setCell (p := ⟨w.heap.size + 1, 1, none⟩) (Nat.le_succ _) _).setCell (p := ⟨w.heap.size + 1, 2, none⟩) (Nat.le_succ _) _
 exact ⟨p, v, a, b, c, st, rfl, hp1, hp2, hl, (hE.keep hz fun x off sp n cc e => hk x (hE.2 _ _ _ _ _ e).1 (hE.2 _ _ _ _ _ e).2).more (by omega), (ha.keep hz hk).more (by omega), (hb.keep hz hk).more (by omega), (hcc.keep hz hk).more (by omega), hs.bl hbF hq, hc.bl hbF⟩
theorem sdrawmx_t {q : Nat} {p : Int} {x : Value} {st : List Int} {w : World} (hs : Src w q) (hx : ElR w (q + 1) x st) (hp0 : 0 <= p) (hp1 : p <= 17) (hn : st.length <= 5) :
  Calls Tryz.prog 92 #[.pointer (some ⟨q, 0, none⟩), .agg #[.int .i64 p, x]] w fun e w' => ∃ v, e = .returned v /\ SqE w' w.heap.size 16 v /\ Src w' q /\ Chg q (q + 1) w w' :=
 (sdrawmx_c hs hx hp0 hp1 hn).mono fun e w' ⟨v, xss, h1, h2, h3, h4, h5, h6⟩ => ⟨v, h1, ⟨xss, h4, h2, h3⟩, h5, h6⟩
set_option maxHeartbeats 16000000 in
set_option maxRecDepth 100000 in
theorem sdrawtri_c {q : Nat} {w : World} (hs : Src w q) :
  Calls Tryz.prog 52 #[.pointer (some ⟨q, 0, none⟩)] w fun e w' => DrTr w q e w' := by
 have hq := hs.lt
 go_enter Tryz.func52, Tryz.ntmps52
 go_wp2_with fail
 obtain ⟨W0, hW0⟩ : ∃ x, x = ((w.alloc (.cells #[.int .i64 0, .slice none 0 0] 26)).alloc (.cells #[.slice none 0 0, .slice none 0 0, .slice none 0 0] 29)) := ⟨_, rfl⟩
 have hb0 : Below w.heap.size w W0 := by rw [hW0]; exact bwT
 have hRd : Bd W0 w.heap.size (.int .i64 0) (.slice none 0 0) := by rw [hW0]; exact Bd.below (heap_alloc_new w _) bwT
 have hR : Bt W0 (w.heap.size + 1) (.slice none 0 0) (.slice none 0 0) (.slice none 0 0) := by
  have h := heap_alloc_new (w.alloc (.cells #[.int .i64 0, .slice none 0 0] 26)) (.cells #[.slice none 0 0, .slice none 0 0, .slice none 0 0] 29)
  rw [show (w.alloc (.cells #[.int .i64 0, .slice none 0 0] 26)).heap.size = w.heap.size + 1 by simp] at h
  rw [hW0]; exact h
 have hzz : w.heap.size + 1 + 1 <= W0.heap.size := by rw [hW0]; simp
 have hs := hs.below hb0
 have hc : Chg q (q + 1) w W0 := Chg.below hb0
 rw [<- hW0]; clear hW0 hb0
 refine (sdrawany_c hs (by decide) (by decide)).mono ?_; rintro e w1 ⟨p, v, st, rfl, hp1, hp2, hl5, ho, hs, hc1⟩
 have hE := ho.elr.more hzz
 obtain ⟨av, cv, rfl⟩ := hE.shape_
 have hRd := hRd.chg hc1 (.inr (by omega)); have hR := hR.chg hc1 (.inr (by omega)); have hc := hc.trans hc1
 have hzz := Nat.le_trans hzz hc1.size
 clear hc1 ho
 go_upto_region 2 with fail
 obtain ⟨W2, hW2⟩ : ∃ x, x = w1.alloc (.cells #[.int .i64 p, .slice av st.length cv] 26) := ⟨_, rfl⟩
 obtain ⟨M, hM_⟩ : ∃ M, M = w1.heap.size := ⟨_, rfl⟩
 have hb2 : Below w1.heap.size w1 W2 := by rw [hW2]; exact bwT
 have hBd : Bd W2 M (.int .i64 p) (.slice av st.length cv) := by rw [hW2, hM_]; exact heap_alloc_new w1 _
 have hMz : w.heap.size + 1 + 1 <= M := by rw [hM_]; exact hzz
 have hEM : ∀ b off sp n cc, Value.slice av st.length cv = .slice (some ⟨b, off, sp⟩) n cc -> b < M := fun b off sp n cc e => by rw [hM_]; exact (hE.2 b off sp n cc e).2
 rw [<- hW2, <- hM_]
 have hRd := hRd.below hb2; have hR := hR.below hb2; have hE := hE.below hb2; have hs := hs.below hb2; have hc := hc.bl (hb2.mono hc.size)
 have hzz := Nat.le_trans hzz hb2.size
 clear hb2 hW2 hM_
 obtain ⟨G, hG⟩ : ∃ G, G = (!(isD p st) || decide (3 < st.length)) := ⟨_, rfl⟩
 have HG := Lib.hid hG; clear hG
 go_cut [16] (fun s wx => s = .bool G /\ Bd wx M (.int .i64 p) (.slice av st.length cv) /\ Bd wx w.heap.size (.int .i64 0) (.slice none 0 0) /\ Bt wx (w.heap.size + 1) (.slice none 0 0) (.slice none 0 0) (.slice none 0 0) /\ ElR wx (w.heap.size + 1 + 1) (.slice av st.length cv) st /\ Src wx q /\ Chg q (q + 1) w wx /\ w.heap.size + 1 + 1 <= wx.heap.size)
 case first =>
  have d0 := hBd.c0; have d1 := hBd.c1
  have k := sisd_c (w := W2) (p := p) hE.1.sl (by omega)
  obtain ⟨bx, hbx⟩ : ∃ b, b = isD p st := ⟨_, rfl⟩
  rw [<- hbx] at k
  have HB := Lib.hid hbx; clear hbx
  go_wp2_with fail
  refine k.mono ?_; rintro e w3 ⟨rfl, hb3⟩
  have hBd := hBd.below hb3; have hRd := hRd.below hb3; have hR := hR.below hb3; have hE := hE.below hb3; have hs := hs.below hb3; have hc := hc.bl (hb3.mono hc.size)
  have hzz := Nat.le_trans hzz hb3.size
  clear hb3 d0 d1 k
  have d0 := hBd.c0; have d1 := hBd.c1
  cases bx with
  | false =>
   go_wp2_with fail
   go_meet
   case rel => exact ⟨by rw [HG.out, <- HB.out]; rfl, hBd, hRd, hR, hE, hs, hc, hzz⟩
  | true =>
   have hdi : decide ((3 : Int) < (st.length : Int)) = decide (3 < st.length) := by rw [decide_eq_decide]; omega
   go_wp2_with fail
   all_goals
    go_meet
    case rel => exact ⟨by rw [HG.out, <- HB.out]; simp <;> omega, hBd, hRd, hR, hE, hs, hc, hzz⟩
 case' rest => skip
 clear hBd hRd hR hE hs hc hzz
 obtain ⟨rfl, hBd, hRd, hR, hE, hs, hc, hzz⟩ := hcut
 have hBdM := hBd.lt
 cases G with
 | true =>
  go_upto_region 3 with fail
  refine @region_flowR ⟨q, q + 1⟩ _ [(false, [(0, 1), (1, 0), (2, 1), (4, 0), (5, 1), (7, 0), (8, 1), (3, 5)]), (false, [(6, 5)]), (false, [(9, 5)]), (false, [(10, 0), (11, 4), (12, 4)])] _ _ _ _ _ (by kernel_rfl) ?_
  refine norm_K fun K hK => ?_
  change wpList _ _ _ [_, _, _, _, _, _, _, _] _ _
  have hbq : Below wc.heap.size wc wc.drew := bwT
  have hBd := hBd.below hbq; have hRd := hRd.below hbq; have hR := hR.below hbq; have hE := hE.below hbq; have hs := hs.below hbq; have hc := hc.bl (hbq.mono hc.size)
  have hzz : w.heap.size + 1 + 1 <= wc.drew.heap.size := hzz
  clear hbq
  generalize wc.drew = wq at *
  have hcq : Chg q (q + 1) wq wq := Chg.refl
  have d0 := hBd.c0; have d1 := hBd.c1; have hld := hBd
  go_wp2_with fail
  refine (sdrawmx_t hs (hE.more (by omega)) hp1 hp2 hl5).mono ?_; rintro e w4 ⟨v1, rfl, hm1, hs, hc4⟩
  obtain ⟨a1, n1, c1, rfl⟩ := hm1.form
  have hm1 := hm1.more hzz
  have hBd := hBd.chg hc4 (.inr (by omega)); have hRd := hRd.chg hc4 (.inr (by omega)); have hR := hR.chg hc4 (.inr (by omega)); have hE := hE.chg hc4 (by omega); have hc := hc.trans hc4
  have hzz := Nat.le_trans hzz hc4.size; have hcq := hcq.trans hc4
  clear hc4
  go_wp2_with fail
  first | (refine hK _ _ ⟨hcq, ?_⟩; clear hK K) | refine ⟨hcq, ?_⟩
  refine norm_K fun K hK => ?_
  change wpList _ _ _ [_] _ _
  go_wp2_with fail
  refine (sdrawmx_t hs (hE.more (by omega)) hp1 hp2 hl5).mono ?_; rintro e w5 ⟨v2, rfl, hm2, hs, hc5⟩
  obtain ⟨a2, n2, c2, rfl⟩ := hm2.form
  have hm2 := hm2.more hzz
  have hm1 := hm1.chg hc5 (by omega)
  have hBd := hBd.chg hc5 (.inr (by omega)); have hRd := hRd.chg hc5 (.inr (by omega)); have hR := hR.chg hc5 (.inr (by omega)); have hE := hE.chg hc5 (by omega); have hc := hc.trans hc5
  have hzz := Nat.le_trans hzz hc5.size; have hcq := hcq.trans hc5
  clear hc5
  go_wp2_with fail
  first | (refine hK _ _ ⟨hcq, ?_⟩; clear hK K) | refine ⟨hcq, ?_⟩
  refine norm_K fun K hK => ?_
  change wpList _ _ _ [_] _ _
  go_wp2_with fail
  refine (sdrawmx_t hs (hE.more (by omega)) hp1 hp2 hl5).mono ?_; rintro e w6 ⟨v3, rfl, hm3, hs, hc6⟩
  obtain ⟨a3, n3, c3, rfl⟩ := hm3.form
  have hm3 := hm3.more hzz
  have hm1 := hm1.chg hc6 (by omega); have hm2 := hm2.chg hc6 (by omega)
  have hBd := hBd.chg hc6 (.inr (by omega)); have hRd := hRd.chg hc6 (.inr (by omega)); have hR := hR.chg hc6 (.inr (by omega)); have hE := hE.chg hc6 (by omega); have hc := hc.trans hc6
  have hcq := hcq.trans hc6
  clear hc6
  go_wp2_with fail
  first | (refine hK _ _ ⟨hcq, ?_⟩; clear hK K) | refine ⟨hcq, ?_⟩
  refine norm_K fun K hK => ?_
  change wpList _ _ _ [_, _, _] _ _
  have e0 := hRd.c0; have e1 := hRd.c1; have ef0 := hRd.f 0; have ef1 := hRd.f 1; have r0 := hR.c0; have r1 := hR.c1; have r2 := hR.c2; have rf0 := hR.f 0; have rf1 := hR.f 1; have rf2 := hR.f 2
  go_wp2_with fail
  first | (refine hK _ _ ⟨⟨rfl, ?_⟩, ?_⟩; clear hK K) | refine ⟨⟨rfl, ?_⟩, ?_⟩
  ·repeat' (first | exact trivial | exact ⟨_, rfl, (show M < q \/ q + 1 <= M by omega), _, _, _, hld⟩ | refine And.intro ?_ ?_)
  go_wp2_with fail
  refine bodyPost_ret (v := .tuple #[.agg #[.int .i64 p, .slice av st.length cv], .agg #[.slice a1 n1 c1, .slice a2 n2 c2, .slice a3 n3 c3]]) (by simp [results, Tryz.results52, go_sem, e0, e1, r0, r1, r2]) rfl ?_
  exact drtr_fin hq hp1 hp2 hl5 hE hm1 hm2 hm3 hs hc
 | false =>
  have hGo := HG.out
  have hd : Dok p st := by
   have h := HG.out.symm
   simp at h
   exact Dok.of h.1 (by omega)
  have hp13 := hd.hp.hi; have hsz := sz_le hd; have hl3 := hd.hl; have hplo := hd.hp.lo
  clear hGo HG
  have d0 := hBd.c0; have d1 := hBd.c1
  go_wp2_with fail
  refine (sdrawlo_c hd hs (hE.more (by omega))).mono ?_; rintro e w4 ⟨x1, x2, x3, rfl, hT, hs, hc4⟩
  obtain ⟨a1_, c1_, a2_, c2_, a3_, c3_, rfl, rfl, rfl⟩ := hT.form
  have hBd := hBd.chg hc4 (.inr (by omega)); have hRd := hRd.chg hc4 (.inr (by omega)); have hR := hR.chg hc4 (.inr (by omega)); have hE := hE.chg hc4 (by omega); have hc := hc.trans hc4
  have hT := hT.more hBdM
  have hzz := Nat.le_trans hzz hc4.size
  have hBdM := Nat.lt_of_lt_of_le hBdM hc4.size
  clear hc4 d0 d1
  go_upto_region 5 with fail
  obtain ⟨W5, hW5⟩ : ∃ x, x = w4.alloc (.cells #[.slice a1_ (sz st.length) c1_, .slice a2_ (sz st.length) c2_, .slice a3_ (sz st.length) c3_] 29) := ⟨_, rfl⟩
  obtain ⟨N, hN_⟩ : ∃ N, N = w4.heap.size := ⟨_, rfl⟩
  have hb5 : Below w4.heap.size w4 W5 := by rw [hW5]; exact bwT
  have hN : Bt W5 N (.slice a1_ (sz st.length) c1_) (.slice a2_ (sz st.length) c2_) (.slice a3_ (sz st.length) c3_) := by rw [hW5, hN_]; exact heap_alloc_new w4 _
  have hNz : w.heap.size + 1 + 1 <= N := by rw [hN_]; exact hzz
  have hNM : M < N := by rw [hN_]; exact hBdM
  have hTq : Tq W5 (M + 1) N p (sz st.length) (.slice a1_ (sz st.length) c1_) (.slice a2_ (sz st.length) c2_) (.slice a3_ (sz st.length) c3_) := (Tq.old hT (Nat.le_of_eq hN_.symm)).below hb5
  rw [<- hW5, <- hN_]
  have hBd := hBd.below hb5; have hRd := hRd.below hb5; have hR := hR.below hb5; have hE := hE.below hb5; have hs := hs.below hb5; have hc := hc.bl (hb5.mono hc.size)
  clear hb5 hW5 hN_ hT hzz hBdM
  go_wp2_with fail
  refine (snext_c hs (by decide) (by decide)).mono ?_; rintro e w6 ⟨y, rfl, hy0_, hy1_, hs, hc6, hz6_⟩
  have hBd := hBd.chg hc6 (.inr (by omega)); have hRd := hRd.chg hc6 (.inr (by omega)); have hR := hR.chg hc6 (.inr (by omega)); have hE := hE.chg hc6 (by omega); have hc := hc.trans hc6
  have hN := hN.chg hc6 (.inr (by omega)); have hTq := hTq.chg hc6 (by omega)
  clear hc6 hz6_ hy0_ hy1_
  go_upto_if 33 with fail
  go_cut [] (fun wx => ∃ a1 c1 a2 c2 a3 c3, Bt wx N (.slice a1 (sz st.length) c1) (.slice a2 (sz st.length) c2) (.slice a3 (sz st.length) c3) /\ Tq wx (M + 1) N p (sz st.length) (.slice a1 (sz st.length) c1) (.slice a2 (sz st.length) c2) (.slice a3 (sz st.length) c3) /\ Src wx q /\ Chg q (q + 1) w wx /\ Bd wx M (.int .i64 p) (.slice av st.length cv) /\ Bd wx w.heap.size (.int .i64 0) (.slice none 0 0) /\ Bt wx (w.heap.size + 1) (.slice none 0 0) (.slice none 0 0) (.slice none 0 0) /\ ElR wx (w.heap.size + 1 + 1) (.slice av st.length cv) st)
  case first =>
   by_cases hy : y = 0
   case neg =>
    have hyb : (y == 0) = false := by simpa using hy
    go_wp2_with fail
    go_meet
    case rel => exact ⟨_, _, _, _, _, _, hN, hTq, hs, hc, hBd, hRd, hR, hE⟩
   have hyb : (y == 0) = true := by simpa using hy
   clear hy
   have d0 := hBd.c0; have d1 := hBd.c1
   have hNl := hN.lt
   go_wp2_with fail
   refine (sdrawgl_c hd hs (hE.more (by omega))).mono ?_; rintro e w7 ⟨y1, y2, y3, rfl, hP, hs, hc7⟩
   obtain ⟨e1_, f1_, e2_, f2_, e3_, f3_, rfl, rfl, rfl⟩ := hP.form
   have hBd := hBd.chg hc7 (.inr (by omega)); have hRd := hRd.chg hc7 (.inr (by omega)); have hR := hR.chg hc7 (.inr (by omega)); have hE := hE.chg hc7 (by omega); have hc := hc.trans hc7
   have hN := hN.chg hc7 (.inr (by omega))
   clear hc7 d0 d1 hTq
   have n0 := hN.c0; have n1 := hN.c1; have n2 := hN.c2; have nf0 := hN.f 0; have nf1 := hN.f 1; have nf2 := hN.f 2
   go_wp2_with fail
   go_meet
   case rel =>
    have hbF := fun x y z => blw_set3 (v := w7) (x := x) (y := y) (z := z) (Nat.le_refl N)
    exact ⟨_, _, _, _, _, _, hN.put _ _ _, Tq.new (hP.set3 hNl _ _ _) (by omega) hNl, hs.bl (hbF _ _ _) (by omega), hc.bl ((hbF _ _ _).mono (by omega)), hBd.bl (hbF _ _ _) (by omega), hRd.bl (hbF _ _ _) (by omega), hR.bl (hbF _ _ _) (by omega), hE.keep (by simp) fun b off sp n cc e => by
     have e1 := hE.2 _ _ _ _ _ e
     rw [(hbF _ _ _).block b (by have := hEM b off sp n cc e; omega)]⟩
  case' rest => skip
  clear hN hTq hs hc hBd hRd hR hE
  obtain ⟨a1, c1, a2, c2, a3, c3, hN, hTq, hs, hc, hBd, hRd, hR, hE⟩ := hcut
  go_wp2_with fail
  refine (snext_c hs (by decide) (by decide)).mono ?_; rintro e w8 ⟨y, rfl, hy0_, hy1_, hs, hc8, hz8_⟩
  have hBd := hBd.chg hc8 (.inr (by omega)); have hRd := hRd.chg hc8 (.inr (by omega)); have hR := hR.chg hc8 (.inr (by omega)); have hE := hE.chg hc8 (by omega); have hc := hc.trans hc8
  have hN := hN.chg hc8 (.inr (by omega)); have hTq := hTq.chg hc8 (by omega)
  clear hc8 hz8_ hy0_ hy1_
  go_upto_block 0 with fail
  go_cut [] (fun wx => ∃ x1 x2 x3, Bt wx N x1 x2 x3 /\ SqE wx (w.heap.size + 1 + 1) 16 x1 /\ SqE wx (w.heap.size + 1 + 1) 16 x2 /\ SqE wx (w.heap.size + 1 + 1) 16 x3 /\ Src wx q /\ Chg q (q + 1) w wx /\ Bd wx M (.int .i64 p) (.slice av st.length cv) /\ Bd wx w.heap.size (.int .i64 0) (.slice none 0 0) /\ Bt wx (w.heap.size + 1) (.slice none 0 0) (.slice none 0 0) (.slice none 0 0) /\ ElR wx (w.heap.size + 1 + 1) (.slice av st.length cv) st)
  case first =>
   have hsz16 : sz st.length <= 16 := by omega
   have d0 := hBd.c0; have d1 := hBd.c1
   have hT := hTq.tm
   have hNl := hN.lt
   by_cases hy0 : y = 0
   case pos =>
    have hyb : (y == 0) = true := by simpa using hy0
    clear hy0
    go_wp2_with fail
    refine (sdrawsk_c hd hs (hE.more (by omega))).mono ?_; rintro e w9 ⟨m, rfl, hm, hs, hc9⟩
    obtain ⟨am, cm, rfl⟩ := hm.form
    have hBd := hBd.chg hc9 (.inr (by omega)); have hRd := hRd.chg hc9 (.inr (by omega)); have hR := hR.chg hc9 (.inr (by omega)); have hE := hE.chg hc9 (by omega); have hc := hc.trans hc9
    have hN := hN.chg hc9 (.inr (by omega)); have hTq := hTq.chg hc9 (by omega)
    clear hc9 hT d0 d1
    have n0 := hN.c0; have n1 := hN.c1; have n2 := hN.c2; have nf1 := hN.f 1
    go_wp2_with fail
    go_meet
    case rel =>
     have hbF := (Below.refl N w9).setCell (p := ⟨N, 1, none⟩) (Nat.le_refl _) (.slice am (sz st.length) cm)
     have hT := (hTq.set 1 (.slice am (sz st.length) cm)).tm
     exact ⟨_, _, _, hN.set1 _, (hT.a.sqe hsz16).more (by omega), ((hm.sqe hsz16).keep (by simp) fun b h1 _ => Below.heap_setCell _ _ _ _ (by show b ≠ N; omega)).more (by omega), (hT.c.sqe hsz16).more (by omega), hs.bl hbF (by omega), hc.bl (hbF.mono (by omega)), hBd.bl hbF hNM, hRd.bl hbF (by omega), hR.bl hbF (by omega), hE.keep (by simp) fun b off sp n cc e => Below.heap_setCell _ _ _ _ (by show b ≠ N; have := hEM b off sp n cc e; omega)⟩
   have hyb0 : (y == 0) = false := by simpa using hy0
   by_cases hy1 : y = 1
   case pos =>
    subst hy1
    clear hy0
    go_upto_region 11 with fail
    obtain ⟨bc, oc, cc, b2, o2, c2_, y0, hce, hr1, hr2, hfz, hB2, hB2l, hBc, hbcH⟩ := hT.c.at0 (by omega)
    cases hce
    clear hr1 hr2 hfz hB2l hbcH hT d0 d1 hB2
    refine @region_flowR ⟨q, q + 1⟩ _ [(false, [(0, 0), (1, 1), (2, 0), (3, 1), (4, 0), (5, 0), (6, 1), (7, 0), (8, 5)]), (false, [(9, 0), (10, 4)])] _ _ _ _ _ (by kernel_rfl) ?_
    refine norm_K fun K hK => ?_
    change wpList _ _ _ [_, _, _, _, _, _, _, _, _] _ _
    have hbq : Below w8.heap.size w8 w8.drew := bwT
    have hBd := hBd.below hbq; have hRd := hRd.below hbq; have hR := hR.below hbq; have hE := hE.below hbq; have hs := hs.below hbq; have hc := hc.bl (hbq.mono hc.size)
    have hN := hN.below hbq; have hTq := hTq.below hbq
    clear hbq
    generalize w8.drew = wq at *
    have hcq : Chg q (q + 1) wq wq := Chg.refl
    have d0 := hBd.c0; have hld := hBd; have hlN := hN; have n2 := hN.c2
    obtain ⟨bc', oc', cc', b2, o2, c2_, y0, hce, hr1, _, _, hB2, _, hBc, cs, TT, fr, hbcH⟩ := hTq.tm.c.at0 (by omega)
    cases hce
    go_wp2_with fail
    refine (snext_c hs (by omega) (by omega)).mono ?_; rintro e w10 ⟨z, rfl, hz0_, hz1_, hs, hc10, hz10_⟩
    have hBd := hBd.chg hc10 (.inr (by omega)); have hRd := hRd.chg hc10 (.inr (by omega)); have hR := hR.chg hc10 (.inr (by omega)); have hE := hE.chg hc10 (by omega); have hc := hc.trans hc10
    have hN := hN.chg hc10 (.inr (by omega)); have hTq := hTq.chg hc10 (by omega)
    have hcq := hcq.trans hc10
    have hr1' := hc10.cell hr1 (.inr (by omega))
    obtain ⟨bc', oc', cc', b2', o2', c2', y0', hce, hr1'', hr2, hfz, hB2', _, _, _⟩ := hTq.tm.c.at0 (by omega)
    cases hce
    rw [hr1'] at hr1''
    cases hr1''
    clear hc10 hz10_ hz0_ hz1_ hr1' d0 n2
    have hfz0 := hfz o2
    go_wp2_with fail
    first | (refine hK _ _ ⟨hcq, ?_⟩; clear hK K) | refine ⟨hcq, ?_⟩
    refine norm_K fun K hK => ?_
    change wpList _ _ _ [_, _] _ _
    go_wp2_with fail
    first | (refine hK _ _ ⟨⟨rfl, ?_⟩, ?_⟩; clear hK K) | refine ⟨⟨rfl, ?_⟩, ?_⟩
    ·repeat' (first | exact trivial | exact ⟨_, rfl, (show M < q \/ q + 1 <= M by omega), _, _, _, hld⟩ | exact ⟨_, rfl, (show N < q \/ q + 1 <= N by omega), _, _, _, hlN⟩ | exact ⟨_, rfl, (show bc < q \/ q + 1 <= bc by omega), _, _, _, hbcH⟩ | refine And.intro ?_ ?_)
    go_wp2_with fail
    go_meet
    case rel =>
     have hT := hTq.tm
     have hbF : Below (M + 1) w10 (w10.setCell ⟨b2, o2, none⟩ (.int .i64 z)) := (Below.refl _ w10).setCell (p := ⟨b2, o2, none⟩) hB2 _
     exact ⟨_, _, _, hN.far (p := ⟨b2, o2, none⟩) (fun e => hN.noint hr2 e.symm) _, ((hT.a.sq.wide hsz16).setI hr2).sqe.more (by omega), ((hT.b.sq.wide hsz16).setI hr2).sqe.more (by omega), ((hT.c.sq.wide hsz16).setI hr2).sqe.more (by omega), hs.bl hbF (by omega), hc.bl (hbF.mono (by omega)), hBd.bl hbF (by omega), hRd.bl hbF (by omega), hR.bl hbF (by omega), hE.keep (by simp) fun b off sp n cc e => Below.heap_setCell _ _ _ _ (by show b ≠ b2; have := hEM b off sp n cc e; omega)⟩
   have hyb1 : (y == 1) = false := by simpa using hy1
   by_cases hy2 : y = 2
   case neg =>
    have hyb2 : (y == 2) = false := by simpa using hy2
    go_wp2_with fail
    go_meet
    case rel => exact ⟨_, _, _, hN, (hT.a.sqe hsz16).more (by omega), (hT.b.sqe hsz16).more (by omega), (hT.c.sqe hsz16).more (by omega), hs, hc, hBd, hRd, hR, hE⟩
   have hyb2 : (y == 2) = true := by simpa using hy2
   clear hy0 hy1 hy2
   go_wp2_with fail
   refine (sdrawmx_t hs (hE.more (by omega)) hp1 hp2 hl5).mono ?_; rintro e w9 ⟨m, rfl, hm, hs, hc9⟩
   obtain ⟨am, nm, cm, rfl⟩ := hm.form
   have hBd := hBd.chg hc9 (.inr (by omega)); have hRd := hRd.chg hc9 (.inr (by omega)); have hR := hR.chg hc9 (.inr (by omega)); have hE := hE.chg hc9 (by omega); have hc := hc.trans hc9
   have hN := hN.chg hc9 (.inr (by omega)); have hTq := hTq.chg hc9 (by omega)
   clear hc9 hT d0 d1
   have n0 := hN.c0; have n1 := hN.c1; have n2 := hN.c2; have nf0 := hN.f 0
   go_wp2_with fail
   go_meet
   case rel =>
    have hbF := (Below.refl N w9).setCell (p := ⟨N, 0, none⟩) (Nat.le_refl _) (.slice am nm cm)
    have hT := (hTq.set 0 (.slice am nm cm)).tm
    exact ⟨_, _, _, hN.set0 _, (hm.keep (by simp) fun b h1 _ => Below.heap_setCell _ _ _ _ (by show b ≠ N; omega)).more (by omega), (hT.b.sqe hsz16).more (by omega), (hT.c.sqe hsz16).more (by omega), hs.bl hbF (by omega), hc.bl (hbF.mono (by omega)), hBd.bl hbF hNM, hRd.bl hbF (by omega), hR.bl hbF (by omega), hE.keep (by simp) fun b off sp n cc e => Below.heap_setCell _ _ _ _ (by show b ≠ N; have := hEM b off sp n cc e; omega)⟩
  case' rest => skip
  clear hN hTq hs hc hBd hRd hR hE
  obtain ⟨x1, x2, x3, hN, hm1, hm2, hm3, hs, hc, hBd, hRd, hR, hE⟩ := hcut
  obtain ⟨a1_, n1_, c1_, rfl⟩ := hm1.form; obtain ⟨a2_, n2_, c2_, rfl⟩ := hm2.form; obtain ⟨a3_, n3_, c3_, rfl⟩ := hm3.form
  go_upto_region 14 with fail
  refine @region_flowR ⟨w.heap.size, w.heap.size + 1⟩ _ [(false, [(0, 1), (1, 1), (2, 5)]), (false, [(3, 4)])] _ _ _ _ _ (by kernel_rfl) ?_
  refine norm_K fun K hK => ?_
  change wpList _ _ _ [_, _, _] _ _
  have hbq : Below wc.heap.size wc wc.drew := bwT
  have hBd := hBd.below hbq; have hRd := hRd.below hbq; have hR := hR.below hbq; have hE := hE.below hbq; have hs := hs.below hbq; have hc := hc.bl (hbq.mono hc.size)
  have hN := hN.below hbq; have hm1 := hm1.below hbq; have hm2 := hm2.below hbq; have hm3 := hm3.below hbq
  clear hbq
  generalize wc.drew = wq at *
  have d0 := hBd.c0; have d1 := hBd.c1; have n0 := hN.c0; have n1 := hN.c1; have n2 := hN.c2; have hld := hBd; have hlN := hN
  have e0 := hRd.c0; have e1 := hRd.c1; have ef0 := hRd.f 0; have ef1 := hRd.f 1; have r0 := hR.c0; have r1 := hR.c1; have r2 := hR.c2; have rf0 := hR.f 0; have rf1 := hR.f 1; have rf2 := hR.f 2
  have hCF := chg_set_ (chg_set_ (Chg.refl (w := wq)) (lo := w.heap.size) (hi := w.heap.size + 1) (b := w.heap.size) (k := 0) (by omega) (by omega) (.int .i64 p)) (b := w.heap.size) (k := 1) (by omega) (by omega) (.slice av st.length cv)
  go_wp2_with fail
  first | (refine hK _ _ ⟨hCF, ?_⟩; clear hK K) | refine ⟨hCF, ?_⟩
  refine norm_K fun K hK => ?_
  change wpList _ _ _ [_] _ _
  go_wp2_with fail
  first | (refine hK _ _ ⟨⟨rfl, ?_⟩, ?_⟩; clear hK K) | refine ⟨⟨rfl, ?_⟩, ?_⟩
  ·repeat' (first | exact trivial | exact ⟨_, rfl, (show M < w.heap.size \/ w.heap.size + 1 <= M by omega), _, _, _, hld⟩ | exact ⟨_, rfl, (show N < w.heap.size \/ w.heap.size + 1 <= N by omega), _, _, _, hlN⟩ | refine And.intro ?_ ?_)
  go_wp2_with fail
  refine bodyPost_ret (v := .tuple #[.agg #[.int .i64 p, .slice av st.length cv], .agg #[.slice a1_ n1_ c1_, .slice a2_ n2_ c2_, .slice a3_ n3_ c3_]]) (by simp [results, Tryz.results52, go_sem, e0, e1, r0, r1, r2]) rfl ?_
  exact drtr_fin hq hp1 hp2 hl5 hE hm1 hm2 hm3 hs hc
end Go.Proofs.YteaaepbnoiecoaaGreat
