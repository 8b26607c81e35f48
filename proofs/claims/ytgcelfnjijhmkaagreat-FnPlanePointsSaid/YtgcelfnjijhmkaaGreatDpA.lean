/-
  A drawn point: l17DrawPoint.
-/
import Derived.Test.YtgcelfnjijhmkaaGreatHeK
import Derived.Test.YtgcelfnjijhmkaaGreatTreeR
import Derived.Test.YtgcelfnjijhmkaaGreatCPointAt
import Derived.Test.YtgcelfnjijhmkaaGreatJbl
namespace Go.Proofs.YtgcelfnjijhmkaaGreat
open Go.RowKit

theorem hvr_shape {w : World} {B : Nat} {v : Value} {X : Her} (h : HvR w B v X) : ∃ a c b e, v = .agg #[.slice a X.dg.length c, .slice b X.up.length e] := by
  obtain ⟨d, u, rfl, hd, hu⟩ := h
  obtain ⟨a, c, rfl, _⟩ := hd.1.op
  obtain ⟨b, e, rfl, _⟩ := hu
  exact ⟨_, _, _, _, rfl⟩
theorem isH_hszn {p : Int} {n : Nat} {X : Her} (h : isH p n X = true) (hn : n ≤ 1000) : Hsz X := by
  obtain ⟨h1, _, h2, h3⟩ := isH_parts h
  exact ⟨by omega, by omega, fun xs hx => by have := (h3 xs hx).1; omega⟩
structure PtS (w : World) (q : Nat) (p : Int) (sv : Value) (wx : World) : Prop where
  hd : Bd wx w.heap.size (.int .i64 p) sv
  hr : Bx wx (w.heap.size + 1) (.slice none 0 0) (.slice none 0 0)
  hs : Src wx q
  hc : Chg q (q + 1) w wx
  hz : w.heap.size + 2 ≤ wx.heap.size
section
variable {w wx wy : World} {q : Nat} {p : Int} {sv : Value}
theorem PtS.chg (h : PtS w q p sv wx) (hq : q < w.heap.size) (hc : Chg q (q + 1) wx wy) (hs : Src wy q) : PtS w q p sv wy :=
  ⟨h.hd.chg hc (.inr (by omega)), h.hr.chg hc (.inr (by omega)), hs, h.hc.trans hc, Nat.le_trans h.hz hc.size⟩
theorem PtS.below (h : PtS w q p sv wx) (hb : Below wx.heap.size wx wy) : PtS w q p sv wy :=
  ⟨h.hd.below hb, h.hr.below hb, h.hs.below hb, h.hc.bl (hb.mono (by have := h.hc.size; omega)), Nat.le_trans h.hz hb.size⟩
end
theorem PtS.bl {w wx wy : World} {q : Nat} {p : Int} {sv : Value} (h : PtS w q p sv wx) (hq : q < w.heap.size) (hb : Below (w.heap.size + 2) wx wy) : PtS w q p sv wy :=
  ⟨h.hd.bl hb (by omega), h.hr.bl hb (by omega), h.hs.bl hb (by omega), h.hc.bl (hb.mono (by omega)), Nat.le_trans h.hz hb.size⟩
theorem cell_lt {w : World} {b o : Nat} {v : Value} (h : w.cell? ⟨b, o, none⟩ = some v) : b < w.heap.size := by
  rcases Nat.lt_or_ge b w.heap.size with h1 | h1
  · exact h1
  · exfalso
    unfold World.cell? at h
    rw [Array.getElem?_eq_none h1] at h
    simp at h
theorem cell_lt' {w : World} {b : Nat} {o : Obj} (h : w.heap[b]? = some o) : b < w.heap.size := (Array.getElem?_eq_some_iff.1 h).1
theorem cell_same {w w' : World} {b o : Nat} {v : Value} (h : w.cell? ⟨b, o, none⟩ = some v) (hk : w'.heap[b]? = w.heap[b]?) : w'.cell? ⟨b, o, none⟩ = some v := by
  unfold World.cell? at h ⊢
  rw [show (⟨b, o, none⟩ : Addr).block = b from rfl] at *
  rw [hk]; exact h
theorem HvR.op3 {w : World} {B : Nat} {x : Value} {X : Her} {p : Int} {n : Nat} (h : HvR w B x X) (hX : isH p n X = true) :
    ∃ a b c u v t bd od cd bu ou cu r s z, X = ⟨[a, b, c], [u, v, t]⟩ ∧ x = .agg #[.slice (some ⟨bd, od, none⟩) 3 cd, .slice (some ⟨bu, ou, none⟩) 3 cu] ∧
      (0 ≤ a ∧ a < p) ∧ (0 ≤ b ∧ b < p) ∧ (0 ≤ c ∧ c < p) ∧ Ev p n u ∧ Ev p n v ∧ Ev p n t ∧
      w.cell? ⟨bd, od, none⟩ = some (.int .i64 a) ∧ w.cell? ⟨bd, od + 1, none⟩ = some (.int .i64 b) ∧ w.cell? ⟨bd, od + 2, none⟩ = some (.int .i64 c) ∧
      w.cell? ⟨bu, ou, none⟩ = some r ∧ w.cell? ⟨bu, ou + 1, none⟩ = some s ∧ w.cell? ⟨bu, ou + 2, none⟩ = some z ∧ ElR w B r u ∧ ElR w B s v ∧ ElR w B z t ∧ (3 ≤ cd ∧ cd ≤ 9223372036854775807) ∧ (3 ≤ cu ∧ cu ≤ 9223372036854775807) ∧ (B ≤ bd ∧ bd < w.heap.size) ∧ (B ≤ bu ∧ bu < w.heap.size) := by
  obtain ⟨a, b, c, u, v, t, bd, od, cd, bu, ou, cu, r, s, z, rfl, rfl, h1, h2, h3, h4, h5, h6, k1, k2, k3, m1, m2, m3, _, _, _, c1, c2⟩ := Hv.op3 h.hv hX
  obtain ⟨d', u', e, hd', hu⟩ := h
  cases e
  obtain ⟨a', c', e, _, _, hu⟩ := hu
  cases e
  rcases hu with hu | ⟨b', o', e, hB, hu⟩
  · cases hu
  cases e
  obtain ⟨x0, e0, r0⟩ := hu 0 (by show 0 < 3; omega)
  obtain ⟨x1, e1, r1⟩ := hu 1 (by show 1 < 3; omega)
  obtain ⟨x2, e2, r2⟩ := hu 2 (by show 2 < 3; omega)
  rw [Nat.add_zero, m1] at e0; rw [m2] at e1; rw [m3] at e2
  cases e0; cases e1; cases e2
  exact ⟨a, b, c, u, v, t, bd, od, cd, bu, ou, cu, r, s, z, rfl, rfl, h1, h2, h3, h4, h5, h6, k1, k2, k3, m1, m2, m3, r0, r1, r2, c1, c2, hd'.2 _ _ _ _ _ rfl, hB, cell_lt m1⟩
theorem PtS.fin {w wx : World} {q : Nat} {p : Int} {sv v : Value} {X : Her} (h : PtS w q p sv wx) (hq : q < w.heap.size) (hv : HvR wx (w.heap.size + 2) v X) (hX : Hsz X) (d u : Value) :
    DrH w q (.returned v) ((wx.setCell ⟨w.heap.size + 1, 0, none⟩ d).setCell ⟨w.heap.size + 1, 1, none⟩ u) := by
  refine ⟨v, X, rfl, ?_, hX, ?_, ?_⟩
  · exact ((hv.set_ (p := ⟨w.heap.size + 1, 0, none⟩) (by show w.heap.size + 1 < _; omega) _).set_ (p := ⟨w.heap.size + 1, 1, none⟩) (by show w.heap.size + 1 < _; omega) _).more (by omega)
  · exact h.hs.bl (B := q + 1) (((Below.refl _ _).setCell (p := ⟨w.heap.size + 1, 0, none⟩) (by show _ ≤ w.heap.size + 1; omega) _).setCell (p := ⟨w.heap.size + 1, 1, none⟩) (by show _ ≤ w.heap.size + 1; omega) _) (by omega)
  · exact h.hc.bl (((Below.refl _ _).setCell (p := ⟨w.heap.size + 1, 0, none⟩) (by show _ ≤ w.heap.size + 1; omega) _).setCell (p := ⟨w.heap.size + 1, 1, none⟩) (by show _ ≤ w.heap.size + 1; omega) _)
structure PtN (w : World) (q : Nat) (p : Int) (n : Nat) (sv : Value) (N : Nat) (d u : Value) (X : Her) (wx : World) : Prop where
  st : PtS w q p sv wx
  nb : Bx wx N d u
  nl : w.heap.size + 2 ≤ N
  hv : ∃ (W0 : World) (lo : Nat), w.heap.size + 2 ≤ lo ∧ HvR W0 lo (.agg #[d, u]) X ∧ W0.heap.size ≤ wx.heap.size ∧ ∀ b, lo ≤ b → b < W0.heap.size → b ≠ N ∧ wx.heap[b]? = W0.heap[b]?
  is : isH p n X = true
theorem late_ap {w wO wx : World} {N : Nat} {v : Value} {X : Her} (h : HvR wO (w.heap.size + 2) v X) (hN : wO.heap.size ≤ N) (hb : Below wO.heap.size wO wx) :
    ∃ (W0 : World) (lo : Nat), w.heap.size + 2 ≤ lo ∧ HvR W0 lo v X ∧ W0.heap.size ≤ wx.heap.size ∧ ∀ b, lo ≤ b → b < W0.heap.size → b ≠ N ∧ wx.heap[b]? = W0.heap[b]? :=
  ⟨wO, _, Nat.le_refl _, h, hb.size, fun b _ h2 => ⟨by omega, hb.block b h2⟩⟩
theorem early_ap {w wO wx : World} {N B : Nat} {v : Value} {X : Her} (h : HvR wO B v X) (hB : w.heap.size + 2 ≤ B) (hN : N < B) (hs : wO.heap.size ≤ wx.heap.size) (hb : ∀ b, b ≠ N → wx.heap[b]? = wO.heap[b]?) :
    ∃ (W0 : World) (lo : Nat), w.heap.size + 2 ≤ lo ∧ HvR W0 lo v X ∧ W0.heap.size ≤ wx.heap.size ∧ ∀ b, lo ≤ b → b < W0.heap.size → b ≠ N ∧ wx.heap[b]? = W0.heap[b]? :=
  ⟨wO, B, hB, h, hs, fun b h1 _ => ⟨by omega, hb b (by omega)⟩⟩
theorem twoset {w : World} {N : Nat} {d u : Value} : ∀ b, b ≠ N → ((w.setCell ⟨N, 0, none⟩ d).setCell ⟨N, 1, none⟩ u).heap[b]? = w.heap[b]? := fun b hb =>
  (Below.heap_setCell _ _ _ _ (fun e => hb e)).trans (Below.heap_setCell _ _ _ _ (fun e => hb e))
theorem El.of3 {w : World} {k : Nat} {a b c : Int} (h0 : w.cell? ⟨k, 0, none⟩ = some (.int .i64 a)) (h1 : w.cell? ⟨k, 1, none⟩ = some (.int .i64 b)) (h2 : w.cell? ⟨k, 2, none⟩ = some (.int .i64 c)) : El w (.slice (some ⟨k, 0, none⟩) 3 3) [a, b, c] := by
  have hA : At w k 0 [a, b, c] := fun j hj => by
    have hj : j < 3 := hj
    rw [Nat.zero_add]
    rcases (show j = 0 ∨ j = 1 ∨ j = 2 by omega) with rfl | rfl | rfl
    · exact h0
    · exact h1
    · exact h2
  exact hA.el (by simp) (by decide)
theorem turned {W wf : World} {lo base N k1 k2 : Nat} {a b c : Int} {u v t : List Int} {r s z d0 u0 : Value} (hlo : base ≤ lo) (hr : ElR W lo r u) (hs : ElR W lo s v) (hz : ElR W lo z t) (hsz : W.heap.size ≤ wf.heap.size) (hk : ∀ b, lo ≤ b → b < W.heap.size → wf.heap[b]? = W.heap[b]?)
    (h1 : wf.heap[k1]? = some (.cells #[.int .i64 b, .int .i64 c, .int .i64 a] 2)) (h2 : wf.heap[k2]? = some (.cells #[s, z, r] 24)) (hk1 : base ≤ k1) (hk2 : base ≤ k2) :
    HvR wf base (.agg #[.slice (some ⟨k1, 0, none⟩) 3 3, .slice (some ⟨k2, 0, none⟩) 3 3]) ⟨[b, c, a], [v, t, u]⟩ := by
  have hr := (hr.keep hsz fun b off sp n c e => hk b (hr.2 _ _ _ _ _ e).1 (hr.2 _ _ _ _ _ e).2).more hlo
  have hs := (hs.keep hsz fun b off sp n c e => hk b (hs.2 _ _ _ _ _ e).1 (hs.2 _ _ _ _ _ e).2).more hlo
  have hz := (hz.keep hsz fun b off sp n c e => hk b (hz.2 _ _ _ _ _ e).1 (hz.2 _ _ _ _ _ e).2).more hlo
  have hc : ∀ {k i : Nat} {cs : Array Value} {T : TypeId} {x : Value}, wf.heap[k]? = some (.cells cs T) → cs[i]? = some x → wf.cell? ⟨k, i, none⟩ = some x := fun h e => by
    unfold World.cell?
    simp [h, e]
  have hlt : k1 < wf.heap.size := (Array.getElem?_eq_some_iff.1 h1).1
  refine ⟨_, _, rfl, ⟨El.of3 (hc h1 rfl) (hc h1 rfl) (hc h1 rfl), fun b off sp n c e => by cases e; exact ⟨hk1, hlt⟩⟩, ⟨_, 3, rfl, by simp, by decide, .inr ⟨k2, 0, rfl, hk2, fun j hj => ?_⟩⟩⟩
  · have hj : j < 3 := hj
    rcases (show j = 0 ∨ j = 1 ∨ j = 2 by omega) with rfl | rfl | rfl
    · exact ⟨s, hc h2 rfl, hs⟩
    · exact ⟨z, hc h2 rfl, hz⟩
    · exact ⟨r, hc h2 rfl, hr⟩
theorem turn_fin {w wq WB W0 : World} {q N lo k1 k2 m : Nat} {p a b c : Int} {sv : Value} {u v t : List Int} {r s z d0 u0 d1 u1 : Value} (hq : q < w.heap.size) (hS : PtS w q p sv WB) (hNl : w.heap.size + 2 ≤ N) (hlo : w.heap.size + 2 ≤ lo)
    (hr : ElR W0 lo r u) (hs : ElR W0 lo s v) (hz : ElR W0 lo z t) (hWs : W0.heap.size ≤ wq.heap.size) (hb : Below wq.heap.size wq WB) (hVk : ∀ b, lo ≤ b → b < W0.heap.size → b ≠ N ∧ wq.heap[b]? = W0.heap[b]?)
    (h1 : WB.heap[k1]? = some (.cells #[.int .i64 b, .int .i64 c, .int .i64 a] 2)) (h2 : WB.heap[k2]? = some (.cells #[s, z, r] 24)) (hk1 : N < k1) (hk2 : N < k2) (eu : Ev p m u ∧ Ev p m v ∧ Ev p m t) (hm : m ≤ 8) :
    DrH w q (.returned (.agg #[.slice (some ⟨k1, 0, none⟩) 3 3, .slice (some ⟨k2, 0, none⟩) 3 3])) ((((WB.setCell ⟨N, 0, none⟩ d0).setCell ⟨N, 1, none⟩ u0).setCell ⟨w.heap.size + 1, 0, none⟩ d1).setCell ⟨w.heap.size + 1, 1, none⟩ u1) := by
  have hb1 : Below (w.heap.size + 2) WB ((WB.setCell ⟨N, 0, none⟩ d0).setCell ⟨N, 1, none⟩ u0) := ((Below.refl _ _).setCell (by show _ ≤ N; omega) _).setCell (by show _ ≤ N; omega) _
  have hv := turned (wf := (WB.setCell ⟨N, 0, none⟩ d0).setCell ⟨N, 1, none⟩ u0) (N := N) (d0 := d0) (u0 := u0) hlo hr hs hz (by have := hb.size; simp; omega) (fun b h1 h2 => (twoset b (hVk b h1 h2).1).trans ((hb.block b (by omega)).trans (hVk b h1 h2).2)) ((twoset _ (by omega)).trans h1) ((twoset _ (by omega)).trans h2) (base := w.heap.size + 2) (by omega) (by omega)
  obtain ⟨eu, ev, et⟩ := eu
  refine (hS.bl hq hb1).fin hq hv ⟨by show 3 ≤ _; decide, by show 3 ≤ _; decide, fun xs hx => ?_⟩ _ _
  have hx : xs = v ∨ xs = t ∨ xs = u := by simpa using hx
  rcases hx with rfl | rfl | rfl
  · rw [ev.1]; omega
  · rw [et.1]; omega
  · rw [eu.1]; omega
set_option maxHeartbeats 16000000 in
set_option maxRecDepth 100000 in
theorem sdrawpt_c {q B : Nat} {p : Int} {x : Value} {st : List Int} {w : World} (hs : Src w q) (hx : ElR w B x st) (hqB : q < B) (hp0 : 0 ≤ p) (hp1 : p ≤ 17) (hn : st.length ≤ 5) :
    Calls Tryz.prog 59 #[.pointer (some ⟨q, 0, none⟩), .agg #[.int .i64 p, x]] w fun e w' => DrH w q e w' := by
  have hq := hs.lt
  obtain ⟨a, c, rfl, _⟩ := id hx.1.op
  go_enter Tryz.func59, Tryz.ntmps59
  go_wp2_with fail
  obtain ⟨W1, hW1⟩ : ∃ y, y = ((w.alloc (.cells #[.int .i64 p, .slice a st.length c] 26)).alloc (.cells #[.slice none 0 0, .slice none 0 0] 31)) := ⟨_, rfl⟩
  have hb1 : Below w.heap.size w W1 := by rw [hW1]; exact (by repeat (first | exact .refl _ _ | apply bwD | apply bwA | (refine bwS ?_ (by first | omega | simp <;> omega) _) | refine bwC ?_ (by assumption)))
  have hz1 : W1.heap.size = w.heap.size + 1 + 1 := by rw [hW1]; simp
  have hd1 : Bd W1 w.heap.size (.int .i64 p) (.slice a st.length c) := by rw [hW1]; exact Bd.below (heap_alloc_new w _) (by repeat (first | exact .refl _ _ | apply bwD | apply bwA | (refine bwS ?_ (by first | omega | simp <;> omega) _) | refine bwC ?_ (by assumption)))
  have hr1 : Bx W1 (w.heap.size + 1) (.slice none 0 0) (.slice none 0 0) := by
    rw [hW1]
    have h := heap_alloc_new (w.alloc (.cells #[.int .i64 p, .slice a st.length c] 26)) (.cells #[.slice none 0 0, .slice none 0 0] 31)
    rw [show (w.alloc (.cells #[.int .i64 p, .slice a st.length c] 26)).heap.size = w.heap.size + 1 by simp] at h
    exact h
  rw [← hW1]; clear hW1
  have hS : PtS w q p (.slice a st.length c) W1 := ⟨hd1, hr1, hs.bl hb1 hq, Chg.refl.bl hb1, by omega⟩
  have HZ := Lib.hid hz1; clear hz1 hd1 hr1
  refine (sl14_c (hx.chg hS.hc (by omega)).1 (by omega)).mono ?_; rintro e w2 ⟨rfl, hb2⟩
  have hS := hS.below hb2
  clear hb1 hb2 HZ
  -- the plain draw
  have plain : ∀ {wz : World}, PtS w q p (.slice a st.length c) wz → Calls Tryz.prog 102 #[.pointer (some ⟨q, 0, none⟩), .agg #[.int .i64 p, .slice a st.length c]] wz fun e wy => ∃ (a1 : Option Addr) (c1 : Nat) (b1 : Option Addr) (c2 : Nat) (X : Her), e = .returned (.agg #[.slice a1 X.dg.length c1, .slice b1 X.up.length c2]) ∧ HvR wy (w.heap.size + 2) (.agg #[.slice a1 X.dg.length c1, .slice b1 X.up.length c2]) X ∧ Hsz X ∧ PtS w q p (.slice a st.length c) wy := by
    intro wz hS
    refine (sdrawone_c hS.hs (hx.chg hS.hc (by omega)) hqB hp0 hp1 hn).mono ?_
    rintro e wy ⟨v, X, rfl, hv, hX, hs3, hc3⟩
    obtain ⟨a1, c1, b1, c2, rfl⟩ := hvr_shape hv
    exact ⟨a1, c1, b1, c2, X, rfl, hv.more hS.hz, hX, hS.chg hq hc3 hs3⟩
  have e0 := hS.hd.c0; have e1 := hS.hd.c1
  by_cases hk : chk3 p st [] = 0
  case neg =>
    have hk_ : (chk3 p st [] == 0) = false := by simpa using hk
    go_wp2_with fail
    refine (plain hS).mono ?_; rintro e w3 ⟨a1, c1, b1, c2, X, rfl, hv, hX, hS⟩
    have r0 := hS.hr.c0; have r1 := hS.hr.c1; have rf0 := hS.hr.f0; have rf1 := hS.hr.f1
    go_wp2_with fail
    refine bodyPost_ret (v := .agg #[.slice a1 X.dg.length c1, .slice b1 X.up.length c2]) (by simp [results, Tryz.results59, go_sem, r0, r1]) rfl ?_
    exact hS.fin hq hv hX _ _
  rw [hk]
  go_wp2_with fail
  refine (snext_c hS.hs (by decide) (by decide)).mono ?_; rintro e w3 ⟨y, rfl, _, _, hs3, hc3, hz3⟩
  have hS := hS.chg hq hc3 hs3
  clear hz3 hs3 hc3
  have e0 := hS.hd.c0; have e1 := hS.hd.c1
  by_cases hy0 : y = 0
  · subst hy0
    go_wp2_with fail
    refine (plain hS).mono ?_; rintro e w3 ⟨a1, c1, b1, c2, X, rfl, hv, hX, hS⟩
    have r0 := hS.hr.c0; have r1 := hS.hr.c1; have rf0 := hS.hr.f0; have rf1 := hS.hr.f1
    go_wp2_with fail
    refine bodyPost_ret (v := .agg #[.slice a1 X.dg.length c1, .slice b1 X.up.length c2]) (by simp [results, Tryz.results59, go_sem, r0, r1]) rfl ?_
    exact hS.fin hq hv hX _ _
  have hy0_ : (y == 0) = false := by simpa using hy0
  go_upto_region 3 with fail
  refine @region_flowR ⟨q, q + 1⟩ _ [(false, [(0, 0), (1, 1), (3, 0), (4, 1), (2, 5)]), (false, [(5, 4), (6, 0), (7, 0)])] _ _ _ _ _ (by kernel_rfl) ?_
  refine norm_K fun K hK => ?_
  change wpList _ _ _ [_, _, _, _, _] _ _
  have hS := hS.below (wy := w3.drew) (by repeat (first | exact .refl _ _ | apply bwD | apply bwA | (refine bwS ?_ (by first | omega | simp <;> omega) _) | refine bwC ?_ (by assumption)))
  generalize w3.drew = wq at *
  have e0 := hS.hd.c0; have e1 := hS.hd.c1; have hld := hS.hd
  go_wp2_with fail
  refine (sdrawel_c hS.hs hp0 hp1 hn).mono ?_; rintro e w4 ⟨u1, xs, rfl, hl1, hx1, hs4, hc4⟩
  obtain ⟨a1, k1, rfl, _⟩ := id hx1.1.op
  have hx1 := hx1.more hS.hz
  have hS := hS.chg hq hc4 hs4
  go_wp2_with fail
  first | (refine hK _ _ ⟨hc4, ?_⟩; clear hK K) | refine ⟨hc4, ?_⟩
  refine norm_K fun K hK => ?_
  change wpList _ _ _ [_, _, _] _ _
  go_wp2_with fail
  refine (sdrawel_c hS.hs hp0 hp1 hn).mono ?_; rintro e w5 ⟨u2, ys, rfl, hl2, hx2, hs5, hc5⟩
  obtain ⟨a2, k2, rfl, _⟩ := id hx2.1.op
  have hx2 := hx2.more hS.hz
  have hx1 := hx1.chg hc5 (by omega)
  have hS := hS.chg hq hc5 hs5
  go_wp2_with fail
  first | (refine hK _ _ ⟨⟨rfl, ?_⟩, ?_⟩; clear hK K) | refine ⟨⟨rfl, ?_⟩, ?_⟩
  · repeat' (first | exact trivial | exact ⟨_, rfl, (show w.heap.size < q ∨ q + 1 ≤ w.heap.size by omega), _, _, _, hld⟩ | refine And.intro ?_ ?_)
  clear hs4 hc4 hs5 hc5 hld
  obtain ⟨hdk, _⟩ := chk3_pos hk
  have hl3 := hdk.hl; have hp3 := hdk.hp.lo
  have e0 := hS.hd.c0; have e1 := hS.hd.c1
  go_wp2_with fail
  refine (selem_c (hx.chg hS.hc (by omega)).1 hx1.1 (by omega) (by omega) hp0 (by omega)).mono ?_; rintro e w6 ⟨rfl, hb6⟩
  have hS := hS.below hb6; have hx1 := hx1.below hb6; have hx2 := hx2.below hb6
  have e0 := hS.hd.c0; have e1 := hS.hd.c1
  clear hb6
  cases hE1 : isE p (sz st.length) xs with
  | false =>
    go_wp2_with fail
    refine (plain hS).mono ?_; rintro e w9 ⟨a1, c1, b1, c2, X, rfl, hv, hX, hS⟩
    have r0 := hS.hr.c0; have r1 := hS.hr.c1; have rf0 := hS.hr.f0; have rf1 := hS.hr.f1
    go_wp2_with fail
    refine bodyPost_ret (v := .agg #[.slice a1 X.dg.length c1, .slice b1 X.up.length c2]) (by simp [results, Tryz.results59, go_sem, r0, r1]) rfl ?_
    exact hS.fin hq hv hX _ _
  | true =>
    go_wp2_with fail
    refine (selem_c (hx.chg hS.hc (by omega)).1 hx2.1 (by omega) (by omega) hp0 (by omega)).mono ?_; rintro e w7 ⟨rfl, hb7⟩
    have hS := hS.below hb7; have hx1 := hx1.below hb7; have hx2 := hx2.below hb7
    have e0 := hS.hd.c0; have e1 := hS.hd.c1
    clear hb7
    cases hE2 : isE p (sz st.length) ys with
    | false =>
      go_wp2_with fail
      refine (plain hS).mono ?_; rintro e w9 ⟨a1, c1, b1, c2, X, rfl, hv, hX, hS⟩
      have r0 := hS.hr.c0; have r1 := hS.hr.c1; have rf0 := hS.hr.f0; have rf1 := hS.hr.f1
      go_wp2_with fail
      refine bodyPost_ret (v := .agg #[.slice a1 X.dg.length c1, .slice b1 X.up.length c2]) (by simp [results, Tryz.results59, go_sem, r0, r1]) rfl ?_
      exact hS.fin hq hv hX _ _
    | true =>
      have ev1 := isE_iff.1 hE1; have ev2 := isE_iff.1 hE2
      clear hE1 hE2
      have hsz := sz_le hdk
      have HP := Lib.hid (pointH_is (p := p) (st := st) (by omega) ev1 ev2)
      have HE := Lib.hid (And.intro ev1 ev2); clear ev1 ev2
      go_upto_region 6 with fail
      go_cut [7] (fun s_ wx => ∃ (N : Nat) (d u : Value) (X : Her), s_ = .pointer (some ⟨N, 0, none⟩) ∧ PtN w q p (sz st.length) (.slice a st.length c) N d u X wx)
      case first =>
        refine @region_tz ⟨q, q + 1⟩ _ (.pre [(0, 1), (1, 0), (2, 0), (3, 1), (4, 0), (7, 1), (8, 0), (9, 0)] (.two 5 5 (.pre [(6, 0)] (.two 10 5 (.two 11 5 (.one 12 5 (.lin [(false, [(13, 4)])])) 12 5 (.one 11 5 (.lin [(false, [(13, 4)])]))) 12 5 (.one 10 5 (.one 11 5 (.lin [(false, [(13, 4)])]))))) 12 5 (.one 5 5 (.pre [(6, 0)] (.one 10 5 (.one 11 5 (.lin [(false, [(13, 4)])]))))))) _ _ _ _ _ (by kernel_rfl) ?_
        have hcq : Chg q (q + 1) w7.drew w7.drew := Chg.refl
        have hbq : Below w7.heap.size w7 w7.drew := (by repeat (first | exact .refl _ _ | apply bwD | apply bwA | (refine bwS ?_ (by first | omega | simp <;> omega) _) | refine bwC ?_ (by assumption)))
        have hS := hS.below hbq; have hx1 := hx1.below hbq; have hx2 := hx2.below hbq
        clear hbq
        generalize w7.drew = wq at *
        have e0 := hS.hd.c0; have e1 := hS.hd.c1; have hld := hS.hd
        refine norm_K fun K hK => ?_
        change wpList _ _ _ [_, _, _, _, _, _, _, _] _ _
        go_wp2_with fail
        first | (refine hK _ _ ⟨⟨rfl, ?_⟩, ?_⟩; clear hK K) | refine ⟨⟨rfl, ?_⟩, ?_⟩
        · repeat' (first | exact trivial | exact ⟨_, rfl, (show w.heap.size < q ∨ q + 1 ≤ w.heap.size by omega), _, _, _, hld⟩ | refine And.intro ?_ ?_)
        refine ⟨?_, ?_⟩
        · skip
          refine norm_K fun K hK => ?_
          change wpList _ _ _ [_] _ _
          go_wp2_with fail
          refine (snext_c hS.hs (by omega) (by omega)).mono ?_; rintro e v1 ⟨k, rfl, hk0, hk1, hs_, hc_, hz_⟩
          have hk2 : k ≤ p - 2 := by omega
          clear hk1 hz_
          have hS := hS.chg hq hc_ hs_; have hcq := hcq.trans hc_; have hx1 := hx1.chg hc_ (by omega); have hx2 := hx2.chg hc_ (by omega)
          clear hs_ hc_
          go_wp2_with fail
          first | (refine hK _ _ ⟨hcq, ?_⟩; clear hK K) | refine ⟨hcq, ?_⟩
          refine norm_K fun K hK => ?_
          change wpList _ _ _ [_] _ _
          go_wp2_with fail
          first | (refine hK _ _ ⟨⟨rfl, ?_⟩, ?_⟩; clear hK K) | refine ⟨⟨rfl, ?_⟩, ?_⟩
          · repeat' (first | exact trivial | exact ⟨_, rfl, (show w.heap.size < q ∨ q + 1 ≤ w.heap.size by omega), _, _, _, hld⟩ | refine And.intro ?_ ?_)
          refine ⟨?_, ?_⟩
          · skip
            refine norm_K fun K hK => ?_
            change wpList _ _ _ [_] _ _
            go_wp2_with fail
            refine (sl17_c hdk (hx.chg hS.hc (by omega)).1 hx1.1 hx2.1 HE.out.1 HE.out.2).mono ?_; rintro e v2 ⟨v_, rfl, hF, hb_⟩
            have h10 := hF.hvr.more hS.hz
            obtain ⟨a3, c3, b3, c9, rfl⟩ := hvr_shape h10
            have hS := hS.below hb_; have hcq := hcq.bl (hb_.mono hcq.size); have hx1 := hx1.below hb_; have hx2 := hx2.below hb_
            clear hb_ hF
            go_wp2_with fail
            first | (refine hK _ _ ⟨hcq, ?_⟩; clear hK K) | refine ⟨hcq, ?_⟩
            refine ⟨?_, ?_⟩
            · skip
              refine norm_K fun K hK => ?_
              change wpList _ _ _ [_] _ _
              go_wp2_with fail
              refine (sscale16_c hdk (hx.chg hS.hc (by omega)).1 h10.hv HP.out (by omega) (by omega)).mono ?_; rintro e v3 ⟨v_, rfl, hF, hb_⟩
              have h11 := hF.hvr.more hS.hz
              have hNh := hb_.size; have hXis := multH_is (k := 1 + k) (show 1 ≤ p by omega) HP.out
              generalize multH p (pointH p st xs ys) (1 + k) = X at h11 hXis ⊢
              obtain ⟨a4, c4, b4, c5, rfl⟩ := hvr_shape h11
              have hS := hS.below hb_; have hcq := hcq.bl (hb_.mono hcq.size); have hx1 := hx1.below hb_; have hx2 := hx2.below hb_; have h10 := h10.below hb_
              clear hb_ hF
              go_wp2_with fail
              first | (refine hK _ _ ⟨hcq, ?_⟩; clear hK K) | refine ⟨hcq, ?_⟩
              refine norm_K fun K hK => ?_
              change wpList _ _ _ [_] _ _
              go_wp2_with fail
              have hb_ : Below v3.heap.size v3 (v3.alloc (.cells #[.slice none 0 0, .slice none 0 0] 31)) := (by repeat (first | exact .refl _ _ | apply bwD | apply bwA | (refine bwS ?_ (by first | omega | simp <;> omega) _) | refine bwC ?_ (by assumption)))
              have hN : Bx (v3.alloc (.cells #[.slice none 0 0, .slice none 0 0] 31)) v3.heap.size (.slice none 0 0) (.slice none 0 0) := heap_alloc_new _ _
              have hNl : w.heap.size + 2 ≤ v3.heap.size := hS.hz
              have h11o := h11
              have hS := hS.below hb_; have hcq := hcq.bl (hb_.mono hcq.size); have hx1 := hx1.below hb_; have hx2 := hx2.below hb_; have h10 := h10.below hb_; have h11 := h11.below hb_
              obtain ⟨N, hNe⟩ : ∃ N, N = v3.heap.size := ⟨_, rfl⟩
              obtain ⟨v4, hWe⟩ : ∃ x, x = (v3.alloc (.cells #[.slice none 0 0, .slice none 0 0] 31)) := ⟨_, rfl⟩
              rw [← hWe] at hN hS hcq hx1 hx2 h10 h11 ⊢
              rw [← hNe] at hN hNl ⊢
              have hNle : v3.heap.size ≤ N := by omega
              rw [← hWe] at hb_; have hbA := hb_; clear hNe hWe hb_
              go_wp2_with fail
              first | (refine hK _ _ ⟨hcq, ?_⟩; clear hK K) | refine ⟨hcq, ?_⟩
              refine norm_K fun K hK => ?_
              change wpList _ _ _ [_] _ _
              have n0 := hN.c0; have n1 := hN.c1; have nf0 := hN.f0; have nf1 := hN.f1
              go_wp2_with fail
              first | (refine hK _ _ ⟨⟨rfl, ?_⟩, ?_⟩; clear hK K) | refine ⟨⟨rfl, ?_⟩, ?_⟩
              · repeat' (first | exact trivial | exact ⟨_, rfl, (show w.heap.size < q ∨ q + 1 ≤ w.heap.size by omega), _, _, _, hld⟩ | refine And.intro ?_ ?_)
              go_wp2_with fail
              go_meet
              case rel =>
                have hb : Below (w.heap.size + 2) v4 ((v4.setCell ⟨N, 0, none⟩ (.slice a4 X.dg.length c4)).setCell ⟨N, 1, none⟩ (.slice b4 X.up.length c5)) := ((Below.refl _ _).setCell (by show _ ≤ N; omega) _).setCell (by show _ ≤ N; omega) _
                have hv := late_ap (w := w) (N := N) h11o hNle ((hbA.setCell (p := ⟨N, 0, none⟩) (by show _ ≤ N; omega) (.slice a4 X.dg.length c4)).setCell (p := ⟨N, 1, none⟩) (by show _ ≤ N; omega) (.slice b4 X.up.length c5))
                exact ⟨N, _, _, X, rfl, ⟨hS.bl hq hb, (hN.set0 _).set1 _, hNl, hv, hXis⟩⟩
            · skip
              refine norm_K fun K hK => ?_
              change wpList _ _ _ [_] _ _
              go_wp2_with fail
              have hb_ : Below v2.heap.size v2 (v2.alloc (.cells #[.slice none 0 0, .slice none 0 0] 31)) := (by repeat (first | exact .refl _ _ | apply bwD | apply bwA | (refine bwS ?_ (by first | omega | simp <;> omega) _) | refine bwC ?_ (by assumption)))
              have hN : Bx (v2.alloc (.cells #[.slice none 0 0, .slice none 0 0] 31)) v2.heap.size (.slice none 0 0) (.slice none 0 0) := heap_alloc_new _ _
              have hNl : w.heap.size + 2 ≤ v2.heap.size := hS.hz
              have hS := hS.below hb_; have hcq := hcq.bl (hb_.mono hcq.size); have hx1 := hx1.below hb_; have hx2 := hx2.below hb_; have h10 := h10.below hb_
              obtain ⟨N, hNe⟩ : ∃ N, N = v2.heap.size := ⟨_, rfl⟩
              obtain ⟨v5, hWe⟩ : ∃ x, x = (v2.alloc (.cells #[.slice none 0 0, .slice none 0 0] 31)) := ⟨_, rfl⟩
              rw [← hWe] at hN hS hcq hx1 hx2 h10 ⊢
              rw [← hNe] at hN hNl ⊢
              clear hWe hb_ hNe
              go_wp2_with fail
              first | (refine hK _ _ ⟨hcq, ?_⟩; clear hK K) | refine ⟨hcq, ?_⟩
              refine norm_K fun K hK => ?_
              change wpList _ _ _ [_] _ _
              go_wp2_with fail
              refine (sscale16_c hdk (hx.chg hS.hc (by omega)).1 h10.hv HP.out (by omega) (by omega)).mono ?_; rintro e v6 ⟨v_, rfl, hF, hb_⟩
              have h11 := hF.hvr
              have hNh := hb_.size; have hXis := multH_is (k := 1 + k) (show 1 ≤ p by omega) HP.out
              generalize multH p (pointH p st xs ys) (1 + k) = X at h11 hXis ⊢
              obtain ⟨a4, c4, b4, c5, rfl⟩ := hvr_shape h11
              have hS := hS.below hb_; have hcq := hcq.bl (hb_.mono hcq.size); have hx1 := hx1.below hb_; have hx2 := hx2.below hb_; have h10 := h10.below hb_
              have hNc := hN.lt
              have hN := hN.below hb_
              clear hb_ hF
              go_wp2_with fail
              first | (refine hK _ _ ⟨hcq, ?_⟩; clear hK K) | refine ⟨hcq, ?_⟩
              refine norm_K fun K hK => ?_
              change wpList _ _ _ [_] _ _
              have n0 := hN.c0; have n1 := hN.c1; have nf0 := hN.f0; have nf1 := hN.f1
              go_wp2_with fail
              first | (refine hK _ _ ⟨⟨rfl, ?_⟩, ?_⟩; clear hK K) | refine ⟨⟨rfl, ?_⟩, ?_⟩
              · repeat' (first | exact trivial | exact ⟨_, rfl, (show w.heap.size < q ∨ q + 1 ≤ w.heap.size by omega), _, _, _, hld⟩ | refine And.intro ?_ ?_)
              go_wp2_with fail
              go_meet
              case rel =>
                have hb : Below (w.heap.size + 2) v6 ((v6.setCell ⟨N, 0, none⟩ (.slice a4 X.dg.length c4)).setCell ⟨N, 1, none⟩ (.slice b4 X.up.length c5)) := ((Below.refl _ _).setCell (by show _ ≤ N; omega) _).setCell (by show _ ≤ N; omega) _
                have hv := early_ap (w := w) (N := N) (wx := (v6.setCell ⟨N, 0, none⟩ (.slice a4 X.dg.length c4)).setCell ⟨N, 1, none⟩ (.slice b4 X.up.length c5)) h11 (by omega) hNc (by simp) twoset
                exact ⟨N, _, _, X, rfl, ⟨hS.bl hq hb, (hN.set0 _).set1 _, hNl, hv, hXis⟩⟩
          · skip
            refine norm_K fun K hK => ?_
            change wpList _ _ _ [_] _ _
            go_wp2_with fail
            have hb_ : Below v1.heap.size v1 (v1.alloc (.cells #[.slice none 0 0, .slice none 0 0] 31)) := (by repeat (first | exact .refl _ _ | apply bwD | apply bwA | (refine bwS ?_ (by first | omega | simp <;> omega) _) | refine bwC ?_ (by assumption)))
            have hN : Bx (v1.alloc (.cells #[.slice none 0 0, .slice none 0 0] 31)) v1.heap.size (.slice none 0 0) (.slice none 0 0) := heap_alloc_new _ _
            have hNl : w.heap.size + 2 ≤ v1.heap.size := hS.hz
            have hS := hS.below hb_; have hcq := hcq.bl (hb_.mono hcq.size); have hx1 := hx1.below hb_; have hx2 := hx2.below hb_
            obtain ⟨N, hNe⟩ : ∃ N, N = v1.heap.size := ⟨_, rfl⟩
            obtain ⟨v7, hWe⟩ : ∃ x, x = (v1.alloc (.cells #[.slice none 0 0, .slice none 0 0] 31)) := ⟨_, rfl⟩
            rw [← hWe] at hN hS hcq hx1 hx2 ⊢
            rw [← hNe] at hN hNl ⊢
            clear hWe hb_ hNe
            go_wp2_with fail
            first | (refine hK _ _ ⟨hcq, ?_⟩; clear hK K) | refine ⟨hcq, ?_⟩
            refine norm_K fun K hK => ?_
            change wpList _ _ _ [_] _ _
            go_wp2_with fail
            refine (sl17_c hdk (hx.chg hS.hc (by omega)).1 hx1.1 hx2.1 HE.out.1 HE.out.2).mono ?_; rintro e v8 ⟨v_, rfl, hF, hb_⟩
            have h10 := hF.hvr.more hS.hz
            obtain ⟨a3, c3, b3, c9, rfl⟩ := hvr_shape h10
            have hS := hS.below hb_; have hcq := hcq.bl (hb_.mono hcq.size); have hx1 := hx1.below hb_; have hx2 := hx2.below hb_
            have hN := hN.below hb_
            clear hb_ hF
            go_wp2_with fail
            first | (refine hK _ _ ⟨hcq, ?_⟩; clear hK K) | refine ⟨hcq, ?_⟩
            refine norm_K fun K hK => ?_
            change wpList _ _ _ [_] _ _
            go_wp2_with fail
            refine (sscale16_c hdk (hx.chg hS.hc (by omega)).1 h10.hv HP.out (by omega) (by omega)).mono ?_; rintro e v9 ⟨v_, rfl, hF, hb_⟩
            have h11 := hF.hvr
            have hNh := hb_.size; have hXis := multH_is (k := 1 + k) (show 1 ≤ p by omega) HP.out
            generalize multH p (pointH p st xs ys) (1 + k) = X at h11 hXis ⊢
            obtain ⟨a4, c4, b4, c5, rfl⟩ := hvr_shape h11
            have hS := hS.below hb_; have hcq := hcq.bl (hb_.mono hcq.size); have hx1 := hx1.below hb_; have hx2 := hx2.below hb_; have h10 := h10.below hb_
            have hNc := hN.lt
            have hN := hN.below hb_
            clear hb_ hF
            go_wp2_with fail
            first | (refine hK _ _ ⟨hcq, ?_⟩; clear hK K) | refine ⟨hcq, ?_⟩
            refine norm_K fun K hK => ?_
            change wpList _ _ _ [_] _ _
            have n0 := hN.c0; have n1 := hN.c1; have nf0 := hN.f0; have nf1 := hN.f1
            go_wp2_with fail
            first | (refine hK _ _ ⟨⟨rfl, ?_⟩, ?_⟩; clear hK K) | refine ⟨⟨rfl, ?_⟩, ?_⟩
            · repeat' (first | exact trivial | exact ⟨_, rfl, (show w.heap.size < q ∨ q + 1 ≤ w.heap.size by omega), _, _, _, hld⟩ | refine And.intro ?_ ?_)
            go_wp2_with fail
            go_meet
            case rel =>
              have hb : Below (w.heap.size + 2) v9 ((v9.setCell ⟨N, 0, none⟩ (.slice a4 X.dg.length c4)).setCell ⟨N, 1, none⟩ (.slice b4 X.up.length c5)) := ((Below.refl _ _).setCell (by show _ ≤ N; omega) _).setCell (by show _ ≤ N; omega) _
              have hv := early_ap (w := w) (N := N) (wx := (v9.setCell ⟨N, 0, none⟩ (.slice a4 X.dg.length c4)).setCell ⟨N, 1, none⟩ (.slice b4 X.up.length c5)) h11 (by omega) hNc (by simp) twoset
              exact ⟨N, _, _, X, rfl, ⟨hS.bl hq hb, (hN.set0 _).set1 _, hNl, hv, hXis⟩⟩
        · skip
          refine norm_K fun K hK => ?_
          change wpList _ _ _ [_] _ _
          go_wp2_with fail
          have hb_ : Below wq.heap.size wq (wq.alloc (.cells #[.slice none 0 0, .slice none 0 0] 31)) := (by repeat (first | exact .refl _ _ | apply bwD | apply bwA | (refine bwS ?_ (by first | omega | simp <;> omega) _) | refine bwC ?_ (by assumption)))
          have hN : Bx (wq.alloc (.cells #[.slice none 0 0, .slice none 0 0] 31)) wq.heap.size (.slice none 0 0) (.slice none 0 0) := heap_alloc_new _ _
          have hNl : w.heap.size + 2 ≤ wq.heap.size := hS.hz
          have hS := hS.below hb_; have hcq := hcq.bl (hb_.mono hcq.size); have hx1 := hx1.below hb_; have hx2 := hx2.below hb_
          obtain ⟨N, hNe⟩ : ∃ N, N = wq.heap.size := ⟨_, rfl⟩
          obtain ⟨v10, hWe⟩ : ∃ x, x = (wq.alloc (.cells #[.slice none 0 0, .slice none 0 0] 31)) := ⟨_, rfl⟩
          rw [← hWe] at hN hS hcq hx1 hx2 ⊢
          rw [← hNe] at hN hNl ⊢
          clear hWe hb_ hNe
          go_wp2_with fail
          first | (refine hK _ _ ⟨hcq, ?_⟩; clear hK K) | refine ⟨hcq, ?_⟩
          refine norm_K fun K hK => ?_
          change wpList _ _ _ [_] _ _
          go_wp2_with fail
          refine (snext_c hS.hs (by omega) (by omega)).mono ?_; rintro e v11 ⟨k, rfl, hk0, hk1, hs_, hc_, hz_⟩
          have hk2 : k ≤ p - 2 := by omega
          clear hk1 hz_
          have hS := hS.chg hq hc_ hs_; have hcq := hcq.trans hc_; have hx1 := hx1.chg hc_ (by omega); have hx2 := hx2.chg hc_ (by omega)
          have hN := hN.chg hc_ (.inr (by omega))
          clear hs_ hc_
          go_wp2_with fail
          first | (refine hK _ _ ⟨hcq, ?_⟩; clear hK K) | refine ⟨hcq, ?_⟩
          refine norm_K fun K hK => ?_
          change wpList _ _ _ [_] _ _
          go_wp2_with fail
          first | (refine hK _ _ ⟨⟨rfl, ?_⟩, ?_⟩; clear hK K) | refine ⟨⟨rfl, ?_⟩, ?_⟩
          · repeat' (first | exact trivial | exact ⟨_, rfl, (show w.heap.size < q ∨ q + 1 ≤ w.heap.size by omega), _, _, _, hld⟩ | refine And.intro ?_ ?_)
          refine norm_K fun K hK => ?_
          change wpList _ _ _ [_] _ _
          go_wp2_with fail
          refine (sl17_c hdk (hx.chg hS.hc (by omega)).1 hx1.1 hx2.1 HE.out.1 HE.out.2).mono ?_; rintro e v12 ⟨v_, rfl, hF, hb_⟩
          have h10 := hF.hvr.more hS.hz
          obtain ⟨a3, c3, b3, c9, rfl⟩ := hvr_shape h10
          have hS := hS.below hb_; have hcq := hcq.bl (hb_.mono hcq.size); have hx1 := hx1.below hb_; have hx2 := hx2.below hb_
          have hN := hN.below hb_
          clear hb_ hF
          go_wp2_with fail
          first | (refine hK _ _ ⟨hcq, ?_⟩; clear hK K) | refine ⟨hcq, ?_⟩
          refine norm_K fun K hK => ?_
          change wpList _ _ _ [_] _ _
          go_wp2_with fail
          refine (sscale16_c hdk (hx.chg hS.hc (by omega)).1 h10.hv HP.out (by omega) (by omega)).mono ?_; rintro e v13 ⟨v_, rfl, hF, hb_⟩
          have h11 := hF.hvr
          have hNh := hb_.size; have hXis := multH_is (k := 1 + k) (show 1 ≤ p by omega) HP.out
          generalize multH p (pointH p st xs ys) (1 + k) = X at h11 hXis ⊢
          obtain ⟨a4, c4, b4, c5, rfl⟩ := hvr_shape h11
          have hS := hS.below hb_; have hcq := hcq.bl (hb_.mono hcq.size); have hx1 := hx1.below hb_; have hx2 := hx2.below hb_; have h10 := h10.below hb_
          have hNc := hN.lt
          have hN := hN.below hb_
          clear hb_ hF
          go_wp2_with fail
          first | (refine hK _ _ ⟨hcq, ?_⟩; clear hK K) | refine ⟨hcq, ?_⟩
          refine norm_K fun K hK => ?_
          change wpList _ _ _ [_] _ _
          have n0 := hN.c0; have n1 := hN.c1; have nf0 := hN.f0; have nf1 := hN.f1
          go_wp2_with fail
          first | (refine hK _ _ ⟨⟨rfl, ?_⟩, ?_⟩; clear hK K) | refine ⟨⟨rfl, ?_⟩, ?_⟩
          · repeat' (first | exact trivial | exact ⟨_, rfl, (show w.heap.size < q ∨ q + 1 ≤ w.heap.size by omega), _, _, _, hld⟩ | refine And.intro ?_ ?_)
          go_wp2_with fail
          go_meet
          case rel =>
            have hb : Below (w.heap.size + 2) v13 ((v13.setCell ⟨N, 0, none⟩ (.slice a4 X.dg.length c4)).setCell ⟨N, 1, none⟩ (.slice b4 X.up.length c5)) := ((Below.refl _ _).setCell (by show _ ≤ N; omega) _).setCell (by show _ ≤ N; omega) _
            have hv := early_ap (w := w) (N := N) (wx := (v13.setCell ⟨N, 0, none⟩ (.slice a4 X.dg.length c4)).setCell ⟨N, 1, none⟩ (.slice b4 X.up.length c5)) h11 (by omega) hNc (by simp) twoset
            exact ⟨N, _, _, X, rfl, ⟨hS.bl hq hb, (hN.set0 _).set1 _, hNl, hv, hXis⟩⟩
      case' rest => skip
      obtain ⟨N, dN, uN, X, rfl, hP⟩ := hcut
      have hS := hP.st; have hN := hP.nb; have hNl := hP.nl; have hXis := hP.is; obtain ⟨W0, lo, hlo, hV, hWs, hVk⟩ := hP.hv
      clear hP
      obtain ⟨z1, z2, z3, u, v, t, bd, od, cd, bu, ou, cu, r, s, z, rfl, hE, _, _, _, eu, ev, et, m1, m2, m3, k1_, k2_, k3_, er, es, et_, kd, ku, hbd, hbu⟩ := hV.op3 hXis
      cases hE
      have HV := Lib.hid (And.intro eu (And.intro ev et)); clear eu ev et
      go_wp2_with fail
      refine (snext_c hS.hs (by decide) (by decide)).mono ?_; rintro e w10 ⟨y3, rfl, _, _, hs_, hc_, hz_⟩
      have hS := hS.chg hq hc_ hs_
      have hNlt := hN.lt
      have hN := hN.chg hc_ (.inr (by omega))
      have hWs := Nat.le_trans hWs hc_.size
      have hVk : ∀ b, lo ≤ b → b < W0.heap.size → b ≠ N ∧ w10.heap[b]? = W0.heap[b]? := fun b h1 h2 => ⟨(hVk b h1 h2).1, (hc_.block b (by omega) (.inr (by omega))).trans (hVk b h1 h2).2⟩
      clear hz_ hs_ hc_
      have n0 := hN.c0; have n1 := hN.c1; have nf0 := hN.f0; have nf1 := hN.f1
      have r0 := hS.hr.c0; have r1 := hS.hr.c1; have rf0 := hS.hr.f0; have rf1 := hS.hr.f1
      by_cases hy3 : y3 = 0
      case neg =>
        have hy3_ : (y3 == 0) = false := by simpa using hy3
        have hV10 := (hV.keep hWs fun b h1 h2 => (hVk b h1 h2).2).more hlo
        go_wp2_with fail
        refine bodyPost_ret (v := .agg #[.slice (some ⟨bd, od, none⟩) 3 cd, .slice (some ⟨bu, ou, none⟩) 3 cu]) (by simp [results, Tryz.results59, go_sem, r0, r1]) rfl ?_
        exact hS.fin hq hV10 (isH_hszn hXis (by omega)) _ _
      subst hy3
      have hSd := hS.below (wy := w10.drew) (by repeat (first | exact .refl _ _ | apply bwD | apply bwA | (refine bwS ?_ (by first | omega | simp <;> omega) _) | refine bwC ?_ (by assumption)))
      have m1 := cell_same m1 (hVk bd hbd.1 hbd.2).2; have m2 := cell_same m2 (hVk bd hbd.1 hbd.2).2; have m3 := cell_same m3 (hVk bd hbd.1 hbd.2).2
      have k1_ := cell_same k1_ (hVk bu hbu.1 hbu.2).2; have k2_ := cell_same k2_ (hVk bu hbu.1 hbu.2).2; have k3_ := cell_same k3_ (hVk bu hbu.1 hbu.2).2
      obtain ⟨a6, c6, rfl, _⟩ := id er.1.op; obtain ⟨a7, c7, rfl, _⟩ := id es.1.op; obtain ⟨a8, c8, rfl, _⟩ := id et_.1.op
      have m1 := cell_same (w' := w10.drew) m1 rfl; have m2 := cell_same (w' := w10.drew) m2 rfl; have m3 := cell_same (w' := w10.drew) m3 rfl
      have k1_ := cell_same (w' := w10.drew) k1_ rfl; have k2_ := cell_same (w' := w10.drew) k2_ rfl; have k3_ := cell_same (w' := w10.drew) k3_ rfl
      have n0 := cell_same (w' := w10.drew) n0 rfl; have n1 := cell_same (w' := w10.drew) n1 rfl
      have hVk : ∀ b, lo ≤ b → b < W0.heap.size → b ≠ N ∧ w10.drew.heap[b]? = W0.heap[b]? := hVk
      have hWs : W0.heap.size ≤ w10.drew.heap.size := hWs
      have hNq : N < w10.drew.heap.size := hN.lt
      have hN : Bx w10.drew N _ _ := hN
      go_upto_region 8 with fail
      refine region_tqs [(0, 0), (1, 1), (2, 0), (3, 1), (4, 0), (5, 1), (6, 0), (7, 1), (8, 0), (9, 1), (10, 0), (11, 1), (13, 0), (14, 1), (15, 0), (16, 1), (17, 0), (18, 1), (19, 0), (20, 1), (21, 0), (22, 1), (23, 0), (24, 1)] (.two 12 5 (.lin [(false, [(25, 5)]), (false, [(26, 0), (27, 4)])]) 25 5 (.lin [(false, [(12, 5)]), (false, [(26, 0), (27, 4)])])) (by kernel_rfl) ?_
      refine norm_K fun K hK => ?_
      change wpList _ _ _ [_, _, _, _, _, _, _, _, _, _, _, _, _, _, _, _, _, _, _, _, _, _, _, _] _ _
      generalize w10.drew = wq at *
      go_wp2_with fail
      refine hK _ _ ⟨rfl, ?_⟩; clear hK K
      refine ⟨?_, ?_⟩
      · skip
        refine norm_K fun K hK => ?_
        change wpList _ _ _ [_] _ _
        go_wp2_with fail
        have hbA : Below wq.heap.size wq (wq.alloc (.cells #[.int .i64 z2, .int .i64 z3, .int .i64 z1] 2)) := (by repeat (first | exact .refl _ _ | apply bwD | apply bwA | (refine bwS ?_ (by first | omega | simp <;> omega) _) | refine bwC ?_ (by assumption)))
        have hA := heap_alloc_new wq (.cells #[.int .i64 z2, .int .i64 z3, .int .i64 z1] 2)
        obtain ⟨WA, hWe⟩ : ∃ x, x = (wq.alloc (.cells #[.int .i64 z2, .int .i64 z3, .int .i64 z1] 2)) := ⟨_, rfl⟩
        rw [← hWe] at hA hbA ⊢; clear hWe
        have hS := hSd.below hbA; have hN := hN.below hbA
        first | (refine hK _ _ ⟨hbA, ?_⟩; clear hK K) | refine ⟨hbA, ?_⟩
        refine norm_K fun K hK => ?_
        change wpList _ _ _ [_] _ _
        go_wp2_with fail
        have hbB : Below WA.heap.size WA (WA.alloc (.cells #[.slice a7 v.length c7, .slice a8 t.length c8, .slice a6 u.length c6] 24)) := (by repeat (first | exact .refl _ _ | apply bwD | apply bwA | (refine bwS ?_ (by first | omega | simp <;> omega) _) | refine bwC ?_ (by assumption)))
        have hB := heap_alloc_new WA (.cells #[.slice a7 v.length c7, .slice a8 t.length c8, .slice a6 u.length c6] 24)
        obtain ⟨WB, hWe⟩ : ∃ x, x = (WA.alloc (.cells #[.slice a7 v.length c7, .slice a8 t.length c8, .slice a6 u.length c6] 24)) := ⟨_, rfl⟩
        rw [← hWe] at hB hbB ⊢; clear hWe
        have hS := hS.below hbB; have hN := hN.below hbB; have hbq2 : Below wq.heap.size wq WB := hbA.trans (hbB.mono hbA.size)
        first | (refine hK _ _ ⟨hbq2, ?_⟩; clear hK K) | refine ⟨hbq2, ?_⟩
        have n0 := hN.c0; have n1 := hN.c1; have nf0 := hN.f0; have nf1 := hN.f1
        have r0 := hS.hr.c0; have r1 := hS.hr.c1; have rf0 := hS.hr.f0; have rf1 := hS.hr.f1
        refine norm_K fun K hK => ?_
        change wpList _ _ _ [_, _] _ _
        go_wp2_with fail
        first | (refine hK _ _ ⟨rfl, ?_⟩; clear hK K) | refine ⟨rfl, ?_⟩
        go_wp2_with fail
        refine bodyPost_ret (v := .agg #[(.slice (some ⟨wq.heap.size, 0, none⟩) 3 3), (.slice (some ⟨WA.heap.size, 0, none⟩) 3 3)]) (by simp [results, Tryz.results59, go_sem, r0, r1]) rfl ?_
        have hsA := hbA.size; have hlA := cell_lt' hA
        exact turn_fin hq hS hNl hlo er es et_ hWs hbq2 hVk ((hbB.block _ hlA).trans hA) hB (by omega) (by omega) HV.out hsz.2
      · skip
        refine norm_K fun K hK => ?_
        change wpList _ _ _ [_] _ _
        go_wp2_with fail
        have hbA : Below wq.heap.size wq (wq.alloc (.cells #[.slice a7 v.length c7, .slice a8 t.length c8, .slice a6 u.length c6] 24)) := (by repeat (first | exact .refl _ _ | apply bwD | apply bwA | (refine bwS ?_ (by first | omega | simp <;> omega) _) | refine bwC ?_ (by assumption)))
        have hA := heap_alloc_new wq (.cells #[.slice a7 v.length c7, .slice a8 t.length c8, .slice a6 u.length c6] 24)
        obtain ⟨WA, hWe⟩ : ∃ x, x = (wq.alloc (.cells #[.slice a7 v.length c7, .slice a8 t.length c8, .slice a6 u.length c6] 24)) := ⟨_, rfl⟩
        rw [← hWe] at hA hbA ⊢; clear hWe
        have hS := hSd.below hbA; have hN := hN.below hbA
        first | (refine hK _ _ ⟨hbA, ?_⟩; clear hK K) | refine ⟨hbA, ?_⟩
        refine norm_K fun K hK => ?_
        change wpList _ _ _ [_] _ _
        go_wp2_with fail
        have hbB : Below WA.heap.size WA (WA.alloc (.cells #[.int .i64 z2, .int .i64 z3, .int .i64 z1] 2)) := (by repeat (first | exact .refl _ _ | apply bwD | apply bwA | (refine bwS ?_ (by first | omega | simp <;> omega) _) | refine bwC ?_ (by assumption)))
        have hB := heap_alloc_new WA (.cells #[.int .i64 z2, .int .i64 z3, .int .i64 z1] 2)
        obtain ⟨WB, hWe⟩ : ∃ x, x = (WA.alloc (.cells #[.int .i64 z2, .int .i64 z3, .int .i64 z1] 2)) := ⟨_, rfl⟩
        rw [← hWe] at hB hbB ⊢; clear hWe
        have hS := hS.below hbB; have hN := hN.below hbB; have hbq2 : Below wq.heap.size wq WB := hbA.trans (hbB.mono hbA.size)
        first | (refine hK _ _ ⟨hbq2, ?_⟩; clear hK K) | refine ⟨hbq2, ?_⟩
        have n0 := hN.c0; have n1 := hN.c1; have nf0 := hN.f0; have nf1 := hN.f1
        have r0 := hS.hr.c0; have r1 := hS.hr.c1; have rf0 := hS.hr.f0; have rf1 := hS.hr.f1
        refine norm_K fun K hK => ?_
        change wpList _ _ _ [_, _] _ _
        go_wp2_with fail
        first | (refine hK _ _ ⟨rfl, ?_⟩; clear hK K) | refine ⟨rfl, ?_⟩
        go_wp2_with fail
        refine bodyPost_ret (v := .agg #[(.slice (some ⟨WA.heap.size, 0, none⟩) 3 3), (.slice (some ⟨wq.heap.size, 0, none⟩) 3 3)]) (by simp [results, Tryz.results59, go_sem, r0, r1]) rfl ?_
        have hsA := hbA.size; have hlA := cell_lt' hA
        exact turn_fin hq hS hNl hlo er es et_ hWs hbq2 hVk hB ((hbB.block _ hlA).trans hA) (by omega) (by omega) HV.out hsz.2
end Go.Proofs.YtgcelfnjijhmkaaGreat
