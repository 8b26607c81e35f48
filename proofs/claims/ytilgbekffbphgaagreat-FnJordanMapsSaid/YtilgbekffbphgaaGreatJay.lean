/- Texts joined for a claim: HeM, TreeB. -/
import Derived.Test.YtilgbekffbphgaaGreatJax
import Derived.Test.YtilgbekffbphgaaGreatJaj
namespace Go.Proofs.YtilgbekffbphgaaGreat
open Go.RowKit
def DrP1 (w : World) (e : Ending) (w' : World) : Prop := ∃ (p : Int) (v x : Value) (st : List Int) (X : Her), e = .returned (.tuple #[.agg #[.int .i64 p, v], x]) /\ 0 <= p /\ p <= 17 /\ st.length <= 5 /\ ElR w' w.heap.size v st /\ HvR w' w.heap.size x X /\ Hsz X /\ Below w.heap.size w w'
theorem HvR.shape {w : World} {B : Nat} {v : Value} {X : Her} (h : HvR w B v X) : ∃ a c b e, v = .agg #[.slice a X.dg.length c, .slice b X.up.length e] := by
 obtain ⟨d, u, rfl, hd, hu⟩ := h
 obtain ⟨a, c, rfl, _⟩ := hd.1.op
 obtain ⟨b, e, rfl, _⟩ := hu
 exact ⟨_, _, _, _, rfl⟩
theorem ElR.shape {w : World} {B : Nat} {v : Value} {xs : List Int} (h : ElR w B v xs) : ∃ a c, v = .slice a xs.length c := by
 obtain ⟨a, c, rfl, _⟩ := h.1.op
 exact ⟨_, _, rfl⟩
set_option maxHeartbeats 8000000 in
set_option maxRecDepth 100000 in
theorem sdrawh1_c {v : Value} {n : Nat} {w : World} (hc : Co w w.heap.size v n) :
  Calls Tryz.prog 31 #[v] w fun e w' => DrP1 w e w' := by
 obtain ⟨a, c, rfl, _⟩ := id hc
 go_enter Tryz.func31, Tryz.ntmps31
 go_wp2_with fail
 obtain ⟨W1, hW1⟩ : ∃ x, x = ((w.alloc (.cells #[.int .i64 0, .slice none 0 0] 26)).alloc (.cells #[.slice none 0 0, .slice none 0 0] 29)) := ⟨_, rfl⟩
 have hb1 : Below w.heap.size w W1 := by rw [hW1]; exact bwT
 have hz1 : W1.heap.size = w.heap.size + 1 + 1 := by rw [hW1]; simp
 have ra0 : Bd W1 w.heap.size (.int .i64 0) (.slice none 0 0) := by rw [hW1]; exact Bd.below (heap_alloc_new w _) bwT
 have ra1 : Bx W1 (w.heap.size + 1) (.slice none 0 0) (.slice none 0 0) := by
  rw [hW1]
  have h := heap_alloc_new (w.alloc (.cells #[.int .i64 0, .slice none 0 0] 26)) (.cells #[.slice none 0 0, .slice none 0 0] 29)
  rw [show (w.alloc (.cells #[.int .i64 0, .slice none 0 0] 26)).heap.size = w.heap.size + 1 by simp] at h
  exact Bx.below h bwT
 rw [<- hW1]
 clear hW1
 refine (sdraw16_c (m := 1) ((hc.below hb1).wide (by omega)) (by decide)).mono ?_; rintro e w2 ⟨p, v, l, st, zs, Xs, rfl, hp1, hp2, hl, hE, hL, hXl, hb2⟩
 have hbw := hb1.trans (hb2.mono (by omega))
 have hz2 : w.heap.size + 1 + 1 <= w2.heap.size := by have := hb2.size; omega
 have ra0 := ra0.below hb2
 have ra1 := ra1.below hb2
 have hE := hE.more (B' := w.heap.size + 1 + 1) (by omega); have hL := hL.more (B' := w.heap.size + 1 + 1) (by omega)
 clear hz1 hb1 hb2
 obtain ⟨av, cv, rfl⟩ := hE.shape
 obtain ⟨X, rfl⟩ : ∃ X, Xs = [X] := by match Xs, hXl with | [X], _ => exact ⟨X, rfl⟩
 clear hXl
 have hz0_ := hL.sz X (by simp)
 obtain ⟨gl, cl, _, _, rfl, hgl, _⟩ := hL.get (j := 0) (by simp)
 go_upto_region 2 with fail
 have hb3 : Below w2.heap.size w2 (w2.alloc (.cells #[.int .i64 p, .slice av st.length cv] 26)).drew := bwT
 have hd3 : Bd (w2.alloc (.cells #[.int .i64 p, .slice av st.length cv] 26)).drew w2.heap.size (.int .i64 p) (.slice av st.length cv) := heap_alloc_new w2 _
 have ra0 := ra0.below hb3
 have ra1 := ra1.below hb3
 have hE := hE.below hb3; have hL := hL.below hb3
 have hbw := hbw.trans (hb3.mono hbw.size)
 have hwz : w.heap.size + 1 + 1 <= (w2.alloc (.cells #[.int .i64 p, .slice av st.length cv] 26)).drew.heap.size := by have := hb3.size; omega
 obtain ⟨M, hM⟩ : ∃ M, M = w2.heap.size := ⟨_, rfl⟩
 rw [<- hM] at hd3 hz2 ⊢
 clear hM hb3
 refine @region_flowR ⟨w.heap.size, w.heap.size + 1 + 1⟩ _ [(false, [(0, 1), (1, 0), (2, 0), (3, 1), (4, 5)]), (false, [(5, 4)])] _ _ _ _ _ (by kernel_rfl) ?_
 refine norm_K fun K hK => ?_
 change wpList _ _ _ [_, _, _, _, _] _ _
 generalize (w2.alloc (.cells #[.int .i64 p, .slice av st.length cv] 26)).drew = wq at *
 obtain ⟨g0, q0, d0, u0, hg0_, hgB0, hgz0, hgc0, k00, k01, hV0⟩ := hL.get (j := 0) (by simp)
 obtain ⟨a0, c0, b0, e0, hs0_⟩ := hV0.shape
 cases hs0_
 have hgg0 : gl = g0 := by cases hg0_; rfl
 subst hgg0
 have hV0 : HvR _ _ _ X := hV0
 have m0 := hd3.c0; have m1 := hd3.c1
 have r00 := ra0.c0; have r01 := ra0.c1; have f00 := ra0.f 0; have f01 := ra0.f 1
 have r10 := ra1.c0; have r11 := ra1.c1; have f10 := ra1.f0; have f11 := ra1.f1
 (try simp at k00 k01)
 go_wp2_with fail
 first | (refine hK _ _ ⟨(((Chg.refl (w := wq)).trans ((Chg.set _ ⟨w.heap.size, 0, none⟩ _).wide (lo' := w.heap.size) (hi' := w.heap.size + 1 + 1) (by show w.heap.size <= w.heap.size; omega) (by show w.heap.size + 1 <= w.heap.size + 1 + 1; omega))).trans ((Chg.set _ ⟨w.heap.size, 1, none⟩ _).wide (lo' := w.heap.size) (hi' := w.heap.size + 1 + 1) (by show w.heap.size <= w.heap.size; omega) (by show w.heap.size + 1 <= w.heap.size + 1 + 1; omega))), ?_⟩; clear hK K) | refine ⟨(((Chg.refl (w := wq)).trans ((Chg.set _ ⟨w.heap.size, 0, none⟩ _).wide (lo' := w.heap.size) (hi' := w.heap.size + 1 + 1) (by show w.heap.size <= w.heap.size; omega) (by show w.heap.size + 1 <= w.heap.size + 1 + 1; omega))).trans ((Chg.set _ ⟨w.heap.size, 1, none⟩ _).wide (lo' := w.heap.size) (hi' := w.heap.size + 1 + 1) (by show w.heap.size <= w.heap.size; omega) (by show w.heap.size + 1 <= w.heap.size + 1 + 1; omega))), ?_⟩
 refine norm_K fun K hK => ?_
 change wpList _ _ _ [_] _ _
 go_wp2_with fail
 first | (refine hK _ _ ⟨⟨rfl, ?_⟩, ?_⟩; clear hK K) | refine ⟨⟨rfl, ?_⟩, ?_⟩
 ·obtain ⟨cs_, T_, fr_, hgc_⟩ := hgc0
  repeat' (first | exact trivial | exact ⟨_, rfl, (show M < w.heap.size \/ w.heap.size + 1 + 1 <= M by omega), _, _, _, hd3⟩ | exact ⟨_, rfl, (show gl < w.heap.size \/ w.heap.size + 1 + 1 <= gl by omega), _, _, _, hgc_⟩ | refine And.intro ?_ ?_)
 go_wp2_with fail
 have hCF := (((((Chg.refl (w := wq)).trans ((Chg.set _ ⟨w.heap.size, 0, none⟩ (.int .i64 p)).wide (lo' := w.heap.size) (hi' := w.heap.size + 1 + 1) (by show w.heap.size <= w.heap.size; omega) (by show w.heap.size + 1 <= w.heap.size + 1 + 1; omega))).trans ((Chg.set _ ⟨w.heap.size, 1, none⟩ (.slice av st.length cv)).wide (lo' := w.heap.size) (hi' := w.heap.size + 1 + 1) (by show w.heap.size <= w.heap.size; omega) (by show w.heap.size + 1 <= w.heap.size + 1 + 1; omega))).trans ((Chg.set _ ⟨w.heap.size + 1, 0, none⟩ (.slice a0 X.dg.length c0)).wide (lo' := w.heap.size) (hi' := w.heap.size + 1 + 1) (by show w.heap.size <= w.heap.size + 1; omega) (by show w.heap.size + 1 + 1 <= w.heap.size + 1 + 1; omega))).trans ((Chg.set _ ⟨w.heap.size + 1, 1, none⟩ (.slice b0 X.up.length e0)).wide (lo' := w.heap.size) (hi' := w.heap.size + 1 + 1) (by show w.heap.size <= w.heap.size + 1; omega) (by show w.heap.size + 1 + 1 <= w.heap.size + 1 + 1; omega)))
 refine bodyPost_ret (v := .tuple #[.agg #[.int .i64 p, .slice av st.length cv], .agg #[.slice a0 X.dg.length c0, .slice b0 X.up.length e0]]) (by simp [results, Tryz.results31, go_sem, r00, r01, r10, r11]) rfl ?_
 exact ⟨p, _, _, st, X, rfl, hp1, hp2, hl, (hE.chg hCF (by omega)).more (by omega), (hV0.chg hCF (by omega)).more (by omega), hz0_, ((((hbw.setCell (p := ⟨w.heap.size, 0, none⟩) (by show w.heap.size <= w.heap.size; omega) _).setCell (p := ⟨w.heap.size, 1, none⟩) (by show w.heap.size <= w.heap.size; omega) _).setCell (p := ⟨w.heap.size + 1, 0, none⟩) (by show w.heap.size <= w.heap.size + 1; omega) _).setCell (p := ⟨w.heap.size + 1, 1, none⟩) (by show w.heap.size <= w.heap.size + 1; omega) _)⟩
section
variable {P : Program} {ops : Array Oper}
inductive Tq where
 | lin (segs : List (Bool × List (Nat × Nat)))
 | two (i m : Nat) (s : Tq) (j n : Nat) (t : Tq)
 | one (i m : Nat) (s : Tq)
def Tq.lenOk : Tq -> Nat -> Bool
 | .lin segs, k => (flat segs).length == k
 | .two _ _ _ _ _ _, 0 => false
 | .two _ _ s _ _ t, k + 1 => s.lenOk k && t.lenOk k
 | .one _ _ _, 0 => false
 | .one _ _ s, k + 1 => s.lenOk k
def Tq.acts : Tq -> Nat -> Bool
 | .lin segs, i => (flat segs).any fun p => p.1 == i && decide (2 <= p.2)
 | .two i _ s j _ t, k => i == k || j == k || s.acts k || t.acts k
 | .one i _ s, k => i == k || s.acts k
def lqOk (P : Program) (ops : Array Oper) : Tq -> Bool
 | .lin segs => kindsOk P ops (flat segs) && stableB ops (segL ops (flat segs)) && segsOk segs
 | .two _ _ s _ _ t => lqOk P ops s && lqOk P ops t
 | .one _ _ s => lqOk P ops s
def tqOk (P : Program) (ops : Array Oper) (F : Nat) (act : Nat -> Bool) : Tq -> Array Bool -> List (Nat × Nat) -> Bool -> Bool
 | .lin segs, listed, L, st => flowOk P ops F act (flat segs) listed L st
 | .two i m s j n t, listed, L, _ => Region.ready .any ops listed == [i, j] &&
   ((ops[i]?).isSome && decide (2 <= m) && act i && actOk ops F i m L && tqOk P ops F act s (listed.setIfInBounds i true) (L.map fun l => (l.1, actNext m l.2)) true) &&
   ((ops[j]?).isSome && decide (2 <= n) && act j && actOk ops F j n L && tqOk P ops F act t (listed.setIfInBounds j true) (L.map fun l => (l.1, actNext n l.2)) true)
 | .one i m s, listed, L, _ => Region.ready .any ops listed == [i] &&
   ((ops[i]?).isSome && decide (2 <= m) && act i && actOk ops F i m L && tqOk P ops F act s (listed.setIfInBounds i true) (L.map fun l => (l.1, actNext m l.2)) true)
def wqTree (P : Program) (ops : Array Oper) (Q : Act -> World -> Prop) (w0 : World) : Tq -> Act -> World -> Prop
 | .lin segs, a, w => wpFlow P ops Q w0 (flat segs) a w
 | .two i m s j n t, a, w => stepA P ops w0 i m (wqTree P ops Q w0 s) a w /\ stepA P ops w0 j n (wqTree P ops Q w0 t) a w
 | .one i m s, a, w => stepA P ops w0 i m (wqTree P ops Q w0 s) a w
theorem tq_sound {F : Nat} {act : Nat -> Bool} {Q : Act -> World -> Prop} {w0 : World} (hs : Region.noSelect ops = true) :
  ∀ (t : Tq) (n : Nat) (listed : Array Bool) (L : List (Nat × Nat × World)) (st : Bool) (a : Act) (w : World), Closed .any ops listed -> tqOk P ops F act t listed (bare L) st = true -> t.lenOk n = true ->
   Inv w0 L w -> (st = false -> w = w0) -> wqTree P ops Q w0 t a w -> wpAnyN P .any ops (NormQ Q) act (needN ops F L) n listed a w
 | .lin segs, n, listed, L, st, a, w, hcl, hok, hlen, hinv, hst, h => by
  unfold Tq.lenOk at hlen
  rw [<- beq_iff_eq.1 hlen]
  exact flow_sound hs (flat segs) listed L st a w hcl hok hinv hst h
 | .two i m s j k t, 0, listed, L, st, a, w, hcl, hok, hlen, hinv, hst, h => by cases hlen
 | .one i m s, 0, listed, L, st, a, w, hcl, hok, hlen, hinv, hst, h => by cases hlen
 | .one i m s, n + 1, listed, L, st, a, w, hcl, hok, hlen, hinv, hst, h => by
  unfold Tq.lenOk at hlen
  unfold tqOk at hok
  simp only [Bool.and_eq_true, beq_iff_eq, decide_eq_true_eq] at hok
  obtain ⟨hr, ⟨⟨⟨hoi, hm⟩, hai⟩, hacti⟩, hti⟩ := hok
  have h1 := h
  obtain ⟨oi, hoi⟩ := Option.isSome_iff_exists.1 hoi
  have hir : i ∈ Region.ready .any ops listed := by rw [hr]; simp
  refine ⟨fun h0 => ?_, fun q hq => ?_⟩
  ·rw [hr] at h0; cases h0
  ·rw [hr] at hq
   simp only [List.mem_cons, List.not_mem_nil, or_false] at hq
   subst hq
   change stepA P ops w0 q m (wqTree P ops Q w0 s) a w at h1
   unfold stepA at h1
   simp only [hoi] at h1
   exact act_stepK hoi hai hacti hinv (by omega) h1 fun a' w' hi hf => tq_sound hs s n _ _ true a' w' (hcl.set hir) (by rw [bare_act]; exact hti) hlen hi (fun h => by cases h) hf
 | .two i m s j k t, n + 1, listed, L, st, a, w, hcl, hok, hlen, hinv, hst, h => by
  unfold Tq.lenOk at hlen
  rw [Bool.and_eq_true] at hlen
  unfold tqOk at hok
  simp only [Bool.and_eq_true, beq_iff_eq, decide_eq_true_eq] at hok
  obtain ⟨⟨hr, ⟨⟨⟨hoi, hm⟩, hai⟩, hacti⟩, hti⟩, ⟨⟨⟨hoj, hk⟩, haj⟩, hactj⟩, htj⟩ := hok
  obtain ⟨h1, h2⟩ := h
  obtain ⟨oi, hoi⟩ := Option.isSome_iff_exists.1 hoi
  obtain ⟨oj, hoj⟩ := Option.isSome_iff_exists.1 hoj
  have hir : i ∈ Region.ready .any ops listed := by rw [hr]; simp
  have hjr : j ∈ Region.ready .any ops listed := by rw [hr]; simp
  refine ⟨fun h0 => ?_, fun q hq => ?_⟩
  ·rw [hr] at h0; cases h0
  ·rw [hr] at hq
   simp only [List.mem_cons, List.not_mem_nil, or_false] at hq
   rcases hq with rfl | rfl
   ·unfold stepA at h1
    simp only [hoi] at h1
    exact act_stepK hoi hai hacti hinv (by omega) h1 fun a' w' hi hf => tq_sound hs s n _ _ true a' w' (hcl.set hir) (by rw [bare_act]; exact hti) hlen.1 hi (fun h => by cases h) hf
   ·unfold stepA at h2
    simp only [hoj] at h2
    exact act_stepK hoj haj hactj hinv (by omega) h2 fun a' w' hi hf => tq_sound hs t n _ _ true a' w' (hcl.set hjr) (by rw [bare_act]; exact htj) hlen.2 hi (fun h => by cases h) hf
def preQ (P : Program) (ops : Array Oper) (F : Nat) (act : Nat -> Bool) (t : Tq) : List (Nat × Nat) -> Array Bool -> List (Nat × Nat) -> Bool
 | [], listed, L => tqOk P ops F act t listed L false
 | (i, m) :: rest, listed, L => match ops[i]? with
  | none => false
  | some o => (Region.ready .any ops listed).contains i && (match m with
   | 0 => opKind P o == 0 && Region.free .any ops listed i && !act i && preQ P ops F act t rest (listed.setIfInBounds i true) L
   | 1 => opKind P o == 1 && Region.free .any ops listed i && !act i && preQ P ops F act t rest (listed.setIfInBounds i true) ((i, 2) :: L)
   | _ => false)
theorem preQ_sound {F : Nat} {act : Nat -> Bool} {Q : Act -> World -> Prop} {w0 : World} (hs : Region.noSelect ops = true) {t : Tq} {n : Nat} (hn : t.lenOk n = true) :
  ∀ (c : List (Nat × Nat)) (listed : Array Bool) (L : List (Nat × Nat × World)) (a : Act), Closed .any ops listed -> preQ P ops F act t c listed (bare L) = true ->
   Inv w0 L w0 -> wpFlow P ops (fun a w => w = w0 /\ wqTree P ops Q w0 t a w) w0 c a w0 -> wpAnyN P .any ops (NormQ Q) act (needN ops F L) (c.length + n) listed a w0
 | [], listed, L, a, hcl, hok, hinv, h => by
  rw [List.length_nil, Nat.zero_add]
  exact tq_sound hs t n listed L false a w0 hcl hok hn hinv (fun _ => rfl) h.2
 | (i, m) :: rest, listed, L, a, hcl, hok, hinv, h => by
  unfold preQ at hok
  unfold wpFlow at h
  split at hok
  ·cases hok
  rename_i o ho
  rw [ho] at h
  dsimp only at h
  rw [Bool.and_eq_true] at hok
  obtain ⟨hr, hok⟩ := hok
  have hr : i ∈ Region.ready .any ops listed := by simpa using hr
  have hQ : ∀ (v : Value) (c : List PanicEntry) (a : Act) (w : World), NormQ Q (.panic c) (a.put o.dst v) w -> NormQ Q (.panic c) a w := fun _ _ _ _ h => h
  rw [List.length_cons, Nat.add_right_comm]
  split at hok
  ·simp only [Bool.and_eq_true, Bool.not_eq_true', beq_iff_eq] at hok
   obtain ⟨⟨⟨_, hf⟩, ha⟩, hrest⟩ := hok
   rw [if_pos (by decide)] at h
   obtain ⟨v, hy, h⟩ := h
   exact wpAnyN_first (N' := needN ops F L) (F := F) ho (Region.noSelect_spec hs) (hQ v) ha (fun _ _ h => h) _ listed a w0 hcl (fun _ _ _ _ _ _ _ => trivial) (Region.free_spec ho hf) hr hy trivial
    (preQ_sound hs hn rest _ L _ (hcl.set hr) hrest hinv h)
  ·simp only [Bool.and_eq_true, Bool.not_eq_true', beq_iff_eq] at hok
   obtain ⟨⟨⟨_, hf⟩, ha⟩, hrest⟩ := hok
   rw [if_pos (by decide)] at h
   obtain ⟨v, hy, h⟩ := h
   refine wpAnyN_first (N' := needN ops F ((i, 2, w0) :: L)) (S := fun w' => Below w0.heap.size w0 w') (F := F) ho (Region.noSelect_spec hs) (hQ v) ha (fun j w' h l hl => h l (List.mem_cons_of_mem _ hl)) _ listed a w0 hcl
    (fun j w' _ _ _ hw h => h _ List.mem_cons_self hw) (Region.free_spec ho hf) hr hy (Below.refl _ _) (preQ_sound hs hn rest _ _ _ (hcl.set hr) hrest ?_ h)
   intro l hl
   rcases List.mem_cons.1 hl with rfl | hl
   ·exact ⟨fun _ => rfl, fun _ => Below.refl _ _⟩
   ·exact hinv l hl
  ·cases hok
def wqTrees (P : Program) (ops : Array Oper) (Q : Act -> World -> Prop) (w0 : World) : Tq -> Act -> World -> Prop
 | .lin segs, a, w => wpSegs P ops (fun a' w' => shapesB ops (flat segs) a' = true /\ Q a' w') w0 segs a w
 | .two i m s j n t, a, w => wpList P ops (NormQ fun a' w' => obl m w0 w w' /\ wqTrees P ops Q w0 s a' w') (segL ops [(i, m)]) a w /\
   wpList P ops (NormQ fun a' w' => obl n w0 w w' /\ wqTrees P ops Q w0 t a' w') (segL ops [(j, n)]) a w
 | .one i m s, a, w => wpList P ops (NormQ fun a' w' => obl m w0 w w' /\ wqTrees P ops Q w0 s a' w') (segL ops [(i, m)]) a w
theorem tqs_sound {Q : Act -> World -> Prop} {w0 : World} {F : Nat} {act : Nat -> Bool} : ∀ (t : Tq) (listed : Array Bool) (L : List (Nat × Nat)) (st : Bool) (a : Act) (w : World), lqOk P ops t = true -> tqOk P ops F act t listed L st = true -> wqTrees P ops Q w0 t a w -> wqTree P ops Q w0 t a w
 | .lin segs, _, _, _, a, w, hl, _, h => by
  unfold lqOk at hl
  simp only [Bool.and_eq_true] at hl
  exact segs_flow (P := P) (Q := Q) (G := segL ops (flat segs)) segs a w hl.1.1 hl.1.2 hl.2 (fun o ho => ho) h
 | .two i m s j n t, listed, L, st, a, w, hl, hok, h => by
  unfold lqOk at hl
  rw [Bool.and_eq_true] at hl
  unfold tqOk at hok
  simp only [Bool.and_eq_true, beq_iff_eq, decide_eq_true_eq] at hok
  obtain ⟨⟨hr, ⟨⟨⟨hoi, hm⟩, hai⟩, hacti⟩, hti⟩, ⟨⟨⟨hoj, hk⟩, haj⟩, hactj⟩, htj⟩ := hok
  have mono : ∀ {i m : Nat} {K K' : Act -> World -> Prop}, (∀ a w, K a w -> K' a w) -> stepA P ops w0 i m K a w -> stepA P ops w0 i m K' a w := by
   intro i m K K' hK h
   unfold stepA at *
   split at h
   ·exact h
   ·rename_i o ho
    split at h
    ·rw [if_pos (by assumption)]
     exact Oper.wp_mono (fun a' w' h' => ⟨h'.1, hK _ _ h'.2⟩) h
    ·rename_i hn
     rw [if_neg hn]
     exact ⟨h.1, hK _ _ h.2⟩
  exact ⟨mono (fun a w h => tqs_sound s _ _ _ a w hl.1 hti h) (step_of hoi h.1), mono (fun a w h => tqs_sound t _ _ _ a w hl.2 htj h) (step_of hoj h.2)⟩
 | .one i m s, listed, L, st, a, w, hl, hok, h => by
  unfold lqOk at hl
  unfold tqOk at hok
  simp only [Bool.and_eq_true, beq_iff_eq, decide_eq_true_eq] at hok
  obtain ⟨hr, ⟨⟨⟨hoi, hm⟩, hai⟩, hacti⟩, hti⟩ := hok
  have mono : ∀ {i m : Nat} {K K' : Act -> World -> Prop}, (∀ a w, K a w -> K' a w) -> stepA P ops w0 i m K a w -> stepA P ops w0 i m K' a w := by
   intro i m K K' hK h
   unfold stepA at *
   split at h
   ·exact h
   ·rename_i o ho
    split at h
    ·rw [if_pos (by assumption)]
     exact Oper.wp_mono (fun a' w' h' => ⟨h'.1, hK _ _ h'.2⟩) h
    ·rename_i hn
     rw [if_neg hn]
     exact ⟨h.1, hK _ _ h.2⟩
  exact mono (fun a w h => tqs_sound s _ _ _ a w hl hti h) (step_of hoi h)
def tqReg (P : Program) (ops : Array Oper) (pre : List (Nat × Nat)) (t : Tq) : Bool :=
 P.follows .mixedOrders && Region.noSelect ops && (pre.all fun p => decide (p.2 < 2)) && (segL ops pre).all (fun o => !shaped o) && kindsOk P ops pre && stableB ops (segL ops pre) && lqOk P ops t && decide (pre.length <= ops.size) && t.lenOk (ops.size - pre.length) &&
  preQ P ops ops.size t.acts t pre (Array.replicate ops.size false) []
theorem region_tq (pre : List (Nat × Nat)) (t : Tq) {id : Nat} {l : List Oper} {Q : Exit -> Act -> World -> Prop} {a : Act} {w : World} (hok : tqReg P l.toArray pre t = true)
  (h : wpList P l.toArray (NormQ fun a' w' => wqTrees P l.toArray (fun a' w' => Q .normal a' w') w.drew t a' w') (segL l.toArray pre) a w.drew) :
  (Code.region id l.toArray true).wp P Q a w := by
 generalize l.toArray = ops at *
 unfold tqReg at hok
 simp only [Bool.and_eq_true, decide_eq_true_eq] at hok
 obtain ⟨⟨⟨⟨⟨⟨⟨⟨⟨hm, hs⟩, hpure⟩, hsh⟩, hk⟩, hst⟩, hleaf⟩, hsz⟩, hlen⟩, hf⟩ := hok
 have hend : ∀ (c : List (Nat × Nat)) (listed : Array Bool) (L : List (Nat × Nat)), preQ P ops ops.size t.acts t c listed L = true -> ∃ listed' L', tqOk P ops ops.size t.acts t listed' L' false = true := by
  intro c
  induction c with
  | nil => exact fun listed L h => ⟨listed, L, h⟩
  | cons p c ih =>
   intro listed L h
   obtain ⟨i, m⟩ := p
   unfold preQ at h
   split at h
   ·cases h
   ·rw [Bool.and_eq_true] at h
    have h2 := h.2
    split at h2
    ·simp only [Bool.and_eq_true] at h2; exact ih _ _ h2.2
    ·simp only [Bool.and_eq_true] at h2; exact ih _ _ h2.2
    ·cases h2
 obtain ⟨li, Li, htree⟩ := hend _ _ _ hf
 have hflow := seg_flow (P := P) (Q := fun a' w' => wqTree P ops (fun a' w' => Q .normal a' w') w.drew t a' w') (w0 := w.drew) (ws := w.drew) (c' := []) (D := []) (k := 4) (G := fun o => o ∈ segL ops pre)
  (R := fun a' w' => wqTrees P ops (fun a' w' => Q .normal a' w') w.drew t a' w')
  (fun _ _ _ => trivial) (fun a w _ => ⟨a, fun o ho => by
   have hu := List.all_eq_true.1 hsh o ho
   simp only [Bool.not_eq_true'] at hu
   rw [shape_un hu, Bool.or_true], fun _ _ => rfl⟩)
  (fun a w hR => tqs_sound t li Li false a w hleaf htree hR)
  pre a w.drew hk (by rw [List.append_nil]; exact hst) (.inl rfl) (fun _ => by
   unfold segLast
   rw [List.all_eq_true] at hpure ⊢
   intro p hp
   rw [hpure p hp, Bool.true_or]) (fun o ho => ho) (fun h => absurd rfl h) h
 rw [List.append_nil] at hflow
 have hN := preQ_sound (P := P) (Q := fun a' w' => Q .normal a' w') (w0 := w.drew) hs hlen pre (Array.replicate ops.size false) [] a closed_none hf (fun _ h => by cases h) (pre_world _ _ _ hpure rfl hflow)
 rw [show pre.length + (ops.size - pre.length) = ops.size by omega] at hN
 refine Code.wp_mono (Q := NormQ fun a' w' => Q .normal a' w') (fun e a w he => ?_) (wp_region_any hm (wpAny_of_N _ _ _ _ hN))
 cases e <;> first | exact he | exact (he : False).elim
end
end Go.Proofs.YtilgbekffbphgaaGreat
