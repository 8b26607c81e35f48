import Derived.Test.YteaaepbnoiecoaaGreatFlowR
namespace Go.Proofs.YteaaepbnoiecoaaGreat
open Go.RowKit
inductive Tz where
 | lin (segs : List (Bool × List (Nat × Nat)))
 | pre (c : List (Nat × Nat)) (t : Tz)
 | two (i m : Nat) (s : Tz) (j n : Nat) (t : Tz)
 | one (i m : Nat) (s : Tz)
def Tz.lenOk : Tz -> Nat -> Bool
 | .lin segs, k => (flat segs).length == k
 | .pre c t, k => decide (c.length <= k) && t.lenOk (k - c.length)
 | .two _ _ _ _ _ _, 0 => false
 | .two _ _ s _ _ t, k + 1 => s.lenOk k && t.lenOk k
 | .one _ _ _, 0 => false
 | .one _ _ s, k + 1 => s.lenOk k
def Tz.acts : Tz -> Nat -> Bool
 | .lin segs, i => (flat segs).any fun p => p.1 == i && decide (2 <= p.2)
 | .pre _ t, k => t.acts k
 | .two i _ s j _ t, k => i == k || j == k || s.acts k || t.acts k
 | .one i _ s, k => i == k || s.acts k
def lzOk (P : Program) (ops : Array Oper) : Tz -> Bool
 | .lin segs => kindsOk P ops (flat segs) && stableR ops (segL ops (flat segs)) && segsOk segs && (flat segs).all (fun p => p.2 != 1)
 | .pre c t => kindsOk P ops c && stableR ops (segL ops c) && c.all (fun p => decide (p.2 < 2)) && lzOk P ops t
 | .two _ _ s _ _ t => lzOk P ops s && lzOk P ops t
 | .one _ _ s => lzOk P ops s
def preZ (P : Program) (ops : Array Oper) (act : Nat -> Bool) (K : Array Bool -> List (Nat × Nat) -> Bool) : List (Nat × Nat) -> Bool -> Array Bool -> List (Nat × Nat) -> Bool
 | [], _, listed, L => K listed L
 | (i, m) :: rest, st, listed, L => match ops[i]? with
  | none => false
  | some o => (Region.ready .any ops listed).contains i && (match m with
   | 0 => opKind P o == 0 && Region.free .any ops listed i && !act i && preZ P ops act K rest st (listed.setIfInBounds i true) L
   | 1 => !st && opKind P o == 1 && Region.free .any ops listed i && !act i && preZ P ops act K rest st (listed.setIfInBounds i true) ((i, 2) :: L)
   | _ => false)
def tzOk (P : Program) (ops : Array Oper) (F : Nat) (act : Nat -> Bool) : Tz -> Array Bool -> List (Nat × Nat) -> Bool -> Bool
 | .lin segs, listed, L, st => flowOk P ops F act (flat segs) listed L st
 | .pre c t, listed, L, st => (c.all (fun p => p.2 != 1) || !st) && preZ P ops act (fun listed' L' => tzOk P ops F act t listed' L' st) c st listed L
 | .two i m s j n t, listed, L, _ => Region.ready .any ops listed == [i, j] &&
   ((ops[i]?).isSome && decide (2 <= m) && act i && actOk ops F i m L && tzOk P ops F act s (listed.setIfInBounds i true) (L.map fun l => (l.1, actNext m l.2)) true) &&
   ((ops[j]?).isSome && decide (2 <= n) && act j && actOk ops F j n L && tzOk P ops F act t (listed.setIfInBounds j true) (L.map fun l => (l.1, actNext n l.2)) true)
 | .one i m s, listed, L, _ => Region.ready .any ops listed == [i] &&
   ((ops[i]?).isSome && decide (2 <= m) && act i && actOk ops F i m L && tzOk P ops F act s (listed.setIfInBounds i true) (L.map fun l => (l.1, actNext m l.2)) true)
theorem preZ_K {P : Program} {ops : Array Oper} {act : Nat -> Bool} {K : Array Bool -> List (Nat × Nat) -> Bool} {st : Bool} : ∀ (c : List (Nat × Nat)) (listed : Array Bool) (L : List (Nat × Nat)), preZ P ops act K c st listed L = true -> ∃ listed' L', K listed' L' = true
 | [], listed, L, h => ⟨listed, L, h⟩
 | (i, m) :: c, listed, L, h => by
  unfold preZ at h
  split at h
  ·cases h
  ·rw [Bool.and_eq_true] at h
   have h2 := h.2
   split at h2
   ·simp only [Bool.and_eq_true] at h2; exact preZ_K c _ _ h2.2
   ·simp only [Bool.and_eq_true] at h2; exact preZ_K c _ _ h2.2
   ·cases h2
theorem ldFirst_pure : ∀ {c : List (Nat × Nat)}, (c.all fun p => decide (p.2 < 2)) = true -> ldFirst c = true
 | [], _ => rfl
 | p :: c, h => by
  rw [List.all_cons, Bool.and_eq_true, decide_eq_true_eq] at h
  unfold ldFirst
  rw [if_pos h.1]
  exact ldFirst_pure h.2
section
variable [Hole] {P : Program} {ops : Array Oper}
def stepZ (P : Program) (ops : Array Oper) (w0 : World) (i m : Nat) (K : Act -> World -> Prop) (a : Act) (w : World) : Prop := match ops[i]? with
 | none => False
 | some o => if Region.wanted o (yielded ops a.tmps) = true then o.wp P a w (fun a' w' => oblR m w0 w w' /\ K a' w') NoQ else oblR m w0 w w /\ K (a.put o.dst undef) w
def wzTree (P : Program) (ops : Array Oper) (Q : Act -> World -> Prop) (w0 : World) : Tz -> Act -> World -> Prop
 | .lin segs, a, w => wpFlowR P ops Q w0 (flat segs) a w
 | .pre c t, a, w => wpFlowR P ops (fun a' w' => w' = w /\ wzTree P ops Q w0 t a' w') w0 c a w
 | .two i m s j n t, a, w => stepZ P ops w0 i m (wzTree P ops Q w0 s) a w /\ stepZ P ops w0 j n (wzTree P ops Q w0 t) a w
 | .one i m s, a, w => stepZ P ops w0 i m (wzTree P ops Q w0 s) a w
theorem act_stepZ {F i m : Nat} {act : Nat -> Bool} {Q : Act -> World -> Prop} {w0 : World} {L : List (Nat × Nat × World)} {fuel : Nat} {listed : Array Bool} {a : Act} {w : World} {o : Oper} {K : Act -> World -> Prop}
  (ho : ops[i]? = some o) (ha : act i = true) (hok : actOk ops F i m (bare L) = true) (hinv : InvR w0 L w) (hm : ¬ m < 2)
  (h : if Region.wanted o (yielded ops a.tmps) = true then o.wp P a w (fun a' w' => oblR m w0 w w' /\ K a' w') NoQ else oblR m w0 w w /\ K (a.put o.dst undef) w)
  (next : ∀ a' w', InvR w0 (L.map fun l => (l.1, actNext m l.2.1, l.2.2)) w' -> K a' w' ->
   wpAnyN P .any ops (NormQ Q) act (needNR ops F (L.map fun l => (l.1, actNext m l.2.1, l.2.2))) fuel (listed.setIfInBounds i true) a' w') :
  wpOp P ops (NormQ Q) i (fun a' w' => (if act i = true then needNR ops F L i w' else w' = w) /\ wpAnyN P .any ops (NormQ Q) act (needNR ops F L) fuel (listed.setIfInBounds i true) a' w') a w := by
 have same : ∀ (fuel : Nat) (listed : Array Bool) (a : Act) (w : World), wpAnyN P .any ops (NormQ Q) act (needNR ops F (L.map fun l => (l.1, actNext m l.2.1, l.2.2))) fuel listed a w -> wpAnyN P .any ops (NormQ Q) act (needNR ops F L) fuel listed a w := by
  have e : needNR ops F (L.map fun l => (l.1, actNext m l.2.1, l.2.2)) = needNR ops F L := by
   funext j w'
   refine propext ⟨fun h l hl hn => h (l.1, actNext m l.2.1, l.2.2) (List.mem_map.2 ⟨l, hl, rfl⟩) hn, fun h l hl hn => ?_⟩
   obtain ⟨q, hq, rfl⟩ := List.mem_map.1 hl
   exact h q hq hn
  rw [e]
  exact fun _ _ _ _ h => h
 have step : ∀ a' w', oblR m w0 w w' /\ K a' w' -> (if act i = true then needNR ops F L i w' else w' = w) /\ wpAnyN P .any ops (NormQ Q) act (needNR ops F L) fuel (listed.setIfInBounds i true) a' w' := fun a' w' h' => by
  obtain ⟨h1, h2⟩ := act_needR hok hinv (by omega) h'.1
  rw [if_pos ha]
  exact ⟨h1, same _ _ _ _ (next a' w' h2 h'.2)⟩
 unfold wpOp
 simp only [ho]
 split at h
 ·rw [if_pos (by assumption)]
  exact .inl (Oper.wp_mono step (wp_noQ h))
 ·rename_i hnw
  rw [if_neg hnw]
  have h2 := step _ _ h
  simpa using h2
theorem preZ_sound {F : Nat} {act : Nat -> Bool} {Q R : Act -> World -> Prop} {w0 w : World} {st : Bool} {K : Array Bool -> List (Nat × Nat) -> Bool} {n : Nat} (hs : Region.noSelect ops = true) (hst : st = false -> w = w0)
  (hK : ∀ (listed : Array Bool) (L : List (Nat × Nat × World)) (a : Act), Closed .any ops listed -> K listed (bare L) = true -> InvR w0 L w -> R a w -> wpAnyN P .any ops (NormQ Q) act (needNR ops F L) n listed a w) :
  ∀ (c : List (Nat × Nat)) (listed : Array Bool) (L : List (Nat × Nat × World)) (a : Act), Closed .any ops listed -> preZ P ops act K c st listed (bare L) = true ->
   InvR w0 L w -> wpFlowR P ops (fun a' w' => w' = w /\ R a' w') w0 c a w -> wpAnyN P .any ops (NormQ Q) act (needNR ops F L) (c.length + n) listed a w
 | [], listed, L, a, hcl, hok, hinv, h => by
  rw [List.length_nil, Nat.zero_add]
  exact hK listed L a hcl hok hinv h.2
 | (i, m) :: rest, listed, L, a, hcl, hok, hinv, h => by
  unfold preZ at hok
  unfold wpFlowR at h
  split at hok
  ·cases hok
  rename_i o ho
  rw [ho] at h
  dsimp only at h
  rw [Bool.and_eq_true] at hok
  obtain ⟨hr, hok⟩ := hok
  have hr : i ∈ Region.ready .any ops listed := by simpa using hr
  have hQ : ∀ (v : Value) (c : List PanicEntry) (a : Act) (w : World), NormQ Q (.panic c) (a.put o.dst v) w -> NormQ Q (.panic c) a w := fun _ _ _ _ h => h
  rw [List.length_cons, Nat.add_right_comm]
  split at hok
  ·simp only [Bool.and_eq_true, Bool.not_eq_true', beq_iff_eq] at hok
   obtain ⟨⟨⟨_, hf⟩, ha⟩, hrest⟩ := hok
   rw [if_pos (by decide)] at h
   obtain ⟨v, hy, h⟩ := h
   exact wpAnyN_first (N' := needNR ops F L) (F := F) ho (Region.noSelect_spec hs) (hQ v) ha (fun _ _ h => h) _ listed a w hcl (fun _ _ _ _ _ _ _ => trivial) (Region.free_spec ho hf) hr hy trivial
    (preZ_sound hs hst hK rest _ L _ (hcl.set hr) hrest hinv h)
  ·simp only [Bool.and_eq_true, Bool.not_eq_true', beq_iff_eq] at hok
   obtain ⟨⟨⟨⟨hst', _⟩, hf⟩, ha⟩, hrest⟩ := hok
   have hw := hst hst'
   rw [if_pos (by decide)] at h
   obtain ⟨v, hy, h⟩ := h
   refine wpAnyN_first (N' := needNR ops F ((i, 2, w) :: L)) (S := fun w' => Rl w w') (F := F) ho (Region.noSelect_spec hs) (hQ v) ha (fun j w' h l hl => h l (List.mem_cons_of_mem _ hl)) _ listed a w hcl
    (fun j w' _ _ _ hw h => h _ List.mem_cons_self hw) (Region.free_spec ho hf) hr hy Rl.refl (preZ_sound hs hst hK rest _ _ _ (hcl.set hr) hrest ?_ h)
   intro l hl
   rcases List.mem_cons.1 hl with rfl | hl
   ·exact ⟨fun _ => hw, fun _ => Rl.refl⟩
   ·exact hinv l hl
  ·cases hok
theorem tz_sound {F : Nat} {act : Nat -> Bool} {Q : Act -> World -> Prop} {w0 : World} (hs : Region.noSelect ops = true) :
  ∀ (t : Tz) (n : Nat) (listed : Array Bool) (L : List (Nat × Nat × World)) (st : Bool) (a : Act) (w : World), Closed .any ops listed -> tzOk P ops F act t listed (bare L) st = true -> t.lenOk n = true ->
   InvR w0 L w -> (st = false -> w = w0) -> wzTree P ops Q w0 t a w -> wpAnyN P .any ops (NormQ Q) act (needNR ops F L) n listed a w
 | .lin segs, n, listed, L, st, a, w, hcl, hok, hlen, hinv, hst, h => by
  unfold Tz.lenOk at hlen
  rw [<- beq_iff_eq.1 hlen]
  exact flow_soundR hs (flat segs) listed L st a w hcl hok hinv hst h
 | .pre c t, n, listed, L, st, a, w, hcl, hok, hlen, hinv, hst, h => by
  unfold Tz.lenOk at hlen
  rw [Bool.and_eq_true, decide_eq_true_eq] at hlen
  unfold tzOk at hok
  rw [Bool.and_eq_true] at hok
  have := preZ_sound (P := P) (ops := ops) (F := F) (act := act) (Q := Q) (n := n - c.length) hs hst (fun listed' L' a' hcl' hk hi hR => tz_sound hs t (n - c.length) listed' L' st a' w hcl' hk hlen.2 hi hst hR) c listed L a hcl hok.2 hinv h
  rwa [show c.length + (n - c.length) = n by omega] at this
 | .two i m s j k t, 0, listed, L, st, a, w, hcl, hok, hlen, hinv, hst, h => by cases hlen
 | .one i m s, 0, listed, L, st, a, w, hcl, hok, hlen, hinv, hst, h => by cases hlen
 | .one i m s, n + 1, listed, L, st, a, w, hcl, hok, hlen, hinv, hst, h => by
  unfold Tz.lenOk at hlen
  unfold tzOk at hok
  simp only [Bool.and_eq_true, beq_iff_eq, decide_eq_true_eq] at hok
  obtain ⟨hr, ⟨⟨⟨hoi, hm⟩, hai⟩, hacti⟩, hti⟩ := hok
  have h1 := h
  obtain ⟨oi, hoi⟩ := Option.isSome_iff_exists.1 hoi
  have hir : i ∈ Region.ready .any ops listed := by rw [hr]; simp
  refine ⟨fun h0 => ?_, fun q hq => ?_⟩
  ·rw [hr] at h0; cases h0
  ·rw [hr] at hq
   simp only [List.mem_cons, List.not_mem_nil, or_false] at hq
   subst hq
   change stepZ P ops w0 q m (wzTree P ops Q w0 s) a w at h1
   unfold stepZ at h1
   simp only [hoi] at h1
   exact act_stepZ hoi hai hacti hinv (by omega) h1 fun a' w' hi hf => tz_sound hs s n _ _ true a' w' (hcl.set hir) (by rw [bare_act]; exact hti) hlen hi (fun h => by cases h) hf
 | .two i m s j k t, n + 1, listed, L, st, a, w, hcl, hok, hlen, hinv, hst, h => by
  unfold Tz.lenOk at hlen
  rw [Bool.and_eq_true] at hlen
  unfold tzOk at hok
  simp only [Bool.and_eq_true, beq_iff_eq, decide_eq_true_eq] at hok
  obtain ⟨⟨hr, ⟨⟨⟨hoi, hm⟩, hai⟩, hacti⟩, hti⟩, ⟨⟨⟨hoj, hk⟩, haj⟩, hactj⟩, htj⟩ := hok
  obtain ⟨h1, h2⟩ := h
  obtain ⟨oi, hoi⟩ := Option.isSome_iff_exists.1 hoi
  obtain ⟨oj, hoj⟩ := Option.isSome_iff_exists.1 hoj
  have hir : i ∈ Region.ready .any ops listed := by rw [hr]; simp
  have hjr : j ∈ Region.ready .any ops listed := by rw [hr]; simp
  refine ⟨fun h0 => ?_, fun q hq => ?_⟩
  ·rw [hr] at h0; cases h0
  ·rw [hr] at hq
   simp only [List.mem_cons, List.not_mem_nil, or_false] at hq
   rcases hq with rfl | rfl
   ·unfold stepZ at h1
    simp only [hoi] at h1
    exact act_stepZ hoi hai hacti hinv (by omega) h1 fun a' w' hi hf => tz_sound hs s n _ _ true a' w' (hcl.set hir) (by rw [bare_act]; exact hti) hlen.1 hi (fun h => by cases h) hf
   ·unfold stepZ at h2
    simp only [hoj] at h2
    exact act_stepZ hoj haj hactj hinv (by omega) h2 fun a' w' hi hf => tz_sound hs t n _ _ true a' w' (hcl.set hjr) (by rw [bare_act]; exact htj) hlen.2 hi (fun h => by cases h) hf
theorem wpFlowR_mono {Q R : Act -> World -> Prop} (h : ∀ a w, Q a w -> R a w) {w0 : World} : ∀ (c : List (Nat × Nat)) (a : Act) (w : World), wpFlowR P ops Q w0 c a w -> wpFlowR P ops R w0 c a w
 | [], a, w, hq => h a w hq
 | (i, m) :: c, a, w, hq => by
  unfold wpFlowR at hq ⊢
  split at hq
  ·exact hq.elim
  ·rename_i o ho
   split at hq
   ·rename_i hm
    rw [if_pos hm]
    obtain ⟨v, hy, hq⟩ := hq
    exact ⟨v, hy, wpFlowR_mono h c _ _ hq⟩
   ·rename_i hm
    rw [if_neg hm]
    split at hq
    ·rename_i hw
     rw [if_pos hw]
     exact Oper.wp_mono (fun a' w' h' => ⟨h'.1, wpFlowR_mono h c _ _ h'.2⟩) hq
    ·rename_i hw
     rw [if_neg hw]
     exact ⟨hq.1, wpFlowR_mono h c _ _ hq.2⟩
theorem pre_worldR {Q : Act -> World -> Prop} {w0 w : World} : ∀ (c : List (Nat × Nat)) (a : Act), (c.all fun p => decide (p.2 < 2)) = true -> wpFlowR P ops Q w0 c a w -> wpFlowR P ops (fun a' w' => w' = w /\ Q a' w') w0 c a w
 | [], _, _, h => ⟨rfl, h⟩
 | (i, m) :: c, a, hc, h => by
  rw [List.all_cons, Bool.and_eq_true] at hc
  unfold wpFlowR at h ⊢
  split at h
  ·exact h.elim
  ·rename_i o ho
   have hm : m < 2 := by simpa using hc.1
   rw [if_pos hm] at h ⊢
   obtain ⟨v, hy, h⟩ := h
   exact ⟨v, hy, pre_worldR c _ hc.2 h⟩
def wzTrees (P : Program) (ops : Array Oper) (Q : Act -> World -> Prop) (w0 : World) : Tz -> Act -> World -> Prop
 | .lin segs, a, w => wpSegsR P ops (fun a' w' => (shapesB ops (flat segs) a' = true /\ ldsL w0 (segL ops (flat segs)) a'.eval) /\ Q a' w') w0 segs a w
 | .pre c t, a, w => wpList P ops (NormQ fun a' w' => (shapesB ops c a' = true /\ ldsL w0 (segL ops c) a'.eval) /\ wzTrees P ops Q w0 t a' w') (segL ops c) a w
 | .two i m s j n t, a, w => wpList P ops (NormQ fun a' w' => oblR m w0 w w' /\ wzTrees P ops Q w0 s a' w') (segL ops [(i, m)]) a w /\
   wpList P ops (NormQ fun a' w' => oblR n w0 w w' /\ wzTrees P ops Q w0 t a' w') (segL ops [(j, n)]) a w
 | .one i m s, a, w => wpList P ops (NormQ fun a' w' => oblR m w0 w w' /\ wzTrees P ops Q w0 s a' w') (segL ops [(i, m)]) a w
theorem step_ofZ {w0 : World} {i m : Nat} {K : Act -> World -> Prop} {a : Act} {w : World} (hi : (ops[i]?).isSome = true) (h : wpList P ops (NormQ fun a' w' => oblR m w0 w w' /\ K a' w') (segL ops [(i, m)]) a w) : stepZ P ops w0 i m K a w := by
 obtain ⟨o, ho⟩ := Option.isSome_iff_exists.1 hi
 unfold stepZ
 simp only [ho]
 rw [segL_cons ho] at h
 have h2 := wpList_norm h
 split at h2
 ·rw [if_pos (by assumption)]
  exact Oper.wp_mono (fun a1 w1 h1 => h1) (wp_normQ h2)
 ·rename_i hn
  rw [if_neg hn]
  exact h2
theorem stepZ_mono {w0 : World} {i m : Nat} {K K' : Act -> World -> Prop} {a : Act} {w : World} (hK : ∀ a w, K a w -> K' a w) (h : stepZ P ops w0 i m K a w) : stepZ P ops w0 i m K' a w := by
 unfold stepZ at *
 split at h
 ·exact h
 ·rename_i o ho
  split at h
  ·rw [if_pos (by assumption)]
   exact Oper.wp_mono (fun a' w' h' => ⟨h'.1, hK _ _ h'.2⟩) h
  ·rename_i hn
   rw [if_neg hn]
   exact ⟨h.1, hK _ _ h.2⟩
theorem tzs_sound {Q : Act -> World -> Prop} {w0 : World} {F : Nat} {act : Nat -> Bool} : ∀ (t : Tz) (listed : Array Bool) (L : List (Nat × Nat)) (st : Bool) (a : Act) (w : World), lzOk P ops t = true -> tzOk P ops F act t listed L st = true -> (st = false -> w = w0) -> wzTrees P ops Q w0 t a w -> wzTree P ops Q w0 t a w
 | .lin segs, _, _, _, a, w, hl, _, _, h => by
  unfold lzOk at hl
  simp only [Bool.and_eq_true] at hl
  refine segs_flowR (P := P) (Q := Q) (G := segL ops (flat segs)) segs a w hl.1.1.1 hl.1.1.2 hl.1.2 (fun o ho => ho) (.inl hl.2) ?_
  exact segsR_mono (fun a' w' h => ⟨⟨h.1.1, ldsL_all h.1.2⟩, h.2⟩) _ _ _ h
 | .pre c t, listed, L, st, a, w, hl, hok, hst, h => by
  unfold lzOk at hl
  simp only [Bool.and_eq_true] at hl
  obtain ⟨⟨⟨hk, hsb⟩, hp⟩, hlt⟩ := hl
  unfold tzOk at hok
  rw [Bool.and_eq_true] at hok
  obtain ⟨l1, L1, h1⟩ := preZ_K _ _ _ hok.2
  have hw : (c.all (fun p => p.2 != 1) = true \/ (w = w0 /\ ldFirst c = true)) := by
   have h2 := hok.1
   rw [Bool.or_eq_true] at h2
   rcases h2 with h2 | h2
   ·exact .inl h2
   ·exact .inr ⟨hst (by simpa using h2), ldFirst_pure hp⟩
  have hflow := seg_flowR (P := P) (Q := fun a' w' => (st = false -> w' = w0) -> wzTree P ops Q w0 t a' w') (w0 := w0) (ws := w) (c' := []) (D := []) (k := 4) (G := fun o => o ∈ segL ops c)
   (R := fun a' w' => (shapesB ops c a' = true /\ ldsL w0 (segL ops c) a'.eval) /\ wzTrees P ops Q w0 t a' w')
   (fun _ _ _ => trivial) (fun a w hR => ⟨a, fun o ho => ⟨List.all_eq_true.1 hR.1.1 o ho, fun _ => ldsL_all hR.1.2 o ho⟩, fun _ _ => rfl⟩)
   (fun a w hR hw => tzs_sound t l1 L1 st a w hlt h1 hw hR.2)
   c a w hk (by rw [List.append_nil]; exact hsb) (.inl rfl) (fun _ => by
    unfold segLast
    rw [List.all_eq_true] at hp ⊢
    intro p hp'
    rw [hp p hp', Bool.true_or]) (fun o ho => ho) (fun h => absurd rfl h) hw h
  rw [List.append_nil] at hflow
  have := pre_worldR c a hp hflow
  exact wpFlowR_mono (fun a' w' h' => ⟨h'.1, h'.2 (fun hs => by rw [h'.1]; exact hst hs)⟩) c a w this
 | .two i m s j n t, listed, L, st, a, w, hl, hok, hst, h => by
  unfold lzOk at hl
  rw [Bool.and_eq_true] at hl
  unfold tzOk at hok
  simp only [Bool.and_eq_true, beq_iff_eq, decide_eq_true_eq] at hok
  obtain ⟨⟨hr, ⟨⟨⟨hoi, hm⟩, hai⟩, hacti⟩, hti⟩, ⟨⟨⟨hoj, hk⟩, haj⟩, hactj⟩, htj⟩ := hok
  exact ⟨stepZ_mono (fun a w h => tzs_sound s _ _ _ a w hl.1 hti (fun h => by cases h) h) (step_ofZ hoi h.1), stepZ_mono (fun a w h => tzs_sound t _ _ _ a w hl.2 htj (fun h => by cases h) h) (step_ofZ hoj h.2)⟩
 | .one i m s, listed, L, st, a, w, hl, hok, hst, h => by
  unfold lzOk at hl
  unfold tzOk at hok
  simp only [Bool.and_eq_true, beq_iff_eq, decide_eq_true_eq] at hok
  obtain ⟨hr, ⟨⟨⟨hoi, hm⟩, hai⟩, hacti⟩, hti⟩ := hok
  exact stepZ_mono (fun a w h => tzs_sound s _ _ _ a w hl hti (fun h => by cases h) h) (step_ofZ hoi h)
def tzReg (P : Program) (ops : Array Oper) (t : Tz) : Bool :=
 P.follows .mixedOrders && Region.noSelect ops && lzOk P ops t && t.lenOk ops.size && tzOk P ops ops.size t.acts t (Array.replicate ops.size false) [] false
theorem region_tz (t : Tz) {id : Nat} {l : List Oper} {Q : Exit -> Act -> World -> Prop} {a : Act} {w : World} (hok : tzReg P l.toArray t = true)
  (h : wzTrees P l.toArray (fun a' w' => Q .normal a' w') w.drew t a w.drew) :
  (Code.region id l.toArray true).wp P Q a w := by
 generalize l.toArray = ops at *
 unfold tzReg at hok
 simp only [Bool.and_eq_true] at hok
 obtain ⟨⟨⟨⟨hm, hs⟩, hl⟩, hlen⟩, hf⟩ := hok
 have hN := tz_sound (P := P) (Q := fun a' w' => Q .normal a' w') (w0 := w.drew) hs t ops.size (Array.replicate ops.size false) [] false a w.drew closed_none hf hlen (fun _ h => by cases h) (fun _ => rfl)
  (tzs_sound t _ _ false a w.drew hl hf (fun _ => rfl) h)
 refine Code.wp_mono (Q := NormQ fun a' w' => Q .normal a' w') (fun e a w he => ?_) (wp_region_any hm (wpAny_of_N _ _ _ _ hN))
 cases e <;> first | exact he | exact (he : False).elim
end
end Go.Proofs.YteaaepbnoiecoaaGreat
