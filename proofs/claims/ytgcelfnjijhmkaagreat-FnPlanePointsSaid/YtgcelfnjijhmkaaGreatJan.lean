/- Texts joined for a claim: Tree, LawH, Mark, MarkH, MarkI. -/
import Derived.Test.YtgcelfnjijhmkaaGreatFlow
import Derived.Test.YtgcelfnjijhmkaaGreatHcB
import Derived.Deep.DeepCutAuto
/-
  A region that draws its order, where at some steps one of two operations may come up: a tree of orders. Plain lemmas over any program.
-/
namespace Go.Proofs.YtgcelfnjijhmkaaGreat
open Go.RowKit

section
variable {P : Program} {ops : Array Oper}
inductive Tr where
  | lin (segs : List (Bool × List (Nat × Nat)))
  | two (i m : Nat) (s : Tr) (j n : Nat) (t : Tr)
def Tr.lenOk : Tr → Nat → Bool
  | .lin segs, k => (flat segs).length == k
  | .two _ _ _ _ _ _, 0 => false
  | .two _ _ s _ _ t, k + 1 => s.lenOk k && t.lenOk k
def Tr.acts : Tr → Nat → Bool
  | .lin segs, i => (flat segs).any fun p => p.1 == i && decide (2 ≤ p.2)
  | .two i _ s j _ t, k => i == k || j == k || s.acts k || t.acts k
def leafOk (P : Program) (ops : Array Oper) : Tr → Bool
  | .lin segs => kindsOk P ops (flat segs) && stableB ops (segL ops (flat segs)) && segsOk segs
  | .two _ _ s _ _ t => leafOk P ops s && leafOk P ops t
def treeOk (P : Program) (ops : Array Oper) (F : Nat) (act : Nat → Bool) : Tr → Array Bool → List (Nat × Nat) → Bool → Bool
  | .lin segs, listed, L, st => flowOk P ops F act (flat segs) listed L st
  | .two i m s j n t, listed, L, _ => Region.ready .any ops listed == [i, j] &&
      ((ops[i]?).isSome && decide (2 ≤ m) && act i && actOk ops F i m L && treeOk P ops F act s (listed.setIfInBounds i true) (L.map fun l => (l.1, actNext m l.2)) true) &&
      ((ops[j]?).isSome && decide (2 ≤ n) && act j && actOk ops F j n L && treeOk P ops F act t (listed.setIfInBounds j true) (L.map fun l => (l.1, actNext n l.2)) true)
def stepA (P : Program) (ops : Array Oper) (w0 : World) (i m : Nat) (K : Act → World → Prop) (a : Act) (w : World) : Prop := match ops[i]? with
  | none => False
  | some o => if Region.wanted o (yielded ops a.tmps) = true then o.wp P a w (fun a' w' => obl m w0 w w' ∧ K a' w') NoQ else obl m w0 w w ∧ K (a.put o.dst undef) w
def wpTree (P : Program) (ops : Array Oper) (Q : Act → World → Prop) (w0 : World) : Tr → Act → World → Prop
  | .lin segs, a, w => wpFlow P ops Q w0 (flat segs) a w
  | .two i m s j n t, a, w => stepA P ops w0 i m (wpTree P ops Q w0 s) a w ∧ stepA P ops w0 j n (wpTree P ops Q w0 t) a w
theorem act_stepK {F i m : Nat} {act : Nat → Bool} {Q : Act → World → Prop} {w0 : World} {L : List (Nat × Nat × World)} {fuel : Nat} {listed : Array Bool} {a : Act} {w : World} {o : Oper} {K : Act → World → Prop}
    (ho : ops[i]? = some o) (ha : act i = true) (hok : actOk ops F i m (bare L) = true) (hinv : Inv w0 L w) (hm : ¬ m < 2)
    (h : if Region.wanted o (yielded ops a.tmps) = true then o.wp P a w (fun a' w' => obl m w0 w w' ∧ K a' w') NoQ else obl m w0 w w ∧ K (a.put o.dst undef) w)
    (next : ∀ a' w', Inv w0 (L.map fun l => (l.1, actNext m l.2.1, l.2.2)) w' → K a' w' →
      wpAnyN P .any ops (NormQ Q) act (needN ops F (L.map fun l => (l.1, actNext m l.2.1, l.2.2))) fuel (listed.setIfInBounds i true) a' w') :
    wpOp P ops (NormQ Q) i (fun a' w' => (if act i = true then needN ops F L i w' else w' = w) ∧ wpAnyN P .any ops (NormQ Q) act (needN ops F L) fuel (listed.setIfInBounds i true) a' w') a w := by
  have same : ∀ (fuel : Nat) (listed : Array Bool) (a : Act) (w : World), wpAnyN P .any ops (NormQ Q) act (needN ops F (L.map fun l => (l.1, actNext m l.2.1, l.2.2))) fuel listed a w → wpAnyN P .any ops (NormQ Q) act (needN ops F L) fuel listed a w := by
    have e : needN ops F (L.map fun l => (l.1, actNext m l.2.1, l.2.2)) = needN ops F L := by
      funext j w'
      refine propext ⟨fun h l hl hn => h (l.1, actNext m l.2.1, l.2.2) (List.mem_map.2 ⟨l, hl, rfl⟩) hn, fun h l hl hn => ?_⟩
      obtain ⟨q, hq, rfl⟩ := List.mem_map.1 hl
      exact h q hq hn
    rw [e]
    exact fun _ _ _ _ h => h
  have step : ∀ a' w', obl m w0 w w' ∧ K a' w' → (if act i = true then needN ops F L i w' else w' = w) ∧ wpAnyN P .any ops (NormQ Q) act (needN ops F L) fuel (listed.setIfInBounds i true) a' w' := fun a' w' h' => by
    obtain ⟨h1, h2⟩ := act_need hok hinv (by omega) h'.1
    rw [if_pos ha]
    exact ⟨h1, same _ _ _ _ (next a' w' h2 h'.2)⟩
  unfold wpOp
  simp only [ho]
  split at h
  · rw [if_pos (by assumption)]
    exact .inl (Oper.wp_mono step (wp_noQ h))
  · rename_i hnw
    rw [if_neg hnw]
    have h2 := step _ _ h
    simpa using h2
theorem tree_sound {F : Nat} {act : Nat → Bool} {Q : Act → World → Prop} {w0 : World} (hs : Region.noSelect ops = true) :
    ∀ (t : Tr) (n : Nat) (listed : Array Bool) (L : List (Nat × Nat × World)) (st : Bool) (a : Act) (w : World), Closed .any ops listed → treeOk P ops F act t listed (bare L) st = true → t.lenOk n = true →
      Inv w0 L w → (st = false → w = w0) → wpTree P ops Q w0 t a w → wpAnyN P .any ops (NormQ Q) act (needN ops F L) n listed a w
  | .lin segs, n, listed, L, st, a, w, hcl, hok, hlen, hinv, hst, h => by
    unfold Tr.lenOk at hlen
    rw [← beq_iff_eq.1 hlen]
    exact flow_sound hs (flat segs) listed L st a w hcl hok hinv hst h
  | .two i m s j k t, 0, listed, L, st, a, w, hcl, hok, hlen, hinv, hst, h => by cases hlen
  | .two i m s j k t, n + 1, listed, L, st, a, w, hcl, hok, hlen, hinv, hst, h => by
    unfold Tr.lenOk at hlen
    rw [Bool.and_eq_true] at hlen
    unfold treeOk at hok
    simp only [Bool.and_eq_true, beq_iff_eq, decide_eq_true_eq] at hok
    obtain ⟨⟨hr, ⟨⟨⟨hoi, hm⟩, hai⟩, hacti⟩, hti⟩, ⟨⟨⟨hoj, hk⟩, haj⟩, hactj⟩, htj⟩ := hok
    obtain ⟨h1, h2⟩ := h
    obtain ⟨oi, hoi⟩ := Option.isSome_iff_exists.1 hoi
    obtain ⟨oj, hoj⟩ := Option.isSome_iff_exists.1 hoj
    have hir : i ∈ Region.ready .any ops listed := by rw [hr]; simp
    have hjr : j ∈ Region.ready .any ops listed := by rw [hr]; simp
    refine ⟨fun h0 => ?_, fun q hq => ?_⟩
    · rw [hr] at h0; cases h0
    · rw [hr] at hq
      simp only [List.mem_cons, List.not_mem_nil, or_false] at hq
      rcases hq with rfl | rfl
      · unfold stepA at h1
        simp only [hoi] at h1
        exact act_stepK hoi hai hacti hinv (by omega) h1 fun a' w' hi hf => tree_sound hs s n _ _ true a' w' (hcl.set hir) (by rw [bare_act]; exact hti) hlen.1 hi (fun h => by cases h) hf
      · unfold stepA at h2
        simp only [hoj] at h2
        exact act_stepK hoj haj hactj hinv (by omega) h2 fun a' w' hi hf => tree_sound hs t n _ _ true a' w' (hcl.set hjr) (by rw [bare_act]; exact htj) hlen.2 hi (fun h => by cases h) hf
def preT (P : Program) (ops : Array Oper) (F : Nat) (act : Nat → Bool) (t : Tr) : List (Nat × Nat) → Array Bool → List (Nat × Nat) → Bool
  | [], listed, L => treeOk P ops F act t listed L false
  | (i, m) :: rest, listed, L => match ops[i]? with
    | none => false
    | some o => (Region.ready .any ops listed).contains i && (match m with
      | 0 => opKind P o == 0 && Region.free .any ops listed i && !act i && preT P ops F act t rest (listed.setIfInBounds i true) L
      | 1 => opKind P o == 1 && Region.free .any ops listed i && !act i && preT P ops F act t rest (listed.setIfInBounds i true) ((i, 2) :: L)
      | _ => false)
theorem preT_sound {F : Nat} {act : Nat → Bool} {Q : Act → World → Prop} {w0 : World} (hs : Region.noSelect ops = true) {t : Tr} {n : Nat} (hn : t.lenOk n = true) :
    ∀ (c : List (Nat × Nat)) (listed : Array Bool) (L : List (Nat × Nat × World)) (a : Act), Closed .any ops listed → preT P ops F act t c listed (bare L) = true →
      Inv w0 L w0 → wpFlow P ops (fun a w => w = w0 ∧ wpTree P ops Q w0 t a w) w0 c a w0 → wpAnyN P .any ops (NormQ Q) act (needN ops F L) (c.length + n) listed a w0
  | [], listed, L, a, hcl, hok, hinv, h => by
    rw [List.length_nil, Nat.zero_add]
    exact tree_sound hs t n listed L false a w0 hcl hok hn hinv (fun _ => rfl) h.2
  | (i, m) :: rest, listed, L, a, hcl, hok, hinv, h => by
    unfold preT at hok
    unfold wpFlow at h
    split at hok
    · cases hok
    rename_i o ho
    rw [ho] at h
    dsimp only at h
    rw [Bool.and_eq_true] at hok
    obtain ⟨hr, hok⟩ := hok
    have hr : i ∈ Region.ready .any ops listed := by simpa using hr
    have hQ : ∀ (v : Value) (c : List PanicEntry) (a : Act) (w : World), NormQ Q (.panic c) (a.put o.dst v) w → NormQ Q (.panic c) a w := fun _ _ _ _ h => h
    rw [List.length_cons, Nat.add_right_comm]
    split at hok
    · simp only [Bool.and_eq_true, Bool.not_eq_true', beq_iff_eq] at hok
      obtain ⟨⟨⟨_, hf⟩, ha⟩, hrest⟩ := hok
      rw [if_pos (by decide)] at h
      obtain ⟨v, hy, h⟩ := h
      exact wpAnyN_first (N' := needN ops F L) (F := F) ho (Region.noSelect_spec hs) (hQ v) ha (fun _ _ h => h) _ listed a w0 hcl (fun _ _ _ _ _ _ _ => trivial) (Region.free_spec ho hf) hr hy trivial
        (preT_sound hs hn rest _ L _ (hcl.set hr) hrest hinv h)
    · simp only [Bool.and_eq_true, Bool.not_eq_true', beq_iff_eq] at hok
      obtain ⟨⟨⟨_, hf⟩, ha⟩, hrest⟩ := hok
      rw [if_pos (by decide)] at h
      obtain ⟨v, hy, h⟩ := h
      refine wpAnyN_first (N' := needN ops F ((i, 2, w0) :: L)) (S := fun w' => Below w0.heap.size w0 w') (F := F) ho (Region.noSelect_spec hs) (hQ v) ha (fun j w' h l hl => h l (List.mem_cons_of_mem _ hl)) _ listed a w0 hcl
        (fun j w' _ _ _ hw h => h _ List.mem_cons_self hw) (Region.free_spec ho hf) hr hy (Below.refl _ _) (preT_sound hs hn rest _ _ _ (hcl.set hr) hrest ?_ h)
      intro l hl
      rcases List.mem_cons.1 hl with rfl | hl
      · exact ⟨fun _ => rfl, fun _ => Below.refl _ _⟩
      · exact hinv l hl
    · cases hok
def wpTrees (P : Program) (ops : Array Oper) (Q : Act → World → Prop) (w0 : World) : Tr → Act → World → Prop
  | .lin segs, a, w => wpSegs P ops (fun a' w' => shapesB ops (flat segs) a' = true ∧ Q a' w') w0 segs a w
  | .two i m s j n t, a, w => wpList P ops (NormQ fun a' w' => obl m w0 w w' ∧ wpTrees P ops Q w0 s a' w') (segL ops [(i, m)]) a w ∧
      wpList P ops (NormQ fun a' w' => obl n w0 w w' ∧ wpTrees P ops Q w0 t a' w') (segL ops [(j, n)]) a w
theorem step_of {w0 : World} {i m : Nat} {K : Act → World → Prop} {a : Act} {w : World} (hi : (ops[i]?).isSome = true) (h : wpList P ops (NormQ fun a' w' => obl m w0 w w' ∧ K a' w') (segL ops [(i, m)]) a w) : stepA P ops w0 i m K a w := by
  obtain ⟨o, ho⟩ := Option.isSome_iff_exists.1 hi
  unfold stepA
  simp only [ho]
  rw [segL_cons ho] at h
  have h2 := wpList_norm h
  split at h2
  · rw [if_pos (by assumption)]
    exact Oper.wp_mono (fun a1 w1 h1 => h1) (wp_normQ h2)
  · rename_i hn
    rw [if_neg hn]
    exact h2
theorem trees_sound {Q : Act → World → Prop} {w0 : World} {F : Nat} {act : Nat → Bool} : ∀ (t : Tr) (listed : Array Bool) (L : List (Nat × Nat)) (st : Bool) (a : Act) (w : World), leafOk P ops t = true → treeOk P ops F act t listed L st = true → wpTrees P ops Q w0 t a w → wpTree P ops Q w0 t a w
  | .lin segs, _, _, _, a, w, hl, _, h => by
    unfold leafOk at hl
    simp only [Bool.and_eq_true] at hl
    exact segs_flow (P := P) (Q := Q) (G := segL ops (flat segs)) segs a w hl.1.1 hl.1.2 hl.2 (fun o ho => ho) h
  | .two i m s j n t, listed, L, st, a, w, hl, hok, h => by
    unfold leafOk at hl
    rw [Bool.and_eq_true] at hl
    unfold treeOk at hok
    simp only [Bool.and_eq_true, beq_iff_eq, decide_eq_true_eq] at hok
    obtain ⟨⟨hr, ⟨⟨⟨hoi, hm⟩, hai⟩, hacti⟩, hti⟩, ⟨⟨⟨hoj, hk⟩, haj⟩, hactj⟩, htj⟩ := hok
    have mono : ∀ {i m : Nat} {K K' : Act → World → Prop}, (∀ a w, K a w → K' a w) → stepA P ops w0 i m K a w → stepA P ops w0 i m K' a w := by
      intro i m K K' hK h
      unfold stepA at *
      split at h
      · exact h
      · rename_i o ho
        split at h
        · rw [if_pos (by assumption)]
          exact Oper.wp_mono (fun a' w' h' => ⟨h'.1, hK _ _ h'.2⟩) h
        · rename_i hn
          rw [if_neg hn]
          exact ⟨h.1, hK _ _ h.2⟩
    exact ⟨mono (fun a w h => trees_sound s _ _ _ a w hl.1 hti h) (step_of hoi h.1), mono (fun a w h => trees_sound t _ _ _ a w hl.2 htj h) (step_of hoj h.2)⟩
def treeReg (P : Program) (ops : Array Oper) (pre : List (Nat × Nat)) (t : Tr) : Bool :=
  P.follows .mixedOrders && Region.noSelect ops && (pre.all fun p => decide (p.2 < 2)) && (segL ops pre).all (fun o => !shaped o) && kindsOk P ops pre && stableB ops (segL ops pre) && leafOk P ops t && decide (pre.length ≤ ops.size) && t.lenOk (ops.size - pre.length) &&
    preT P ops ops.size t.acts t pre (Array.replicate ops.size false) []
theorem region_tree (pre : List (Nat × Nat)) (t : Tr) {id : Nat} {l : List Oper} {Q : Exit → Act → World → Prop} {a : Act} {w : World} (hok : treeReg P l.toArray pre t = true)
    (h : wpList P l.toArray (NormQ fun a' w' => wpTrees P l.toArray (fun a' w' => Q .normal a' w') w.drew t a' w') (segL l.toArray pre) a w.drew) :
    (Code.region id l.toArray true).wp P Q a w := by
  generalize l.toArray = ops at *
  unfold treeReg at hok
  simp only [Bool.and_eq_true, decide_eq_true_eq] at hok
  obtain ⟨⟨⟨⟨⟨⟨⟨⟨⟨hm, hs⟩, hpure⟩, hsh⟩, hk⟩, hst⟩, hleaf⟩, hsz⟩, hlen⟩, hf⟩ := hok
  have hend : ∀ (c : List (Nat × Nat)) (listed : Array Bool) (L : List (Nat × Nat)), preT P ops ops.size t.acts t c listed L = true → ∃ listed' L', treeOk P ops ops.size t.acts t listed' L' false = true := by
    intro c
    induction c with
    | nil => exact fun listed L h => ⟨listed, L, h⟩
    | cons p c ih =>
      intro listed L h
      obtain ⟨i, m⟩ := p
      unfold preT at h
      split at h
      · cases h
      · rw [Bool.and_eq_true] at h
        have h2 := h.2
        split at h2
        · simp only [Bool.and_eq_true] at h2; exact ih _ _ h2.2
        · simp only [Bool.and_eq_true] at h2; exact ih _ _ h2.2
        · cases h2
  obtain ⟨li, Li, htree⟩ := hend _ _ _ hf
  have hflow := seg_flow (P := P) (Q := fun a' w' => wpTree P ops (fun a' w' => Q .normal a' w') w.drew t a' w') (w0 := w.drew) (ws := w.drew) (c' := []) (D := []) (k := 4) (G := fun o => o ∈ segL ops pre)
    (R := fun a' w' => wpTrees P ops (fun a' w' => Q .normal a' w') w.drew t a' w')
    (fun _ _ _ => trivial) (fun a w _ => ⟨a, fun o ho => by
      have hu := List.all_eq_true.1 hsh o ho
      simp only [Bool.not_eq_true'] at hu
      rw [shape_un hu, Bool.or_true], fun _ _ => rfl⟩)
    (fun a w hR => trees_sound t li Li false a w hleaf htree hR)
    pre a w.drew hk (by rw [List.append_nil]; exact hst) (.inl rfl) (fun _ => by
      unfold segLast
      rw [List.all_eq_true] at hpure ⊢
      intro p hp
      rw [hpure p hp, Bool.true_or]) (fun o ho => ho) (fun h => absurd rfl h) h
  rw [List.append_nil] at hflow
  have hN := preT_sound (P := P) (Q := fun a' w' => Q .normal a' w') (w0 := w.drew) hs hlen pre (Array.replicate ops.size false) [] a closed_none hf (fun _ h => by cases h) (pre_world _ _ _ hpure rfl hflow)
  rw [show pre.length + (ops.size - pre.length) = ops.size by omega] at hN
  refine Code.wp_mono (Q := NormQ fun a' w' => Q .normal a' w') (fun e a w he => ?_) (wp_region_any hm (wpAny_of_N _ _ _ _ hN))
  cases e <;> first | exact he | exact (he : False).elim
end
end Go.Proofs.YtgcelfnjijhmkaaGreat
/-
  The laws' helpers over doublings and hermitian matrices: sizes, copies, comparison.
-/
namespace Go.Proofs.YtgcelfnjijhmkaaGreat
open Go.RowKit

def Rs (w : World) (v : Value) (xss : List (List Int)) : Prop :=
  ∃ a c, v = .slice a xss.length c ∧ (xss = [] ∨ ∃ b off, a = some ⟨b, off, none⟩ ∧ ∀ j (h : j < xss.length), ∃ u, w.cell? ⟨b, off + j, none⟩ = some u ∧ Sl w u xss[j])
theorem Rs.below {w w' : World} {v : Value} {xss : List (List Int)} (h : Rs w v xss) (hb : Below w.heap.size w w') : Rs w' v xss := by
  obtain ⟨a, c, rfl, h⟩ := h
  refine ⟨a, c, rfl, ?_⟩
  rcases h with h | ⟨b, off, ha, h⟩
  · exact .inl h
  · refine .inr ⟨b, off, ha, fun j hj => ?_⟩
    obtain ⟨u, h1, h2⟩ := h j hj
    exact ⟨u, kept hb h1, h2.below hb⟩
theorem Re.rs {w : World} {v : Value} {xss : List (List Int)} (h : Re w v xss) : Rs w v xss := by
  obtain ⟨a, c, rfl, _, _, h⟩ := h
  refine ⟨a, c, rfl, ?_⟩
  rcases h with h | ⟨b, off, ha, h⟩
  · exact .inl h
  · refine .inr ⟨b, off, ha, fun j hj => ?_⟩
    obtain ⟨u, h1, h2⟩ := h j hj
    exact ⟨u, h1, h2.sl⟩
theorem Rs.get {w : World} {b off : Nat} {xss : List (List Int)} (h : ∀ j (h : j < xss.length), ∃ u, w.cell? ⟨b, off + j, none⟩ = some u ∧ Sl w u xss[j]) {m : Nat} (hm : m < xss.length) :
    ∃ a c xs, xs ∈ xss ∧ w.cell? ⟨b, off + m, none⟩ = some (.slice a xs.length c) ∧ Sl w (.slice a xs.length c) xs ∧ xss.take (m + 1) = xss.take m ++ [xs] ∧ xss.drop m = xs :: xss.drop (m + 1) := by
  obtain ⟨u, h1, a, c, rfl, h2⟩ := h m hm
  exact ⟨a, c, xss[m], List.getElem_mem hm, h1, ⟨a, c, rfl, h2⟩, List.take_succ_eq_append_getElem hm, List.drop_eq_getElem_cons hm⟩
def Hr (w : World) (v : Value) (X : Her) : Prop := ∃ d u, v = .agg #[d, u] ∧ Sl w d X.dg ∧ Rs w u X.up
theorem Hr.below {w w' : World} {v : Value} {X : Her} (h : Hr w v X) (hb : Below w.heap.size w w') : Hr w' v X := by
  obtain ⟨d, u, rfl, h1, h2⟩ := h
  exact ⟨d, u, rfl, h1.below hb, h2.below hb⟩
theorem Hv.hr {w : World} {v : Value} {X : Her} (h : Hv w v X) : Hr w v X := by
  obtain ⟨d, u, rfl, h1, h2⟩ := h
  exact ⟨d, u, rfl, h1.sl, h2.rs⟩
/-! ### Sizes -/
/-! ### Copies -/
theorem FrI.other {w : World} {B : Nat} {v : Value} {xs : List Int} (h : FrI w B v xs) {p : Addr} (hp : v.ownBlock ≠ some p.block) (u : Value) : FrI (w.setCell p u) B v xs := by
  obtain ⟨g, cap, rfl, h⟩ := h
  exact ⟨g, cap, rfl, h.other (fun e => hp (by rw [← e]; rfl)) u⟩
theorem FrR.other {w : World} {B : Nat} {v : Value} {us : List Value} {xss : List (List Int)} (h : FrR w B v us xss) {p : Addr} (hp : v.ownBlock ≠ some p.block) (hq : ∀ z ∈ us, z.ownBlock ≠ some p.block) (u : Value) : FrR (w.setCell p u) B v us xss := by
  obtain ⟨g0, cap0, e0, hB, hs, _⟩ := h.lt
  obtain ⟨g, cap, rfl, h1, h2, h3, h4⟩ := h
  cases e0
  exact ⟨g0, cap0, rfl, ownsRow_of h1 (Below.heap_setCell _ _ _ _ (fun e => hp (by rw [← e]; rfl))) hB, h2, fun j a b => (h3 j a b).other (hq _ (List.getElem_mem a)) u, h4⟩
end Go.Proofs.YtgcelfnjijhmkaaGreat
/-
  Marks on rows of rows and on matrices, and what a mark leaves as it was.
-/
namespace Go.Proofs.YtgcelfnjijhmkaaGreat
open Go.RowKit

structure Chg (lo hi : Nat) (w w' : World) : Prop where
  os : w'.os = w.os
  tape : w'.tape = w.tape
  output : w'.output = w.output
  size : w.heap.size ≤ w'.heap.size
  block : ∀ k, k < w.heap.size → (k < lo ∨ hi ≤ k) → w'.heap[k]? = w.heap[k]?
section
variable {lo hi lo' hi' B : Nat} {a w w' w2 : World} {v : Value} {xs : List Int}
theorem Chg.refl : Chg lo hi w w := ⟨rfl, rfl, rfl, Nat.le_refl _, fun _ _ _ => rfl⟩
theorem Chg.trans (h : Chg lo hi w w') (k : Chg lo hi w' w2) : Chg lo hi w w2 :=
  ⟨k.os.trans h.os, k.tape.trans h.tape, k.output.trans h.output, Nat.le_trans h.size k.size, fun j hj hr => (k.block j (Nat.lt_of_lt_of_le hj h.size) hr).trans (h.block j hj hr)⟩
theorem Chg.wide (h : Chg lo hi w w') (h1 : lo' ≤ lo) (h2 : hi ≤ hi') : Chg lo' hi' w w' := ⟨h.os, h.tape, h.output, h.size, fun k hk hr => h.block k hk (by omega)⟩
theorem Chg.below (h : Below w.heap.size w w') : Chg lo hi w w' := ⟨h.os, h.tape, h.output, h.size, fun k hk _ => h.block k hk⟩
theorem Chg.grown {row : Option Nat} (hg : w.grownBy w' row) (hr : ∀ g, row = some g → lo ≤ g ∧ g < hi) : Chg lo hi w w' :=
  ⟨hg.os, hg.tape, hg.output, hg.size, fun k hk h => hg.block k hk (fun e => by have := hr k e.symm; omega)⟩
theorem Chg.cell (h : Chg lo hi w w') {b o : Nat} (hc : w.cell? ⟨b, o, none⟩ = some v) (hr : b < lo ∨ hi ≤ b) : w'.cell? ⟨b, o, none⟩ = some v := by
  rw [World.cell?_of_block (w := w) (h.block b (World.block_lt_of_cell? w _ hc) hr)]; exact hc
theorem ownsRow_chg {E : TypeId} {n : Nat} {zs : List Value} (h : Chg lo hi w w') (ho : w.ownsRow B E 1 v n zs) (hr : ∀ g, v.ownBlock = some g → g < lo ∨ hi ≤ g) : w'.ownsRow B E 1 v n zs := by
  refine ⟨ho.1, ?_⟩
  rcases ho.2 with h2 | ⟨g', cap', cur, rfl, h3, hh, h4⟩
  · exact .inl h2
  · exact .inr ⟨g', cap', cur, rfl, h3, by rw [h.block g' (Array.getElem?_eq_some_iff.1 hh).1 (hr g' rfl)]; exact hh, h4⟩
theorem OwnI.chg {g n cap : Nat} (h : Chg lo hi w w') (ho : OwnI w B g n cap xs) (hr : g < lo ∨ hi ≤ g) : OwnI w' B g n cap xs :=
  ownsRow_chg h ho (fun j hj => by have e : g = j := Option.some.inj hj; omega)
theorem FrI.chg (h : Chg lo hi w w') (ho : FrI w B v xs) (hr : hi ≤ B) : FrI w' B v xs := by
  obtain ⟨g, cap, rfl, ho⟩ := ho
  exact ⟨g, cap, rfl, OwnI.chg h ho (by have := ho.lt.1; omega)⟩
theorem OwI.chg (h : Chg lo hi w w') (ho : OwI w B v xs) (hr : ∀ g, v.ownBlock = some g → g < lo ∨ hi ≤ g) : OwI w' B v xs := by
  rcases ho with ho | ⟨g, cap, cap', rfl, ho⟩
  · exact .inl ho
  · exact .inr ⟨g, cap, cap', rfl, OwnI.chg h ho (hr g rfl)⟩
theorem FrR.chg {us : List Value} {xss : List (List Int)} (h : Chg lo hi w w') (ho : FrR w B v us xss) (hr : hi ≤ B) : FrR w' B v us xss := by
  obtain ⟨g0, cap0, e0, hB0, _⟩ := ho.lt
  obtain ⟨g, cap, rfl, h1, h2, h3, h4⟩ := ho
  cases e0
  exact ⟨g0, cap0, rfl, ownsRow_chg h h1 (fun j hj => by have e : g0 = j := Option.some.inj hj; omega), h2, fun j a b => (h3 j a b).chg h hr, h4⟩
theorem FrH.chg {X : Her} (h : Chg lo hi w w') (ho : FrH w B v X) (hr : hi ≤ B) : FrH w' B v X := by
  obtain ⟨d, u, us, rfl, h1, h2, h3⟩ := ho
  exact ⟨d, u, us, rfl, h1.chg h hr, h2.chg h hr, h3⟩
theorem OwH.chg {X : Her} (h : Chg lo hi w w') (ho : OwH w B v X) (hr : hi ≤ B) : OwH w' B v X := by
  rcases ho with ho | ho
  · exact .inl ho
  · exact .inr (ho.chg h hr)
end
/-! ### Marked rows -/
def sumL : List (List Int) → Nat
  | [] => 0
  | x :: xs => x.length + sumL xs
structure RowsI (w : World) (lo hi : Nat) (us : List Value) (xss : List (List Int)) : Prop where
  len : us.length = xss.length
  rows : ∀ j (h : j < us.length) (h' : j < xss.length), OwI w lo us[j] xss[j]
  hib : ∀ z ∈ us, ∀ g, z.ownBlock = some g → g < hi
  pw : us.Pairwise fun a b => ∀ g, a.ownBlock = some g → b.ownBlock ≠ some g
end Go.Proofs.YtgcelfnjijhmkaaGreat
/-
  The laws' marks on rows of rows, doublings and matrices, and the reading of the marks.
-/
namespace Go.Proofs.YtgcelfnjijhmkaaGreat
open Go.RowKit

def RgR (w : World) (lo hi : Nat) (v : Value) (us : List Value) (xss : List (List Int)) : Prop :=
  RowsI w lo hi us xss ∧ ((v = .slice none 0 0 ∧ us = []) ∨ ∃ g cap, v = .slice (some ⟨g, 0, none⟩) us.length cap ∧ (lo ≤ g ∧ g < w.heap.size) ∧ (∀ j (h : j < us.length), w.cell? ⟨g, j, none⟩ = some us[j]) ∧ ∀ z ∈ us, z.ownBlock ≠ some g)
theorem RgR.rs {w : World} {lo hi : Nat} {v : Value} {us : List Value} {xss : List (List Int)} (h : RgR w lo hi v us xss) : Rs w v xss := by
  obtain ⟨h1, h2⟩ := h
  have hl := h1.len
  rcases h2 with ⟨rfl, rfl⟩ | ⟨g, cap, rfl, _, h3, _⟩
  · obtain rfl : xss = [] := List.length_eq_zero_iff.1 (by simpa using hl.symm)
    exact ⟨none, 0, rfl, .inl rfl⟩
  · refine ⟨_, cap, by rw [hl], .inr ⟨g, 0, rfl, fun j hj => ⟨us[j]'(by omega), by rw [Nat.zero_add]; exact h3 j (by omega), (h1.rows j (by omega) hj).sl⟩⟩⟩
end Go.Proofs.YtgcelfnjijhmkaaGreat
/-
  The laws' marks on doublings and matrices.
-/
namespace Go.Proofs.YtgcelfnjijhmkaaGreat
open Go.RowKit

theorem OwI.same {w w' : World} {B : Nat} {v : Value} {xs : List Int} (h : OwI w B v xs) (he : ∀ g, g < w.heap.size → v.ownBlock = some g → w'.heap[g]? = w.heap[g]?) : OwI w' B v xs := by
  rcases h with h | ⟨g, cap, cap', rfl, h⟩
  · exact .inl h
  · obtain ⟨cur, hh, hc, ht⟩ := h.row
    exact .inr ⟨g, cap, cap', rfl, OwnI.mk_ h.lt.1 (by rw [he g h.lt.2 rfl]; exact hh) hc ht h.caps.1 h.caps.2⟩
def RgH (w : World) (lo hi : Nat) (v : Value) (X : Her) : Prop := ∃ d u us, v = .agg #[d, u] ∧ OwI w lo d X.dg ∧ RgR w lo hi u us X.up ∧ ∀ g, d.ownBlock = some g → (g < hi ∧ u.ownBlock ≠ some g ∧ ∀ z ∈ us, z.ownBlock ≠ some g)
theorem RgR.below {w w' : World} {lo hi : Nat} {v : Value} {us : List Value} {xss : List (List Int)} (h : RgR w lo hi v us xss) (hb : Below w.heap.size w w') : RgR w' lo hi v us xss := by
  obtain ⟨⟨h1, h2, h3, h4⟩, h5⟩ := h
  refine ⟨⟨h1, fun j a b => (h2 j a b).below hb, h3, h4⟩, ?_⟩
  rcases h5 with h5 | ⟨g, cap, rfl, h6, h7, h8⟩
  · exact .inl h5
  · exact .inr ⟨g, cap, rfl, ⟨h6.1, Nat.lt_of_lt_of_le h6.2 hb.size⟩, fun j a => kept hb (h7 j a), h8⟩
theorem RgR.grown {w w' : World} {lo hi : Nat} {v : Value} {us : List Value} {xss : List (List Int)} {row : Option Nat} (h : RgR w lo hi v us xss) (hg : w.grownBy w' row) (h9 : ∀ g, row = some g → v.ownBlock ≠ some g ∧ ∀ z ∈ us, z.ownBlock ≠ some g) : RgR w' lo hi v us xss := by
  obtain ⟨⟨h1, h2, h3, h4⟩, h5⟩ := h
  refine ⟨⟨h1, fun j a b => ?_, h3, h4⟩, ?_⟩
  · rcases h2 j a b with h | ⟨g, cap, cap', e, h⟩
    · exact .inl h
    · exact .inr ⟨g, cap, cap', e, h.grown hg (fun e2 => (h9 g e2.symm).2 _ (List.getElem_mem a) (by rw [e]; rfl))⟩
  rcases h5 with h5 | ⟨g, cap, rfl, h6, h7, h8⟩
  · exact .inl h5
  · refine .inr ⟨g, cap, rfl, ⟨h6.1, Nat.lt_of_lt_of_le h6.2 hg.size⟩, fun j a => ?_, h8⟩
    rw [World.cell?_of_block (w := w) (hg.block g h6.2 (fun e2 => (h9 g e2.symm).1 rfl))]; exact h7 j a
theorem RgH.hr {w : World} {lo hi : Nat} {v : Value} {X : Her} (h : RgH w lo hi v X) : Hr w v X := by
  obtain ⟨d, u, us, rfl, h1, h2, _⟩ := h
  exact ⟨d, u, rfl, h1.sl, h2.rs⟩
theorem RgH.below {w w' : World} {lo hi : Nat} {v : Value} {X : Her} (h : RgH w lo hi v X) (hb : Below w.heap.size w w') : RgH w' lo hi v X := by
  obtain ⟨d, u, us, rfl, h1, h2, h3⟩ := h
  exact ⟨d, u, us, rfl, h1.below hb, h2.below hb, h3⟩
theorem RgH.chg {w w' : World} {lo hi lo' hi' : Nat} {v : Value} {X : Her} (h : RgH w lo' hi' v X) (hc : Chg lo hi w w') (hr : hi ≤ lo') : RgH w' lo' hi' v X := by
  obtain ⟨d, u, us, rfl, h1, ⟨⟨k1, k2, k3, k4⟩, h5⟩, h3⟩ := h
  have far : ∀ {v : Value} {xs : List Int}, OwI w lo' v xs → OwI w' lo' v xs := fun ho => OwI.chg hc ho (fun g hg => .inr (Nat.le_trans hr (ho.blk g hg).1))
  refine ⟨d, u, us, rfl, far h1, ⟨⟨k1, fun j a b => far (k2 j a b), k3, k4⟩, ?_⟩, h3⟩
  rcases h5 with h5 | ⟨g, cap, rfl, h6, h7, h8⟩
  · exact .inl h5
  · exact .inr ⟨g, cap, rfl, ⟨h6.1, Nat.lt_of_lt_of_le h6.2 hc.size⟩, fun j a => hc.cell (h7 j a) (.inr (by omega)), h8⟩
structure Hs (X : Her) : Prop extends Hsz X where
  sum : sumL X.up ≤ 10000000
end Go.Proofs.YtgcelfnjijhmkaaGreat
