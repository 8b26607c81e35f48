/- Texts joined for a claim: FlowP, TrD, TrE. -/
import Derived.Test.YtfcdhdkhfdhjfaaFlow
import Derived.Test.YtfcdhdkhfdhjfaaLinG
import Derived.Test.YtfcdhdkhfdhjfaaTrB
import Derived.Test.YtfcdhdkhfdhjfaaJap
import Derived.Test.YtfcdhdkhfdhjfaaDbN
/-
  Regions that draw their order, with many operations: that an operation waits for a load is shown by a path, not by a search. Plain lemmas over any program.
-/
namespace Go.Proofs.Ytfcdhdkhfdhjfaa
open Go.RowKit

section
variable {P : Program} {ops : Array Oper}
def edgeB (ops : Array Oper) (j k : Nat) : Bool := match ops[j]? with
  | none => false
  | some o => o.after.any fun e => Region.binds .any e && e.on == k
def pathB (ops : Array Oper) : Nat → List Nat → Nat → Bool
  | j, [], i => edgeB ops j i
  | j, k :: r, i => edgeB ops j k && pathB ops k r i
theorem pathB_ok {i : Nat} : ∀ {r : List Nat} {F j : Nat}, pathB ops j r i = true → r.length < F → waitsIn .any ops F j i = true
  | [], 0, j, h, hF => by simp at hF
  | [], F + 1, j, h, hF => by
    unfold pathB edgeB at h
    unfold waitsIn
    split at h
    · cases h
    · rename_i o ho
      rw [ho]
      simp only [Array.any_eq_true] at h ⊢
      obtain ⟨m, hm, h2⟩ := h
      refine ⟨m, hm, ?_⟩
      simp only [Bool.and_eq_true] at h2 ⊢
      exact ⟨h2.1, by rw [h2.2]; rfl⟩
  | k :: r, 0, j, h, hF => by simp at hF
  | k :: r, F + 1, j, h, hF => by
    unfold pathB at h
    simp only [Bool.and_eq_true] at h
    obtain ⟨h1, h2⟩ := h
    have ih := pathB_ok (F := F) h2 (by simp at hF; omega)
    unfold edgeB at h1
    unfold waitsIn
    split at h1
    · cases h1
    · rename_i o ho
      rw [ho]
      simp only [Array.any_eq_true] at h1 ⊢
      obtain ⟨m, hm, h3⟩ := h1
      refine ⟨m, hm, ?_⟩
      simp only [Bool.and_eq_true, beq_iff_eq] at h3 ⊢
      refine ⟨h3.1, ?_⟩
      rw [h3.2, ih]; simp
def waitsP (ops : Array Oper) (F : Nat) (PA : List (Nat × Nat × List Nat)) (i : Nat) (L : List (Nat × Nat)) (ok : Nat → Bool) : Bool :=
  L.all fun l => ok l.2 || PA.any fun q => q.1 == i && q.2.1 == l.1 && decide (q.2.2.length < F) && pathB ops i q.2.2 l.1
theorem waitsP_ok {F : Nat} {PA : List (Nat × Nat × List Nat)} {i : Nat} {L : List (Nat × Nat)} {ok : Nat → Bool} (h : waitsP ops F PA i L ok = true) : waitsB ops F i L ok = true := by
  unfold waitsP at h
  unfold waitsB
  rw [List.all_eq_true] at h ⊢
  intro l hl
  have h1 := h l hl
  simp only [Bool.or_eq_true] at h1 ⊢
  rcases h1 with h1 | h1
  · exact .inl h1
  · right
    rw [List.any_eq_true] at h1
    obtain ⟨q, _, h2⟩ := h1
    simp only [Bool.and_eq_true, decide_eq_true_eq] at h2
    exact pathB_ok h2.2 h2.1.2
def actOkP (ops : Array Oper) (F : Nat) (PA : List (Nat × Nat × List Nat)) (i m : Nat) (L : List (Nat × Nat)) : Bool := match m with
  | 3 => waitsP ops F PA i L (fun s => s != 0)
  | 5 => waitsP ops F PA i L (fun s => s == 2)
  | _ => waitsP ops F PA i L (fun _ => false)
theorem actOkP_ok {F : Nat} {PA : List (Nat × Nat × List Nat)} {i m : Nat} {L : List (Nat × Nat)} (h : actOkP ops F PA i m L = true) : actOk ops F i m L = true := by
  unfold actOkP at h
  unfold actOk
  split at h
  · exact waitsP_ok h
  · exact waitsP_ok h
  · rename_i h3 h5
    split
    · exact absurd rfl (h3 ·)
    · exact absurd rfl (h5 ·)
    · exact waitsP_ok h
def flowOkP (P : Program) (ops : Array Oper) (F : Nat) (PA : List (Nat × Nat × List Nat)) (act : Nat → Bool) : List (Nat × Nat) → Array Bool → List (Nat × Nat) → Bool → Bool
  | [], listed, _, _ => (Region.ready .any ops listed).isEmpty
  | (i, m) :: rest, listed, L, st => match ops[i]? with
    | none => false
    | some o => (Region.ready .any ops listed).contains i && (match m with
      | 0 => opKind P o == 0 && Region.free .any ops listed i && !act i && flowOkP P ops F PA act rest (listed.setIfInBounds i true) L st
      | 1 => opKind P o == 1 && Region.free .any ops listed i && !act i && flowOkP P ops F PA act rest (listed.setIfInBounds i true) ((i, if st then 1 else 2) :: L) st
      | _ => act i && Region.ready .any ops listed == [i] && actOkP ops F PA i m L && flowOkP P ops F PA act rest (listed.setIfInBounds i true) (L.map fun l => (l.1, actNext m l.2)) true)
theorem flowOkP_ok {F : Nat} {PA : List (Nat × Nat × List Nat)} {act : Nat → Bool} : ∀ {c : List (Nat × Nat)} {listed : Array Bool} {L : List (Nat × Nat)} {st : Bool}, flowOkP P ops F PA act c listed L st = true → flowOk P ops F act c listed L st = true
  | [], listed, L, st, h => h
  | (i, m) :: rest, listed, L, st, h => by
    unfold flowOkP at h
    unfold flowOk
    split at h
    · cases h
    · rename_i o ho
      rw [ho]
      simp only [Bool.and_eq_true] at h ⊢
      refine ⟨h.1, ?_⟩
      have h2 := h.2
      split at h2
      · simp only [Bool.and_eq_true] at h2 ⊢
        exact ⟨h2.1, flowOkP_ok h2.2⟩
      · simp only [Bool.and_eq_true] at h2 ⊢
        exact ⟨h2.1, flowOkP_ok h2.2⟩
      · rename_i h3 h5
        split
        · exact absurd rfl (h3 ·)
        · exact absurd rfl (h5 ·)
        · simp only [Bool.and_eq_true] at h2 ⊢
          exact ⟨⟨h2.1.1, actOkP_ok h2.1.2⟩, flowOkP_ok h2.2⟩
def regionOkP (P : Program) (ops : Array Oper) (PA : List (Nat × Nat × List Nat)) (segs : List (Bool × List (Nat × Nat))) : Bool :=
  P.follows .mixedOrders && Region.noSelect ops && (flat segs).length == ops.size && kindsOk P ops (flat segs) && stableB ops (segL ops (flat segs)) && segsOk segs &&
    flowOkP P ops ops.size PA (fun j => (flat segs).any fun p => p.1 == j && decide (2 ≤ p.2)) (flat segs) (Array.replicate ops.size false) [] false
theorem region_flowP (PA : List (Nat × Nat × List Nat)) (segs : List (Bool × List (Nat × Nat))) {id : Nat} {l : List Oper} {Q : Exit → Act → World → Prop} {a : Act} {w : World} (hok : regionOkP P l.toArray PA segs = true)
    (h : wpSegs P l.toArray (fun a' w' => shapesB l.toArray (flat segs) a' = true ∧ Q .normal a' w') w.drew segs a w.drew) : (Code.region id l.toArray true).wp P Q a w := by
  refine region_flow segs ?_ h
  unfold regionOkP at hok
  unfold regionOk
  simp only [Bool.and_eq_true] at hok ⊢
  exact ⟨hok.1, flowOkP_ok hok.2⟩
end
end Go.Proofs.Ytfcdhdkhfdhjfaa
/-
  The program's determinant: the walk.
-/
namespace Go.Proofs.Ytfcdhdkhfdhjfaa
open Go.RowKit

section
variable {A B O : List (List Int)} {R : List Int} {p : Int} {k t m i : Nat}
end
end Go.Proofs.Ytfcdhdkhfdhjfaa
/-
  Automorphisms: the program's test and the reference's, walked.
-/
namespace Go.Proofs.Ytfcdhdkhfdhjfaa
open Go.RowKit

theorem all_succ {n : Nat} {f : Nat → Bool} : (List.range (n + 1)).all f = ((List.range n).all f && f n) := by
  rw [List.range_succ, List.all_append]; simp
def Un (w : World) (g n : Nat) : Prop := ∀ j, j < n → ∃ a c, w.cell? ⟨g, j, none⟩ = some (.slice a n c) ∧ El w (.slice a n c) (oneL n j)
def Tb (w : World) (b off n : Nat) (F : Nat → Nat → Int) : Prop := ∀ i, i < n → ∃ b2 o2 c, w.cell? ⟨b, off + i, none⟩ = some (.slice (some ⟨b2, o2, none⟩) n c) ∧ ∀ k, k < n → w.cell? ⟨b2, o2 + k, none⟩ = some (.int .i64 (F i k))
section
variable {w w' : World} {g n b off : Nat} {F : Nat → Nat → Int}
theorem Un.below (h : Un w g n) (hb : Below w.heap.size w w') : Un w' g n := fun j hj => by
  obtain ⟨a, c, h1, h2⟩ := h j hj
  exact ⟨a, c, kept hb h1, h2.below hb⟩
theorem Tb.below (h : Tb w b off n F) (hb : Below w.heap.size w w') : Tb w' b off n F := fun i hi => by
  obtain ⟨b2, o2, c, h1, h2⟩ := h i hi
  exact ⟨b2, o2, c, kept hb h1, fun k hk => kept hb (h2 k hk)⟩
theorem Tb.congr {G : Nat → Nat → Int} (h : Tb w b off n F) (e : ∀ i, i < n → ∀ k, k < n → F i k = G i k) : Tb w b off n G := fun i hi => by
  obtain ⟨b2, o2, c, h1, h2⟩ := h i hi
  exact ⟨b2, o2, c, h1, fun k hk => by rw [← e i hi k hk]; exact h2 k hk⟩
theorem Re.tb {v : Value} {L : List (List Int)} (h : Re w v L) (hl : L.length = n) (h0 : 0 < n) (hL : ∀ r ∈ L, r.length = n) : ∃ b off c, v = .slice (some ⟨b, off, none⟩) n c ∧ Tb w b off n fun i k => (L.getD i []).getD k 0 := by
  obtain ⟨a, c, rfl, _, _, h3⟩ := h
  obtain ⟨b, off, rfl, h4⟩ := h3.resolve_left (fun e => by rw [e] at hl; simp at hl; omega)
  refine ⟨b, off, c, by rw [hl], fun i hi => ?_⟩
  obtain ⟨u, h1, h2⟩ := h4 i (by omega)
  obtain ⟨a2, c2, rfl, _⟩ := id h2.op
  have hr := hL L[i] (List.getElem_mem _)
  have hg : L.getD i [] = L[i] := by rw [List.getD_eq_getElem?_getD, List.getElem?_eq_getElem (by omega)]; rfl
  obtain ⟨b2, o2, rfl, _⟩ := Sl.cellat h2.sl (i := 0) (by omega)
  refine ⟨b2, o2, c2, by rw [hr] at h1; exact h1, fun k hk => ?_⟩
  obtain ⟨b3, o3, e, hc⟩ := Sl.cellat h2.sl (i := k) (by omega)
  cases e
  show w.cell? ⟨b2, o2 + k, none⟩ = some (Value.int .i64 ((L.getD i []).getD k 0))
  rw [hg]
  exact hc
end
theorem bas_get {p : Int} {st : List Int} {i k : Nat} (hi : i < sz st.length) (hk : k < sz st.length) : ((basL p st).getD i []).getD k 0 = basF p st i k := by
  unfold basL
  simp [List.getD_eq_getElem?_getD, hi, hk]
end Go.Proofs.Ytfcdhdkhfdhjfaa
