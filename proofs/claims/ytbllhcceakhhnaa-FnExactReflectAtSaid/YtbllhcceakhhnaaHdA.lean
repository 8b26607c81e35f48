/-
  The checks of points; the numbers of a matrix in one row (reference); a fresh matrix by its parts; results in blocks apart.
-/
import Derived.Test.YtbllhcceakhhnaaHcY
namespace Go.Proofs.Ytbllhcceakhhnaa
open Go.RowKit

def isPt (p : Int) (st : List Int) (X : Her) : Bool := rankH p st X == 1
def ptsH (p : Int) (st : List Int) (l : List Her) : Int := if chkH p st l = 0 then (if l.all (isPt p st) = true then 0 else 5) else chkH p st l
theorem ptsH_pos {p : Int} {st : List Int} {l : List Her} (h : ptsH p st l = 0) : (Dok p st ∧ l.all (isH p (sz st.length)) = true) ∧ l.all (isPt p st) = true := by
  unfold ptsH at h
  split at h
  · rename_i h1
    split at h
    · exact ⟨chkH_pos h1, by assumption⟩
    · cases h
  · rename_i h1
    exact absurd h h1
theorem lead_ne : ∀ xs : List Int, leadN xs < xs.length → xs.getD (leadN xs) 0 ≠ 0
  | [], h => absurd h (by decide)
  | x :: xs, h => by
    by_cases h0 : x = 0
    · have e : leadN (x :: xs) = leadN xs + 1 := if_pos h0
      rw [e] at h ⊢
      rw [List.getD_cons_succ]
      exact lead_ne xs (by simpa using h)
    · have e : leadN (x :: xs) = 0 := if_neg h0
      rw [e]
      simpa using h0
theorem pt_lead {p : Int} {st : List Int} {X : Her} (hd : Dok p st) (hX : isH p (sz st.length) X = true) (h : isPt p st X = true) :
    leadN (numsH X) < (numsH X).length ∧ 1 ≤ (numsH X).getD (leadN (numsH X)) 0 ∧ (numsH X).getD (leadN (numsH X)) 0 < p := by
  have hsz := sz_le hd
  have hr : rankH p st X = 1 := by simpa [isPt] using h
  have hz : ¬ isZ (numsH X) = true := fun e => by
    have e0 : rankH p st X = 0 := if_pos e
    rw [e0] at hr
    exact absurd hr (by decide)
  have hl := leadN_le (numsH X)
  rw [isZ_lead, decide_eq_true_eq] at hz
  have hlt : leadN (numsH X) < (numsH X).length := by omega
  have hne := lead_ne _ hlt
  have hf := (isH_nums hX hsz.1).2.2.2.2 ((numsH X).getD (leadN (numsH X)) 0) (by
    rw [List.getD_eq_getElem?_getD, List.getElem?_eq_getElem hlt]
    exact List.getElem_mem hlt)
  exact ⟨hlt, by omega, hf.2⟩
theorem FrH.op3 {w : World} {B : Nat} {x : Value} {X : Her} {p : Int} {n : Nat} (h : FrH w B x X) (hX : isH p n X = true) :
    ∃ a b c u v t bd cd bu cu r s q, X = ⟨[a, b, c], [u, v, t]⟩ ∧ x = .agg #[.slice (some ⟨bd, 0, none⟩) 3 cd, .slice (some ⟨bu, 0, none⟩) 3 cu] ∧ (Ev p n u ∧ Ev p n v ∧ Ev p n t) ∧
      (w.cell? ⟨bu, 0, none⟩ = some r ∧ w.cell? ⟨bu, 1, none⟩ = some s ∧ w.cell? ⟨bu, 2, none⟩ = some q) ∧ FrI w B r u ∧ FrI w B s v ∧ FrI w B q t ∧ (∃ a' c', r = .slice a' u.length c') ∧ (∃ a' c', s = .slice a' v.length c') ∧ (∃ a' c', q = .slice a' t.length c') := by
  obtain ⟨a, b, c, u, v, t, rfl, _, _, _, _, _, _, eu, ev, et⟩ := isH_op hX
  obtain ⟨d, y, us, rfl, ⟨gd, cd, rfl, hd⟩, ⟨gu, cu, rfl, ho, hl, hr, _⟩, _⟩ := h
  have hl3 : us.length = 3 := hl
  match us, hl3 with
  | [r, s, q], _ =>
    have hc := fun j z hz => World.ownsRow.cells ho (g := gu) rfl j z hz
    have c0 := hc 0 r rfl; have c1 := hc 1 s rfl; have c2 := hc 2 q rfl
    rw [addz] at c0 c1 c2
    have f0 := hr 0 (by simp) (by simp); have f1 := hr 1 (by simp) (by simp); have f2 := hr 2 (by simp) (by simp)
    exact ⟨a, b, c, u, v, t, gd, cd, gu, cu, r, s, q, rfl, rfl, ⟨eu, ev, et⟩, ⟨c0, c1, c2⟩, f0, f1, f2, by obtain ⟨g, cap, e, _⟩ := f0; exact ⟨_, _, e⟩, by obtain ⟨g, cap, e, _⟩ := f1; exact ⟨_, _, e⟩, by obtain ⟨g, cap, e, _⟩ := f2; exact ⟨_, _, e⟩⟩
/-- Slices that do not share a block. -/
def Apt (u v : Value) : Prop := u.ownBlock = none ∨ v.ownBlock = none ∨ u.ownBlock ≠ v.ownBlock
theorem Apt.sw {u v : Value} (h : Apt u v) : Apt v u := by
  rcases h with h | h | h
  · exact .inr (.inl h)
  · exact .inl h
  · exact .inr (.inr (Ne.symm h))
theorem Apt.fr {w w' : World} {B B' : Nat} {u v : Value} {xs ys : List Int} (h : FrI w B u xs) (h' : FrI w' B' v ys) (hB : w.heap.size ≤ B') : Apt u v := by
  obtain ⟨g, e, _, hg⟩ := h.blk
  obtain ⟨g', e', hg', _⟩ := h'.blk
  refine .inr (.inr ?_)
  rw [e, e']
  intro e2
  have e3 := Option.some.inj e2
  omega
theorem OwI.grown_ {w w' : World} {B : Nat} {u v : Value} {xs : List Int} (h : OwI w B u xs) (hg : w.grownBy w' v.ownBlock) (ha : Apt u v) : OwI w' B u xs := by
  rcases h with h | h
  · exact .inl h
  · obtain ⟨g, cap, cap', rfl, ho⟩ := h
    refine .inr ⟨g, cap, cap', rfl, ho.grown hg ?_⟩
    rcases ha with ha | ha | ha
    · cases ha
    · rw [ha]; exact fun h => by cases h
    · exact ha
end Go.Proofs.Ytbllhcceakhhnaa
