/-
  CompleteTriple: the program's function, walked.
-/
import Derived.Test.YtfcdhdkhfdhjfaaJbs
import Derived.Test.YtfcdhdkhfdhjfaaCtH
import Derived.Test.YtfcdhdkhfdhjfaaJap
namespace Go.Proofs.Ytfcdhdkhfdhjfaa
open Go.RowKit

def OutG (w : World) (B : Nat) (a b c : Value) (T : T3) : Prop := (a = .slice none 0 0 ∧ b = .slice none 0 0 ∧ c = .slice none 0 0 ∧ T = ⟨[], [], []⟩) ∨ ∃ lo hi, B ≤ lo ∧ TrG w lo hi a b c T
def rhs (p : Int) (f : List Int) (r : List Int) : Int := (-(dotL p (r.take 64) f)) % p
def Rhs (p : Int) (f r : List Int) (d : Int) : Prop := d = dotL p (r.take 64) f ∧ 0 ≤ d ∧ d < p
structure Cts (p : Int) (f : List Int) (L : List (List Int)) (wL wr : World) (B lo hi k : Nat) (rv cv : Value) (us : List Value) (cs : List Int) : Prop where
  rows : OwV wr B rv us
  rl : us.length = k
  els : ∀ j (_ : j < us.length), ∃ b cap, us[j] = .slice (some ⟨b, 64, none⟩) 128 (cap - 64) ∧ lo ≤ b ∧ b < hi ∧ 192 ≤ cap ∧ cap ≤ 9223372036854775807 ∧ At wL b 0 (L.getD j [])
  rf : ∃ a c, rv = .slice a us.length c
  right : OwN wr B cv cs
  cs_ : cs = (L.take k).map (rhs p f)
  cf : ∃ a c, cv = .slice a cs.length c
  kb : ∀ b, lo ≤ b → b < hi → wr.heap[b]? = wL.heap[b]?
  ro : ∀ g, rv.ownBlock = some g → g < lo ∨ hi ≤ g
  co : ∀ g, cv.ownBlock = some g → g < lo ∨ hi ≤ g
  sz : hi ≤ wr.heap.size
section
variable {p : Int} {f : List Int} {L : List (List Int)} {wL wr w2 w4 : World} {B lo hi k g2 c2 g4 c4 : Nat} {rv cv z : Value} {us : List Value} {cs : List Int} {y : Int}
theorem Cts.step (h : Cts p f L wL wr B lo hi k rv cv us cs)
    (hz : ∃ b cap, z = .slice (some ⟨b, 64, none⟩) 128 (cap - 64) ∧ lo ≤ b ∧ b < hi ∧ 192 ≤ cap ∧ cap ≤ 9223372036854775807 ∧ At wL b 0 (L.getD k []))
    (ho2 : OwV w2 B (.slice (some ⟨g2, 0, none⟩) (us.length + 1) c2) (us ++ [z])) (hg2 : wr.grownBy w2 rv.ownBlock) (hge2 : rv.ownBlock = some g2 ∨ g2 = wr.heap.size + 1)
    (ho4 : OwN w4 B (.slice (some ⟨g4, 0, none⟩) (cs.length + 1) c4) (cs ++ [y])) (hg4 : w2.grownBy w4 cv.ownBlock) (hge4 : cv.ownBlock = some g4 ∨ g4 = w2.heap.size + 1)
    (hk : k < L.length) (hy : y = rhs p f L[k]) : Cts p f L wL w4 B lo hi (k + 1) (.slice (some ⟨g2, 0, none⟩) (us.length + 1) c2) (.slice (some ⟨g4, 0, none⟩) (cs.length + 1) c4) (us ++ [z]) (cs ++ [y]) := by
  have hr2 : OwN w2 B cv cs := h.right.kept hg2 (apart h.right h.rows)
  have s2 := hg2.size; have s4 := hg4.size; have sz := h.sz
  refine ⟨ho2.kept hg4 (apart' hr2 ho2), by simp [h.rl], fun j hj => ?_, ⟨some ⟨g2, 0, none⟩, c2, by simp⟩, ho4, ?_, ⟨some ⟨g4, 0, none⟩, c4, by simp⟩, fun b h1 h2 => ?_, fun g e => ?_, fun g e => ?_, by omega⟩
  · by_cases hlt : j < us.length
    · rw [List.getElem_append_left hlt]; exact h.els j hlt
    · have hj2 : j = us.length := by rw [List.length_append] at hj; simp at hj; omega
      subst hj2
      rw [List.getElem_append_right (Nat.le_refl _)]
      simp only [Nat.sub_self, List.getElem_cons_zero]
      rw [h.rl]; exact hz
  · rw [h.cs_, hy, List.take_succ_eq_append_getElem hk, List.map_append]; rfl
  · rw [hg4.block b (by omega) (fun e => by have := h.co b e.symm; omega), hg2.block b (by omega) (fun e => by have := h.ro b e.symm; omega)]
    exact h.kb b h1 h2
  · obtain rfl : g2 = g := by simpa [Value.ownBlock] using e
    rcases hge2 with e2 | e2
    · exact h.ro _ e2
    · right; omega
  · obtain rfl : g4 = g := by simpa [Value.ownBlock] using e
    rcases hge4 with e2 | e2
    · exact h.co _ e2
    · right; omega
theorem At.dropN {w : World} {b : Nat} {xs : List Int} (h : At w b 0 xs) (n : Nat) : At w b n (xs.drop n) := by
  have := h.drop n
  rwa [Nat.zero_add] at this
theorem Cts.re (h : Cts p f L wL wr B lo hi k rv cv us cs) (hk : k = L.length) (hL : ∀ r ∈ L, r.length = 192) : Re wr rv (L.map fun r => r.drop 64) := by
  obtain ⟨a, c, e⟩ := h.rf
  have hul := h.rl
  rcases h.rows.2 with ⟨e1, e2⟩ | ⟨g, cap, cur, e1, _, hh, h3, h4, h5, h6⟩
  · have hl0 : L = [] := List.eq_nil_of_length_eq_zero (by omega)
    rw [e1, hl0]; exact Re.nil wr
  · subst e1
    simp only [maxLen] at h4
    refine ⟨_, cap, by rw [List.length_map]; cases e; rw [hul, hk], by rw [List.length_map]; omega, by omega, .inr ⟨g, 0, rfl, fun j hj => ?_⟩⟩
    rw [List.length_map] at hj
    have hj2 : j < us.length := by omega
    obtain ⟨b, cap2, eu, h7, h8, h9, h10, h11⟩ := h.els j hj2
    refine ⟨us[j], ?_, ?_⟩
    · have := World.ownsRow.cells h.rows (g := g) rfl j us[j] (by simp)
      rw [addz] at this
      rw [Nat.zero_add]; exact this
    · rw [eu, List.getElem_map]
      have hg : L.getD j [] = L[j] := by rw [List.getD_eq_getElem?_getD, List.getElem?_eq_getElem hj]; rfl
      rw [hg] at h11
      have hl := hL _ (List.getElem_mem hj)
      have hat : At wr b 64 (L[j].drop 64) := fun i hi => by
        have := h11.dropN 64 i hi
        rw [World.cell?_of_block (w := wL) (h.kb b h7 h8)]; exact this
      have e := El.mk_ (w := wr) (a := some ⟨b, 64, none⟩) (xs := L[j].drop 64) (c := cap2 - 64) (by rw [List.length_drop]; omega) (by omega) (.inr ⟨b, 64, rfl, hat⟩)
      rw [List.length_drop, hl] at e
      exact e
theorem loc_len {st : List Int} (hd : Dok p st) : (locP p st).length ≤ 100000 := by
  have hsz := (sz_le hd).2
  have hb : ∀ {f : Nat → List (List Int)} {B c : Nat}, (∀ i, i < c → (f i).length ≤ B) → ((List.range c).flatMap f).length ≤ c * B := by
    intro f B c h
    induction c with
    | zero => simp
    | succ c ih =>
      rw [List.range_succ, List.flatMap_append, List.length_append, Nat.succ_mul, show [c].flatMap f = f c by simp]
      exact Nat.add_le_add (ih fun i hi => h i (by omega)) (h c (by omega))
  unfold locP
  generalize sz st.length = n at hsz
  unfold locL
  rw [List.length_append]
  have h1 : (skP p n (dgN p st) 3).length ≤ 3 * (n * 9) := hb fun t _ => hb fun i hi => by unfold skK; simp; omega
  have h2 : (foI p n (cycF p st) n).length ≤ n * (n * 8) := hb fun i _ => hb fun j _ => by unfold foK; simp; omega
  have h3 : n * (n * 8) ≤ 8 * (8 * 8) := Nat.mul_le_mul hsz (Nat.mul_le_mul_right 8 hsz)
  omega
theorem zw_wide : zwL (L.map fun r => r.drop 64) (L.map (rhs p f)) = wideL p f L := by
  unfold zwL wideL rhs
  induction L with
  | nil => rfl
  | cons x L ih => rw [List.map_cons, List.map_cons, List.map_cons, List.zipWith_cons_cons, ih]
theorem drop_rw (h : Rw p 192 L) : Rw p 128 (L.map fun r => r.drop 64) := fun r hr => by
  obtain ⟨x, hx, rfl⟩ := List.mem_map.1 hr
  exact ⟨by rw [List.length_drop, (h x hx).1], fun y hy => (h x hx).2 y (List.mem_of_mem_drop hy)⟩
theorem rhs_fp (hp : 1 ≤ p) : Fp p (L.map (rhs p f)) := fun x hx => by
  obtain ⟨r, _, rfl⟩ := List.mem_map.1 hx
  exact ⟨Int.emod_nonneg _ (by omega), Int.emod_lt_of_pos _ (by omega)⟩
end
end Go.Proofs.Ytfcdhdkhfdhjfaa
