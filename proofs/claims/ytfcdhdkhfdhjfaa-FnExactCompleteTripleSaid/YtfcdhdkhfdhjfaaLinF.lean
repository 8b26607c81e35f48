/-
  Rows that are changed in place; copies of rows; reduced rows by the program.
-/
import Derived.Test.YtfcdhdkhfdhjfaaJas
namespace Go.Proofs.Ytfcdhdkhfdhjfaa
open Go.RowKit

section
variable {w w' : World} {B g n cap : Nat} {v u : Value} {us : List Value} {xss : List (List Int)} {xs : List Int}
theorem OwV.row (h : OwV w B (.slice (some ⟨g, 0, none⟩) n cap) us) : ∃ cur, w.heap[g]? = some (.cells cur 22 (0, 0)) ∧ cur.size = cap ∧ cur.toList.take us.length = us ∧ us.length = n ∧ n ≤ cap ∧ cap ≤ maxLen ∧ B ≤ g := by
  rcases h.2 with h2 | ⟨g', cap', cur, hv, hg', hh, h3, h4, h5, h6⟩
  · cases h2.1
  · cases hv; exact ⟨cur, hh, by simpa using h5, by simpa using h6, rfl, by omega, h4, hg'⟩
theorem OwV.formF (h : OwV w B (.slice (some ⟨g, 0, none⟩) n cap) us) : us.length = n := by
  obtain ⟨_, _, _, _, h, _⟩ := h.row; exact h
theorem OwV.mk_ {cur : Array Value} (hB : B ≤ g) (hg : w.heap[g]? = some (.cells cur 22 (0, 0))) (hc : cur.size = cap) (ht : cur.toList.take us.length = us) (hn : us.length ≤ cap) (hm : cap ≤ maxLen) : OwV w B (.slice (some ⟨g, 0, none⟩) us.length cap) us :=
  ⟨by simp, .inr ⟨g, cap, cur, rfl, hB, hg, hn, hm, by simpa using hc, by simpa using ht⟩⟩
theorem OwV.cell (h : OwV w B (.slice (some ⟨g, 0, none⟩) n cap) us) {j : Nat} (hj : j < us.length) : w.cell? ⟨g, j, none⟩ = some us[j] := by
  have := World.ownsRow.cells h (g := g) rfl j (us[j]'(by omega)) (by simp)
  rwa [addz] at this
theorem OwV.free (h : OwV w B (.slice (some ⟨g, 0, none⟩) n cap) us) (i : Nat) : w.frozen? ⟨g, i, none⟩ = false := by
  obtain ⟨cur, hh, _⟩ := h.row
  simp [World.frozen?, hh]
theorem OwV.set (h : OwV w B (.slice (some ⟨g, 0, none⟩) n cap) us) (i : Nat) (u : Value) : OwV (w.setCell ⟨g, i, none⟩ u) B (.slice (some ⟨g, 0, none⟩) n cap) (us.set i u) := by
  obtain ⟨cur, hh, hc, ht, hl, hn, hm, hB⟩ := h.row
  have h2 := OwV.mk_ (w := w.setCell ⟨g, i, none⟩ u) (us := us.set i u) (cur := cur.setIfInBounds i u) hB (by simp [World.setCell, Array.getElem?_modify, hh]) (by simpa using hc) (by
    rw [List.length_set, Array.toList_setIfInBounds, List.take_set, ht]) (by rw [List.length_set]; omega) hm
  rwa [List.length_set, hl] at h2
theorem set_grown (w : World) (g i : Nat) (u : Value) : w.grownBy (w.setCell ⟨g, i, none⟩ u) (some g) :=
  ⟨rfl, rfl, rfl, by simp [World.setCell], fun k _ hne => Below.heap_setCell _ _ _ _ (fun e => hne (by rw [e])) ⟩
theorem RowsF.setg (h : RowsF w B us xss) {us2 : List Value} (ho : OwV w B (.slice (some ⟨g, 0, none⟩) n cap) us2) (i : Nat) (u : Value) : RowsF (w.setCell ⟨g, i, none⟩ u) B us xss := h.app ho (set_grown w g i u)
theorem FrI.setg (h : FrI w B v xs) {us2 : List Value} (ho : OwV w B (.slice (some ⟨g, 0, none⟩) n cap) us2) (i : Nat) (u : Value) : FrI (w.setCell ⟨g, i, none⟩ u) B v xs := h.app ho (set_grown w g i u)
theorem RowsF.set (h : RowsF w B us xss) (hu : FrI w B u xs) (i : Nat) : RowsF w B (us.set i u) (xss.set i xs) := by
  refine ⟨by simp [h.1], fun j a b => ?_⟩
  rw [List.getElem_set, List.getElem_set]
  split
  · exact hu
  · exact h.2 j (by simpa using a) (by simpa using b)
theorem row_at {p : Int} {m j : Nat} (ho : OwV w B (.slice (some ⟨g, 0, none⟩) n cap) us) (hr : RowsF w B us xss) (hw : Rw p m xss) (hj : j < xss.length) :
    ∃ gj cj, us.getD j undef = .slice (some ⟨gj, 0, none⟩) m cj ∧ w.cell? ⟨g, j, none⟩ = some (.slice (some ⟨gj, 0, none⟩) m cj) ∧ FrI w B (.slice (some ⟨gj, 0, none⟩) m cj) (xss.getD j []) ∧
      (∀ k < m, w.cell? ⟨gj, k, none⟩ = some (.int .i64 ((xss.getD j []).getD k 0))) := by
  have hl := hr.1
  have hf := hr.2 j (by omega) hj
  have hx : xss.getD j [] = xss[j] := by simp [List.getD_eq_getElem?_getD, hj]
  have hlen := (hw _ (List.getElem_mem hj)).1
  have hcell := ho.cell (j := j) (by omega)
  have hu : us.getD j undef = us[j]'(by omega) := by simp [List.getD_eq_getElem?_getD, show j < us.length by omega]
  obtain ⟨gj, cj, e, hO⟩ := hf
  rw [hlen] at e hO
  refine ⟨gj, cj, by rw [hu, e], by rw [hcell, e], ?_, fun k hk => ?_⟩
  · rw [hx]; exact hO.fr
  · rw [hx]; exact hO.hold hk
end
theorem clonerows_c {rows : Value} {L : List (List Int)} {w : World} (hr : Re w rows L) (h1 : ∀ r ∈ L, 0 < r.length ∧ r.length ≤ 1000000) (hn : L.length ≤ 1000000) :
    Calls Try.prog 79 #[rows] w fun e w' => ∃ g cap us, e = .returned (.slice (some ⟨g, 0, none⟩) L.length cap) ∧ OwV w' w.heap.size (.slice (some ⟨g, 0, none⟩) L.length cap) us ∧ RowsF w' w.heap.size us L ∧ Below w.heap.size w w' := by
  obtain ⟨ar, cr, rfl, hr1, hr2, hR⟩ := hr
  go_enter Try.func79, Try.ntmps79
  go_wp2_with fail
  have hb0 : Below w.heap.size w (w.alloc (.cells #[] 22)) := (by repeat (first | exact .refl _ _ | apply bwD | apply bwA | (refine bwS ?_ (by first | omega | simp <;> omega) _) | refine bwC ?_ (by assumption)))
  go_loopw [3, 9] (fun o i wr => ∃ (k g cap : Nat) (us : List Value), k ≤ L.length ∧ i = .int .i64 k ∧ o = .slice (some ⟨g, 0, none⟩) us.length cap ∧ us.length = k ∧ OwV wr w.heap.size (.slice (some ⟨g, 0, none⟩) us.length cap) us ∧ RowsF wr w.heap.size us (L.take k) ∧ Below w.heap.size w wr)
    (fun _ i _ => L.length - (intOf i).toNat)
  case atStart => exact ⟨0, w.heap.size, 0, [], Nat.zero_le _, rfl, rfl, rfl, OwV.new (Nat.le_refl _), RowsF.nil _ _, hb0⟩
  case round =>
    obtain ⟨k, g, cap, us, hk, rfl, rfl, hul, hown, hrow, hbr⟩ := hrel
    have HU := Lib.hid hul; clear hul
    by_cases hlt : k < L.length
    · obtain ⟨b, off, rfl, hcell⟩ := hR.resolve_left (fun e => by rw [e] at hlt; simp at hlt)
      obtain ⟨a2, c2, s, hs, hc, hE, ht⟩ := Re.get hcell hlt
      have hc := kept hbr hc
      have hE := hE.below hbr
      have hsl := h1 s hs
      have HT := Lib.hid ht; clear ht
      go_wp2_with fail
      refine (clone_c hE.sl hsl.1 hsl.2).mono ?_; rintro e w1 ⟨v, rfl, hv, hb1⟩
      have hown := hown.below hb1; have hrow := hrow.below hb1
      obtain ⟨g1, cap1, rfl, _⟩ := id hv
      have hv2 := hv.more hbr.size
      have hbw := bwC hbr hb1
      go_wp2_with (at_builtin; refine appr_one rfl _ _ rfl w1 w.heap.size w1.heap.size rfl (.slice (some ⟨g, 0, none⟩) us.length cap) us rfl (.slice (some ⟨g1, 0, none⟩) s.length cap1) 1 rfl rfl hown hbw.size (by have := HU.out; omega) ?_; intro g' cap' w' ho' hb' hg' hge)
      go_roundw
      case rel => exact ⟨k + 1, g', cap', us ++ [.slice (some ⟨g1, 0, none⟩) s.length cap1], by omega, by go_num, by simp, by simp [HU.out], by simpa using ho', by rw [HT.out]; exact (hrow.app hown hg').snoc (hv2.app hown hg'), hbw.trans hb'⟩
      case measure => simp [intOf]; omega
    · obtain rfl : k = L.length := by omega
      rw [take_all (Nat.le_refl _)] at hrow
      go_wp2_with fail
      go_ret
      rw [HU.out] at hown ⊢
      exact ⟨_, _, us, rfl, hown, hrow, hbr⟩
/-! ### The columns -/
theorem colsB_len {p : Int} {L : List (List Int)} : ∀ k, (colsB p k ([], L)).1.length + (colsB p k ([], L)).2.length = L.length
  | 0 => by simp [colsB]
  | k + 1 => by
    have ih := colsB_len (p := p) (L := L) k
    show (stepB p k (colsB p k ([], L))).1.length + (stepB p k (colsB p k ([], L))).2.length = _
    unfold stepB
    split
    · exact ih
    · next h =>
      have hlt := Nat.lt_of_le_of_ne fnd_le h
      rw [List.length_append, List.length_map, List.length_map, oth_len hlt, List.length_singleton]
      omega
theorem colsB_stay {p : Int} {s : List (List Int) × List (List Int)} {k : Nat} (h : (colsB p k s).2 = []) : ∀ j, colsB p (k + j) s = colsB p k s
  | 0 => rfl
  | j + 1 => by
    show stepB p (k + j) (colsB p (k + j) s) = _
    rw [colsB_stay h j]
    unfold stepB
    rw [if_pos (by rw [h]; rfl)]
def elimT (p : Int) (k d : Nat) (w : List Int) (r : Nat) (X : List (List Int)) : List (List Int) := X.mapIdx fun j x => if j < r ∧ j ≠ d then red p k w x else x
section
variable {p : Int} {k d r j : Nat} {w : List Int} {X A B : List (List Int)}
theorem elimT_len : (elimT p k d w r X).length = X.length := by simp [elimT]
theorem elimT_0 : elimT p k d w 0 X = X := by
  unfold elimT
  refine List.ext_getElem (by simp) fun i h1 h2 => ?_
  simp
theorem elimT_at (h : j < X.length) : (elimT p k d w r X).getD j [] = if j < r ∧ j ≠ d then red p k w (X.getD j []) else X.getD j [] := by
  unfold elimT
  simp [List.getD_eq_getElem?_getD, h]
theorem elimT_skip (h : r = d) : elimT p k d w (r + 1) X = elimT p k d w r X := by
  unfold elimT
  refine List.ext_getElem (by simp) fun i h1 h2 => ?_
  simp only [List.getElem_mapIdx]
  by_cases e : i < r ∧ i ≠ d
  · rw [if_pos e, if_pos ⟨by omega, e.2⟩]
  · rw [if_neg e, if_neg (fun h => e ⟨by omega, h.2⟩)]
theorem elimT_set (hr : r < X.length) (h : r ≠ d) : (elimT p k d w r X).set r (red p k w (X.getD r [])) = elimT p k d w (r + 1) X := by
  unfold elimT
  refine List.ext_getElem (by simp) fun i h1 h2 => ?_
  rw [List.getElem_set]
  simp only [List.getElem_mapIdx]
  have hi : i < X.length := by simpa using h2
  by_cases e : r = i
  · subst e
    rw [if_pos rfl, if_pos ⟨by omega, h⟩]
    simp [List.getD_eq_getElem?_getD, hr]
  · rw [if_neg e]
    by_cases e2 : i < r ∧ i ≠ d
    · rw [if_pos e2, if_pos ⟨by omega, e2.2⟩]
    · rw [if_neg e2, if_neg (fun h => e2 ⟨by omega, h.2⟩)]
theorem elimT_same {m : Nat} (hp : 1 ≤ p) (hw : Ev p m w) (hX : Rw p m X) (hr : r < X.length) (h : (X.getD r []).getD k 0 = 0) : elimT p k d w (r + 1) X = elimT p k d w r X := by
  by_cases e : r = d
  · exact elimT_skip e
  · rw [← elimT_set hr e, red_0 hp (hX _ (get_mem hr)) hw h]
    refine List.ext_getElem (by simp) fun i h1 h2 => ?_
    rw [List.getElem_set]
    split
    · next e2 =>
      subst e2
      have := elimT_at (p := p) (k := k) (d := d) (w := w) (r := r) hr
      rw [if_neg (by omega)] at this
      rw [← this]
      simp [List.getD_eq_getElem?_getD, elimT_len, hr]
    · rfl
theorem elimT_full : elimT p k A.length w (A ++ w :: B).length (A ++ w :: B) = A.map (red p k w) ++ [w] ++ B.map (red p k w) := by
  unfold elimT
  refine List.ext_getElem (by simp) fun i h1 h2 => ?_
  simp only [List.getElem_mapIdx]
  have hi : i < (A ++ w :: B).length := by simpa using h1
  rcases Nat.lt_trichotomy i A.length with e | e | e
  · rw [if_pos ⟨hi, by omega⟩, List.getElem_append_left e, List.getElem_append_left (by simp; omega), List.getElem_append_left (by simp; omega)]; simp
  · subst e
    rw [if_neg (fun h => h.2 rfl), List.getElem_append_right (Nat.le_refl _), List.getElem_append_left (by simp), List.getElem_append_right (by simp)]; simp
  · rw [if_pos ⟨hi, by omega⟩, List.getElem_append_right (by omega), List.getElem_append_right (by simp; omega)]
    obtain ⟨t, ht⟩ : ∃ t, i = A.length + 1 + t := ⟨i - A.length - 1, by omega⟩
    subst ht
    simp [show A.length + 1 + t - A.length = t + 1 by omega]
theorem elimT_ev {m : Nat} (hp : 1 ≤ p) (hw : Ev p m w) (hX : Rw p m X) : Rw p m (elimT p k d w r X) := fun x hx => by
  unfold elimT at hx
  obtain ⟨i, hi, rfl⟩ := List.mem_iff_getElem.1 hx
  simp only [List.getElem_mapIdx]
  have hi2 : i < X.length := by simpa using hi
  split
  · exact red_ev hp (hX _ (List.getElem_mem hi2)) hw
  · exact hX _ (List.getElem_mem hi2)
theorem swap_set {i : Nat} (h : i < B.length) : (((A ++ B).set A.length (B.getD i [])).set (A.length + i) (B.getD 0 [])).set A.length w = A ++ w :: othR i B := by
  match B with
  | b :: bs =>
    have e1 : (A ++ b :: bs).set A.length ((b :: bs).getD i []) = A ++ ((b :: bs).getD i []) :: bs := by rw [List.set_append_right _ _ (Nat.le_refl _)]; simp
    have e2 : (b :: bs).getD 0 [] = b := rfl
    rw [e1, e2, List.set_append_right _ _ (by omega), List.set_append_right _ _ (Nat.le_refl _), Nat.add_sub_cancel_left, Nat.sub_self]
    match i with
    | 0 => simp [othR]
    | j + 1 => simp [othR]
end
/-! ### The program's reduced rows -/
section
variable {p : Int} {m k : Nat} {A B L : List (List Int)}
theorem fnd_low {j : Nat} (h : j < fndR k B) : (B.getD j []).getD k 0 = 0 := by
  have hl : j < B.length := Nat.lt_of_lt_of_le h fnd_le
  have := List.not_of_lt_findIdx h
  have e : B.getD j [] = B[j] := by rw [List.getD_eq_getElem?_getD, List.getElem?_eq_getElem hl]; rfl
  rw [e]
  simpa using this
theorem app_get {j : Nat} : (A ++ B).getD (A.length + j) [] = B.getD j [] := by
  rw [List.getD_eq_getElem?_getD, List.getElem?_append_right (by omega), Nat.add_sub_cancel_left, List.getD_eq_getElem?_getD]
theorem colsB_rw (hp : IsP p) (hL : Rw p m L) {k : Nat} (hk : k ≤ m) : Rw p m ((colsB p k ([], L)).1 ++ (colsB p k ([], L)).2) :=
  have h := BI.cols hp hL k hk
  h.rref.rw_.app h.rwb
end
end Go.Proofs.Ytfcdhdkhfdhjfaa
