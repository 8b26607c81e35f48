/-
  Rows that are changed in place; copies of rows; reduced rows by the program.
-/
import Derived.Test.YtmplpoccalccoaaLinD
namespace Go.Proofs.Ytmplpoccalccoaa
open Go.RowKit

section
variable {w w' : World} {B g n cap : Nat} {v u : Value} {us : List Value} {xss : List (List Int)} {xs : List Int}
theorem OwV.row (h : OwV w B (.slice (some ⟨g, 0, none⟩) n cap) us) : ∃ cur, w.heap[g]? = some (.cells cur 22 (0, 0)) ∧ cur.size = cap ∧ cur.toList.take us.length = us ∧ us.length = n ∧ n ≤ cap ∧ cap ≤ maxLen ∧ B ≤ g := by
  rcases h.2 with h2 | ⟨g', cap', cur, hv, hg', hh, h3, h4, h5, h6⟩
  · cases h2.1
  · cases hv; exact ⟨cur, hh, by simpa using h5, by simpa using h6, rfl, by omega, h4, hg'⟩
theorem OwV.form (h : OwV w B (.slice (some ⟨g, 0, none⟩) n cap) us) : us.length = n := by
  obtain ⟨_, _, _, _, h, _⟩ := h.row; exact h
theorem OwV.mk_ {cur : Array Value} (hB : B ≤ g) (hg : w.heap[g]? = some (.cells cur 22 (0, 0))) (hc : cur.size = cap) (ht : cur.toList.take us.length = us) (hn : us.length ≤ cap) (hm : cap ≤ maxLen) : OwV w B (.slice (some ⟨g, 0, none⟩) us.length cap) us :=
  ⟨by simp, .inr ⟨g, cap, cur, rfl, hB, hg, hn, hm, by simpa using hc, by simpa using ht⟩⟩
theorem OwV.cell (h : OwV w B (.slice (some ⟨g, 0, none⟩) n cap) us) {j : Nat} (hj : j < us.length) : w.cell? ⟨g, j, none⟩ = some us[j] := by
  have := World.ownsRow.cells h (g := g) rfl j (us[j]'(by omega)) (by simp)
  rwa [addz] at this
theorem OwV.free (h : OwV w B (.slice (some ⟨g, 0, none⟩) n cap) us) (i : Nat) : w.frozen? ⟨g, i, none⟩ = false := by
  obtain ⟨cur, hh, _⟩ := h.row
  simp [World.frozen?, hh]
theorem OwV.set (h : OwV w B (.slice (some ⟨g, 0, none⟩) n cap) us) (i : Nat) (u : Value) : OwV (w.setCell ⟨g, i, none⟩ u) B (.slice (some ⟨g, 0, none⟩) n cap) (us.set i u) := by
  obtain ⟨cur, hh, hc, ht, hl, hn, hm, hB⟩ := h.row
  have h2 := OwV.mk_ (w := w.setCell ⟨g, i, none⟩ u) (us := us.set i u) (cur := cur.setIfInBounds i u) hB (by simp [World.setCell, Array.getElem?_modify, hh]) (by simpa using hc) (by
    rw [List.length_set, Array.toList_setIfInBounds, List.take_set, ht]) (by rw [List.length_set]; omega) hm
  rwa [List.length_set, hl] at h2
theorem set_grown (w : World) (g i : Nat) (u : Value) : w.grownBy (w.setCell ⟨g, i, none⟩ u) (some g) :=
  ⟨rfl, rfl, rfl, by simp [World.setCell], fun k _ hne => Below.heap_setCell _ _ _ _ (fun e => hne (by rw [e])) ⟩
theorem RowsF.setg (h : RowsF w B us xss) {us2 : List Value} (ho : OwV w B (.slice (some ⟨g, 0, none⟩) n cap) us2) (i : Nat) (u : Value) : RowsF (w.setCell ⟨g, i, none⟩ u) B us xss := h.app ho (set_grown w g i u)
theorem FrI.setg (h : FrI w B v xs) {us2 : List Value} (ho : OwV w B (.slice (some ⟨g, 0, none⟩) n cap) us2) (i : Nat) (u : Value) : FrI (w.setCell ⟨g, i, none⟩ u) B v xs := h.app ho (set_grown w g i u)
theorem RowsF.set (h : RowsF w B us xss) (hu : FrI w B u xs) (i : Nat) : RowsF w B (us.set i u) (xss.set i xs) := by
  refine ⟨by simp [h.1], fun j a b => ?_⟩
  rw [List.getElem_set, List.getElem_set]
  split
  · exact hu
  · exact h.2 j (by simpa using a) (by simpa using b)
/-- A row by its place. -/
theorem row_at {p : Int} {m j : Nat} (ho : OwV w B (.slice (some ⟨g, 0, none⟩) n cap) us) (hr : RowsF w B us xss) (hw : Rw p m xss) (hj : j < xss.length) :
    ∃ gj cj, us.getD j undef = .slice (some ⟨gj, 0, none⟩) m cj ∧ w.cell? ⟨g, j, none⟩ = some (.slice (some ⟨gj, 0, none⟩) m cj) ∧ FrI w B (.slice (some ⟨gj, 0, none⟩) m cj) (xss.getD j []) ∧
      (∀ k < m, w.cell? ⟨gj, k, none⟩ = some (.int .i64 ((xss.getD j []).getD k 0))) := by
  have hl := hr.1
  have hf := hr.2 j (by omega) hj
  have hx : xss.getD j [] = xss[j] := by simp [List.getD_eq_getElem?_getD, hj]
  have hlen := (hw _ (List.getElem_mem hj)).1
  have hcell := ho.cell (j := j) (by omega)
  have hu : us.getD j undef = us[j]'(by omega) := by simp [List.getD_eq_getElem?_getD, show j < us.length by omega]
  obtain ⟨gj, cj, e, hO⟩ := hf
  rw [hlen] at e hO
  refine ⟨gj, cj, by rw [hu, e], by rw [hcell, e], ?_, fun k hk => ?_⟩
  · rw [hx]; exact hO.fr
  · rw [hx]; exact hO.hold hk
end
theorem clonerows_c {rows : Value} {L : List (List Int)} {w : World} (hr : Re w rows L) (h1 : ∀ r ∈ L, 0 < r.length ∧ r.length ≤ 1000000) (hn : L.length ≤ 1000000) :
    Calls Try.prog 132 #[rows] w fun e w' => ∃ g cap us, e = .returned (.slice (some ⟨g, 0, none⟩) L.length cap) ∧ OwV w' w.heap.size (.slice (some ⟨g, 0, none⟩) L.length cap) us ∧ RowsF w' w.heap.size us L ∧ Below w.heap.size w w' := by
  obtain ⟨ar, cr, rfl, hr1, hr2, hR⟩ := hr
  go_enter Try.func132, Try.ntmps132
  go_wp2_with fail
  have hb0 : Below w.heap.size w (w.alloc (.cells #[] 22)) := (by repeat (first | exact Below.refl _ _ | apply blw_drew | apply blw_alloc | (refine blw_set ?_ (by first | omega | (simp; done) | (simp; omega)) _) | refine below_chain ?_ (by assumption)))
  go_loopw [3, 9] (fun o i wr => ∃ (k g cap : Nat) (us : List Value), k ≤ L.length ∧ i = .int .i64 k ∧ o = .slice (some ⟨g, 0, none⟩) us.length cap ∧ us.length = k ∧ OwV wr w.heap.size (.slice (some ⟨g, 0, none⟩) us.length cap) us ∧ RowsF wr w.heap.size us (L.take k) ∧ Below w.heap.size w wr)
    (fun _ i _ => L.length - (intOf i).toNat)
  case atStart => exact ⟨0, w.heap.size, 0, [], Nat.zero_le _, rfl, rfl, rfl, OwV.new (Nat.le_refl _), RowsF.nil _ _, hb0⟩
  case round =>
    obtain ⟨k, g, cap, us, hk, rfl, rfl, hul, hown, hrow, hbr⟩ := hrel
    have HU := Lib.hid hul; clear hul
    by_cases hlt : k < L.length
    · obtain ⟨b, off, rfl, hcell⟩ := hR.resolve_left (fun e => by rw [e] at hlt; simp at hlt)
      obtain ⟨a2, c2, s, hs, hc, hE, ht⟩ := Re.get hcell hlt
      have hc := kept hbr hc
      have hE := hE.below hbr
      have hsl := h1 s hs
      have HT := Lib.hid ht; clear ht
      go_wp2_with fail
      refine (clone_c hE.sl hsl.1 hsl.2).mono ?_; rintro e w1 ⟨v, rfl, hv, hb1⟩
      have hown := hown.below hb1; have hrow := hrow.below hb1
      obtain ⟨g1, cap1, rfl, _⟩ := id hv
      have hv2 := hv.more hbr.size
      have hbw := below_chain hbr hb1
      go_wp2_with (at_builtin; refine appr_one rfl _ _ rfl w1 w.heap.size w1.heap.size rfl (.slice (some ⟨g, 0, none⟩) us.length cap) us rfl (.slice (some ⟨g1, 0, none⟩) s.length cap1) 1 rfl rfl hown hbw.size (by have := HU.out; omega) ?_; intro g' cap' w' ho' hb' hg' hge)
      go_roundw
      case rel => exact ⟨k + 1, g', cap', us ++ [.slice (some ⟨g1, 0, none⟩) s.length cap1], by omega, by go_num, by simp, by simp [HU.out], by simpa using ho', by rw [HT.out]; exact (hrow.app hown hg').snoc (hv2.app hown hg'), hbw.trans hb'⟩
      case measure => simp [intOf]; omega
    · obtain rfl : k = L.length := by omega
      rw [take_all (Nat.le_refl _)] at hrow
      go_wp2_with fail
      go_ret
      rw [HU.out] at hown ⊢
      exact ⟨_, _, us, rfl, hown, hrow, hbr⟩
/-! ### The columns -/
section
variable {p : Int} {k d r j : Nat} {w : List Int} {X A B : List (List Int)}
/-- Row i and the first one of B exchanged, and w in the first one's place. -/
theorem swap_set {i : Nat} (h : i < B.length) : (((A ++ B).set A.length (B.getD i [])).set (A.length + i) (B.getD 0 [])).set A.length w = A ++ w :: othR i B := by
  match B with
  | b :: bs =>
    have e1 : (A ++ b :: bs).set A.length ((b :: bs).getD i []) = A ++ ((b :: bs).getD i []) :: bs := by rw [List.set_append_right _ _ (Nat.le_refl _)]; simp
    have e2 : (b :: bs).getD 0 [] = b := rfl
    rw [e1, e2, List.set_append_right _ _ (by omega), List.set_append_right _ _ (Nat.le_refl _), Nat.add_sub_cancel_left, Nat.sub_self]
    match i with
    | 0 => simp [othR]
    | j + 1 => simp [othR]
end
/-! ### The program's reduced rows -/
section
variable {p : Int} {m k : Nat} {A B L : List (List Int)}
theorem fnd_low {j : Nat} (h : j < fndR k B) : (B.getD j []).getD k 0 = 0 := by
  have hl : j < B.length := Nat.lt_of_lt_of_le h fnd_le
  have := List.not_of_lt_findIdx h
  have e : B.getD j [] = B[j] := by rw [List.getD_eq_getElem?_getD, List.getElem?_eq_getElem hl]; rfl
  rw [e]
  simpa using this
theorem app_get {j : Nat} : (A ++ B).getD (A.length + j) [] = B.getD j [] := by
  rw [List.getD_eq_getElem?_getD, List.getElem?_append_right (by omega), Nat.add_sub_cancel_left, List.getD_eq_getElem?_getD]
end
end Go.Proofs.Ytmplpoccalccoaa
