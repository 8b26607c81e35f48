/- Texts joined for a claim: LinF, LinG, FlowP. -/
import Derived.Test.YtilgbekffbphgaaGreatJbd
import Derived.Test.YtilgbekffbphgaaGreatFlow
namespace Go.Proofs.YtilgbekffbphgaaGreat
open Go.RowKit
section
variable {w w' : World} {B g n cap : Nat} {v u : Value} {us : List Value} {xss : List (List Int)} {xs : List Int}
theorem OwV.row (h : OwV w B (.slice (some ⟨g, 0, none⟩) n cap) us) : ∃ cur, w.heap[g]? = some (.cells cur 24 (0, 0)) /\ cur.size = cap /\ cur.toList.take us.length = us /\ us.length = n /\ n <= cap /\ cap <= maxLen /\ B <= g := by
 rcases h.2 with h2 | ⟨g', cap', cur, hv, hg', hh, h3, h4, h5, h6⟩
 ·cases h2.1
 ·cases hv; exact ⟨cur, hh, by simpa using h5, by simpa using h6, rfl, by omega, h4, hg'⟩
theorem OwV.mk_ {cur : Array Value} (hB : B <= g) (hg : w.heap[g]? = some (.cells cur 24 (0, 0))) (hc : cur.size = cap) (ht : cur.toList.take us.length = us) (hn : us.length <= cap) (hm : cap <= maxLen) : OwV w B (.slice (some ⟨g, 0, none⟩) us.length cap) us :=
 ⟨by simp, .inr ⟨g, cap, cur, rfl, hB, hg, hn, hm, by simpa using hc, by simpa using ht⟩⟩
theorem OwV.cell (h : OwV w B (.slice (some ⟨g, 0, none⟩) n cap) us) {j : Nat} (hj : j < us.length) : w.cell? ⟨g, j, none⟩ = some us[j] := by
 have := World.ownsRow.cells h (g := g) rfl j (us[j]'(by omega)) (by simp)
 rwa [addz] at this
theorem OwV.free (h : OwV w B (.slice (some ⟨g, 0, none⟩) n cap) us) (i : Nat) : w.frozen? ⟨g, i, none⟩ = false := by
 obtain ⟨cur, hh, _⟩ := h.row
 simp [World.frozen?, hh]
theorem OwV.set (h : OwV w B (.slice (some ⟨g, 0, none⟩) n cap) us) (i : Nat) (u : Value) : OwV (w.setCell ⟨g, i, none⟩ u) B (.slice (some ⟨g, 0, none⟩) n cap) (us.set i u) := by
 obtain ⟨cur, hh, hc, ht, hl, hn, hm, hB⟩ := h.row
 have h2 := OwV.mk_ (w := w.setCell ⟨g, i, none⟩ u) (us := us.set i u) (cur := cur.setIfInBounds i u) hB (by simp [World.setCell, Array.getElem?_modify, hh]) (by simpa using hc) (by
  rw [List.length_set, Array.toList_setIfInBounds, List.take_set, ht]) (by rw [List.length_set]; omega) hm
 rwa [List.length_set, hl] at h2
theorem set_grown (w : World) (g i : Nat) (u : Value) : w.grownBy (w.setCell ⟨g, i, none⟩ u) (some g) :=
 ⟨rfl, rfl, rfl, by simp [World.setCell], fun k _ hne => Below.heap_setCell _ _ _ _ (fun e => hne (by rw [e])) ⟩
theorem RowsF.setg (h : RowsF w B us xss) {us2 : List Value} (ho : OwV w B (.slice (some ⟨g, 0, none⟩) n cap) us2) (i : Nat) (u : Value) : RowsF (w.setCell ⟨g, i, none⟩ u) B us xss := h.app ho (set_grown w g i u)
theorem FrI.setg (h : FrI w B v xs) {us2 : List Value} (ho : OwV w B (.slice (some ⟨g, 0, none⟩) n cap) us2) (i : Nat) (u : Value) : FrI (w.setCell ⟨g, i, none⟩ u) B v xs := h.app ho (set_grown w g i u)
theorem RowsF.set (h : RowsF w B us xss) (hu : FrI w B u xs) (i : Nat) : RowsF w B (us.set i u) (xss.set i xs) := by
 refine ⟨by simp [h.1], fun j a b => ?_⟩
 rw [List.getElem_set, List.getElem_set]
 split
 ·exact hu
 ·exact h.2 j (by simpa using a) (by simpa using b)
theorem row_at {p : Int} {m j : Nat} (ho : OwV w B (.slice (some ⟨g, 0, none⟩) n cap) us) (hr : RowsF w B us xss) (hw : Rw p m xss) (hj : j < xss.length) :
  ∃ gj cj, us.getD j undef = .slice (some ⟨gj, 0, none⟩) m cj /\ w.cell? ⟨g, j, none⟩ = some (.slice (some ⟨gj, 0, none⟩) m cj) /\ FrI w B (.slice (some ⟨gj, 0, none⟩) m cj) (xss.getD j []) /\
   (∀ k < m, w.cell? ⟨gj, k, none⟩ = some (.int .i64 ((xss.getD j []).getD k 0))) := by
 have hl := hr.1
 have hf := hr.2 j (by omega) hj
 have hx : xss.getD j [] = xss[j] := by simp [List.getD_eq_getElem?_getD, hj]
 have hlen := (hw _ (List.getElem_mem hj)).1
 have hcell := ho.cell (j := j) (by omega)
 have hu : us.getD j undef = us[j]'(by omega) := by simp [List.getD_eq_getElem?_getD, show j < us.length by omega]
 obtain ⟨gj, cj, e, hO⟩ := hf
 rw [hlen] at e hO
 refine ⟨gj, cj, by rw [hu, e], by rw [hcell, e], ?_, fun k hk => ?_⟩
 ·rw [hx]; exact hO.fr
 ·rw [hx]; exact hO.hold hk
end
theorem clonerows_c {rows : Value} {L : List (List Int)} {w : World} (hr : Re w rows L) (h1 : ∀ r ∈ L, 0 < r.length /\ r.length <= 1000000) (hn : L.length <= 1000000) :
  Calls Tryz.prog 98 #[rows] w fun e w' => ∃ g cap us, e = .returned (.slice (some ⟨g, 0, none⟩) L.length cap) /\ OwV w' w.heap.size (.slice (some ⟨g, 0, none⟩) L.length cap) us /\ RowsF w' w.heap.size us L /\ Below w.heap.size w w' := by
 obtain ⟨ar, cr, rfl, hr1, hr2, hR⟩ := hr
 go_enter Tryz.func98, Tryz.ntmps98
 go_wp2_with fail
 have hb0 : Below w.heap.size w (w.alloc (.cells #[] 24)) := bwT
 go_loopw [3, 9] (fun o i wr => ∃ (k g cap : Nat) (us : List Value), k <= L.length /\ i = .int .i64 k /\ o = .slice (some ⟨g, 0, none⟩) us.length cap /\ us.length = k /\ OwV wr w.heap.size (.slice (some ⟨g, 0, none⟩) us.length cap) us /\ RowsF wr w.heap.size us (L.take k) /\ Below w.heap.size w wr)
  (fun _ i _ => L.length - (intOf i).toNat)
 case atStart => exact ⟨0, w.heap.size, 0, [], Nat.zero_le _, rfl, rfl, rfl, OwV.new (Nat.le_refl _), RowsF.nil _ _, hb0⟩
 case round =>
  obtain ⟨k, g, cap, us, hk, rfl, rfl, hul, hown, hrow, hbr⟩ := hrel
  have HU := Lib.hid hul; clear hul
  by_cases hlt : k < L.length
  ·obtain ⟨b, off, rfl, hcell⟩ := hR.resolve_left (fun e => by rw [e] at hlt; simp at hlt)
   obtain ⟨a2, c2, s, hs, hc, hE, ht⟩ := Re.get hcell hlt
   have hc := kept hbr hc
   have hE := hE.below hbr
   have hsl := h1 s hs
   have HT := Lib.hid ht; clear ht
   go_wp2_with fail
   refine (clone_c hE.sl hsl.1 hsl.2).mono ?_; rintro e w1 ⟨v, rfl, hv, hb1⟩
   have hown := hown.below hb1; have hrow := hrow.below hb1
   obtain ⟨g1, cap1, rfl, _⟩ := id hv
   have hv2 := hv.more hbr.size
   have hbw := bwC hbr hb1
   go_wp2_with (at_builtin; refine appr_one rfl _ _ rfl w1 w.heap.size w1.heap.size rfl (.slice (some ⟨g, 0, none⟩) us.length cap) us rfl (.slice (some ⟨g1, 0, none⟩) s.length cap1) 1 rfl rfl hown hbw.size (by have := HU.out; omega) ?_; intro g' cap' w' ho' hb' hg' hge)
   go_roundw
   case rel => exact ⟨k + 1, g', cap', us ++ [.slice (some ⟨g1, 0, none⟩) s.length cap1], by omega, by go_num, by simp, by simp [HU.out], by simpa using ho', by rw [HT.out]; exact (hrow.app hown hg').snoc (hv2.app hown hg'), hbw.trans hb'⟩
   case measure => simp [intOf]; omega
  ·obtain rfl : k = L.length := by omega
   rw [take_all (Nat.le_refl _)] at hrow
   go_wp2_with fail
   go_ret
   rw [HU.out] at hown ⊢
   exact ⟨_, _, us, rfl, hown, hrow, hbr⟩
/-! ### The columns -/
section
variable {p : Int} {k d r j : Nat} {w : List Int} {X A B : List (List Int)}
theorem swap_set {i : Nat} (h : i < B.length) : (((A ++ B).set A.length (B.getD i [])).set (A.length + i) (B.getD 0 [])).set A.length w = A ++ w :: othR i B := by
 match B with
 | b :: bs =>
  have e1 : (A ++ b :: bs).set A.length ((b :: bs).getD i []) = A ++ ((b :: bs).getD i []) :: bs := by rw [List.set_append_right _ _ (Nat.le_refl _)]; simp
  have e2 : (b :: bs).getD 0 [] = b := rfl
  rw [e1, e2, List.set_append_right _ _ (by omega), List.set_append_right _ _ (Nat.le_refl _), Nat.add_sub_cancel_left, Nat.sub_self]
  match i with
  | 0 => simp [othR]
  | j + 1 => simp [othR]
end
/-! ### The program's reduced rows -/
section
variable {p : Int} {m k : Nat} {A B L : List (List Int)}
theorem fnd_low {j : Nat} (h : j < fndR k B) : (B.getD j []).getD k 0 = 0 := by
 have hl : j < B.length := Nat.lt_of_lt_of_le h fnd_le
 have := List.not_of_lt_findIdx h
 have e : B.getD j [] = B[j] := by rw [List.getD_eq_getElem?_getD, List.getElem?_eq_getElem hl]; rfl
 rw [e]
 simpa using this
theorem app_get {j : Nat} : (A ++ B).getD (A.length + j) [] = B.getD j [] := by
 rw [List.getD_eq_getElem?_getD, List.getElem?_append_right (by omega), Nat.add_sub_cancel_left, List.getD_eq_getElem?_getD]
end
theorem swap_get {A B : List (List Int)} {f : Nat} (h : f < B.length) : (((A ++ B).set A.length (B.getD f [])).set (A.length + f) (B.getD 0 [])).getD A.length [] = B.getD f [] := by
 match B with
 | b :: bs =>
  rw [List.set_append_right _ _ (Nat.le_refl _), Nat.sub_self, List.set_append_right _ _ (by omega), Nat.add_sub_cancel_left]
  have := app_get (A := A) (B := ((b :: bs).set 0 ((b :: bs).getD f [])).set f ((b :: bs).getD 0 [])) (j := 0)
  rw [Nat.add_zero] at this
  rw [this]
  match f with
  | 0 => simp
  | j + 1 => simp
section
variable {P : Program} {ops : Array Oper}
def edgeB (ops : Array Oper) (j k : Nat) : Bool := match ops[j]? with
 | none => false
 | some o => o.after.any fun e => Region.binds .any e && e.on == k
def pathB (ops : Array Oper) : Nat -> List Nat -> Nat -> Bool
 | j, [], i => edgeB ops j i
 | j, k :: r, i => edgeB ops j k && pathB ops k r i
theorem pathB_ok {i : Nat} : ∀ {r : List Nat} {F j : Nat}, pathB ops j r i = true -> r.length < F -> waitsIn .any ops F j i = true
 | [], 0, j, h, hF => by simp at hF
 | [], F + 1, j, h, hF => by
  unfold pathB edgeB at h
  unfold waitsIn
  split at h
  ·cases h
  ·rename_i o ho
   rw [ho]
   simp only [Array.any_eq_true] at h ⊢
   obtain ⟨m, hm, h2⟩ := h
   refine ⟨m, hm, ?_⟩
   simp only [Bool.and_eq_true] at h2 ⊢
   exact ⟨h2.1, by rw [h2.2]; rfl⟩
 | k :: r, 0, j, h, hF => by simp at hF
 | k :: r, F + 1, j, h, hF => by
  unfold pathB at h
  simp only [Bool.and_eq_true] at h
  obtain ⟨h1, h2⟩ := h
  have ih := pathB_ok (F := F) h2 (by simp at hF; omega)
  unfold edgeB at h1
  unfold waitsIn
  split at h1
  ·cases h1
  ·rename_i o ho
   rw [ho]
   simp only [Array.any_eq_true] at h1 ⊢
   obtain ⟨m, hm, h3⟩ := h1
   refine ⟨m, hm, ?_⟩
   simp only [Bool.and_eq_true, beq_iff_eq] at h3 ⊢
   refine ⟨h3.1, ?_⟩
   rw [h3.2, ih]; simp
def waitsP (ops : Array Oper) (F : Nat) (PA : List (Nat × Nat × List Nat)) (i : Nat) (L : List (Nat × Nat)) (ok : Nat -> Bool) : Bool :=
 L.all fun l => ok l.2 || PA.any fun q => q.1 == i && q.2.1 == l.1 && decide (q.2.2.length < F) && pathB ops i q.2.2 l.1
theorem waitsP_ok {F : Nat} {PA : List (Nat × Nat × List Nat)} {i : Nat} {L : List (Nat × Nat)} {ok : Nat -> Bool} (h : waitsP ops F PA i L ok = true) : waitsB ops F i L ok = true := by
 unfold waitsP at h
 unfold waitsB
 rw [List.all_eq_true] at h ⊢
 intro l hl
 have h1 := h l hl
 simp only [Bool.or_eq_true] at h1 ⊢
 rcases h1 with h1 | h1
 ·exact .inl h1
 ·right
  rw [List.any_eq_true] at h1
  obtain ⟨q, _, h2⟩ := h1
  simp only [Bool.and_eq_true, decide_eq_true_eq] at h2
  exact pathB_ok h2.2 h2.1.2
def actOkP (ops : Array Oper) (F : Nat) (PA : List (Nat × Nat × List Nat)) (i m : Nat) (L : List (Nat × Nat)) : Bool := match m with
 | 3 => waitsP ops F PA i L (fun s => s != 0)
 | 5 => waitsP ops F PA i L (fun s => s == 2)
 | _ => waitsP ops F PA i L (fun _ => false)
theorem actOkP_ok {F : Nat} {PA : List (Nat × Nat × List Nat)} {i m : Nat} {L : List (Nat × Nat)} (h : actOkP ops F PA i m L = true) : actOk ops F i m L = true := by
 unfold actOkP at h
 unfold actOk
 split at h
 ·exact waitsP_ok h
 ·exact waitsP_ok h
 ·rename_i h3 h5
  split
  ·exact absurd rfl (h3 ·)
  ·exact absurd rfl (h5 ·)
  ·exact waitsP_ok h
def flowOkP (P : Program) (ops : Array Oper) (F : Nat) (PA : List (Nat × Nat × List Nat)) (act : Nat -> Bool) : List (Nat × Nat) -> Array Bool -> List (Nat × Nat) -> Bool -> Bool
 | [], listed, _, _ => (Region.ready .any ops listed).isEmpty
 | (i, m) :: rest, listed, L, st => match ops[i]? with
  | none => false
  | some o => (Region.ready .any ops listed).contains i && (match m with
   | 0 => opKind P o == 0 && Region.free .any ops listed i && !act i && flowOkP P ops F PA act rest (listed.setIfInBounds i true) L st
   | 1 => opKind P o == 1 && Region.free .any ops listed i && !act i && flowOkP P ops F PA act rest (listed.setIfInBounds i true) ((i, if st then 1 else 2) :: L) st
   | _ => act i && Region.ready .any ops listed == [i] && actOkP ops F PA i m L && flowOkP P ops F PA act rest (listed.setIfInBounds i true) (L.map fun l => (l.1, actNext m l.2)) true)
theorem flowOkP_ok {F : Nat} {PA : List (Nat × Nat × List Nat)} {act : Nat -> Bool} : ∀ {c : List (Nat × Nat)} {listed : Array Bool} {L : List (Nat × Nat)} {st : Bool}, flowOkP P ops F PA act c listed L st = true -> flowOk P ops F act c listed L st = true
 | [], listed, L, st, h => h
 | (i, m) :: rest, listed, L, st, h => by
  unfold flowOkP at h
  unfold flowOk
  split at h
  ·cases h
  ·rename_i o ho
   rw [ho]
   simp only [Bool.and_eq_true] at h ⊢
   refine ⟨h.1, ?_⟩
   have h2 := h.2
   split at h2
   ·simp only [Bool.and_eq_true] at h2 ⊢
    exact ⟨h2.1, flowOkP_ok h2.2⟩
   ·simp only [Bool.and_eq_true] at h2 ⊢
    exact ⟨h2.1, flowOkP_ok h2.2⟩
   ·rename_i h3 h5
    split
    ·exact absurd rfl (h3 ·)
    ·exact absurd rfl (h5 ·)
    ·simp only [Bool.and_eq_true] at h2 ⊢
     exact ⟨⟨h2.1.1, actOkP_ok h2.1.2⟩, flowOkP_ok h2.2⟩
def regionOkP (P : Program) (ops : Array Oper) (PA : List (Nat × Nat × List Nat)) (segs : List (Bool × List (Nat × Nat))) : Bool :=
 P.follows .mixedOrders && Region.noSelect ops && (flat segs).length == ops.size && kindsOk P ops (flat segs) && stableB ops (segL ops (flat segs)) && segsOk segs &&
  flowOkP P ops ops.size PA (fun j => (flat segs).any fun p => p.1 == j && decide (2 <= p.2)) (flat segs) (Array.replicate ops.size false) [] false
theorem region_flowP (PA : List (Nat × Nat × List Nat)) (segs : List (Bool × List (Nat × Nat))) {id : Nat} {l : List Oper} {Q : Exit -> Act -> World -> Prop} {a : Act} {w : World} (hok : regionOkP P l.toArray PA segs = true)
  (h : wpSegs P l.toArray (fun a' w' => shapesB l.toArray (flat segs) a' = true /\ Q .normal a' w') w.drew segs a w.drew) : (Code.region id l.toArray true).wp P Q a w := by
 refine region_flow segs ?_ h
 unfold regionOkP at hok
 unfold regionOk
 simp only [Bool.and_eq_true] at hok ⊢
 exact ⟨hok.1, flowOkP_ok hok.2⟩
end
end Go.Proofs.YtilgbekffbphgaaGreat
