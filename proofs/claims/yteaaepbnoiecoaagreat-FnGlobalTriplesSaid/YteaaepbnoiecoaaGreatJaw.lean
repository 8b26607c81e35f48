/- Texts joined for a claim: LinF, LinG, FlowP, TrD, TrE, TgA. -/
import Derived.Test.YteaaepbnoiecoaaGreatJal
import Derived.Test.YteaaepbnoiecoaaGreatFlow
import Derived.Test.YteaaepbnoiecoaaGreatTrB
import Derived.Test.YteaaepbnoiecoaaGreatJak
import Derived.Test.YteaaepbnoiecoaaGreatJah
import Derived.Test.YteaaepbnoiecoaaGreatJaj
import Derived.Test.YteaaepbnoiecoaaGreatJan
namespace Go.Proofs.YteaaepbnoiecoaaGreat
open Go.RowKit
section
variable {w w' : World} {B g n cap : Nat} {v u : Value} {us : List Value} {xss : List (List Int)} {xs : List Int}
theorem OwV.row (h : OwV w B (.slice (some ⟨g, 0, none⟩) n cap) us) : ∃ cur, w.heap[g]? = some (.cells cur 24 (0, 0)) /\ cur.size = cap /\ cur.toList.take us.length = us /\ us.length = n /\ n <= cap /\ cap <= maxLen /\ B <= g := by
 rcases h.2 with h2 | ⟨g', cap', cur, hv, hg', hh, h3, h4, h5, h6⟩
 ·cases h2.1
 ·cases hv; exact ⟨cur, hh, by simpa using h5, by simpa using h6, rfl, by omega, h4, hg'⟩
theorem OwV.formF (h : OwV w B (.slice (some ⟨g, 0, none⟩) n cap) us) : us.length = n := by
 obtain ⟨_, _, _, _, h, _⟩ := h.row; exact h
theorem OwV.mk_ {cur : Array Value} (hB : B <= g) (hg : w.heap[g]? = some (.cells cur 24 (0, 0))) (hc : cur.size = cap) (ht : cur.toList.take us.length = us) (hn : us.length <= cap) (hm : cap <= maxLen) : OwV w B (.slice (some ⟨g, 0, none⟩) us.length cap) us :=
 ⟨by simp, .inr ⟨g, cap, cur, rfl, hB, hg, hn, hm, by simpa using hc, by simpa using ht⟩⟩
theorem OwV.cell (h : OwV w B (.slice (some ⟨g, 0, none⟩) n cap) us) {j : Nat} (hj : j < us.length) : w.cell? ⟨g, j, none⟩ = some us[j] := by
 have := World.ownsRow.cells h (g := g) rfl j (us[j]'(by omega)) (by simp)
 rwa [addz] at this
theorem OwV.free (h : OwV w B (.slice (some ⟨g, 0, none⟩) n cap) us) (i : Nat) : w.frozen? ⟨g, i, none⟩ = false := by
 obtain ⟨cur, hh, _⟩ := h.row
 simp [World.frozen?, hh]
theorem OwV.set (h : OwV w B (.slice (some ⟨g, 0, none⟩) n cap) us) (i : Nat) (u : Value) : OwV (w.setCell ⟨g, i, none⟩ u) B (.slice (some ⟨g, 0, none⟩) n cap) (us.set i u) := by
 obtain ⟨cur, hh, hc, ht, hl, hn, hm, hB⟩ := h.row
 have h2 := OwV.mk_ (w := w.setCell ⟨g, i, none⟩ u) (us := us.set i u) (cur := cur.setIfInBounds i u) hB (by simp [World.setCell, Array.getElem?_modify, hh]) (by simpa using hc) (by
  rw [List.length_set, Array.toList_setIfInBounds, List.take_set, ht]) (by rw [List.length_set]; omega) hm
 rwa [List.length_set, hl] at h2
theorem RowsF.set (h : RowsF w B us xss) (hu : FrI w B u xs) (i : Nat) : RowsF w B (us.set i u) (xss.set i xs) := by
 refine ⟨by simp [h.1], fun j a b => ?_⟩
 rw [List.getElem_set, List.getElem_set]
 split
 ·exact hu
 ·exact h.2 j (by simpa using a) (by simpa using b)
theorem row_at {p : Int} {m j : Nat} (ho : OwV w B (.slice (some ⟨g, 0, none⟩) n cap) us) (hr : RowsF w B us xss) (hw : Rw p m xss) (hj : j < xss.length) :
  ∃ gj cj, us.getD j undef = .slice (some ⟨gj, 0, none⟩) m cj /\ w.cell? ⟨g, j, none⟩ = some (.slice (some ⟨gj, 0, none⟩) m cj) /\ FrI w B (.slice (some ⟨gj, 0, none⟩) m cj) (xss.getD j []) /\
   (∀ k < m, w.cell? ⟨gj, k, none⟩ = some (.int .i64 ((xss.getD j []).getD k 0))) := by
 have hl := hr.1
 have hf := hr.2 j (by omega) hj
 have hx : xss.getD j [] = xss[j] := by simp [List.getD_eq_getElem?_getD, hj]
 have hlen := (hw _ (List.getElem_mem hj)).1
 have hcell := ho.cell (j := j) (by omega)
 have hu : us.getD j undef = us[j]'(by omega) := by simp [List.getD_eq_getElem?_getD, show j < us.length by omega]
 obtain ⟨gj, cj, e, hO⟩ := hf
 rw [hlen] at e hO
 refine ⟨gj, cj, by rw [hu, e], by rw [hcell, e], ?_, fun k hk => ?_⟩
 ·rw [hx]; exact hO.fr
 ·rw [hx]; exact hO.hold hk
end
theorem clonerows_c {rows : Value} {L : List (List Int)} {w : World} (hr : Re w rows L) (h1 : ∀ r ∈ L, 0 < r.length /\ r.length <= 1000000) (hn : L.length <= 1000000) :
  Calls Tryz.prog 50 #[rows] w fun e w' => ∃ g cap us, e = .returned (.slice (some ⟨g, 0, none⟩) L.length cap) /\ OwV w' w.heap.size (.slice (some ⟨g, 0, none⟩) L.length cap) us /\ RowsF w' w.heap.size us L /\ Below w.heap.size w w' := by
 obtain ⟨ar, cr, rfl, hr1, hr2, hR⟩ := hr
 go_enter Tryz.func50, Tryz.ntmps50
 go_wp2_with fail
 have hb0 : Below w.heap.size w (w.alloc (.cells #[] 24)) := bwT
 go_loopw [3, 9] (fun o i wr => ∃ (k g cap : Nat) (us : List Value), k <= L.length /\ i = .int .i64 k /\ o = .slice (some ⟨g, 0, none⟩) us.length cap /\ us.length = k /\ OwV wr w.heap.size (.slice (some ⟨g, 0, none⟩) us.length cap) us /\ RowsF wr w.heap.size us (L.take k) /\ Below w.heap.size w wr)
  (fun _ i _ => L.length - (intOf i).toNat)
 case atStart => exact ⟨0, w.heap.size, 0, [], Nat.zero_le _, rfl, rfl, rfl, OwV.new (Nat.le_refl _), RowsF.nil _ _, hb0⟩
 case round =>
  obtain ⟨k, g, cap, us, hk, rfl, rfl, hul, hown, hrow, hbr⟩ := hrel
  have HU := Lib.hid hul; clear hul
  by_cases hlt : k < L.length
  ·obtain ⟨b, off, rfl, hcell⟩ := hR.resolve_left (fun e => by rw [e] at hlt; simp at hlt)
   obtain ⟨a2, c2, s, hs, hc, hE, ht⟩ := Re.get hcell hlt
   have hc := kept hbr hc
   have hE := hE.below hbr
   have hsl := h1 s hs
   have HT := Lib.hid ht; clear ht
   go_wp2_with fail
   refine (clone_c hE.sl hsl.1 hsl.2).mono ?_; rintro e w1 ⟨v, rfl, hv, hb1⟩
   have hown := hown.below hb1; have hrow := hrow.below hb1
   obtain ⟨g1, cap1, rfl, _⟩ := id hv
   have hv2 := hv.more hbr.size
   have hbw := bwC hbr hb1
   go_wp2_with (at_builtin; refine appr_one rfl _ _ rfl w1 w.heap.size w1.heap.size rfl (.slice (some ⟨g, 0, none⟩) us.length cap) us rfl (.slice (some ⟨g1, 0, none⟩) s.length cap1) 1 rfl rfl hown hbw.size (by have := HU.out; omega) ?_; intro g' cap' w' ho' hb' hg' hge)
   go_roundw
   case rel => exact ⟨k + 1, g', cap', us ++ [.slice (some ⟨g1, 0, none⟩) s.length cap1], by omega, by go_num, by simp, by simp [HU.out], by simpa using ho', by rw [HT.out]; exact (hrow.app hown hg').snoc (hv2.app hown hg'), hbw.trans hb'⟩
   case measure => simp [intOf]; omega
  ·obtain rfl : k = L.length := by omega
   rw [take_all (Nat.le_refl _)] at hrow
   go_wp2_with fail
   go_ret
   rw [HU.out] at hown ⊢
   exact ⟨_, _, us, rfl, hown, hrow, hbr⟩
/-! ### The columns -/
section
variable {p : Int} {k d r j : Nat} {w : List Int} {X A B : List (List Int)}
end
/-! ### The program's reduced rows -/
section
variable {p : Int} {m k : Nat} {A B L : List (List Int)}
end
def ReF (w : World) (B : Nat) (v : Value) (xss : List (List Int)) : Prop :=
 ∃ a c, v = .slice a xss.length c /\ xss.length <= c /\ c <= 9223372036854775807 /\ (xss = [] \/ ∃ g, a = some ⟨g, 0, none⟩ /\ (B <= g /\ g < w.heap.size) /\ ∀ j (h : j < xss.length), ∃ u, w.cell? ⟨g, j, none⟩ = some u /\ FrI w B u xss[j])
theorem ReF.re {w : World} {B : Nat} {v : Value} {xss : List (List Int)} (h : ReF w B v xss) : Re w v xss := by
 obtain ⟨a, c, rfl, h1, h2, h⟩ := h
 refine ⟨a, c, rfl, h1, h2, ?_⟩
 rcases h with h | ⟨g, rfl, hB, h⟩
 ·exact .inl h
 ·exact .inr ⟨g, 0, rfl, fun j hj => by
   obtain ⟨u, hu, hf⟩ := h j hj
   exact ⟨u, by rw [Nat.zero_add]; exact hu, hf.el⟩⟩
theorem ReF.more {w : World} {B B' : Nat} {v : Value} {xss : List (List Int)} (h : ReF w B v xss) (hB : B' <= B) : ReF w B' v xss := by
 obtain ⟨a, c, e, h1, h2, h⟩ := h
 refine ⟨a, c, e, h1, h2, ?_⟩
 rcases h with h | ⟨g, e2, hg, h⟩
 ·exact .inl h
 ·exact .inr ⟨g, e2, ⟨Nat.le_trans hB hg.1, hg.2⟩, fun j hj => by
   obtain ⟨u, hu, hf⟩ := h j hj
   exact ⟨u, hu, hf.more hB⟩⟩
theorem RowsF.part {w : World} {B g n cap : Nat} {us : List Value} {A C : List (List Int)} (hr : RowsF w B us (A ++ C)) (ho : OwV w B (.slice (some ⟨g, 0, none⟩) n cap) us) : ReF w B (.slice (some ⟨g, 0, none⟩) A.length cap) A := by
 obtain ⟨cur, hh, _, _, hl, hn, hm, hB⟩ := ho.row
 have h1 := hr.1
 rw [List.length_append] at h1
 simp only [maxLen] at hm
 refine ⟨_, cap, rfl, by omega, by omega, .inr ⟨g, rfl, ⟨hB, (Array.getElem?_eq_some_iff.1 hh).1⟩, fun j hj => ⟨us[j]'(by omega), ho.cell (by omega), ?_⟩⟩⟩
 have := hr.2 j (by omega) (by rw [List.length_append]; omega)
 rw [List.getElem_append_left hj] at this
 exact this
section
variable {P : Program} {ops : Array Oper}
def edgeB (ops : Array Oper) (j k : Nat) : Bool := match ops[j]? with
 | none => false
 | some o => o.after.any fun e => Region.binds .any e && e.on == k
def pathB (ops : Array Oper) : Nat -> List Nat -> Nat -> Bool
 | j, [], i => edgeB ops j i
 | j, k :: r, i => edgeB ops j k && pathB ops k r i
theorem pathB_ok {i : Nat} : ∀ {r : List Nat} {F j : Nat}, pathB ops j r i = true -> r.length < F -> waitsIn .any ops F j i = true
 | [], 0, j, h, hF => by simp at hF
 | [], F + 1, j, h, hF => by
  unfold pathB edgeB at h
  unfold waitsIn
  split at h
  ·cases h
  ·rename_i o ho
   rw [ho]
   simp only [Array.any_eq_true] at h ⊢
   obtain ⟨m, hm, h2⟩ := h
   refine ⟨m, hm, ?_⟩
   simp only [Bool.and_eq_true] at h2 ⊢
   exact ⟨h2.1, by rw [h2.2]; rfl⟩
 | k :: r, 0, j, h, hF => by simp at hF
 | k :: r, F + 1, j, h, hF => by
  unfold pathB at h
  simp only [Bool.and_eq_true] at h
  obtain ⟨h1, h2⟩ := h
  have ih := pathB_ok (F := F) h2 (by simp at hF; omega)
  unfold edgeB at h1
  unfold waitsIn
  split at h1
  ·cases h1
  ·rename_i o ho
   rw [ho]
   simp only [Array.any_eq_true] at h1 ⊢
   obtain ⟨m, hm, h3⟩ := h1
   refine ⟨m, hm, ?_⟩
   simp only [Bool.and_eq_true, beq_iff_eq] at h3 ⊢
   refine ⟨h3.1, ?_⟩
   rw [h3.2, ih]; simp
def waitsP (ops : Array Oper) (F : Nat) (PA : List (Nat × Nat × List Nat)) (i : Nat) (L : List (Nat × Nat)) (ok : Nat -> Bool) : Bool :=
 L.all fun l => ok l.2 || PA.any fun q => q.1 == i && q.2.1 == l.1 && decide (q.2.2.length < F) && pathB ops i q.2.2 l.1
theorem waitsP_ok {F : Nat} {PA : List (Nat × Nat × List Nat)} {i : Nat} {L : List (Nat × Nat)} {ok : Nat -> Bool} (h : waitsP ops F PA i L ok = true) : waitsB ops F i L ok = true := by
 unfold waitsP at h
 unfold waitsB
 rw [List.all_eq_true] at h ⊢
 intro l hl
 have h1 := h l hl
 simp only [Bool.or_eq_true] at h1 ⊢
 rcases h1 with h1 | h1
 ·exact .inl h1
 ·right
  rw [List.any_eq_true] at h1
  obtain ⟨q, _, h2⟩ := h1
  simp only [Bool.and_eq_true, decide_eq_true_eq] at h2
  exact pathB_ok h2.2 h2.1.2
def actOkP (ops : Array Oper) (F : Nat) (PA : List (Nat × Nat × List Nat)) (i m : Nat) (L : List (Nat × Nat)) : Bool := match m with
 | 3 => waitsP ops F PA i L (fun s => s != 0)
 | 5 => waitsP ops F PA i L (fun s => s == 2)
 | _ => waitsP ops F PA i L (fun _ => false)
theorem actOkP_ok {F : Nat} {PA : List (Nat × Nat × List Nat)} {i m : Nat} {L : List (Nat × Nat)} (h : actOkP ops F PA i m L = true) : actOk ops F i m L = true := by
 unfold actOkP at h
 unfold actOk
 split at h
 ·exact waitsP_ok h
 ·exact waitsP_ok h
 ·rename_i h3 h5
  split
  ·exact absurd rfl (h3 ·)
  ·exact absurd rfl (h5 ·)
  ·exact waitsP_ok h
def flowOkP (P : Program) (ops : Array Oper) (F : Nat) (PA : List (Nat × Nat × List Nat)) (act : Nat -> Bool) : List (Nat × Nat) -> Array Bool -> List (Nat × Nat) -> Bool -> Bool
 | [], listed, _, _ => (Region.ready .any ops listed).isEmpty
 | (i, m) :: rest, listed, L, st => match ops[i]? with
  | none => false
  | some o => (Region.ready .any ops listed).contains i && (match m with
   | 0 => opKind P o == 0 && Region.free .any ops listed i && !act i && flowOkP P ops F PA act rest (listed.setIfInBounds i true) L st
   | 1 => opKind P o == 1 && Region.free .any ops listed i && !act i && flowOkP P ops F PA act rest (listed.setIfInBounds i true) ((i, if st then 1 else 2) :: L) st
   | _ => act i && Region.ready .any ops listed == [i] && actOkP ops F PA i m L && flowOkP P ops F PA act rest (listed.setIfInBounds i true) (L.map fun l => (l.1, actNext m l.2)) true)
theorem flowOkP_ok {F : Nat} {PA : List (Nat × Nat × List Nat)} {act : Nat -> Bool} : ∀ {c : List (Nat × Nat)} {listed : Array Bool} {L : List (Nat × Nat)} {st : Bool}, flowOkP P ops F PA act c listed L st = true -> flowOk P ops F act c listed L st = true
 | [], listed, L, st, h => h
 | (i, m) :: rest, listed, L, st, h => by
  unfold flowOkP at h
  unfold flowOk
  split at h
  ·cases h
  ·rename_i o ho
   rw [ho]
   simp only [Bool.and_eq_true] at h ⊢
   refine ⟨h.1, ?_⟩
   have h2 := h.2
   split at h2
   ·simp only [Bool.and_eq_true] at h2 ⊢
    exact ⟨h2.1, flowOkP_ok h2.2⟩
   ·simp only [Bool.and_eq_true] at h2 ⊢
    exact ⟨h2.1, flowOkP_ok h2.2⟩
   ·rename_i h3 h5
    split
    ·exact absurd rfl (h3 ·)
    ·exact absurd rfl (h5 ·)
    ·simp only [Bool.and_eq_true] at h2 ⊢
     exact ⟨⟨h2.1.1, actOkP_ok h2.1.2⟩, flowOkP_ok h2.2⟩
def regionOkP (P : Program) (ops : Array Oper) (PA : List (Nat × Nat × List Nat)) (segs : List (Bool × List (Nat × Nat))) : Bool :=
 P.follows .mixedOrders && Region.noSelect ops && (flat segs).length == ops.size && kindsOk P ops (flat segs) && stableB ops (segL ops (flat segs)) && segsOk segs &&
  flowOkP P ops ops.size PA (fun j => (flat segs).any fun p => p.1 == j && decide (2 <= p.2)) (flat segs) (Array.replicate ops.size false) [] false
theorem region_flowP (PA : List (Nat × Nat × List Nat)) (segs : List (Bool × List (Nat × Nat))) {id : Nat} {l : List Oper} {Q : Exit -> Act -> World -> Prop} {a : Act} {w : World} (hok : regionOkP P l.toArray PA segs = true)
  (h : wpSegs P l.toArray (fun a' w' => shapesB l.toArray (flat segs) a' = true /\ Q .normal a' w') w.drew segs a w.drew) : (Code.region id l.toArray true).wp P Q a w := by
 refine region_flow segs ?_ h
 unfold regionOkP at hok
 unfold regionOk
 simp only [Bool.and_eq_true] at hok ⊢
 exact ⟨hok.1, flowOkP_ok hok.2⟩
end
section
variable {A B O : List (List Int)} {R : List Int} {p : Int} {k t m i : Nat}
end
theorem all_succ {n : Nat} {f : Nat -> Bool} : (List.range (n + 1)).all f = ((List.range n).all f && f n) := by
 rw [List.range_succ, List.all_append]; simp
theorem all2_no {n i k : Nat} {g : Nat -> Nat -> Bool} (hi : i < n) (hk : k < n) (h : g i k = false) : ((List.range n).all fun i => (List.range n).all (g i)) = false :=
 List.all_eq_false.2 ⟨i, List.mem_range.2 hi, by rw [List.all_eq_false.2 ⟨k, List.mem_range.2 hk, by rw [h]; decide⟩]; decide⟩
def Un (w : World) (g n : Nat) : Prop := ∀ j, j < n -> ∃ a c, w.cell? ⟨g, j, none⟩ = some (.slice a n c) /\ El w (.slice a n c) (oneL n j)
def Tb (w : World) (b off n : Nat) (F : Nat -> Nat -> Int) : Prop := ∀ i, i < n -> ∃ b2 o2 c, w.cell? ⟨b, off + i, none⟩ = some (.slice (some ⟨b2, o2, none⟩) n c) /\ ∀ k, k < n -> w.cell? ⟨b2, o2 + k, none⟩ = some (.int .i64 (F i k))
section
variable {w w' : World} {g n b off : Nat} {F : Nat -> Nat -> Int}
theorem Un.below (h : Un w g n) (hb : Below w.heap.size w w') : Un w' g n := fun j hj => by
 obtain ⟨a, c, h1, h2⟩ := h j hj
 exact ⟨a, c, kept hb h1, h2.below hb⟩
theorem Tb.below (h : Tb w b off n F) (hb : Below w.heap.size w w') : Tb w' b off n F := fun i hi => by
 obtain ⟨b2, o2, c, h1, h2⟩ := h i hi
 exact ⟨b2, o2, c, kept hb h1, fun k hk => kept hb (h2 k hk)⟩
theorem Tb.congr {G : Nat -> Nat -> Int} (h : Tb w b off n F) (e : ∀ i, i < n -> ∀ k, k < n -> F i k = G i k) : Tb w b off n G := fun i hi => by
 obtain ⟨b2, o2, c, h1, h2⟩ := h i hi
 exact ⟨b2, o2, c, h1, fun k hk => by rw [<- e i hi k hk]; exact h2 k hk⟩
theorem Re.tb {v : Value} {L : List (List Int)} (h : Re w v L) (hl : L.length = n) (h0 : 0 < n) (hL : ∀ r ∈ L, r.length = n) : ∃ b off c, v = .slice (some ⟨b, off, none⟩) n c /\ Tb w b off n fun i k => (L.getD i []).getD k 0 := by
 obtain ⟨a, c, rfl, _, _, h3⟩ := h
 obtain ⟨b, off, rfl, h4⟩ := h3.resolve_left (fun e => by rw [e] at hl; simp at hl; omega)
 refine ⟨b, off, c, by rw [hl], fun i hi => ?_⟩
 obtain ⟨u, h1, h2⟩ := h4 i (by omega)
 obtain ⟨a2, c2, rfl, _⟩ := id h2.op
 have hr := hL L[i] (List.getElem_mem _)
 have hg : L.getD i [] = L[i] := by rw [List.getD_eq_getElem?_getD, List.getElem?_eq_getElem (by omega)]; rfl
 obtain ⟨b2, o2, rfl, _⟩ := Sl.cellat h2.sl (i := 0) (by omega)
 refine ⟨b2, o2, c2, by rw [hr] at h1; exact h1, fun k hk => ?_⟩
 obtain ⟨b3, o3, e, hc⟩ := Sl.cellat h2.sl (i := k) (by omega)
 cases e
 show w.cell? ⟨b2, o2 + k, none⟩ = some (Value.int .i64 ((L.getD i []).getD k 0))
 rw [hg]
 exact hc
end
theorem bas_get {p : Int} {st : List Int} {i k : Nat} (hi : i < sz st.length) (hk : k < sz st.length) : ((basL p st).getD i []).getD k 0 = basF p st i k := by
 unfold basL
 simp [List.getD_eq_getElem?_getD, hi, hk]
/-! ### Sums over places -/
def sumF (f : Nat -> Int) : Nat -> Int
 | 0 => 0
 | n + 1 => sumF f n + f n
theorem sumF_cons {f : Nat -> Int} : ∀ n, sumF f (n + 1) = f 0 + sumF (fun r => f (r + 1)) n
 | 0 => by simp [sumF]
 | n + 1 => by
  show sumF f (n + 1) + f (n + 1) = f 0 + (sumF (fun r => f (r + 1)) n + f (n + 1))
  rw [sumF_cons n]; omega
theorem sumF_bd {f : Nat -> Int} {B : Int} : ∀ {n : Nat}, (∀ r, r < n -> 0 <= f r /\ f r <= B) -> 0 <= sumF f n /\ sumF f n <= B * n
 | 0, _ => by simp [sumF]
 | n + 1, h => by
  have h1 := sumF_bd (n := n) (fun r hr => h r (by omega))
  have h2 := h n (by omega)
  have e : B * ((n + 1 : Nat) : Int) = B * n + B := by rw [Int.natCast_succ, Int.mul_add, Int.mul_one]
  unfold sumF
  omega
theorem sumF_congr {f g : Nat -> Int} : ∀ {n : Nat}, (∀ r, r < n -> f r = g r) -> sumF f n = sumF g n
 | 0, _ => rfl
 | n + 1, h => by unfold sumF; rw [sumF_congr (n := n) (fun r hr => h r (by omega)), h n (by omega)]
theorem dotK_sum {p : Int} : ∀ {d x y : List Int} {n : Nat}, d.length = n -> x.length = n -> y.length = n -> dotK p d x y = sumF (fun r => x.getD r 0 * y.getD r 0 % p * d.getD r 0) n
 | [], _, _, n, h1, _, _ => by subst h1; simp [dotK, sumF]
 | _ :: _, [], _, n, h1, h2, _ => by simp at h1 h2; omega
 | _ :: _, _ :: _, [], n, h1, _, h3 => by simp at h1 h3; omega
 | d :: ds, x :: xs, y :: ys, n, h1, h2, h3 => by
  obtain ⟨m, rfl⟩ : ∃ m, n = m + 1 := ⟨ds.length, by simpa using h1.symm⟩
  have ih := dotK_sum (p := p) (d := ds) (x := xs) (y := ys) (n := m) (by simpa using h1) (by simpa using h2) (by simpa using h3)
  rw [sumF_cons]
  simp only [dotK, List.getD_cons_zero, List.getD_cons_succ, ih]
theorem dotD_sum : ∀ {d x y : List Int} {n : Nat}, d.length = n -> x.length = n -> y.length = n -> dotD d x y = sumF (fun r => d.getD r 0 * x.getD r 0 * y.getD r 0) n
 | [], _, _, n, h1, _, _ => by subst h1; simp [dotD, sumF]
 | _ :: _, [], _, n, h1, h2, _ => by simp at h1 h2; omega
 | _ :: _, _ :: _, [], n, h1, _, h3 => by simp at h1 h3; omega
 | d :: ds, x :: xs, y :: ys, n, h1, h2, h3 => by
  obtain ⟨m, rfl⟩ : ∃ m, n = m + 1 := ⟨ds.length, by simpa using h1.symm⟩
  have ih := dotD_sum (d := ds) (x := xs) (y := ys) (n := m) (by simpa using h1) (by simpa using h2) (by simpa using h3)
  rw [sumF_cons]
  simp only [dotD, List.getD_cons_zero, List.getD_cons_succ, ih]
theorem mul_b {a b : Int} (h1 : 0 <= a /\ a < 13) (h2 : 0 <= b /\ b < 13) : 0 <= a * b /\ a * b <= 169 := by
 have := mulb (k := a) (y := b) (A := 13) (B := 13) (by omega) (by omega) (by omega) (by omega)
 exact ⟨Int.mul_nonneg h1.1 h2.1, by omega⟩
theorem diagF_one {p : Int} {st : List Int} (hd : Dok p st) : diagF p st = (List.range (sz st.length)).map fun i => normL p st (oneL (sz st.length) i) := by
 refine ext_at (by rw [diagF_len]; simp) fun j hj => ?_
 rw [diagF_len] at hj
 rw [List.getD_eq_getElem?_getD (l := (List.range _).map _), List.getElem?_map, List.getElem?_range hj]
 exact (diag_one hd hj).symm
def Uo (w : World) (B g n : Nat) : Prop := (B <= g /\ g < w.heap.size) /\ ∀ j, j < n -> ∃ gj c, w.cell? ⟨g, j, none⟩ = some (.slice (some ⟨gj, 0, none⟩) n c) /\ OwnI w B gj n c (oneL n j)
theorem grow_chg {lo hi g : Nat} {a w w' : World} (h : Chg lo hi a w) (hg : w.grownBy w' (some g)) (hr : (lo <= g /\ g < hi) \/ a.heap.size <= g) : Chg lo hi a w' :=
 ⟨hg.os.trans h.os, hg.tape.trans h.tape, hg.output.trans h.output, Nat.le_trans h.size hg.size, fun k hk hk2 => by
  rw [hg.block k (Nat.lt_of_lt_of_le hk h.size) (fun e => by cases e; omega)]
  exact h.block k hk hk2⟩
section
variable {w w' : World} {B g n : Nat}
theorem Uo.below (h : Uo w B g n) (hb : Below w.heap.size w w') : Uo w' B g n := ⟨⟨h.1.1, Nat.lt_of_lt_of_le h.1.2 hb.size⟩, fun j hj => by
 obtain ⟨gj, c, h1, h2⟩ := h.2 j hj
 exact ⟨gj, c, kept hb h1, h2.below hb⟩⟩
theorem Uo.chg {lo hi : Nat} (h : Uo w B g n) (hc : Chg lo hi w w') (hr : hi <= B) : Uo w' B g n := ⟨⟨h.1.1, Nat.lt_of_lt_of_le h.1.2 hc.size⟩, fun j hj => by
 obtain ⟨gj, c, h1, h2⟩ := h.2 j hj
 exact ⟨gj, c, hc.cell h1 (.inr (Nat.le_trans hr h.1.1)), OwnI.chg hc h2 (.inr (Nat.le_trans hr h2.lt.1))⟩⟩
theorem Uo.un (h : Uo w B g n) : Un w g n := fun j hj => by
 obtain ⟨gj, c, h1, h2⟩ := h.2 j hj
 exact ⟨_, c, h1, h2.fr.el⟩
end
theorem unito_c {n : Nat} {w : World} (hn : n <= 1000) (h0 : 0 < n) :
  Calls Tryz.prog 55 #[.int .i64 n] w fun e w' => ∃ g cap, e = .returned (.slice (some ⟨g, 0, none⟩) n cap) /\ Uo w' w.heap.size g n /\ Below w.heap.size w w' := by
 refine (unit_c hn).mono ?_
 rintro e w' ⟨v, us, rfl, hU, hA, hform, hb⟩
 obtain ⟨g, cap, rfl⟩ := hform h0
 have hV : RowsF w' w.heap.size us ((List.range n).map (oneL n)) := ⟨hA.1, hA.2.1⟩
 refine ⟨g, cap, rfl, ⟨World.ownsRow.lt hU g rfl, fun j hj => ?_⟩, hb⟩
 obtain ⟨gj, cj, _, h1, h2, _⟩ := row_at (p := 2) (m := n) hU hV (fun r hr => by obtain ⟨i, _, rfl⟩ := List.mem_map.1 hr; exact Ev.one (by omega)) (j := j) (by simp; exact hj)
 have e : ((List.range n).map (oneL n)).getD j [] = oneL n j := by simp [List.getD_eq_getElem?_getD, hj]
 rw [e] at h2
 obtain ⟨g2, c2, e2, h3⟩ := h2
 rw [oneL_len] at e2 h3
 cases e2
 exact ⟨_, _, h1, h3⟩
set_option maxHeartbeats 1000000 in
theorem diag_c {p : Int} {s : Value} {st : List Int} {w : World} (hd : Dok p st) (hs : El w s st) :
  Calls Tryz.prog 53 #[.agg #[.int .i64 p, s]] w fun e w' => ∃ v, e = .returned v /\ FrI w' w.heap.size v (diagF p st) /\ Below w.heap.size w w' := by
 have hp1 := hd.hp.lo; have hp2 := hd.hp.hi; have hl3 := hd.hl; have hsz := sz_le hd
 obtain ⟨a0, c0, rfl, _⟩ := id hs.op
 have hszc := fun W => size_c (w := W) (p := p) (a := a0) (n := st.length) (c := c0) (by omega)
 have hnor := fun W x i (h : El W (.slice a0 st.length c0) st) (hx : El W x (oneL (sz st.length) i)) => norm_c (w := W) (p := p) hd h hx (Ev.unit1 (by omega))
 rw [diagF_one hd]
 obtain ⟨F, hF⟩ : ∃ F, F = fun i => normL p st (oneL (sz st.length) i) := ⟨_, rfl⟩
 have hFi : ∀ i, normL p st (oneL (sz st.length) i) = F i := fun i => by rw [hF]
 simp only [hFi] at hnor ⊢
 clear hFi hF
 obtain ⟨n, hn⟩ : ∃ n, n = sz st.length := ⟨_, rfl⟩
 simp only [<- hn] at hszc hsz hnor ⊢
 have HN := Lib.hid hn; clear hn
 have hbW : Below w.heap.size w (w.alloc (.cells #[.int .i64 p, .slice a0 st.length c0] 26)) := bwT
 have hs := hs.below hbW
 have d0 : (w.alloc (.cells #[.int .i64 p, .slice a0 st.length c0] 26)).cell? ⟨w.heap.size, 0, none⟩ = some (.int .i64 p) := by simp [go_sem]
 have d1 : (w.alloc (.cells #[.int .i64 p, .slice a0 st.length c0] 26)).cell? ⟨w.heap.size, 1, none⟩ = some (.slice a0 st.length c0) := by simp [go_sem]
 obtain ⟨u, hue⟩ : ∃ u, u = w.alloc (.cells #[.int .i64 p, .slice a0 st.length c0] 26) := ⟨_, rfl⟩
 have huz : u.heap.size = w.heap.size + 1 := by rw [hue]; simp
 have HW := Lib.hid hue; have HZ := Lib.hid huz
 rw [<- hue] at hs d0 d1 hbW
 clear hue huz
 have hJ0 : OwnI (u.alloc (.cells #[] 2)) u.heap.size u.heap.size 0 0 [] := OwnI.new (Nat.le_refl _)
 have hbA : Below u.heap.size u (u.alloc (.cells #[] 2)) := bwT
 have e0 := kept hbA d0; have e1 := kept hbA d1; have hsA := hs.below hbA
 have hzA : (u.alloc (.cells #[] 2)).heap.size = u.heap.size + 1 := by simp
 obtain ⟨u1, hu1⟩ : ∃ x, x = u.alloc (.cells #[] 2) := ⟨_, rfl⟩
 rw [<- hu1] at hJ0 hbA e0 e1 hsA hzA
 have HU1 := Lib.hid hu1; have HZA := Lib.hid hzA
 clear hu1 hzA
 go_enter Tryz.func53, Tryz.ntmps53
 go_wp2_with fail
 rw [<- HW.out, <- HU1.out]
 refine (hszc _).mono ?_; rintro e w1 ⟨rfl, hb1⟩
 have e0 := kept hb1 e0; have e1 := kept hb1 e1; have hJ0 := hJ0.below hb1
 go_wp2_with fail
 refine (unito_c (n := n) (by omega) (by omega)).mono ?_; rintro e w2 ⟨g1, k1, rfl, hU, hb2⟩
 have hJ0 := hJ0.below hb2
 have hbu := bwC hbA (bwC hb1 hb2)
 have hlo : u.heap.size + 1 <= w1.heap.size := by have := HZA.out; have := hb1.size; omega
 clear e0 e1 hsA hbA hb1
 have hzU : w.heap.size + 1 = u.heap.size := HZ.out.symm
 rw [hzU]
 clear hzU
 go_wp2_with fail
 go_loopw [3, 11] (fun o i wr => ∃ (k g cap : Nat), k <= n /\ i = .int .i64 k /\ o = .slice (some ⟨g, 0, none⟩) k cap /\ OwnI wr u.heap.size g k cap ((List.range k).map F) /\ ((u.heap.size <= g /\ g < u.heap.size + 1) \/ w2.heap.size <= g) /\ Chg u.heap.size (u.heap.size + 1) w2 wr) (fun _ i _ => n - (intOf i).toNat)
 case atStart => exact ⟨0, u.heap.size, 0, Nat.zero_le _, rfl, rfl, hJ0, .inl ⟨Nat.le_refl _, by omega⟩, Chg.refl⟩
 case round =>
  clear hJ0
  obtain ⟨k, g, cap, hk, rfl, rfl, hown, hgr, hch⟩ := hrel
  have hb := hch.blw hbu (Nat.le_refl _)
  have hs := hs.below hb; have d0 := kept hb d0; have d1 := kept hb d1
  have hU := hU.chg hch hlo
  by_cases hlt : k < n
  ·obtain ⟨a2, c2, hcu, hx⟩ := hU.un k hlt
   have hcon := hnor _ _ k hs hx
   obtain ⟨z, hz⟩ : ∃ z, z = F k := ⟨_, rfl⟩
   have hst : Hid ((List.range (k + 1)).map F = (List.range k).map F ++ [z]) := Lib.hid (by rw [List.range_succ, List.map_append, hz]; rfl)
   rw [<- hz] at hcon
   clear hz
   go_wp2_with fail
   refine hcon.mono ?_; rintro e w3 ⟨rfl, hb3⟩
   have hown := hown.below hb3
   have hsz3 : u.heap.size <= w3.heap.size := by have := hb.size; have := hb3.size; omega
   go_wp2_with (at_builtin; refine app_one rfl _ _ rfl w3 u.heap.size g k cap _ rfl z _ rfl hown hsz3 (by omega) ?_; intro g' cap' w' hown' hb' hg' hgg)
   go_roundw
   case rel => exact ⟨k + 1, g', cap', by omega, by go_num, rfl, by rw [hst.out]; exact hown', by have := hch.size; have := hb3.size; rcases hgg with rfl | rfl <;> omega, grow_chg (hch.trans (Chg.below hb3)) hg' hgr⟩
   case measure => simp [intOf]; omega
  ·obtain rfl : k = n := by omega
   go_wp2_with fail
   go_ret
   exact ⟨_, rfl, hown.fr.more hbW.size, bwC hbW hb⟩
end Go.Proofs.YteaaepbnoiecoaaGreat
