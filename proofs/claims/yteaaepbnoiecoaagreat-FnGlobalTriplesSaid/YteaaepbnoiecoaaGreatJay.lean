/- Texts joined for a claim: TgC, MarkJ, LawE, LawT, LawM, LawTr. -/
import Derived.Test.YteaaepbnoiecoaaGreatJaw
import Derived.Test.YteaaepbnoiecoaaGreatJah
import Derived.Test.YteaaepbnoiecoaaGreatJan
import Derived.Test.YteaaepbnoiecoaaGreatJak
namespace Go.Proofs.YteaaepbnoiecoaaGreat
open Go.RowKit
theorem infoM : (Tryz.prog.info? 27).map (fun i => (i.zero, i.size, i.bytes)) = some (some (.slice none 0 0), 1, 24) := by kernel_rfl
def OwM (w : World) (B : Nat) (v : Value) (us : List Value) : Prop := w.ownsRow B 27 1 v us.length us
theorem apartE {w : World} {E1 E2 : TypeId} {B B' n m : Nat} {v u : Value} {zs ys : List Value} (hE : E1 ≠ E2) (h : w.ownsRow B E1 1 v n zs) (k : w.ownsRow B' E2 1 u m ys) : v.ownBlock = none \/ v.ownBlock ≠ u.ownBlock := by
 cases hv : v.ownBlock with
 | none => exact .inl rfl
 | some g =>
  refine .inr fun e => ?_
  obtain ⟨c1, h1⟩ := row_type h hv
  obtain ⟨c2, h2⟩ := row_type k e.symm
  rw [h1] at h2
  injection h2 with h3
  injection h3 with _ h4
  exact hE h4
def PlF (w : World) (B : Nat) (v : Value) (rows : List (List Int)) : Prop := ∃ g cap us, v = .slice (some ⟨g, 0, none⟩) us.length cap /\ OwV w B v us /\ RowsF w B us rows
def PlsF (w : World) (B : Nat) (us : List Value) (ps : List (List (List Int))) : Prop := us.length = ps.length /\ ∀ j (h : j < us.length) (h' : j < ps.length), PlF w B us[j] ps[j]
section
variable {w w' : World} {B B' : Nat} {v vo : Value} {us uo : List Value} {rows : List (List Int)} {ps : List (List (List Int))}
theorem OwM.new (h : B <= w.heap.size) : OwM (w.alloc (.cells #[] 27)) B (.slice (some ⟨w.heap.size, 0, none⟩) 0 0) [] := World.ownsRow_made _ _ _ h (by decide) rfl
theorem OwM.below (h : OwM w B v us) (hb : Below w.heap.size w w') : OwM w' B v us := World.ownsRow.kept h (row := none) ⟨hb.os, hb.tape, hb.output, hb.size, fun i hi _ => hb.block i hi⟩ (by
 cases v.ownBlock <;> simp)
theorem PlF.below (h : PlF w B v rows) (hb : Below w.heap.size w w') : PlF w' B v rows := by
 obtain ⟨g, cap, us, rfl, h1, h2⟩ := h
 exact ⟨g, cap, us, rfl, h1.below hb, h2.below hb⟩
theorem own_lower {E : TypeId} {n : Nat} {zs : List Value} (h : w.ownsRow B E 1 v n zs) (hB : B' <= B) : w.ownsRow B' E 1 v n zs := by
 refine ⟨h.1, ?_⟩
 rcases h.2 with h2 | ⟨g', cap', cur, h3, h4, h5⟩
 ·exact .inl h2
 ·exact .inr ⟨g', cap', cur, h3, Nat.le_trans hB h4, h5⟩
theorem PlF.more (h : PlF w B v rows) (hB : B' <= B) : PlF w B' v rows := by
 obtain ⟨g, cap, us, rfl, h1, h2⟩ := h
 refine ⟨g, cap, us, rfl, own_lower h1 hB, h2.1, fun j a b => (h2.2 j a b).more hB⟩
theorem PlF.app (h : PlF w B v rows) (ho : OwM w B' vo uo) (hg : w.grownBy w' vo.ownBlock) : PlF w' B v rows := by
 obtain ⟨g, cap, us, rfl, h1, h2⟩ := h
 refine ⟨g, cap, us, rfl, h1.kept hg (apartE (by decide) h1 ho), h2.1, fun j a b => (h2.2 j a b).kept hg ?_⟩
 obtain ⟨gj, hgu, _⟩ := (h2.2 j a b).blk
 rcases apartE (by decide) (h2.2 j a b).own ho with e | e
 ·rw [hgu] at e; cases e
 ·exact e
theorem PlsF.nil (w : World) (B : Nat) : PlsF w B [] [] := ⟨rfl, fun j h => by simp at h⟩
theorem PlsF.below (h : PlsF w B us ps) (hb : Below w.heap.size w w') : PlsF w' B us ps := ⟨h.1, fun j a b => (h.2 j a b).below hb⟩
theorem PlsF.app (h : PlsF w B us ps) (ho : OwM w B' vo uo) (hg : w.grownBy w' vo.ownBlock) : PlsF w' B us ps := ⟨h.1, fun j a b => (h.2 j a b).app ho hg⟩
theorem PlsF.snoc {u : Value} (h : PlsF w B us ps) (hu : PlF w B u rows) : PlsF w B (us ++ [u]) (ps ++ [rows]) := by
 refine ⟨by simp [h.1], fun j a b => ?_⟩
 rw [List.length_append] at a
 simp at a
 by_cases hj : j < us.length
 ·have := h.1
  rw [List.getElem_append_left hj, List.getElem_append_left (by omega)]
  exact h.2 j hj (by omega)
 ·obtain rfl : j = us.length := by omega
  have e := h.1
  have h1 : (us ++ [u])[us.length]'(by simp) = u := by simp
  have h2 : (ps ++ [rows])[us.length]'(by simp [e]) = rows := by simp [e]
  rw [h1, h2]; exact hu
end
section
variable {ops : Array Oper} {rest : List Oper} {o : Oper} {a : Act} {Q : Exit -> Act -> World -> Prop}
theorem appm_one (hgd : o.guard = none) (s x : Operand)
  (ho : o.op = .call { callee := .builtin .append, args := #[s, x], argTypes := #[45, 45] })
  (W : World) (B H : Nat) (hH : W.heap.size = H) (v : Value) (us : List Value) (hs : a.eval s = v) (z : Value) (c : Nat) (hx : a.eval x = .slice (some ⟨H, 0, none⟩) 1 c) (hz : z.oneCell' = true)
  (hown : OwM W B v us) (hB : B <= W.heap.size) (hm : us.length <= 100000000)
  (h : ∀ g' cap' w', OwM w' B (.slice (some ⟨g', 0, none⟩) (us.length + 1) cap') (us ++ [z]) -> Below B W w' -> W.grownBy w' v.ownBlock -> (v.ownBlock = some g' \/ g' = H + 1) -> wpList Tryz.prog ops Q rest (a.put o.dst (.slice (some ⟨g', 0, none⟩) (us.length + 1) cap')) w') :
  wpList Tryz.prog ops Q (o :: rest) a (W.alloc (.cells #[z] 27)) := by
 subst hH
 obtain ⟨i0, hi, hz0, hz1, hz2⟩ := info_parts infoM
 refine wpList_append_lies (W.alloc (.cells #[z] 27)) hgd s x 45 ho B 27 i0 (.slice none 0 0) 1 24 Tryz.underlying45 hi hz0 hz1 hz2 rfl (by decide) v us.length us hs (World.ownsRow.alloc hown _) ⟨W.heap.size, 0, none⟩ 1 c [z] hx rfl ?_ ?_ (by decide) (by simp only [maxLen]; omega) (by omega) (by simp; omega) _ rfl ?_
 ·intro j u hu
  rw [addz]
  have : j = 0 := by
   rcases j with _ | j
   ·rfl
   ·simp at hu
  subst this
  simp at hu
  subst hu
  simp [go_sem]
 ·intro u hu
  simp at hu
  subst hu; exact hz
 ·intro g cap w' h1 h2 h3 _
  refine h g cap w' (by simpa [OwM] using h1) (((Below.refl B W).alloc hB _).grown h2 (by simp; omega) fun k hk => (World.ownsRow.lt hown k hk).1) ⟨h2.os, h2.tape, h2.output, by have := h2.size; simp at this; omega, fun k hk hne => ?_⟩ (by simpa using h3)
  rw [h2.block k (by simp; omega) hne]
  exact Below.heap_alloc _ _ _ hk
end
def Cu (w : World) (b n : Nat) (F : Nat -> Nat -> Nat -> Int) : Prop := ∀ i, i < n -> ∃ b2 c2, w.cell? ⟨b, i, none⟩ = some (.slice (some ⟨b2, 0, none⟩) n c2) /\ ∀ j, j < n -> ∃ b3 c3, w.cell? ⟨b2, j, none⟩ = some (.slice (some ⟨b3, 0, none⟩) n c3) /\ ∀ k, k < n -> w.cell? ⟨b3, k, none⟩ = some (.int .i64 (F i j k))
theorem Cu.below {w w' : World} {b n : Nat} {F : Nat -> Nat -> Nat -> Int} (h : Cu w b n F) (hb : Below w.heap.size w w') : Cu w' b n F := fun i hi => by
 obtain ⟨b2, c2, h1, h2⟩ := h i hi
 refine ⟨b2, c2, kept hb h1, fun j hj => ?_⟩
 obtain ⟨b3, c3, h3, h4⟩ := h2 j hj
 exact ⟨b3, c3, kept hb h3, fun k hk => kept hb (h4 k hk)⟩
theorem PlsF.cu {w : World} {B B' g cap n : Nat} {us : List Value} {F : Nat -> Nat -> Nat -> Int} (h : PlsF w B us ((List.range n).map fun i => (List.range n).map fun j => (List.range n).map fun k => F i j k)) (ho : OwM w B' (.slice (some ⟨g, 0, none⟩) us.length cap) us) : Cu w g n F := by
 have hl : us.length = n := by have := h.1; simpa using this
 refine fun i hi => ?_
 obtain ⟨g2, c2, us2, e, h1, h2⟩ := h.2 i (by omega) (by simp; omega)
 have hl2 : us2.length = n := by have := h2.1; simpa using this
 have hc := World.ownsRow.cells ho (g := g) rfl i (us[i]'(by omega)) (by simp)
 rw [addz] at hc
 refine ⟨g2, c2, by rw [hc, e, hl2], fun j hj => ?_⟩
 obtain ⟨g3, c3, e3, h4⟩ := h2.2 j (by omega) (by simp; omega)
 have hc2 := World.ownsRow.cells h1 (g := g2) (by rw [e]; rfl) j (us2[j]'(by omega)) (by simp)
 rw [addz] at hc2
 refine ⟨g3, c3, by rw [hc2, e3]; simp, fun k hk => ?_⟩
 rw [h4.hold (i := k) (by simp; exact hk)]
 simp [List.getD_eq_getElem?_getD, hk]
set_option maxHeartbeats 4000000 in
theorem cyc_c {p : Int} {s : Value} {st : List Int} {w : World} (hd : Dok p st) (hs : El w s st) :
  Calls Tryz.prog 20 #[.agg #[.int .i64 p, s]] w fun e w' => ∃ g cap, e = .returned (.slice (some ⟨g, 0, none⟩) (sz st.length) cap) /\ Cu w' g (sz st.length) (cycF p st) /\ Below w.heap.size w w' := by
 have hp1 := hd.hp.lo; have hp2 := hd.hp.hi; have hl3 := hd.hl; have hsz := sz_le hd
 obtain ⟨a0, c0, rfl, _⟩ := id hs.op
 have hszc := fun W => size_c (w := W) (p := p) (a := a0) (n := st.length) (c := c0) (by omega)
 have hev := fun i => Ev.unit1 (p := p) (n := sz st.length) (i := i) (by omega)
 have hev2 := fun i j => mulL_ev (p := p) (st := st) (by omega) (hev i) (hev j)
 have hev3 := fun i j k => mulL_ev (p := p) (st := st) (by omega) (hev2 i j) (hev k)
 have htm1 := fun W x y i j (h : El W (.slice a0 st.length c0) st) (hx : El W x (oneL (sz st.length) i)) (hy : El W y (oneL (sz st.length) j)) => times_c (w := W) (p := p) hd h hx hy (hev i) (hev j)
 have htm2 := fun W x y i j k (h : El W (.slice a0 st.length c0) st) (hx : El W x (mulL p st (oneL (sz st.length) i) (oneL (sz st.length) j))) (hy : El W y (oneL (sz st.length) k)) => times_c (w := W) (p := p) hd h hx hy (hev2 i j) (hev k)
 have htr := fun W x i j k (h : El W (.slice a0 st.length c0) st) (hx : El W x (mulL p st (mulL p st (oneL (sz st.length) i) (oneL (sz st.length) j)) (oneL (sz st.length) k))) => trace_c (w := W) (p := p) hd.hp h hx (hev3 i j k).2 (by rw [(hev3 i j k).1]; omega)
 obtain ⟨F, hF⟩ : ∃ F, F = cycF p st := ⟨_, rfl⟩
 have hFe : ∀ i j k, 2 * (mulL p st (mulL p st (oneL (sz st.length) i) (oneL (sz st.length) j)) (oneL (sz st.length) k)).getD 0 0 % p = F i j k := fun i j k => by rw [hF]; rfl
 rw [<- hF]
 simp only [hFe] at htr
 clear hF hFe hev hev2 hev3
 obtain ⟨n, hn⟩ : ∃ n, n = sz st.length := ⟨_, rfl⟩
 simp only [<- hn] at hszc hsz htm1 htm2 htr ⊢
 have HN := Lib.hid hn; clear hn
 have hbW : Below w.heap.size w (w.alloc (.cells #[.int .i64 p, .slice a0 st.length c0] 26)) := bwT
 have hs := hs.below hbW
 have d0 : (w.alloc (.cells #[.int .i64 p, .slice a0 st.length c0] 26)).cell? ⟨w.heap.size, 0, none⟩ = some (.int .i64 p) := by simp [go_sem]
 have d1 : (w.alloc (.cells #[.int .i64 p, .slice a0 st.length c0] 26)).cell? ⟨w.heap.size, 1, none⟩ = some (.slice a0 st.length c0) := by simp [go_sem]
 obtain ⟨u, hue⟩ : ∃ u, u = w.alloc (.cells #[.int .i64 p, .slice a0 st.length c0] 26) := ⟨_, rfl⟩
 have huz : u.heap.size = w.heap.size + 1 := by rw [hue]; simp
 have HW := Lib.hid hue; have HZ := Lib.hid huz
 rw [<- hue] at hs d0 d1 hbW
 clear hue huz
 have hJ0 : OwM (u.alloc (.cells #[] 27)) u.heap.size (.slice (some ⟨u.heap.size, 0, none⟩) 0 0) [] := OwM.new (Nat.le_refl _)
 have hbA : Below u.heap.size u (u.alloc (.cells #[] 27)) := bwT
 have e0 := kept hbA d0; have e1 := kept hbA d1
 have hzA : (u.alloc (.cells #[] 27)).heap.size = u.heap.size + 1 := by simp
 obtain ⟨u1, hu1⟩ : ∃ x, x = u.alloc (.cells #[] 27) := ⟨_, rfl⟩
 rw [<- hu1] at hJ0 hbA e0 e1 hzA
 have HU1 := Lib.hid hu1; have HZA := Lib.hid hzA
 clear hu1 hzA
 go_enter Tryz.func20, Tryz.ntmps20
 go_wp2_with fail
 rw [<- HW.out, <- HU1.out]
 refine (hszc _).mono ?_; rintro e w1 ⟨rfl, hb1⟩
 have e0 := kept hb1 e0; have e1 := kept hb1 e1; have hJ0 := hJ0.below hb1
 go_wp2_with fail
 refine (unito_c (n := n) (by omega) (by omega)).mono ?_; rintro e w2 ⟨g1, k1, rfl, hU, hb2⟩
 have hJ0 := hJ0.below hb2
 have hbu := bwC hbA (bwC hb1 hb2)
 have hlo : u.heap.size + 1 <= w1.heap.size := by have := HZA.out; have := hb1.size; omega
 clear e0 e1 hbA hb1
 rw [show w.heap.size + 1 = u.heap.size from HZ.out.symm]
 go_wp2_with fail
 go_loopw [3, 17] (fun o i wr => ∃ (k g cap : Nat) (us : List Value), k <= n /\ i = .int .i64 k /\ o = .slice (some ⟨g, 0, none⟩) us.length cap /\ us.length = k /\ OwM wr u.heap.size (.slice (some ⟨g, 0, none⟩) us.length cap) us /\ PlsF wr u.heap.size us ((List.range k).map fun i => (List.range n).map fun j => (List.range n).map fun r => F i j r) /\ ((u.heap.size <= g /\ g < u.heap.size + 1) \/ w2.heap.size <= g) /\ Chg u.heap.size (u.heap.size + 1) w2 wr) (fun _ i _ => n - (intOf i).toNat)
 case atStart => exact ⟨0, u.heap.size, 0, [], Nat.zero_le _, rfl, rfl, rfl, hJ0, PlsF.nil _ _, .inl ⟨Nat.le_refl _, by omega⟩, Chg.refl⟩
 case round =>
  clear hJ0
  obtain ⟨k, g, cap, us, hk, rfl, rfl, hul, hown, hpl, hgr, hch⟩ := hrel
  have HUL := Lib.hid hul; clear hul
  have hb := hch.blw hbu (Nat.le_refl _)
  have hs := hs.below hb; have d0 := kept hb d0; have d1 := kept hb d1
  have hU := hU.chg hch hlo
  by_cases hlt : k < n
  ·obtain ⟨a2, c2, hcu, hx⟩ := hU.un k hlt
   generalize wr = wa at *
   have hK0 : OwV (wa.alloc (.cells #[] 24)) wa.heap.size (.slice (some ⟨wa.heap.size, 0, none⟩) 0 0) [] := OwV.new (Nat.le_refl _)
   have hbB : Below wa.heap.size wa (wa.alloc (.cells #[] 24)) := bwT
   have e0 := kept hbB d0; have e1 := kept hbB d1
   have hzB : wa.heap.size + 1 <= (wa.alloc (.cells #[] 24)).heap.size := by simp
   go_wp2_with fail
   obtain ⟨v1, hv1⟩ : ∃ x, x = wa.alloc (.cells #[] 24) := ⟨_, rfl⟩
   rw [<- hv1] at hK0 hbB e0 e1 hzB ⊢
   clear hv1
   refine (hszc _).mono ?_; rintro e w3 ⟨rfl, hb3⟩
   have e0 := kept hb3 e0; have e1 := kept hb3 e1; have hK0 := hK0.below hb3
   go_wp2_with fail
   refine (unito_c (n := n) (by omega) (by omega)).mono ?_; rintro e w4 ⟨g2, k2, rfl, hV, hb4⟩
   have hK0 := hK0.below hb4
   have hbv := bwC hbB (bwC hb3 hb4)
   have hlo2 : wa.heap.size + 1 <= w3.heap.size := by have := hzB; have := hb3.size; omega
   have HS := Lib.hid hs; have D0 := Lib.hid d0; have D1 := Lib.hid d1; have HX := Lib.hid hx; have HOW := Lib.hid hown; have HPL := Lib.hid hpl
   clear e0 e1 hbB hb3 hb4 hs d0 d1 hx hown hpl hcu hU
   go_wp2_with fail
   go_loopw [6, 26] (fun o i wr => ∃ (j h cap2 : Nat) (us2 : List Value), j <= n /\ i = .int .i64 j /\ o = .slice (some ⟨h, 0, none⟩) us2.length cap2 /\ us2.length = j /\ OwV wr wa.heap.size (.slice (some ⟨h, 0, none⟩) us2.length cap2) us2 /\ RowsF wr wa.heap.size us2 ((List.range j).map fun j => (List.range n).map fun r => F k j r) /\ ((wa.heap.size <= h /\ h < wa.heap.size + 1) \/ w4.heap.size <= h) /\ Chg wa.heap.size (wa.heap.size + 1) w4 wr) (fun _ i _ => n - (intOf i).toNat)
   case atStart => exact ⟨0, wa.heap.size, 0, [], Nat.zero_le _, rfl, rfl, rfl, hK0, RowsF.nil _ _, .inl ⟨Nat.le_refl _, by omega⟩, Chg.refl⟩
   case round =>
    clear hK0
    obtain ⟨j, h, cap2, us2, hj, rfl, rfl, hul2, hI, hR, hhr, hch2⟩ := hrel
    have HUL2 := Lib.hid hul2; clear hul2
    have hb5 := hch2.blw hbv (Nat.le_refl _)
    by_cases hlt2 : j < n
    ·have hs := HS.out.below hb5; have d0 := kept hb5 D0.out; have d1 := kept hb5 D1.out; have hx := HX.out.below hb5
     have hV := hV.chg hch2 hlo2
     obtain ⟨a3, c3, hcv, hy⟩ := hV.un j hlt2
     generalize wr = wb at *
     have hL0 : OwnI (wb.alloc (.cells #[] 2)) wb.heap.size wb.heap.size 0 0 [] := OwnI.new (Nat.le_refl _)
     have hbC : Below wb.heap.size wb (wb.alloc (.cells #[] 2)) := bwT
     have e0 := kept hbC d0; have e1 := kept hbC d1
     have hzC : wb.heap.size + 1 <= (wb.alloc (.cells #[] 2)).heap.size := by simp
     go_wp2_with fail
     obtain ⟨v2, hv2⟩ : ∃ x, x = wb.alloc (.cells #[] 2) := ⟨_, rfl⟩
     rw [<- hv2] at hL0 hbC e0 e1 hzC ⊢
     clear hv2
     refine (hszc _).mono ?_; rintro e w5 ⟨rfl, hb6⟩
     have e0 := kept hb6 e0; have e1 := kept hb6 e1; have hL0 := hL0.below hb6
     go_wp2_with fail
     refine (unito_c (n := n) (by omega) (by omega)).mono ?_; rintro e w6 ⟨g3, k3, rfl, hT, hb7⟩
     have hL0 := hL0.below hb7
     have hbw := bwC hbC (bwC hb6 hb7)
     have hlo3 : wb.heap.size + 1 <= w5.heap.size := by have := hzC; have := hb6.size; omega
     have HS2 := Lib.hid hs; have D02 := Lib.hid d0; have D12 := Lib.hid d1; have HX2 := Lib.hid hx; have HY := Lib.hid hy; have HI := Lib.hid hI; have HR := Lib.hid hR
     clear e0 e1 hbC hb6 hb7 hs d0 d1 hx hy hI hR hcv hV
     go_wp2_with fail
     go_loopw [9, 35] (fun o i wr => ∃ (r q cap3 : Nat), r <= n /\ i = .int .i64 r /\ o = .slice (some ⟨q, 0, none⟩) r cap3 /\ OwnI wr wb.heap.size q r cap3 ((List.range r).map fun r => F k j r) /\ ((wb.heap.size <= q /\ q < wb.heap.size + 1) \/ w6.heap.size <= q) /\ Chg wb.heap.size (wb.heap.size + 1) w6 wr) (fun _ i _ => n - (intOf i).toNat)
     case atStart => exact ⟨0, wb.heap.size, 0, Nat.zero_le _, rfl, rfl, hL0, .inl ⟨Nat.le_refl _, by omega⟩, Chg.refl⟩
     case round =>
      clear hL0
      obtain ⟨r, q, cap3, hr, rfl, rfl, hJ, hqr, hch3⟩ := hrel
      have hb8 := hch3.blw hbw (Nat.le_refl _)
      have hz8 := hb8.size
      by_cases hlt3 : r < n
      ·have hs := HS2.out.below hb8; have d0 := kept hb8 D02.out; have d1 := kept hb8 D12.out; have hx := HX2.out.below hb8; have hy := HY.out.below hb8
       have hT := hT.chg hch3 hlo3
       obtain ⟨a4, c4, hct, hz⟩ := hT.un r hlt3
       clear hT
       obtain ⟨z, hz_⟩ : ∃ z, z = F k j r := ⟨_, rfl⟩
       have hst : Hid ((List.range (r + 1)).map (fun r => F k j r) = (List.range r).map (fun r => F k j r) ++ [z]) := Lib.hid (by rw [List.range_succ, List.map_append, hz_]; rfl)
       have HZ_ := Lib.hid hz_
       clear hz_
       go_wp2_with fail
       go_wp2_with fail
       refine region_flow [(false, [(0, 0), (1, 1), (2, 1), (3, 1), (4, 0), (5, 0), (7, 0), (6, 5)]), (false, [(8, 5)]), (false, [(9, 4), (10, 4), (11, 4), (12, 0)])] (by kernel_rfl) ?_
       refine norm_K fun K hK => ?_
       change wpList _ _ _ [_, _, _, _, _, _, _, _] _ _
       have hb21 : Below wr.heap.size wr wr.drew := bwT
       have hs := hs.below hb21; have d0 := kept hb21 d0; have d1 := kept hb21 d1; have hx := hx.below hb21; have hy := hy.below hb21; have hz := hz.below hb21; have hJ := hJ.below hb21
       generalize wr.drew = wq at *
       go_wp2_with fail
       refine (htm1 _ _ _ k j hs hx hy).mono ?_; rintro e w22 ⟨v5, rfl, h5, hb22⟩
       have hs := hs.below hb22; have d0 := kept hb22 d0; have d1 := kept hb22 d1; have hx := hx.below hb22; have hy := hy.below hb22; have hz := hz.below hb22; have hJ := hJ.below hb22
       go_wp2_with fail
       have hz0 : Below wq.heap.size wq w22 := bwT
       first | (refine hK _ _ ⟨hz0, ?_⟩; clear hK K) | refine ⟨hz0, ?_⟩
       clear hz0
       refine norm_K fun K hK => ?_
       change wpList _ _ _ [_] _ _
       go_wp2_with fail
       refine (htm2 _ _ _ k j r hs h5.el hz).mono ?_; rintro e w23 ⟨v6, rfl, h6, hb23⟩
       have hs := hs.below hb23; have d0 := kept hb23 d0; have d1 := kept hb23 d1; have hx := hx.below hb23; have hy := hy.below hb23; have hz := hz.below hb23; have hJ := hJ.below hb23; have h5 := h5.below hb23
       go_wp2_with fail
       have hz1 : Below wq.heap.size wq w23 := bwT
       first | (refine hK _ _ ⟨hz1, ?_⟩; clear hK K) | refine ⟨hz1, ?_⟩
       clear hz1
       refine norm_K fun K hK => ?_
       change wpList _ _ _ [_, _, _, _] _ _
       go_wp2_with fail
       refine (htr _ _ k j r hs h6.el).mono ?_; rintro e w24 ⟨rfl, hb24⟩
       have hs := hs.below hb24; have d0 := kept hb24 d0; have d1 := kept hb24 d1; have hx := hx.below hb24; have hy := hy.below hb24; have hz := hz.below hb24; have hJ := hJ.below hb24; have h5 := h5.below hb24; have h6 := h6.below hb24
       rw [<- HZ_.out]
       have hby : Below wr.heap.size wr w24 := bwT
       have hzy := hby.size
       go_wp2_with (at_builtin; refine app_one rfl _ _ rfl w24 wb.heap.size q r cap3 _ rfl z _ rfl hJ (by omega) (by omega) ?_; intro g' cap' w' hown' hb' hg' hgg)
       first | (refine hK _ _ ⟨rfl, ?_⟩; clear hK K) | refine ⟨rfl, ?_⟩
       go_wp2_with fail
       go_roundw
       case rel => exact ⟨r + 1, g', cap', by omega, by go_num, rfl, by rw [hst.out]; exact hown', by have := hch3.size; rcases hgg with rfl | rfl <;> omega, grow_chg (hch3.trans (Chg.below hby)) hg' hqr⟩
       case measure => simp [intOf]; omega
      ·obtain rfl : r = n := by omega
       have hst : Hid ((List.range (j + 1)).map (fun j => (List.range r).map fun x => F k j x) = (List.range j).map (fun j => (List.range r).map fun x => F k j x) ++ [(List.range r).map fun x => F k j x]) := Lib.hid (by rw [List.range_succ, List.map_append]; rfl)
       have hzb : wa.heap.size <= wb.heap.size := hb5.size
       have hJf := hJ.fr.more (B' := wa.heap.size) hzb
       have hJl := hJ.len
       have hI := HI.out.below hb8; have hR := HR.out.below hb8
       obtain ⟨xs, hxs⟩ : ∃ xs, xs = (List.range r).map fun x => F k j x := ⟨_, rfl⟩
       rw [<- hxs] at hst hJf hJl
       have HJL := Lib.hid hJl
       clear hxs hJl hJ
       go_wp2_with (at_builtin; refine appr_one rfl _ _ rfl wr wa.heap.size wr.heap.size rfl (.slice (some ⟨h, 0, none⟩) us2.length cap2) us2 rfl (.slice (some ⟨q, 0, none⟩) r cap3) 1 rfl rfl hI (by omega) (by have := HUL2.out; omega) ?_; intro g' cap' w' ho' hb' hg' hge)
       go_roundw
       case rel => exact ⟨j + 1, g', cap', us2 ++ [.slice (some ⟨q, 0, none⟩) r cap3], by omega, by go_num, by simp, by simp [HUL2.out], by simpa using ho', by rw [hst.out]; exact (hR.app hI hg').snoc (hJf.app hI hg'), by have h1 := hch2.size; rcases hge with e | e; exact (Option.some.inj e) ▸ hhr; omega, grow_chg (hch2.trans (Chg.below hb8)) hg' hhr⟩
       case measure => simp [intOf]; omega
    ·obtain rfl : j = n := by omega
     have hst : Hid ((List.range (k + 1)).map (fun i => (List.range j).map fun y => (List.range j).map fun x => F i y x) = (List.range k).map (fun i => (List.range j).map fun y => (List.range j).map fun x => F i y x) ++ [(List.range j).map fun y => (List.range j).map fun x => F k y x]) := Lib.hid (by rw [List.range_succ, List.map_append]; rfl)
     have hza : u.heap.size <= wa.heap.size := hb.size
     have hP : PlF wr u.heap.size (.slice (some ⟨h, 0, none⟩) us2.length cap2) ((List.range j).map fun y => (List.range j).map fun x => F k y x) := PlF.more (B := wa.heap.size) ⟨h, cap2, us2, rfl, hI, hR⟩ hza
     have hown := HOW.out.below hb5; have hpl := HPL.out.below hb5
     have hz5 := hb5.size
     clear hI hR
     go_wp2_with (at_builtin; refine appm_one rfl _ _ rfl wr u.heap.size wr.heap.size rfl (.slice (some ⟨g, 0, none⟩) us.length cap) us rfl (.slice (some ⟨h, 0, none⟩) us2.length cap2) 1 rfl rfl hown (by omega) (by have := HUL.out; omega) ?_; intro g' cap' w' ho' hb' hg' hge)
     go_roundw
     case rel => exact ⟨k + 1, g', cap', us ++ [.slice (some ⟨h, 0, none⟩) us2.length cap2], by omega, by go_num, by simp, by simp [HUL.out], by simpa using ho', by rw [hst.out]; exact (hpl.app hown hg').snoc (hP.app hown hg'), by have h1 := hch.size; rcases hge with e | e; exact (Option.some.inj e) ▸ hgr; omega, grow_chg (hch.trans (Chg.below hb5)) hg' hgr⟩
     case measure => simp [intOf]; omega
  ·obtain rfl : k = n := by omega
   have hC := hpl.cu hown
   go_wp2_with fail
   go_ret
   exact ⟨g, cap, by rw [HUL.out]; rfl, hC, bwC hbW hb⟩

theorem farc {w w' : World} {row : Option Nat} (hg : w.grownBy w' row) {b o : Nat} {v : Value} (h : w.cell? ⟨b, o, none⟩ = some v) (hne : some b ≠ row) : w'.cell? ⟨b, o, none⟩ = some v :=
 hg.cell h hne
theorem OwH.set_ {w : World} {B : Nat} {v : Value} {X : Her} (h : OwH w B v X) {p : Addr} (hp : p.block < B) (u : Value) : OwH (w.setCell p u) B v X := by
 rcases h with h | h
 ·exact .inl h
 ·exact .inr (h.set_ hp u)
theorem OwH.hr {w : World} {B : Nat} {v : Value} {X : Her} (h : OwH w B v X) : Hr w v X := h.hv.hr
theorem Hs.none : Hs ⟨[], []⟩ := ⟨⟨by simp, by simp, fun xs hx => by simp at hx⟩, by simp [sumL]⟩
structure Msz (M : List (List Int)) : Prop where
 h2 : M.length <= 1048576
 h3 : ∀ xs ∈ M, xs.length <= 1048576
 sum : sumL M <= 10000000
theorem FrR.rs {w : World} {B : Nat} {v : Value} {us : List Value} {xss : List (List Int)} (h : FrR w B v us xss) : Rs w v xss := h.re.rs
theorem RgR.chg {w w' : World} {lo hi lo' hi' : Nat} {v : Value} {us : List Value} {xss : List (List Int)} (h : RgR w lo' hi' v us xss) (hc : Chg lo hi w w') (hr : hi <= lo') : RgR w' lo' hi' v us xss := by
 obtain ⟨⟨k1, k2, k3, k4⟩, h5⟩ := h
 have far : ∀ {v : Value} {xs : List Int}, OwI w lo' v xs -> OwI w' lo' v xs := fun ho => OwI.chg hc ho (fun g hg => .inr (Nat.le_trans hr (ho.blk g hg).1))
 refine ⟨⟨k1, fun j a b => far (k2 j a b), k3, k4⟩, ?_⟩
 rcases h5 with h5 | ⟨g, cap, rfl, h6, h7, h8⟩
 ·exact .inl h5
 ·exact .inr ⟨g, cap, rfl, ⟨h6.1, Nat.lt_of_lt_of_le h6.2 hc.size⟩, fun j a => hc.cell (h7 j a) (.inr (by omega)), h8⟩
def Tri (w : World) (v : Value) (A B C : List (List Int)) : Prop := ∃ a b c, v = .agg #[a, b, c] /\ Rs w a A /\ Rs w b B /\ Rs w c C
def Tv (w : World) (v : Value) (A B C : List (List Int)) : Prop := ∃ a b c, v = .agg #[a, b, c] /\ Re w a A /\ Re w b B /\ Re w c C
structure Tsz (A B C : List (List Int)) : Prop where
 a : Msz A
 b : Msz B
 c : Msz C
section
variable {w w' : World} {v : Value} {A B C : List (List Int)}
theorem Tri.below (h : Tri w v A B C) (hb : Below w.heap.size w w') : Tri w' v A B C := by
 obtain ⟨a, b, c, rfl, h1, h2, h3⟩ := h
 exact ⟨a, b, c, rfl, h1.below hb, h2.below hb, h3.below hb⟩
theorem Tv.below (h : Tv w v A B C) (hb : Below w.heap.size w w') : Tv w' v A B C := by
 obtain ⟨a, b, c, rfl, h1, h2, h3⟩ := h
 exact ⟨a, b, c, rfl, h1.below hb, h2.below hb, h3.below hb⟩
theorem Tv.tr (h : Tv w v A B C) : Tri w v A B C := by
 obtain ⟨a, b, c, rfl, h1, h2, h3⟩ := h
 exact ⟨a, b, c, rfl, h1.rs, h2.rs, h3.rs⟩
end
def Bt (w : World) (b : Nat) (x y z : Value) : Prop := w.heap[b]? = some (.cells #[x, y, z] 29 (0, 0))
section
variable {w w' : World} {b : Nat} {x y z : Value}
theorem Bt.lt (h : Bt w b x y z) : b < w.heap.size := (Array.getElem?_eq_some_iff.1 h).1
theorem Bt.c0 (h : Bt w b x y z) : w.cell? ⟨b, 0, none⟩ = some x := by
 unfold Bt at h; simp [World.cell?, h]
theorem Bt.c1 (h : Bt w b x y z) : w.cell? ⟨b, 1, none⟩ = some y := by
 unfold Bt at h; simp [World.cell?, h]
theorem Bt.c2 (h : Bt w b x y z) : w.cell? ⟨b, 2, none⟩ = some z := by
 unfold Bt at h; simp [World.cell?, h]
theorem Bt.f (h : Bt w b x y z) (i : Nat) : w.frozen? ⟨b, i, none⟩ = false := frozen_of_row _ _ _ _ _ h
theorem Bt.below (h : Bt w b x y z) (hb : Below w.heap.size w w') : Bt w' b x y z := by
 have hl := h.lt
 unfold Bt at h ⊢
 rw [hb.block b hl]; exact h
theorem Bt.set0 (h : Bt w b x y z) (v : Value) : Bt (w.setCell ⟨b, 0, none⟩ v) b v y z := heap_setCell_same _ _ _ _ _ _ h
theorem Bt.set1 (h : Bt w b x y z) (v : Value) : Bt (w.setCell ⟨b, 1, none⟩ v) b x v z := heap_setCell_same _ _ _ _ _ _ h
theorem Bt.set2 (h : Bt w b x y z) (v : Value) : Bt (w.setCell ⟨b, 2, none⟩ v) b x y v := heap_setCell_same _ _ _ _ _ _ h
theorem Bt.far (h : Bt w b x y z) {p : Addr} (hp : b ≠ p.block) (v : Value) : Bt (w.setCell p v) b x y z := by
 unfold Bt at h ⊢
 rw [Below.heap_setCell _ _ _ _ hp]; exact h
end
end Go.Proofs.YteaaepbnoiecoaaGreat
