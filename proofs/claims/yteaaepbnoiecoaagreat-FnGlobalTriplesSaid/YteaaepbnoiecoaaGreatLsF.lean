import Derived.Test.YteaaepbnoiecoaaGreatJar
import Derived.Test.YteaaepbnoiecoaaGreatJak
namespace Go.Proofs.YteaaepbnoiecoaaGreat
open Go.RowKit
def Blk (w : World) (v : Value) : Prop := ∀ b off sp n c, v = .slice (some ⟨b, off, sp⟩) n c -> ∃ cs T, w.heap[b]? = some (.cells cs T (0, 0))
def ElF (w : World) (B : Nat) (v : Value) (xs : List Int) : Prop := ElR w B v xs /\ Blk w v
def ReG (w : World) (B : Nat) (v : Value) (xss : List (List Int)) : Prop :=
 ∃ a c, v = .slice a xss.length c /\ xss.length <= c /\ c <= 9223372036854775807 /\ (xss = [] \/ ∃ b off, a = some ⟨b, off, none⟩ /\ B <= b /\ ∀ j (h : j < xss.length), ∃ u, w.cell? ⟨b, off + j, none⟩ = some u /\ ElF w B u xss[j])
section
variable {w w' : World} {B B' : Nat} {v : Value} {xs : List Int} {xss : List (List Int)} {us : List Value}
theorem ElF.keep (h : ElF w B v xs) (hz : w.heap.size <= w'.heap.size) (hk : ∀ b, B <= b -> b < w.heap.size -> w'.heap[b]? = w.heap[b]?) : ElF w' B v xs := by
 obtain ⟨h1, h2⟩ := h
 have hb : ∀ b off sp n c, v = .slice (some ⟨b, off, sp⟩) n c -> w'.heap[b]? = w.heap[b]? := fun b off sp n c e => hk b (h1.2 _ _ _ _ _ e).1 (h1.2 _ _ _ _ _ e).2
 exact ⟨h1.keep hz hb, fun b off sp n c e => by rw [hb b off sp n c e]; exact h2 b off sp n c e⟩
theorem ElF.below (h : ElF w B v xs) (hb : Below w.heap.size w w') : ElF w' B v xs := h.keep hb.size fun b _ h2 => hb.block b h2
theorem ElF.chg {lo hi : Nat} (h : ElF w B v xs) (hc : Chg lo hi w w') (hr : hi <= B) : ElF w' B v xs := h.keep hc.size fun b h1 h2 => hc.block b h2 (.inr (Nat.le_trans hr h1))
theorem ElF.more (h : ElF w B v xs) (hB : B' <= B) : ElF w B' v xs := ⟨h.1.more hB, h.2⟩
theorem OwnI.blk {g n cap : Nat} (h : OwnI w B g n cap xs) : ∃ cs T, w.heap[g]? = some (.cells cs T (0, 0)) := by
 obtain ⟨cur, hh, _⟩ := h.row
 exact ⟨_, _, hh⟩
theorem FrI.elf (h : FrI w B v xs) : ElF w B v xs := by
 refine ⟨h.elr, fun b off sp n c e => ?_⟩
 obtain ⟨g, cap, rfl, ho⟩ := h
 cases e
 exact ho.blk
theorem OwN.elf (h : OwN w B v xs) : ElF w B v xs := by
 refine ⟨h.elr, fun b off sp n c e => ?_⟩
 rcases h.2 with h2 | ⟨g, cap, cur, rfl, hg, hh, _⟩
 ·rw [h2.1] at e; cases e
 ·cases e; exact ⟨_, _, hh⟩
theorem ReG.rer (h : ReG w B v xss) : ReR w B v xss := by
 obtain ⟨a, c, rfl, h1, h2, h⟩ := h
 refine ⟨a, c, rfl, h1, h2, ?_⟩
 rcases h with h | ⟨b, off, rfl, hB, h⟩
 ·exact .inl h
 ·exact .inr ⟨b, off, rfl, hB, fun j hj => by obtain ⟨u, hu, he⟩ := h j hj; exact ⟨u, hu, he.1⟩⟩
theorem ReG.re (h : ReG w B v xss) : Re w v xss := h.rer.re
theorem ReG.shape (h : ReG w B v xss) : ∃ a c, v = .slice a xss.length c := by
 obtain ⟨a, c, rfl, _⟩ := h
 exact ⟨a, c, rfl⟩
theorem ReG.keep (h : ReG w B v xss) (hz : w.heap.size <= w'.heap.size) (hk : ∀ b, B <= b -> b < w.heap.size -> w'.heap[b]? = w.heap[b]?) : ReG w' B v xss := by
 obtain ⟨a, c, rfl, h1, h2, h⟩ := h
 refine ⟨a, c, rfl, h1, h2, ?_⟩
 rcases h with h | ⟨b, off, rfl, hB, h⟩
 ·exact .inl h
 ·refine .inr ⟨b, off, rfl, hB, fun j hj => ?_⟩
  obtain ⟨u, hu, he⟩ := h j hj
  have hlt := World.block_lt_of_cell? w _ hu
  exact ⟨u, by rw [World.cell?_of_block (w := w) (hk b hB hlt)]; exact hu, he.keep hz hk⟩
theorem ReG.below (h : ReG w B v xss) (hb : Below w.heap.size w w') : ReG w' B v xss := h.keep hb.size fun b _ hb2 => hb.block b hb2
theorem ReG.chg {lo hi : Nat} (h : ReG w B v xss) (hc : Chg lo hi w w') (hr : hi <= B) : ReG w' B v xss := h.keep hc.size fun b h1 h2 => hc.block b h2 (.inr (Nat.le_trans hr h1))
theorem ReG.set (h : ReG w B v xss) {q : Addr} (hq : q.block < B) (u : Value) : ReG (w.setCell q u) B v xss := h.keep (by simp) fun b h1 _ => Below.heap_setCell _ _ _ _ (by omega)
theorem ReG.more (h : ReG w B v xss) (hB : B' <= B) : ReG w B' v xss := by
 obtain ⟨a, c, rfl, h1, h2, h⟩ := h
 refine ⟨a, c, rfl, h1, h2, ?_⟩
 rcases h with h | ⟨b, off, rfl, hB2, h⟩
 ·exact .inl h
 ·exact .inr ⟨b, off, rfl, Nat.le_trans hB hB2, fun j hj => by obtain ⟨u, hu, he⟩ := h j hj; exact ⟨u, hu, he.more hB⟩⟩
theorem ReG.of {us : List Value} (ho : OwV w B v us) (hr : RowsA w B us xss) (hf : ∃ g cap, v = .slice (some ⟨g, 0, none⟩) us.length cap) : ReG w B v xss := by
 obtain ⟨g, cap, rfl⟩ := hf
 have hul := hr.1
 by_cases h0 : 0 < us.length
 ·obtain ⟨g2, cap2, e, h1, h2, h3, _, h4⟩ := ho.cellsR h0
  cases e
  have hx1 : xss.length <= cap := by omega
  exact ⟨_, cap, by rw [hul], hx1, h2, .inr ⟨g, 0, rfl, h3, fun j hj => ⟨us[j]'(by omega), by rw [Nat.zero_add]; exact h4 j (by omega), (hr.2.1 j (by omega) hj).elf⟩⟩⟩
 ·have hx : xss = [] := List.eq_nil_of_length_eq_zero (by omega)
  rcases ho.2 with h2 | ⟨g', cap', cur, e, _, _, _, h4, _⟩
  ·cases h2.1
  ·cases e
   simp only [maxLen] at h4
   exact ⟨_, cap, by rw [hul], by rw [hx]; simp, by omega, .inl hx⟩
structure LsF (w : World) (B : Nat) (v : Value) (us : List Value) (xss : List (List Int)) : Prop where
 r : LsR w B v us xss
 f : ∀ u ∈ us, Blk w u
theorem LsF.own (h : LsF w B v us xss) : OwV w B v us := h.r.own
theorem LsF.len (h : LsF w B v us xss) : us.length = xss.length := h.r.len
theorem LsF.form (h : LsF w B v us xss) : ∃ a c, v = .slice a us.length c := h.r.form
theorem LsF.new (hB : B <= w.heap.size) : LsF (w.alloc (.cells #[] 24)) B (.slice (some ⟨w.heap.size, 0, none⟩) 0 0) [] [] := ⟨LsR.new hB, fun u hu => by simp at hu⟩
theorem LsF.below (h : LsF w B v us xss) (hb : Below w.heap.size w w') : LsF w' B v us xss := ⟨h.r.below hb, fun u hu b off sp n c e => by
 obtain ⟨cs, T, hh⟩ := h.f u hu b off sp n c e
 exact ⟨cs, T, by rw [hb.block b (Array.getElem?_eq_some_iff.1 hh).1]; exact hh⟩⟩
theorem LsF.fresh (h : LsF w B v us xss) {z : Value} {xs : List Int} (hz : ElR w' w.heap.size z xs) : ∀ b off sp n c, z = .slice (some ⟨b, off, sp⟩) n c -> v.ownBlock ≠ some b := h.r.fresh hz
theorem LsF.snoc {W : World} (h : LsF W B v us xss) {z nv : Value} {xs : List Int} {g' : Nat} (hz : ElF W B z xs) (hzn : ∀ b off sp n c, z = .slice (some ⟨b, off, sp⟩) n c -> v.ownBlock ≠ some b) (hn : nv.ownBlock = some g') (ho : OwV w' B nv (us ++ [z])) (hb : Below B W w') (hg : W.grownBy w' v.ownBlock) (hge : v.ownBlock = some g' \/ g' = W.heap.size + 1) :
  LsF w' B nv (us ++ [z]) (xss ++ [xs]) := by
 have hk : ∀ {y}, Blk W y -> (∀ b off sp n c, y = .slice (some ⟨b, off, sp⟩) n c -> v.ownBlock ≠ some b) -> Blk w' y := by
  intro y hy hne b off sp n c e
  obtain ⟨cs, T, hh⟩ := hy b off sp n c e
  exact ⟨cs, T, by rw [hg.block b (Array.getElem?_eq_some_iff.1 hh).1 (fun e2 => (hne _ _ _ _ _ e) e2.symm)]; exact hh⟩
 refine ⟨h.r.snoc hz.1 hzn hn ho hb hg hge, fun u hu => ?_⟩
 rcases List.mem_append.1 hu with hu | hu
 ·exact hk (h.f u hu) (h.r.ne u hu)
 ·rw [List.mem_singleton.1 hu]; exact hk hz.2 hzn
theorem LsF.reg (h : LsF w B v us xss) : ReG w B v xss := by
 obtain ⟨a, c, rfl, h1, h2, hx⟩ := h.r.rer
 refine ⟨a, c, rfl, h1, h2, ?_⟩
 rcases hx with hx | ⟨b, off, rfl, hB, _⟩
 ·exact .inl hx
 ·have hul := h.len
  by_cases h0 : 0 < us.length
  ·obtain ⟨g, cap, e, _, _, h3, _, h4⟩ := h.own.cellsR h0
   simp only [Value.slice.injEq, Option.some.injEq, Addr.mk.injEq] at e
   obtain ⟨⟨rfl, rfl, _⟩, _, rfl⟩ := e
   exact .inr ⟨b, 0, rfl, hB, fun j hj => ⟨us[j]'(by omega), by rw [Nat.zero_add]; exact h4 j (by omega), h.r.els j (by omega) hj, h.f _ (List.getElem_mem _)⟩⟩
  ·exact .inl (List.eq_nil_of_length_eq_zero (by omega))
end
set_option maxHeartbeats 4000000 in
theorem scolsF_c {M : Value} {L : List (List Int)} {w : World} (hr : Re w M L) (hL : ∀ r ∈ L, r.length = L.length) (h0 : 0 < L.length) (hn : L.length <= 1000) :
  Calls Tryz.prog 88 #[M] w fun e w' => ∃ v, e = .returned v /\ ReG w' w.heap.size v (trL L L.length) /\ Below w.heap.size w w' := by
 obtain ⟨ar, cr, rfl, hr1, hr2, hR⟩ := hr
 obtain ⟨b, off, rfl, hcell⟩ := hR.resolve_left (fun e => by rw [e] at h0; simp at h0)
 have HL := Lib.hid hL; clear hL
 have h0i : (0 : Int) < L.length := by omega
 have hb0 : Below w.heap.size w (w.alloc (.cells #[] 24)) := bwT
 have hl0 := LsF.new (w := w) (B := w.heap.size) (Nat.le_refl _)
 go_enter Tryz.func88, Tryz.ntmps88
 go_wp2_with fail
 go_loopw [3, 4] (fun o q wr => ∃ (k : Nat) (us : List Value), k <= L.length /\ q = .int .i64 k /\ LsF wr w.heap.size o us (trL L k) /\ Below w.heap.size w wr) (fun _ q _ => L.length - (intOf q).toNat)
 case atStart => exact ⟨0, [], Nat.zero_le _, rfl, hl0, hb0⟩
 case round =>
  clear hl0 hb0
  obtain ⟨k, us, hk, rfl, hl, hbr⟩ := hrel
  obtain ⟨al, cl, rfl⟩ := hl.form
  have hul := hl.len; rw [trL_len] at hul
  have HUL := Lib.hid hul; clear hul
  by_cases hlt : k < L.length
  ·have hlti : (k : Int) < L.length := by omega
   generalize wr = wo at *
   have hb2 : Below wo.heap.size wo (wo.alloc (.cells #[] 2)) := bwT
   have ho2 := OwnI.new (w := wo) (B := wo.heap.size) (Nat.le_refl _)
   go_wp2_with fail
   go_loopw [5, 6] (fun o q wr => ∃ (j g cap : Nat), j <= L.length /\ q = .int .i64 j /\ o = .slice (some ⟨g, 0, none⟩) j cap /\ OwnI wr wo.heap.size g j cap (colL (L.take j) k) /\ Below wo.heap.size wo wr) (fun _ q _ => L.length - (intOf q).toNat)
   case atStart => exact ⟨0, wo.heap.size, 0, Nat.zero_le _, rfl, rfl, ho2, hb2⟩
   case round =>
    clear hb2 ho2
    obtain ⟨j, g, cap, hj, rfl, rfl, hown, hb3⟩ := hrel
    by_cases hlt2 : j < L.length
    ·have hlt2i : (j : Int) < L.length := by omega
     obtain ⟨a3, c3, t, ht, hc, hE, htk⟩ := Re.get hcell hlt2
     have hsl : k < t.length := by rw [HL.out t ht]; exact hlt
     have hsli : (k : Int) < t.length := by omega
     obtain ⟨b2, o2, rfl, hx⟩ := Sl.cellat hE.sl hsl
     have hc := kept hb3 (kept hbr hc)
     have hx := kept hb3 (kept hbr hx)
     have HT := Lib.hid (col_take (i := k) htk); clear htk
     obtain ⟨z, hz⟩ : ∃ z, z = t.getD k 0 := ⟨_, rfl⟩
     rw [<- hz] at hx HT
     clear hz
     go_wp2_with (at_builtin; refine app_one rfl _ _ rfl wr wo.heap.size g j cap _ rfl z _ rfl hown hb3.size (by omega) ?_; intro g' cap' w' hown' hb' hg' hgg)
     go_roundw
     case rel => exact ⟨j + 1, g', cap', by omega, by go_num, rfl, by rw [HT.out]; exact hown', hb3.trans hb'⟩
     case measure => simp [intOf]; omega
    ·obtain rfl : j = L.length := by omega
     rw [take_all (Nat.le_refl _)] at hown
     have hlf : ¬ (L.length : Int) < L.length := by omega
     have hb4 := hb3.size
     have hE := hown.fr.elf
     have hzn := hl.fresh hE.1
     have hl3 := hl.below hb3
     have hb5 := hbr.trans (hb3.mono hbr.size)
     have hwo := hbr.size
     clear hl hb3 hbr
     go_wp2_with (at_builtin; refine appr_one rfl _ _ rfl wr w.heap.size _ rfl (.slice al us.length cl) us rfl (.slice (some ⟨g, 0, none⟩) L.length cap) 1 rfl rfl hl3.own hb5.size (by have := HUL.out; omega) ?_; intro g' cap' w8 hown' hgb' hg' hge)
     have hl8 := hl3.snoc (hE.more hwo) hzn (nv := .slice (some ⟨g', 0, none⟩) (us.length + 1) cap') rfl hown' hgb' hg' hge
     go_roundw
     case rel => exact ⟨k + 1, _, by omega, by go_num, by rw [trL_succ]; exact hl8, hb5.trans hgb'⟩
     case measure => simp [intOf]; omega
  ·obtain rfl : k = L.length := by omega
   have hlf : ¬ (L.length : Int) < L.length := by omega
   go_wp2_with fail
   go_ret
   exact ⟨_, rfl, hl.reg, hbr⟩
end Go.Proofs.YteaaepbnoiecoaaGreat
