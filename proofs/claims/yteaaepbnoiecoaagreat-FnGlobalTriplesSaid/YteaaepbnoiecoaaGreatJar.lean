/- Texts joined for a claim: LsR, TrV. -/
import Derived.Test.YteaaepbnoiecoaaGreatHeJ
import Derived.Test.YteaaepbnoiecoaaGreatTrA
namespace Go.Proofs.YteaaepbnoiecoaaGreat
open Go.RowKit
theorem OwV.chgR {w w' : World} {B lo hi : Nat} {v : Value} {us : List Value} (ho : OwV w B v us) (h : Chg lo hi w w') (hr : hi <= B) : OwV w' B v us :=
 ownsRow_chg h ho (fun g hg => .inr (Nat.le_trans hr (OwV.lt ho g hg).1))
theorem OwV.formR {w : World} {B : Nat} {v : Value} {us : List Value} (h : OwV w B v us) : ∃ a c, v = .slice a us.length c := by
 rcases h.2 with h2 | ⟨g', cap', cur, rfl, _⟩
 ·have := h2.2
  cases us with
  | nil => exact ⟨_, _, h2.1⟩
  | cons x r => simp at this
 ·exact ⟨_, _, rfl⟩
theorem OwV.cellsR {w : World} {B : Nat} {v : Value} {us : List Value} (h : OwV w B v us) (h0 : 0 < us.length) : ∃ g cap, v = .slice (some ⟨g, 0, none⟩) us.length cap /\ us.length <= cap /\ cap <= 9223372036854775807 /\ B <= g /\ g < w.heap.size /\ ∀ j (hj : j < us.length), w.cell? ⟨g, j, none⟩ = some us[j] := by
 obtain ⟨g, cap, rfl, _⟩ := World.ownsRow.form h h0
 have hlt := h.lt g rfl
 rcases h.2 with h2 | ⟨g', cap', cur, hv, hg', hh, h3, h4, _⟩
 ·cases h2.1
 ·cases hv
  simp only [maxLen] at h4
  refine ⟨g, cap, rfl, by omega, by omega, hlt.1, hlt.2, fun j hj => ?_⟩
  have := World.ownsRow.cells h (g := g) rfl j us[j] (by simp)
  rw [addz] at this
  exact this
theorem leN_snoc {m : Nat} {up : List (List Int)} {xs : List Int} (h : ∀ ys ∈ up, ys.length <= m) (h2 : xs.length <= m) : ∀ ys ∈ up ++ [xs], ys.length <= m := fun ys hy => by
 rcases List.mem_append.1 hy with hy | hy
 ·exact h ys hy
 ·rw [List.mem_singleton.1 hy]; exact h2
structure LsR (w : World) (B : Nat) (v : Value) (us : List Value) (xss : List (List Int)) : Prop where
 own : OwV w B v us
 len : us.length = xss.length
 els : ∀ j (a : j < us.length) (b : j < xss.length), ElR w B us[j] xss[j]
 ne : ∀ z ∈ us, ∀ b off sp n c, z = .slice (some ⟨b, off, sp⟩) n c -> v.ownBlock ≠ some b
section
variable {w w' : World} {B B' : Nat} {v : Value} {us : List Value} {xss : List (List Int)}
theorem OwV.more_ (h : OwV w B v us) (hB : B' <= B) : OwV w B' v us := by
 refine ⟨h.1, ?_⟩
 rcases h.2 with h2 | ⟨g, cap, cur, e, h3, h4⟩
 ·exact .inl h2
 ·exact .inr ⟨g, cap, cur, e, Nat.le_trans hB h3, h4⟩
theorem LsR.nil (w : World) (B : Nat) : LsR w B (.slice none 0 0) [] [] := ⟨OwV.nil _ _, rfl, fun j h => by simp at h, fun z hz => by simp at hz⟩
theorem LsR.new (hB : B <= w.heap.size) : LsR (w.alloc (.cells #[] 24)) B (.slice (some ⟨w.heap.size, 0, none⟩) 0 0) [] [] := ⟨OwV.new hB, rfl, fun j h => by simp at h, fun z hz => by simp at hz⟩
theorem LsR.chg {lo hi : Nat} (h : LsR w B v us xss) (hc : Chg lo hi w w') (hr : hi <= B) : LsR w' B v us xss := ⟨h.own.chgR hc hr, h.len, fun j a b => (h.els j a b).chg hc hr, h.ne⟩
theorem LsR.below (h : LsR w B v us xss) (hb : Below w.heap.size w w') : LsR w' B v us xss := ⟨h.own.below hb, h.len, fun j a b => (h.els j a b).below hb, h.ne⟩
theorem LsR.more (h : LsR w B v us xss) (hB : B' <= B) : LsR w B' v us xss := ⟨h.own.more_ hB, h.len, fun j a b => (h.els j a b).more hB, h.ne⟩
theorem LsR.fresh (h : LsR w B v us xss) {z : Value} {xs : List Int} (hz : ElR w' w.heap.size z xs) : ∀ b off sp n c, z = .slice (some ⟨b, off, sp⟩) n c -> v.ownBlock ≠ some b := fun b off sp n c e e2 => by
 have h1 := (hz.2 _ _ _ _ _ e).1
 have := (h.own.lt b e2).2
 omega
theorem LsR.snoc {W : World} (h : LsR W B v us xss) {z nv : Value} {xs : List Int} {g' : Nat} (hz : ElR W B z xs) (hzn : ∀ b off sp n c, z = .slice (some ⟨b, off, sp⟩) n c -> v.ownBlock ≠ some b) (hn : nv.ownBlock = some g') (ho : OwV w' B nv (us ++ [z])) (hb : Below B W w') (hg : W.grownBy w' v.ownBlock) (hge : v.ownBlock = some g' \/ g' = W.heap.size + 1) :
  LsR w' B nv (us ++ [z]) (xss ++ [xs]) := by
 have hk : ∀ {y ys}, ElR W B y ys -> (∀ b off sp n c, y = .slice (some ⟨b, off, sp⟩) n c -> v.ownBlock ≠ some b) -> ElR w' B y ys /\ ∀ b off sp n c, y = .slice (some ⟨b, off, sp⟩) n c -> nv.ownBlock ≠ some b := by
  intro y ys hy hne
  refine ⟨hy.keep hb.size fun b' off sp n c e => ?_, fun b off sp n c e => ?_⟩
  ·exact hg.block b' (hy.2 _ _ _ _ _ e).2 (fun e2 => (hne _ _ _ _ _ e) e2.symm)
  ·rw [hn]
   rcases hge with e2 | e2
   ·rw [<- e2]; exact hne b off sp n c e
   ·have := (hy.2 _ _ _ _ _ e).2
    intro e3; cases e3; omega
 refine ⟨ho, by simp [h.len], fun j a b => ?_, fun y hy => ?_⟩
 ·rw [List.length_append] at a
  simp at a
  by_cases hj : j < us.length
  ·have := h.len
   rw [List.getElem_append_left hj, List.getElem_append_left (by omega)]
   exact (hk (h.els j hj (by omega)) (h.ne _ (List.getElem_mem hj))).1
  ·obtain rfl : j = us.length := by omega
   have e := h.len
   have h1 : (us ++ [z])[us.length]'(by simp) = z := by simp
   have h2 : (xss ++ [xs])[us.length]'(by simp [e]) = xs := by simp [e]
   rw [h1, h2]; exact (hk hz hzn).1
 ·rcases List.mem_append.1 hy with hy | hy
  ·obtain ⟨j, hj, rfl⟩ := List.getElem_of_mem hy
   exact (hk (h.els j hj (by have := h.len; omega)) (h.ne _ hy)).2
  ·rw [List.mem_singleton.1 hy]; exact (hk hz hzn).2
theorem LsR.rer (h : LsR w B v us xss) : ReR w B v xss := by
 cases us with
 | nil =>
  have hul := h.len
  cases xss with
  | cons x r => simp at hul
  | nil =>
   rcases h.own.2 with h2 | ⟨g', cap', cur, rfl, _, _, _, h4, _⟩
   ·rw [h2.1]; exact ⟨none, 0, rfl, Nat.le_refl _, by decide, .inl rfl⟩
   ·simp only [maxLen] at h4
    exact ⟨_, cap', rfl, by simp, by omega, .inl rfl⟩
 | cons z r =>
  obtain ⟨g, cap, rfl, h1, h2, h3, _, h4⟩ := h.own.cellsR (by simp)
  have hul := h.len
  have hx1 : xss.length <= cap := by omega
  refine ⟨_, cap, by rw [hul], hx1, h2, .inr ⟨g, 0, rfl, h3, fun j hj => ?_⟩⟩
  have hj2 : j < xss.length := hj
  have hj3 : j < (z :: r).length := by omega
  exact ⟨(z :: r)[j]'hj3, by rw [Nat.zero_add]; exact h4 j hj3, h.els j hj3 hj2⟩
theorem LsR.form (h : LsR w B v us xss) : ∃ a c, v = .slice a us.length c := h.own.formR
theorem LsR.get (h : LsR w B v us xss) {j : Nat} (hj : j < xss.length) : ∃ g cap u, v = .slice (some ⟨g, 0, none⟩) us.length cap /\ B <= g /\ g < w.heap.size /\ (∃ cs T fr, w.heap[g]? = some (.cells cs T fr)) /\ w.cell? ⟨g, j, none⟩ = some u /\ ElR w B u xss[j] := by
 have hul := h.len
 obtain ⟨g, cap, e, _, _, h3, h4, h5⟩ := h.own.cellsR (by omega)
 rcases h.own.2 with ⟨_, h6⟩ | ⟨g2, cap2, cur, e2, hg, hh, _⟩
 ·omega
 ·rw [e] at e2; cases e2
  exact ⟨g, cap, us[j], e, h3, h4, ⟨_, _, _, hh⟩, h5 j (by omega), h.els j (by omega) hj⟩
end
def trL (L : List (List Int)) (n : Nat) : List (List Int) := (List.range n).map (colL L)
theorem trL_succ {L : List (List Int)} {k : Nat} : trL L (k + 1) = trL L k ++ [colL L k] := by unfold trL; rw [List.range_succ, List.map_append]; rfl
theorem trL_len {L : List (List Int)} {n : Nat} : (trL L n).length = n := by simp [trL]
set_option maxHeartbeats 4000000 in
theorem transp_c {M : Value} {L : List (List Int)} {n : Nat} {w : World} (hr : Re w M L) (hL : ∀ r ∈ L, r.length = n) (h0 : 0 < L.length) (hn : L.length <= 1000) (hn2 : n <= 1000) :
  Calls Tryz.prog 82 #[M] w fun e w' => ∃ v, e = .returned v /\ ReR w' w.heap.size v (trL L n) /\ Below w.heap.size w w' := by
 obtain ⟨ar, cr, rfl, hr1, hr2, hR⟩ := hr
 obtain ⟨b, off, rfl, hcell⟩ := hR.resolve_left (fun e => by rw [e] at h0; simp at h0)
 obtain ⟨a2, c2, s, hs, hc0, hE0, _⟩ := Re.get hcell h0
 obtain rfl := hL s hs
 have HL := Lib.hid hL; clear hL
 have h0i : (0 : Int) < L.length := by omega
 have hb0 : Below w.heap.size w (w.alloc (.cells #[] 24)) := bwT
 have hl0 := LsR.new (w := w) (B := w.heap.size) (Nat.le_refl _)
 have hc0 := kept hb0 hc0
 rw [Nat.add_zero] at hc0
 clear hR
 go_enter Tryz.func82, Tryz.ntmps82
 go_wp2_with fail
 go_loopw [3, 12] (fun o q wr => ∃ (k : Nat) (us : List Value), k <= s.length /\ q = .int .i64 k /\ LsR wr w.heap.size o us (trL L k) /\ Below w.heap.size w wr) (fun _ q _ => s.length - (intOf q).toNat)
 case atStart => exact ⟨0, [], Nat.zero_le _, rfl, hl0, hb0⟩
 case round =>
  clear hl0 hb0
  obtain ⟨k, us, hk, rfl, hl, hbr⟩ := hrel
  obtain ⟨al, cl, rfl⟩ := hl.form
  have hul := hl.len; rw [trL_len] at hul
  have HUL := Lib.hid hul; clear hul
  by_cases hlt : k < s.length
  ·have hlti : (k : Int) < s.length := by omega
   generalize wr = wo at *
   have hb2 : Below wo.heap.size wo (wo.alloc (.cells #[] 2)) := bwT
   have ho2 := OwnI.new (w := wo) (B := wo.heap.size) (Nat.le_refl _)
   go_wp2_with fail
   go_loopw [5, 18] (fun o q wr => ∃ (j g cap : Nat), j <= L.length /\ q = .int .i64 j /\ o = .slice (some ⟨g, 0, none⟩) j cap /\ OwnI wr wo.heap.size g j cap (colL (L.take j) k) /\ Below wo.heap.size wo wr) (fun _ q _ => L.length - (intOf q).toNat)
   case atStart => exact ⟨0, wo.heap.size, 0, Nat.zero_le _, rfl, rfl, ho2, hb2⟩
   case round =>
    clear hb2 ho2
    obtain ⟨j, g, cap, hj, rfl, rfl, hown, hb3⟩ := hrel
    by_cases hlt2 : j < L.length
    ·have hlt2i : (j : Int) < L.length := by omega
     obtain ⟨a3, c3, t, ht, hc, hE, htk⟩ := Re.get hcell hlt2
     have hsl : k < t.length := by rw [HL.out t ht]; exact hlt
     have hsli : (k : Int) < t.length := by omega
     obtain ⟨b2, o2, rfl, hx⟩ := Sl.cellat hE.sl hsl
     have hc := kept hb3 (kept hbr hc)
     have hx := kept hb3 (kept hbr hx)
     have HT := Lib.hid (col_take (i := k) htk); clear htk
     obtain ⟨z, hz⟩ : ∃ z, z = t.getD k 0 := ⟨_, rfl⟩
     rw [<- hz] at hx HT
     clear hz
     go_wp2_with (at_builtin; refine app_one rfl _ _ rfl wr wo.heap.size g j cap _ rfl z _ rfl hown hb3.size (by omega) ?_; intro g' cap' w' hown' hb' hg' hgg)
     go_roundw
     case rel => exact ⟨j + 1, g', cap', by omega, by go_num, rfl, by rw [HT.out]; exact hown', hb3.trans hb'⟩
     case measure => simp [intOf]; omega
    ·obtain rfl : j = L.length := by omega
     rw [take_all (Nat.le_refl _)] at hown
     have hlf : ¬ (L.length : Int) < L.length := by omega
     have hb4 := hb3.size
     have hE := hown.fr.elr
     have hzn := hl.fresh hE
     have hl3 := hl.below hb3
     have hb5 := hbr.trans (hb3.mono hbr.size)
     have hwo := hbr.size
     clear hl hb3 hbr
     go_wp2_with (at_builtin; refine appr_one rfl _ _ rfl wr w.heap.size _ rfl (.slice al us.length cl) us rfl (.slice (some ⟨g, 0, none⟩) L.length cap) 1 rfl rfl hl3.own hb5.size (by have := HUL.out; omega) ?_; intro g' cap' w8 hown' hgb' hg' hge)
     have hl8 := hl3.snoc (hE.more hwo) hzn (nv := .slice (some ⟨g', 0, none⟩) (us.length + 1) cap') rfl hown' hgb' hg' hge
     go_roundw
     case rel => exact ⟨k + 1, _, by omega, by go_num, by rw [trL_succ]; exact hl8, hb5.trans hgb'⟩
     case measure => simp [intOf]; omega
  ·obtain rfl : k = s.length := by omega
   have hlf : ¬ (s.length : Int) < s.length := by omega
   go_wp2_with fail
   go_ret
   exact ⟨_, rfl, hl.rer, hbr⟩
set_option maxHeartbeats 4000000 in
theorem scols_c {M : Value} {L : List (List Int)} {w : World} (hr : Re w M L) (hL : ∀ r ∈ L, r.length = L.length) (h0 : 0 < L.length) (hn : L.length <= 1000) :
  Calls Tryz.prog 88 #[M] w fun e w' => ∃ v, e = .returned v /\ ReR w' w.heap.size v (trL L L.length) /\ Below w.heap.size w w' := by
 obtain ⟨ar, cr, rfl, hr1, hr2, hR⟩ := hr
 obtain ⟨b, off, rfl, hcell⟩ := hR.resolve_left (fun e => by rw [e] at h0; simp at h0)
 have HL := Lib.hid hL; clear hL
 have h0i : (0 : Int) < L.length := by omega
 have hb0 : Below w.heap.size w (w.alloc (.cells #[] 24)) := bwT
 have hl0 := LsR.new (w := w) (B := w.heap.size) (Nat.le_refl _)
 go_enter Tryz.func88, Tryz.ntmps88
 go_wp2_with fail
 go_loopw [3, 4] (fun o q wr => ∃ (k : Nat) (us : List Value), k <= L.length /\ q = .int .i64 k /\ LsR wr w.heap.size o us (trL L k) /\ Below w.heap.size w wr) (fun _ q _ => L.length - (intOf q).toNat)
 case atStart => exact ⟨0, [], Nat.zero_le _, rfl, hl0, hb0⟩
 case round =>
  clear hl0 hb0
  obtain ⟨k, us, hk, rfl, hl, hbr⟩ := hrel
  obtain ⟨al, cl, rfl⟩ := hl.form
  have hul := hl.len; rw [trL_len] at hul
  have HUL := Lib.hid hul; clear hul
  by_cases hlt : k < L.length
  ·have hlti : (k : Int) < L.length := by omega
   generalize wr = wo at *
   have hb2 : Below wo.heap.size wo (wo.alloc (.cells #[] 2)) := bwT
   have ho2 := OwnI.new (w := wo) (B := wo.heap.size) (Nat.le_refl _)
   go_wp2_with fail
   go_loopw [5, 6] (fun o q wr => ∃ (j g cap : Nat), j <= L.length /\ q = .int .i64 j /\ o = .slice (some ⟨g, 0, none⟩) j cap /\ OwnI wr wo.heap.size g j cap (colL (L.take j) k) /\ Below wo.heap.size wo wr) (fun _ q _ => L.length - (intOf q).toNat)
   case atStart => exact ⟨0, wo.heap.size, 0, Nat.zero_le _, rfl, rfl, ho2, hb2⟩
   case round =>
    clear hb2 ho2
    obtain ⟨j, g, cap, hj, rfl, rfl, hown, hb3⟩ := hrel
    by_cases hlt2 : j < L.length
    ·have hlt2i : (j : Int) < L.length := by omega
     obtain ⟨a3, c3, t, ht, hc, hE, htk⟩ := Re.get hcell hlt2
     have hsl : k < t.length := by rw [HL.out t ht]; exact hlt
     have hsli : (k : Int) < t.length := by omega
     obtain ⟨b2, o2, rfl, hx⟩ := Sl.cellat hE.sl hsl
     have hc := kept hb3 (kept hbr hc)
     have hx := kept hb3 (kept hbr hx)
     have HT := Lib.hid (col_take (i := k) htk); clear htk
     obtain ⟨z, hz⟩ : ∃ z, z = t.getD k 0 := ⟨_, rfl⟩
     rw [<- hz] at hx HT
     clear hz
     go_wp2_with (at_builtin; refine app_one rfl _ _ rfl wr wo.heap.size g j cap _ rfl z _ rfl hown hb3.size (by omega) ?_; intro g' cap' w' hown' hb' hg' hgg)
     go_roundw
     case rel => exact ⟨j + 1, g', cap', by omega, by go_num, rfl, by rw [HT.out]; exact hown', hb3.trans hb'⟩
     case measure => simp [intOf]; omega
    ·obtain rfl : j = L.length := by omega
     rw [take_all (Nat.le_refl _)] at hown
     have hlf : ¬ (L.length : Int) < L.length := by omega
     have hb4 := hb3.size
     have hE := hown.fr.elr
     have hzn := hl.fresh hE
     have hl3 := hl.below hb3
     have hb5 := hbr.trans (hb3.mono hbr.size)
     have hwo := hbr.size
     clear hl hb3 hbr
     go_wp2_with (at_builtin; refine appr_one rfl _ _ rfl wr w.heap.size _ rfl (.slice al us.length cl) us rfl (.slice (some ⟨g, 0, none⟩) L.length cap) 1 rfl rfl hl3.own hb5.size (by have := HUL.out; omega) ?_; intro g' cap' w8 hown' hgb' hg' hge)
     have hl8 := hl3.snoc (hE.more hwo) hzn (nv := .slice (some ⟨g', 0, none⟩) (us.length + 1) cap') rfl hown' hgb' hg' hge
     go_roundw
     case rel => exact ⟨k + 1, _, by omega, by go_num, by rw [trL_succ]; exact hl8, hb5.trans hgb'⟩
     case measure => simp [intOf]; omega
  ·obtain rfl : k = L.length := by omega
   have hlf : ¬ (L.length : Int) < L.length := by omega
   go_wp2_with fail
   go_ret
   exact ⟨_, rfl, hl.rer, hbr⟩
section
variable {ops : Array Oper} {rest : List Oper} {o : Oper} {a : Act} {Q : Exit -> Act -> World -> Prop}
end
end Go.Proofs.YteaaepbnoiecoaaGreat
