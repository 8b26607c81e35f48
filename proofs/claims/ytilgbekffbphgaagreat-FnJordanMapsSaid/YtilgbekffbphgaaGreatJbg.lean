/- Texts joined for a claim: LsR, TrV, Ring, Oct, OctB, AfA. -/
import Derived.Test.YtilgbekffbphgaaGreatHeJ
import Derived.Test.YtilgbekffbphgaaGreatTrA
import Derived.Test.YtilgbekffbphgaaGreatJae
import Derived.Test.YtilgbekffbphgaaGreatJbd
namespace Go.Proofs.YtilgbekffbphgaaGreat
open Go.RowKit
theorem OwV.chgR {w w' : World} {B lo hi : Nat} {v : Value} {us : List Value} (ho : OwV w B v us) (h : Chg lo hi w w') (hr : hi <= B) : OwV w' B v us :=
 ownsRow_chg h ho (fun g hg => .inr (Nat.le_trans hr (OwV.lt ho g hg).1))
theorem OwV.formR {w : World} {B : Nat} {v : Value} {us : List Value} (h : OwV w B v us) : ∃ a c, v = .slice a us.length c := by
 rcases h.2 with h2 | ⟨g', cap', cur, rfl, _⟩
 ·have := h2.2
  cases us with
  | nil => exact ⟨_, _, h2.1⟩
  | cons x r => simp at this
 ·exact ⟨_, _, rfl⟩
theorem OwV.cellsR {w : World} {B : Nat} {v : Value} {us : List Value} (h : OwV w B v us) (h0 : 0 < us.length) : ∃ g cap, v = .slice (some ⟨g, 0, none⟩) us.length cap /\ us.length <= cap /\ cap <= 9223372036854775807 /\ B <= g /\ g < w.heap.size /\ ∀ j (hj : j < us.length), w.cell? ⟨g, j, none⟩ = some us[j] := by
 obtain ⟨g, cap, rfl, _⟩ := World.ownsRow.form h h0
 have hlt := h.lt g rfl
 rcases h.2 with h2 | ⟨g', cap', cur, hv, hg', hh, h3, h4, _⟩
 ·cases h2.1
 ·cases hv
  simp only [maxLen] at h4
  refine ⟨g, cap, rfl, by omega, by omega, hlt.1, hlt.2, fun j hj => ?_⟩
  have := World.ownsRow.cells h (g := g) rfl j us[j] (by simp)
  rw [addz] at this
  exact this
theorem leN_snoc {m : Nat} {up : List (List Int)} {xs : List Int} (h : ∀ ys ∈ up, ys.length <= m) (h2 : xs.length <= m) : ∀ ys ∈ up ++ [xs], ys.length <= m := fun ys hy => by
 rcases List.mem_append.1 hy with hy | hy
 ·exact h ys hy
 ·rw [List.mem_singleton.1 hy]; exact h2
structure LsR (w : World) (B : Nat) (v : Value) (us : List Value) (xss : List (List Int)) : Prop where
 own : OwV w B v us
 len : us.length = xss.length
 els : ∀ j (a : j < us.length) (b : j < xss.length), ElR w B us[j] xss[j]
 ne : ∀ z ∈ us, ∀ b off sp n c, z = .slice (some ⟨b, off, sp⟩) n c -> v.ownBlock ≠ some b
section
variable {w w' : World} {B B' : Nat} {v : Value} {us : List Value} {xss : List (List Int)}
theorem OwV.more_ (h : OwV w B v us) (hB : B' <= B) : OwV w B' v us := by
 refine ⟨h.1, ?_⟩
 rcases h.2 with h2 | ⟨g, cap, cur, e, h3, h4⟩
 ·exact .inl h2
 ·exact .inr ⟨g, cap, cur, e, Nat.le_trans hB h3, h4⟩
theorem LsR.new (hB : B <= w.heap.size) : LsR (w.alloc (.cells #[] 24)) B (.slice (some ⟨w.heap.size, 0, none⟩) 0 0) [] [] := ⟨OwV.new hB, rfl, fun j h => by simp at h, fun z hz => by simp at hz⟩
theorem LsR.chg {lo hi : Nat} (h : LsR w B v us xss) (hc : Chg lo hi w w') (hr : hi <= B) : LsR w' B v us xss := ⟨h.own.chgR hc hr, h.len, fun j a b => (h.els j a b).chg hc hr, h.ne⟩
theorem LsR.below (h : LsR w B v us xss) (hb : Below w.heap.size w w') : LsR w' B v us xss := ⟨h.own.below hb, h.len, fun j a b => (h.els j a b).below hb, h.ne⟩
theorem LsR.more (h : LsR w B v us xss) (hB : B' <= B) : LsR w B' v us xss := ⟨h.own.more_ hB, h.len, fun j a b => (h.els j a b).more hB, h.ne⟩
theorem LsR.fresh (h : LsR w B v us xss) {z : Value} {xs : List Int} (hz : ElR w' w.heap.size z xs) : ∀ b off sp n c, z = .slice (some ⟨b, off, sp⟩) n c -> v.ownBlock ≠ some b := fun b off sp n c e e2 => by
 have h1 := (hz.2 _ _ _ _ _ e).1
 have := (h.own.lt b e2).2
 omega
theorem LsR.snoc {W : World} (h : LsR W B v us xss) {z nv : Value} {xs : List Int} {g' : Nat} (hz : ElR W B z xs) (hzn : ∀ b off sp n c, z = .slice (some ⟨b, off, sp⟩) n c -> v.ownBlock ≠ some b) (hn : nv.ownBlock = some g') (ho : OwV w' B nv (us ++ [z])) (hb : Below B W w') (hg : W.grownBy w' v.ownBlock) (hge : v.ownBlock = some g' \/ g' = W.heap.size + 1) :
  LsR w' B nv (us ++ [z]) (xss ++ [xs]) := by
 have hk : ∀ {y ys}, ElR W B y ys -> (∀ b off sp n c, y = .slice (some ⟨b, off, sp⟩) n c -> v.ownBlock ≠ some b) -> ElR w' B y ys /\ ∀ b off sp n c, y = .slice (some ⟨b, off, sp⟩) n c -> nv.ownBlock ≠ some b := by
  intro y ys hy hne
  refine ⟨hy.keep hb.size fun b' off sp n c e => ?_, fun b off sp n c e => ?_⟩
  ·exact hg.block b' (hy.2 _ _ _ _ _ e).2 (fun e2 => (hne _ _ _ _ _ e) e2.symm)
  ·rw [hn]
   rcases hge with e2 | e2
   ·rw [<- e2]; exact hne b off sp n c e
   ·have := (hy.2 _ _ _ _ _ e).2
    intro e3; cases e3; omega
 refine ⟨ho, by simp [h.len], fun j a b => ?_, fun y hy => ?_⟩
 ·rw [List.length_append] at a
  simp at a
  by_cases hj : j < us.length
  ·have := h.len
   rw [List.getElem_append_left hj, List.getElem_append_left (by omega)]
   exact (hk (h.els j hj (by omega)) (h.ne _ (List.getElem_mem hj))).1
  ·obtain rfl : j = us.length := by omega
   have e := h.len
   have h1 : (us ++ [z])[us.length]'(by simp) = z := by simp
   have h2 : (xss ++ [xs])[us.length]'(by simp [e]) = xs := by simp [e]
   rw [h1, h2]; exact (hk hz hzn).1
 ·rcases List.mem_append.1 hy with hy | hy
  ·obtain ⟨j, hj, rfl⟩ := List.getElem_of_mem hy
   exact (hk (h.els j hj (by have := h.len; omega)) (h.ne _ hy)).2
  ·rw [List.mem_singleton.1 hy]; exact (hk hz hzn).2
theorem LsR.rer (h : LsR w B v us xss) : ReR w B v xss := by
 cases us with
 | nil =>
  have hul := h.len
  cases xss with
  | cons x r => simp at hul
  | nil =>
   rcases h.own.2 with h2 | ⟨g', cap', cur, rfl, _, _, _, h4, _⟩
   ·rw [h2.1]; exact ⟨none, 0, rfl, Nat.le_refl _, by decide, .inl rfl⟩
   ·simp only [maxLen] at h4
    exact ⟨_, cap', rfl, by simp, by omega, .inl rfl⟩
 | cons z r =>
  obtain ⟨g, cap, rfl, h1, h2, h3, _, h4⟩ := h.own.cellsR (by simp)
  have hul := h.len
  have hx1 : xss.length <= cap := by omega
  refine ⟨_, cap, by rw [hul], hx1, h2, .inr ⟨g, 0, rfl, h3, fun j hj => ?_⟩⟩
  have hj2 : j < xss.length := hj
  have hj3 : j < (z :: r).length := by omega
  exact ⟨(z :: r)[j]'hj3, by rw [Nat.zero_add]; exact h4 j hj3, h.els j hj3 hj2⟩
theorem LsR.form (h : LsR w B v us xss) : ∃ a c, v = .slice a us.length c := h.own.formR
theorem LsR.get (h : LsR w B v us xss) {j : Nat} (hj : j < xss.length) : ∃ g cap u, v = .slice (some ⟨g, 0, none⟩) us.length cap /\ B <= g /\ g < w.heap.size /\ (∃ cs T fr, w.heap[g]? = some (.cells cs T fr)) /\ w.cell? ⟨g, j, none⟩ = some u /\ ElR w B u xss[j] := by
 have hul := h.len
 obtain ⟨g, cap, e, _, _, h3, h4, h5⟩ := h.own.cellsR (by omega)
 rcases h.own.2 with ⟨_, h6⟩ | ⟨g2, cap2, cur, e2, hg, hh, _⟩
 ·omega
 ·rw [e] at e2; cases e2
  exact ⟨g, cap, us[j], e, h3, h4, ⟨_, _, _, hh⟩, h5 j (by omega), h.els j (by omega) hj⟩
end
def trL (L : List (List Int)) (n : Nat) : List (List Int) := (List.range n).map (colL L)
theorem trL_succ {L : List (List Int)} {k : Nat} : trL L (k + 1) = trL L k ++ [colL L k] := by unfold trL; rw [List.range_succ, List.map_append]; rfl
theorem trL_len {L : List (List Int)} {n : Nat} : (trL L n).length = n := by simp [trL]
set_option maxHeartbeats 4000000 in
theorem scols_c {M : Value} {L : List (List Int)} {w : World} (hr : Re w M L) (hL : ∀ r ∈ L, r.length = L.length) (h0 : 0 < L.length) (hn : L.length <= 1000) :
  Calls Tryz.prog 84 #[M] w fun e w' => ∃ v, e = .returned v /\ ReR w' w.heap.size v (trL L L.length) /\ Below w.heap.size w w' := by
 obtain ⟨ar, cr, rfl, hr1, hr2, hR⟩ := hr
 obtain ⟨b, off, rfl, hcell⟩ := hR.resolve_left (fun e => by rw [e] at h0; simp at h0)
 have HL := Lib.hid hL; clear hL
 have h0i : (0 : Int) < L.length := by omega
 have hb0 : Below w.heap.size w (w.alloc (.cells #[] 24)) := bwT
 have hl0 := LsR.new (w := w) (B := w.heap.size) (Nat.le_refl _)
 go_enter Tryz.func84, Tryz.ntmps84
 go_wp2_with fail
 go_loopw [3, 4] (fun o q wr => ∃ (k : Nat) (us : List Value), k <= L.length /\ q = .int .i64 k /\ LsR wr w.heap.size o us (trL L k) /\ Below w.heap.size w wr) (fun _ q _ => L.length - (intOf q).toNat)
 case atStart => exact ⟨0, [], Nat.zero_le _, rfl, hl0, hb0⟩
 case round =>
  clear hl0 hb0
  obtain ⟨k, us, hk, rfl, hl, hbr⟩ := hrel
  obtain ⟨al, cl, rfl⟩ := hl.form
  have hul := hl.len; rw [trL_len] at hul
  have HUL := Lib.hid hul; clear hul
  by_cases hlt : k < L.length
  ·have hlti : (k : Int) < L.length := by omega
   generalize wr = wo at *
   have hb2 : Below wo.heap.size wo (wo.alloc (.cells #[] 2)) := bwT
   have ho2 := OwnI.new (w := wo) (B := wo.heap.size) (Nat.le_refl _)
   go_wp2_with fail
   go_loopw [5, 6] (fun o q wr => ∃ (j g cap : Nat), j <= L.length /\ q = .int .i64 j /\ o = .slice (some ⟨g, 0, none⟩) j cap /\ OwnI wr wo.heap.size g j cap (colL (L.take j) k) /\ Below wo.heap.size wo wr) (fun _ q _ => L.length - (intOf q).toNat)
   case atStart => exact ⟨0, wo.heap.size, 0, Nat.zero_le _, rfl, rfl, ho2, hb2⟩
   case round =>
    clear hb2 ho2
    obtain ⟨j, g, cap, hj, rfl, rfl, hown, hb3⟩ := hrel
    by_cases hlt2 : j < L.length
    ·have hlt2i : (j : Int) < L.length := by omega
     obtain ⟨a3, c3, t, ht, hc, hE, htk⟩ := Re.get hcell hlt2
     have hsl : k < t.length := by rw [HL.out t ht]; exact hlt
     have hsli : (k : Int) < t.length := by omega
     obtain ⟨b2, o2, rfl, hx⟩ := Sl.cellat hE.sl hsl
     have hc := kept hb3 (kept hbr hc)
     have hx := kept hb3 (kept hbr hx)
     have HT := Lib.hid (col_take (i := k) htk); clear htk
     obtain ⟨z, hz⟩ : ∃ z, z = t.getD k 0 := ⟨_, rfl⟩
     rw [<- hz] at hx HT
     clear hz
     go_wp2_with (at_builtin; refine app_one rfl _ _ rfl wr wo.heap.size g j cap _ rfl z _ rfl hown hb3.size (by omega) ?_; intro g' cap' w' hown' hb' hg' hgg)
     go_roundw
     case rel => exact ⟨j + 1, g', cap', by omega, by go_num, rfl, by rw [HT.out]; exact hown', hb3.trans hb'⟩
     case measure => simp [intOf]; omega
    ·obtain rfl : j = L.length := by omega
     rw [take_all (Nat.le_refl _)] at hown
     have hlf : ¬ (L.length : Int) < L.length := by omega
     have hb4 := hb3.size
     have hE := hown.fr.elr
     have hzn := hl.fresh hE
     have hl3 := hl.below hb3
     have hb5 := hbr.trans (hb3.mono hbr.size)
     have hwo := hbr.size
     clear hl hb3 hbr
     go_wp2_with (at_builtin; refine appr_one rfl _ _ rfl wr w.heap.size _ rfl (.slice al us.length cl) us rfl (.slice (some ⟨g, 0, none⟩) L.length cap) 1 rfl rfl hl3.own hb5.size (by have := HUL.out; omega) ?_; intro g' cap' w8 hown' hgb' hg' hge)
     have hl8 := hl3.snoc (hE.more hwo) hzn (nv := .slice (some ⟨g', 0, none⟩) (us.length + 1) cap') rfl hown' hgb' hg' hge
     go_roundw
     case rel => exact ⟨k + 1, _, by omega, by go_num, by rw [trL_succ]; exact hl8, hb5.trans hgb'⟩
     case measure => simp [intOf]; omega
  ·obtain rfl : k = L.length := by omega
   have hlf : ¬ (L.length : Int) < L.length := by omega
   go_wp2_with fail
   go_ret
   exact ⟨_, rfl, hl.rer, hbr⟩
section
variable {ops : Array Oper} {rest : List Oper} {o : Oper} {a : Act} {Q : Exit -> Act -> World -> Prop}
end
end Go.Proofs.YtilgbekffbphgaaGreat
namespace Go.Proofs.YtilgbekffbphgaaGreat
def toF (n : Nat) [NeZero n] (a : Int) : Fin n := ⟨(a % (n:Int)).toNat, by
 have := Nat.pos_of_neZero n
 have h1 := Int.emod_nonneg a (b := (n:Int)) (by omega)
 have h2 := Int.emod_lt_of_pos a (b := (n:Int)) (by omega)
 omega⟩
theorem toF_eq (n : Nat) [NeZero n] (a b : Int) : toF n a = toF n b ↔ a % (n:Int) = b % (n:Int) := by
 have := Nat.pos_of_neZero n
 have h1 := Int.emod_nonneg a (b := (n:Int)) (by omega)
 have h2 := Int.emod_nonneg b (b := (n:Int)) (by omega)
 simp only [toF, Fin.mk.injEq]
 omega
theorem toF_add (n : Nat) [NeZero n] (a b : Int) : toF n (a + b) = toF n a + toF n b := by
 have := Nat.pos_of_neZero n
 have h1 := Int.emod_nonneg a (b := (n:Int)) (by omega)
 have h2 := Int.emod_nonneg b (b := (n:Int)) (by omega)
 apply Fin.ext
 simp only [toF, Fin.val_add]
 rw [Int.add_emod]
 have h3 : (((a % (n:Int)).toNat + (b % (n:Int)).toNat : Nat) : Int) = a % n + b % n := by omega
 rw [<- h3, <- Int.natCast_emod, Int.toNat_natCast]
theorem toF_mul (n : Nat) [NeZero n] (a b : Int) : toF n (a * b) = toF n a * toF n b := by
 have := Nat.pos_of_neZero n
 have h1 := Int.emod_nonneg a (b := (n:Int)) (by omega)
 have h2 := Int.emod_nonneg b (b := (n:Int)) (by omega)
 apply Fin.ext
 simp only [toF, Fin.val_mul]
 rw [Int.mul_emod]
 have h3 : (((a % (n:Int)).toNat * (b % (n:Int)).toNat : Nat) : Int) = (a % n) * (b % n) := by
  rw [Int.natCast_mul, Int.toNat_of_nonneg h1, Int.toNat_of_nonneg h2]
 rw [<- h3, <- Int.natCast_emod, Int.toNat_natCast]
theorem toF_neg (n : Nat) [NeZero n] (a : Int) : toF n (-a) = -toF n a := by
 have h : toF n (-a) + toF n a = toF n 0 := by rw [<- toF_add]; congr 1; omega
 have h0 : toF n 0 = 0 := by apply Fin.ext; simp [toF]
 grind
theorem toF_sub (n : Nat) [NeZero n] (a b : Int) : toF n (a - b) = toF n a - toF n b := by
 rw [Int.sub_eq_add_neg, toF_add, toF_neg]; grind
theorem toF_mod (n : Nat) [NeZero n] (a : Int) : toF n (a % (n:Int)) = toF n a := by
 rw [toF_eq]; exact Int.emod_emod_of_dvd _ (Int.dvd_refl _)
theorem toF_one (n : Nat) [NeZero n] : toF n 1 = 1 := by
 apply Fin.ext
 simp only [toF]
 rw [show (1 : Int) = ((1 : Nat) : Int) by rfl, <- Int.natCast_emod, Int.toNat_natCast]
 rfl
theorem toF_zero (n : Nat) [NeZero n] : toF n 0 = 0 := by apply Fin.ext; simp [toF]
theorem toF_two (n : Nat) [NeZero n] : toF n 2 = 2 := by
 rw [show (2 : Int) = 1 + 1 by rfl, toF_add, toF_one]; grind
@[ext] structure Oc (n : Nat) where
 a0 : Fin n
 a1 : Fin n
 a2 : Fin n
 a3 : Fin n
 a4 : Fin n
 a5 : Fin n
 a6 : Fin n
 a7 : Fin n
section
variable {n : Nat} [NeZero n]
def omul (g h k : Fin n) (x y : Oc n) : Oc n :=
  ⟨x.a0 * y.a0 + g * x.a1 * y.a1 + h * x.a2 * y.a2 - g * h * x.a3 * y.a3 + k * x.a4 * y.a4 - g * k * x.a5 * y.a5 - h * k * x.a6 * y.a6 + g * h * k * x.a7 * y.a7,
   x.a0 * y.a1 + x.a1 * y.a0 + h * x.a3 * y.a2 - h * x.a2 * y.a3 + k * x.a5 * y.a4 - k * x.a4 * y.a5 - h * k * x.a6 * y.a7 + h * k * x.a7 * y.a6,
   x.a0 * y.a2 + g * x.a1 * y.a3 + x.a2 * y.a0 - g * x.a3 * y.a1 + k * x.a6 * y.a4 - g * k * x.a7 * y.a5 - k * x.a4 * y.a6 + g * k * x.a5 * y.a7,
   x.a1 * y.a2 + x.a0 * y.a3 - x.a2 * y.a1 + x.a3 * y.a0 - k * x.a6 * y.a5 + k * x.a7 * y.a4 + k * x.a5 * y.a6 - k * x.a4 * y.a7,
   x.a0 * y.a4 + g * x.a1 * y.a5 + h * x.a2 * y.a6 - g * h * x.a3 * y.a7 + x.a4 * y.a0 - g * x.a5 * y.a1 - h * x.a6 * y.a2 + g * h * x.a7 * y.a3,
   x.a1 * y.a4 + x.a0 * y.a5 + h * x.a2 * y.a7 - h * x.a3 * y.a6 - x.a4 * y.a1 + x.a5 * y.a0 - h * x.a7 * y.a2 + h * x.a6 * y.a3,
   x.a2 * y.a4 + g * x.a3 * y.a5 + x.a0 * y.a6 - g * x.a1 * y.a7 - x.a4 * y.a2 - g * x.a5 * y.a3 + x.a6 * y.a0 + g * x.a7 * y.a1,
   x.a2 * y.a5 + x.a3 * y.a4 - x.a1 * y.a6 + x.a0 * y.a7 - x.a5 * y.a2 - x.a4 * y.a3 + x.a6 * y.a1 + x.a7 * y.a0⟩
def ocj (x : Oc n) : Oc n := ⟨x.a0, -x.a1, -x.a2, -x.a3, -x.a4, -x.a5, -x.a6, -x.a7⟩
def onm (g h k : Fin n) (x : Oc n) : Fin n := x.a0 * x.a0 - g * x.a1 * x.a1 - h * x.a2 * x.a2 + g * h * x.a3 * x.a3 - k * x.a4 * x.a4 + g * k * x.a5 * x.a5 + h * k * x.a6 * x.a6 - g * h * k * x.a7 * x.a7
def osc (c : Fin n) (x : Oc n) : Oc n := ⟨c * x.a0, c * x.a1, c * x.a2, c * x.a3, c * x.a4, c * x.a5, c * x.a6, c * x.a7⟩
def oad (x y : Oc n) : Oc n := ⟨x.a0 + y.a0, x.a1 + y.a1, x.a2 + y.a2, x.a3 + y.a3, x.a4 + y.a4, x.a5 + y.a5, x.a6 + y.a6, x.a7 + y.a7⟩
def toO (n : Nat) [NeZero n] (xs : List Int) : Oc n := ⟨toF n (xs.getD 0 0), toF n (xs.getD 1 0), toF n (xs.getD 2 0), toF n (xs.getD 3 0), toF n (xs.getD 4 0), toF n (xs.getD 5 0), toF n (xs.getD 6 0), toF n (xs.getD 7 0)⟩
theorem toO_plus {p k : Int} {xs ys : List Int} (hp : p = n) (hl : ys.length = xs.length) : toO n (plusL p xs ys k) = oad (toO n xs) (osc (toF n k) (toO n ys)) := by
 have h : ∀ i, toF n ((plusL p xs ys k).getD i 0) = toF n (xs.getD i 0) + toF n k * toF n (ys.getD i 0) := fun i => by
  unfold plusL
  by_cases hi : i < xs.length
  ·have hi2 : i < ys.length := by omega
   rw [List.getD_eq_getElem?_getD, List.getElem?_zipWith, List.getElem?_eq_getElem hi, List.getElem?_eq_getElem hi2]
   simp only [Option.getD_some, List.getD_eq_getElem?_getD, List.getElem?_eq_getElem hi, List.getElem?_eq_getElem hi2]
   rw [hp, toF_mod, toF_add, toF_mul]
  ·rw [List.getD_eq_getElem?_getD, List.getD_eq_getElem?_getD, List.getD_eq_getElem?_getD, List.getElem?_eq_none (by rw [List.length_zipWith]; omega), List.getElem?_eq_none (by omega), List.getElem?_eq_none (by omega)]
   simp only [Option.getD_none, toF_zero]
   grind
 unfold toO oad osc
 simp only [h]
theorem toO_scale {p k : Int} {xs : List Int} (hp : p = n) : toO n (scaleL p xs k) = osc (toF n k) (toO n xs) := by
 have h : ∀ i, toF n ((scaleL p xs k).getD i 0) = toF n k * toF n (xs.getD i 0) := fun i => by
  unfold scaleL
  by_cases hi : i < xs.length
  ·rw [List.getD_eq_getElem?_getD, List.getElem?_map, List.getElem?_eq_getElem hi]
   simp only [Option.map_some, Option.getD_some, List.getD_eq_getElem?_getD, List.getElem?_eq_getElem hi]
   rw [hp, toF_mod, toF_mul]; grind
  ·rw [List.getD_eq_getElem?_getD, List.getD_eq_getElem?_getD, List.getElem?_eq_none (by rw [List.length_map]; omega), List.getElem?_eq_none (by omega)]
   simp only [Option.getD_none, toF_zero]
   grind
 unfold toO osc
 simp only [h]
theorem toO_conj {p : Int} {xs : List Int} (hp : p = n) : toO n (conjL p xs) = ocj (toO n xs) := by
 match xs with
 | [] => unfold toO ocj; simp [conjL, scaleL, toF_zero]; grind
 | x :: xs =>
  have h : ∀ i, toF n ((scaleL p xs (-1)).getD i 0) = -toF n (xs.getD i 0) := fun i => by
   unfold scaleL
   by_cases hi : i < xs.length
   ·rw [List.getD_eq_getElem?_getD, List.getElem?_map, List.getElem?_eq_getElem hi]
    simp only [Option.map_some, Option.getD_some, List.getD_eq_getElem?_getD, List.getElem?_eq_getElem hi]
    rw [hp, toF_mod, toF_mul, toF_neg, toF_one]; grind
   ·rw [List.getD_eq_getElem?_getD, List.getD_eq_getElem?_getD, List.getElem?_eq_none (by rw [List.length_map]; omega), List.getElem?_eq_none (by omega)]
    simp only [Option.getD_none, toF_zero]
    grind
  unfold toO ocj
  have e : conjL p (x :: xs) = x :: scaleL p xs (-1) := rfl
  rw [e]
  simp only [List.getD_cons_zero, List.getD_cons_succ, h]
theorem toO_mul0 {p x0 y0 : Int} (hp : p = n) (g h k : Fin n) : toO n (mulL p [] [x0] [y0]) = omul g h k (toO n [x0]) (toO n [y0]) := by
 simp only [mulL, List.reverse_cons, List.reverse_nil, List.nil_append, List.cons_append, mulR, List.length_cons, List.length_nil, plusL, scaleL, conjL, Nat.reduceAdd, Nat.reduceDiv, List.take_succ_cons, List.take_zero, List.drop_succ_cons, List.drop_zero, List.map_cons, List.map_nil, List.zipWith_cons_cons, List.zipWith_nil_left, List.zipWith_nil_right, List.getD_cons_zero, List.getD_cons_succ, List.getD_nil]
 unfold toO omul
 simp only [List.getD_cons_zero, List.getD_cons_succ, List.getD_nil, hp, toF_mod, toF_add, toF_mul, toF_neg, toF_one, toF_zero]
 apply Oc.ext <;> grind
theorem toO_mul1 {p s0 x0 x1 y0 y1 : Int} (hp : p = n) (g h k : Fin n) : toO n (mulL p [s0] [x0, x1] [y0, y1]) = omul (toF n s0) h k (toO n [x0, x1]) (toO n [y0, y1]) := by
 simp only [mulL, List.reverse_cons, List.reverse_nil, List.nil_append, List.cons_append, mulR, List.length_cons, List.length_nil, plusL, scaleL, conjL, Nat.reduceAdd, Nat.reduceDiv, List.take_succ_cons, List.take_zero, List.drop_succ_cons, List.drop_zero, List.map_cons, List.map_nil, List.zipWith_cons_cons, List.zipWith_nil_left, List.zipWith_nil_right, List.getD_cons_zero, List.getD_cons_succ, List.getD_nil]
 unfold toO omul
 simp only [List.getD_cons_zero, List.getD_cons_succ, List.getD_nil, hp, toF_mod, toF_add, toF_mul, toF_neg, toF_one, toF_zero]
 apply Oc.ext <;> grind
theorem toO_mul2 {p s0 s1 x0 x1 x2 x3 y0 y1 y2 y3 : Int} (hp : p = n) (g h k : Fin n) : toO n (mulL p [s0, s1] [x0, x1, x2, x3] [y0, y1, y2, y3]) = omul (toF n s0) (toF n s1) k (toO n [x0, x1, x2, x3]) (toO n [y0, y1, y2, y3]) := by
 simp only [mulL, List.reverse_cons, List.reverse_nil, List.nil_append, List.cons_append, mulR, List.length_cons, List.length_nil, plusL, scaleL, conjL, Nat.reduceAdd, Nat.reduceDiv, List.take_succ_cons, List.take_zero, List.drop_succ_cons, List.drop_zero, List.map_cons, List.map_nil, List.zipWith_cons_cons, List.zipWith_nil_left, List.zipWith_nil_right, List.getD_cons_zero, List.getD_cons_succ, List.getD_nil]
 unfold toO omul
 simp only [List.getD_cons_zero, List.getD_cons_succ, List.getD_nil, hp, toF_mod, toF_add, toF_mul, toF_neg, toF_one, toF_zero]
 apply Oc.ext <;> grind
theorem toO_mul3 {p s0 s1 s2 x0 x1 x2 x3 x4 x5 x6 x7 y0 y1 y2 y3 y4 y5 y6 y7 : Int} (hp : p = n) (g h k : Fin n) : toO n (mulL p [s0, s1, s2] [x0, x1, x2, x3, x4, x5, x6, x7] [y0, y1, y2, y3, y4, y5, y6, y7]) = omul (toF n s0) (toF n s1) (toF n s2) (toO n [x0, x1, x2, x3, x4, x5, x6, x7]) (toO n [y0, y1, y2, y3, y4, y5, y6, y7]) := by
 simp only [mulL, List.reverse_cons, List.reverse_nil, List.nil_append, List.cons_append, mulR, List.length_cons, List.length_nil, plusL, scaleL, conjL, Nat.reduceAdd, Nat.reduceDiv, List.take_succ_cons, List.take_zero, List.drop_succ_cons, List.drop_zero, List.map_cons, List.map_nil, List.zipWith_cons_cons, List.zipWith_nil_left, List.zipWith_nil_right, List.getD_cons_zero, List.getD_cons_succ, List.getD_nil]
 unfold toO omul
 simp only [List.getD_cons_zero, List.getD_cons_succ, List.getD_nil, hp, toF_mod, toF_add, toF_mul, toF_neg, toF_one, toF_zero]
 apply Oc.ext <;> grind
end
section
variable {n : Nat} [NeZero n]
def gam (n : Nat) [NeZero n] (st : List Int) (i : Nat) : Fin n := toF n (st.getD i 0)
theorem toO_mul {p : Int} {st x y : List Int} (hp : p = n) (hst : st.length <= 3) (hx : x.length = sz st.length) (hy : y.length = sz st.length) : toO n (mulL p st x y) = omul (gam n st 0) (gam n st 1) (gam n st 2) (toO n x) (toO n y) := by
 match st, hst with
 | [], _ => match x, y, hx, hy with | [a], [b], _, _ => exact toO_mul0 hp _ _ _
 | [s0], _ => match x, y, hx, hy with | [a0, a1], [b0, b1], _, _ => exact (toO_mul1 hp 0 (gam n [s0] 1) (gam n [s0] 2))
 | [s0, s1], _ => match x, y, hx, hy with | [a0, a1, a2, a3], [b0, b1, b2, b3], _, _ => exact (toO_mul2 hp 0 0 (gam n [s0, s1] 2))
 | [s0, s1, s2], _ => match x, y, hx, hy with | [a0, a1, a2, a3, a4, a5, a6, a7], [b0, b1, b2, b3, b4, b5, b6, b7], _, _ => exact (toO_mul3 hp 0 0 0)
theorem toO_inj {p : Int} {m : Nat} {x y : List Int} (hp : p = n) (hm : m <= 8) (hx : Ev p m x) (hy : Ev p m y) (h : toO n x = toO n y) : x = y := by
 have key : ∀ i, toF n (x.getD i 0) = toF n (y.getD i 0) -> i < m -> x[i]? = y[i]? := fun i hi hlt => by
  have h1 : i < x.length := by rw [hx.1]; exact hlt
  have h2 : i < y.length := by rw [hy.1]; exact hlt
  rw [toF_eq, List.getD_eq_getElem?_getD, List.getD_eq_getElem?_getD, List.getElem?_eq_getElem h1, List.getElem?_eq_getElem h2] at hi
  simp only [Option.getD_some] at hi
  have b1 := hx.2 _ (List.getElem_mem h1)
  have b2 := hy.2 _ (List.getElem_mem h2)
  rw [List.getElem?_eq_getElem h1, List.getElem?_eq_getElem h2]
  rw [Int.emod_eq_of_lt b1.1 (by omega), Int.emod_eq_of_lt b2.1 (by omega)] at hi
  rw [hi]
 unfold toO at h
 simp only [Oc.mk.injEq] at h
 obtain ⟨h0, h1, h2, h3, h4, h5, h6, h7⟩ := h
 refine List.ext_getElem? fun i => ?_
 by_cases hi : i < m
 ·rcases (show i = 0 \/ i = 1 \/ i = 2 \/ i = 3 \/ i = 4 \/ i = 5 \/ i = 6 \/ i = 7 by omega) with rfl | rfl | rfl | rfl | rfl | rfl | rfl | rfl
  ·exact key 0 h0 hi
  ·exact key 1 h1 hi
  ·exact key 2 h2 hi
  ·exact key 3 h3 hi
  ·exact key 4 h4 hi
  ·exact key 5 h5 hi
  ·exact key 6 h6 hi
  ·exact key 7 h7 hi
 ·rw [List.getElem?_eq_none (by rw [hx.1]; omega), List.getElem?_eq_none (by rw [hy.1]; omega)]
end
theorem chk3_posA {p : Int} {st : List Int} {xss : List (List Int)} (h : chk3 p st xss = 0) : Dok p st /\ ∀ xs ∈ xss, Ev p (sz st.length) xs := by
 unfold chk3 at h
 split at h
 ·rename_i h1
  split at h
  ·cases h
  ·rename_i h2
   split at h
   ·rename_i h3
    rw [List.all_eq_true] at h3
    exact ⟨Dok.of h1 h2, fun xs hx => isE_iff.1 (h3 xs hx)⟩
   ·cases h
 ·cases h
def afI (p : Int) (st : List Int) : List (List Int) -> List (List Int) -> List (List Int)
 | cols, [] => cols
 | cols, im :: r => afI p st (cols ++ cols.map fun x => mulL p st x im) r
def afC (p : Int) (st : List Int) (ims : List (List Int)) : List (List Int) := afI p st [oneL (sz st.length) 0] ims
def afM (p : Int) (st : List Int) (ims : List (List Int)) : List (List Int) := trL (afC p st ims) (sz st.length)
def RAf1 (p : Int) (st : List Int) (ims : List (List Int)) : Int := if chk3 p st ims = 0 then (if ims.length = st.length then (if autK p st (afM p st ims) = true then 0 else 5) else 2) else chk3 p st ims
def RAf0 (p : Int) (st : List Int) (ims : List (List Int)) : List (List Int) := if RAf1 p st ims = 0 then afM p st ims else []
section
variable {p : Int} {st : List Int}
theorem afI_snoc {im : List Int} : ∀ {ims cols : List (List Int)}, afI p st cols (ims ++ [im]) = afI p st cols ims ++ (afI p st cols ims).map fun x => mulL p st x im
 | [], cols => rfl
 | i :: r, cols => afI_snoc (ims := r)
theorem afI_len : ∀ {ims cols : List (List Int)}, (afI p st cols ims).length = cols.length * 2 ^ ims.length
 | [], cols => by simp [afI]
 | i :: r, cols => by
  show (afI p st _ r).length = _
  rw [afI_len, List.length_append, List.length_map, List.length_cons, Nat.pow_succ, Nat.mul_comm (2 ^ _) 2, <- Nat.mul_assoc]
  congr 1
  omega
theorem afI_ev (hp : 1 <= p) : ∀ {ims cols : List (List Int)}, (∀ c ∈ cols, Ev p (sz st.length) c) -> (∀ c ∈ ims, Ev p (sz st.length) c) -> ∀ c ∈ afI p st cols ims, Ev p (sz st.length) c
 | [], cols, h, _ => h
 | i :: r, cols, h, h2 => by
  show ∀ c ∈ afI p st (cols ++ cols.map fun x => mulL p st x i) r, _
  refine afI_ev hp (fun c hc => ?_) (fun c hc => h2 c (List.mem_cons_of_mem _ hc))
  rcases List.mem_append.1 hc with hc | hc
  ·exact h c hc
  ·obtain ⟨x, hx, rfl⟩ := List.mem_map.1 hc
   exact mulL_ev hp (h x hx) (h2 i (List.mem_cons_self ..))
theorem afC_len {ims : List (List Int)} : (afC p st ims).length = 2 ^ ims.length := by unfold afC; rw [afI_len]; simp
theorem afC_ev (hp : 2 <= p) {ims : List (List Int)} (h : ∀ c ∈ ims, Ev p (sz st.length) c) : ∀ c ∈ afC p st ims, Ev p (sz st.length) c :=
 afI_ev (by omega) (fun c hc => by rw [List.mem_singleton.1 hc]; exact Ev.one hp) h
theorem afC_take {ims : List (List Int)} {im : List Int} {k : Nat} (h : ims.take (k + 1) = ims.take k ++ [im]) : afC p st (ims.take (k + 1)) = afC p st (ims.take k) ++ (afC p st (ims.take k)).map fun x => mulL p st x im := by
 rw [h]; exact afI_snoc
theorem afI_head : ∀ {ims : List (List Int)} {c : List Int} {cs : List (List Int)}, ∃ ds, afI p st (c :: cs) ims = c :: ds
 | [], c, cs => ⟨cs, rfl⟩
 | i :: r, c, cs => afI_head (ims := r) (c := c) (cs := cs ++ ((c :: cs).map fun x => mulL p st x i))
theorem trL_mat {L : List (List Int)} {n : Nat} (hp : 1 <= p) (hl : L.length = n) (h : ∀ c ∈ L, Ev p n c) : matB p n (trL L n) = true := by
 have hM : matB p n L = true := matB_iff.2 ⟨hl, h⟩
 refine matB_iff.2 ⟨trL_len, fun r hr => ?_⟩
 obtain ⟨i, _, rfl⟩ := List.mem_map.1 hr
 exact colL_ev hp hM i
theorem IsP.nat (hp : IsP p) {Q : Prop} (h : ∀ (n : Nat) [NeZero n], p = (n : Int) -> Q) : Q := by
 rcases hp with rfl | rfl | rfl | rfl | rfl
 ·exact h 3 rfl
 ·exact h 5 rfl
 ·exact h 7 rfl
 ·exact h 11 rfl
 ·exact h 13 rfl
theorem toO_unit {n m i : Nat} [NeZero n] : toO n (oneL m i) = ⟨if 0 = i /\ i < m then 1 else 0, if 1 = i /\ i < m then 1 else 0, if 2 = i /\ i < m then 1 else 0, if 3 = i /\ i < m then 1 else 0, if 4 = i /\ i < m then 1 else 0, if 5 = i /\ i < m then 1 else 0, if 6 = i /\ i < m then 1 else 0, if 7 = i /\ i < m then 1 else 0⟩ := by
 unfold toO
 simp only [one_at, apply_ite (toF n), toF_one, toF_zero]
theorem one_mul (hd : Dok p st) {x : List Int} (hx : Ev p (sz st.length) x) : mulL p st (oneL (sz st.length) 0) x = x := by
 have h2 : 2 <= p := by have := hd.hp.lo; omega
 have hsz := sz_le hd
 refine hd.hp.nat fun n _ hn => toO_inj (n := n) hn hsz.2 (mulL_ev (by omega) (Ev.one h2) hx) hx ?_
 rw [toO_mul hn hd.hl (Ev.one (p := p) (n := sz st.length) (i := 0) h2).1 hx.1, toO_unit]
 have h0 : 0 < sz st.length := hsz.1
 simp only [h0, and_true, if_true, if_neg (show ¬ (1 : Nat) = 0 by decide), if_neg (show ¬ (2 : Nat) = 0 by decide), if_neg (show ¬ (3 : Nat) = 0 by decide), if_neg (show ¬ (4 : Nat) = 0 by decide), if_neg (show ¬ (5 : Nat) = 0 by decide), if_neg (show ¬ (6 : Nat) = 0 by decide), if_neg (show ¬ (7 : Nat) = 0 by decide)]
 unfold omul
 apply Oc.ext <;> (simp only []; grind)
theorem bas_one (hd : Dok p st) {k i : Nat} (hk : k < st.length) (hi : i < 2 ^ k) : basF p st i (2 ^ k) = 1 := by
 have hl := hd.hl
 have hp := hd.hp
 clear hd
 match st, hl, hk with
 | [a], _, hk =>
  obtain rfl : k = 0 := by simp at hk; exact hk
  obtain rfl : i = 0 := by simpa using hi
  rcases hp with rfl | rfl | rfl | rfl | rfl <;> simp [basF, mulL, mulR, sz, oneL, plusL, conjL, scaleL, List.replicate]
 | [a, b], _, hk =>
  rcases (show k = 0 \/ k = 1 by simp at hk; omega) with rfl | rfl
  ·obtain rfl : i = 0 := by simpa using hi
   rcases hp with rfl | rfl | rfl | rfl | rfl <;> simp [basF, mulL, mulR, sz, oneL, plusL, conjL, scaleL, List.replicate]
  ·rcases (show i = 0 \/ i = 1 by simp at hi; omega) with rfl | rfl <;>
   rcases hp with rfl | rfl | rfl | rfl | rfl <;> simp [basF, mulL, mulR, sz, oneL, plusL, conjL, scaleL, List.replicate]
 | [a, b, c], _, hk =>
  rcases (show k = 0 \/ k = 1 \/ k = 2 by simp at hk; omega) with rfl | rfl | rfl
  ·obtain rfl : i = 0 := by simpa using hi
   rcases hp with rfl | rfl | rfl | rfl | rfl <;> simp [basF, mulL, mulR, sz, oneL, plusL, conjL, scaleL, List.replicate]
  ·rcases (show i = 0 \/ i = 1 by simp at hi; omega) with rfl | rfl <;>
   rcases hp with rfl | rfl | rfl | rfl | rfl <;> simp [basF, mulL, mulR, sz, oneL, plusL, conjL, scaleL, List.replicate]
  ·rcases (show i = 0 \/ i = 1 \/ i = 2 \/ i = 3 by simp at hi; omega) with rfl | rfl | rfl | rfl <;>
   rcases hp with rfl | rfl | rfl | rfl | rfl <;> simp [basF, mulL, mulR, sz, oneL, plusL, conjL, scaleL, List.replicate]
theorem inv_one (hp : IsP p) : invL p 1 = 1 := by rcases hp with rfl | rfl | rfl | rfl | rfl <;> decide
theorem scaleL_id {xs : List Int} (h : Fp p xs) : scaleL p xs 1 = xs := by
 unfold scaleL
 conv => rhs; rw [<- List.map_id xs]
 refine List.map_congr_left fun x hx => ?_
 have := h x hx
 rw [Int.mul_one]
 exact Int.emod_eq_of_lt this.1 this.2
end
end Go.Proofs.YtilgbekffbphgaaGreat
