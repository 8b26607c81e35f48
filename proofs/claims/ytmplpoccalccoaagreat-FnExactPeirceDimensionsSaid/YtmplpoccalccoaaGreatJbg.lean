/- Texts joined for a claim: HdA, HdD. -/
import Derived.Test.YtmplpoccalccoaaGreatHcY
/-
  The checks of points; the numbers of a matrix in one row (reference); a fresh matrix by its parts; results in blocks apart.
-/
namespace Go.Proofs.YtmplpoccalccoaaGreat
open Go.RowKit

set_option maxRecDepth 100000 in
theorem sflat_c {p : Int} {n : Nat} {x : Value} {X : Her} {w : World} (hx : Hv w x X) (hX : isH p n X = true) (hn : 1 ≤ n) (hn2 : n ≤ 8) :
    Calls Tryz.prog 22 #[x] w fun e w' => ∃ v, e = .returned v ∧ FrI w' w.heap.size v (numsH X) ∧ Below w.heap.size w w' := by
  obtain ⟨hdl, hul, hpos, htot, _⟩ := isH_nums hX hn
  have hle := Lib.hid (show ∀ k, totN (X.up.take k) ≤ totN X.up from flat_le (xss := X.up))
  rw [htot] at hle
  obtain ⟨dv, uv, rfl, hd, hu⟩ := id hx
  obtain ⟨a1, c1, rfl, _⟩ := id hd.op
  obtain ⟨b1, k1, rfl, _, _, hu⟩ := hu
  rcases hu with hu0 | ⟨b, off, rfl, hu⟩
  · rw [hu0] at hul; exact absurd hul (by decide)
  have HX := Lib.hid hu
  have HD := Lib.hid hdl; have HU := Lib.hid hul; clear hu hul hx htot
  have hd3 : 0 < X.dg.length := by omega
  have hd4 : X.dg.length ≤ 1000 := by omega
  clear hdl
  go_enter Tryz.func22, Tryz.ntmps22
  have hb0 : Below w.heap.size w (w.alloc (.cells #[.slice a1 X.dg.length c1, .slice (some ⟨b, off, none⟩) X.up.length k1] 34)) := (by repeat (first | exact Below.refl _ _ | apply blw_drew | apply blw_alloc | (refine blw_set ?_ (by first | omega | (simp; done) | (simp; omega)) _) | refine below_chain ?_ (by assumption)))
  have hd := hd.below hb0
  have e0 : (w.alloc (.cells #[.slice a1 X.dg.length c1, .slice (some ⟨b, off, none⟩) X.up.length k1] 34)).cell? ⟨w.heap.size, 0, none⟩ = some (.slice a1 X.dg.length c1) := by simp [go_sem]
  have e1 : (w.alloc (.cells #[.slice a1 X.dg.length c1, .slice (some ⟨b, off, none⟩) X.up.length k1] 34)).cell? ⟨w.heap.size, 1, none⟩ = some (.slice (some ⟨b, off, none⟩) X.up.length k1) := by simp [go_sem]
  have hbw0 : Below w.heap.size w (w.alloc (.cells #[.slice a1 X.dg.length c1, .slice (some ⟨b, off, none⟩) X.up.length k1] 34)) := (by repeat (first | exact Below.refl _ _ | apply blw_drew | apply blw_alloc | (refine blw_set ?_ (by first | omega | (simp; done) | (simp; omega)) _) | refine below_chain ?_ (by assumption)))
  go_wp2_with fail
  obtain ⟨W0, hW0⟩ : ∃ W, W = (w.alloc (.cells #[.slice a1 X.dg.length c1, .slice (some ⟨b, off, none⟩) X.up.length k1] 34)) := ⟨_, rfl⟩
  rw [← hW0] at hbw0 hd e0 e1  ⊢
  clear hW0
  have e0_ := e0; have e1_ := e1
  go_wp2_with fail
  refine (own_c hd.sl hd3 (by omega)).mono ?_; rintro e w1 ⟨v1, rfl, ⟨g1, cap1, rfl, o1⟩, hb1⟩
  have hd := hd.below hb1; have e0 := kept hb1 e0; have e1 := kept hb1 e1
  go_wp2_with fail
  go_loopw [3, 4] (fun q i wr => ∃ (k g cap m : Nat), k ≤ 3 ∧ i = .int .i64 k ∧ q = .slice (some ⟨g, 0, none⟩) m cap ∧ m = X.dg.length + totN (X.up.take k) ∧ OwnI wr W0.heap.size g m cap (X.dg ++ (X.up.take k).flatten) ∧ Below W0.heap.size W0 wr) (fun _ i _ => 3 - (intOf i).toNat)
  case atStart => exact ⟨0, g1, cap1, X.dg.length, Nat.zero_le _, rfl, rfl, rfl, by simpa using o1, hb1⟩
  case round =>
    clear o1 hb1
    obtain ⟨k, gg, cc, m, hk, rfl, rfl, hmk, ho, hb⟩ := hrel
    by_cases hlt : k < 3
    · obtain ⟨a2, c2, xs, hxs, hc, he, ht⟩ := Re.get HX.out (m := k) (by rw [HU.out]; exact hlt)
      have hf := hle.out (k + 1)
      rw [ht, totN_snoc] at hf
      have hxp := hpos xs hxs
      have hbw := below_chain hbw0 hb
      have hc := kept hbw hc
      have e0 := kept hb e0_; have e1 := kept hb e1_
      obtain ⟨b2, o2, c3, e2, _, _, hA⟩ := (he.below hbw).op1 hxp
      cases e2
      have hlk : k < X.up.length := by rw [HU.out]; exact hlt
      have hm1 : m ≤ 100 := by have := HD.out; omega
      have hxl : xs.length ≤ 100 := by omega
      have HT := Lib.hid ht; have HMM := Lib.hid hmk; clear ht hmk
      obtain ⟨ys, hys⟩ : ∃ ys, ys = X.dg ++ (X.up.take k).flatten := ⟨_, rfl⟩
      rw [← hys] at ho
      have HYS := Lib.hid hys; clear hys
      go_wp2_with (at_builtin; refine app_int rfl _ _ rfl wr W0.heap.size gg m cc ys rfl b2 o2 xs.length c2 xs rfl ho hb.size hA rfl hxp (by omega) ?_; intro g' cap' w' ho' hg' hge)
      go_roundw
      case rel => exact ⟨k + 1, g', cap', m + xs.length, by omega, by go_num, rfl, by rw [HT.out, totN_snoc, HMM.out]; omega, by rw [HT.out, List.flatten_append, ← List.append_assoc, ← HYS.out]; simpa using ho', blw_grown hb hg' ho.lt.1⟩
      case measure => simp [intOf]; omega
    · obtain rfl : k = 3 := by omega
      have e : X.up.take 3 = X.up := take_all (by have := HU.out; omega)
      rw [e] at hmk ho
      clear e
      have HMM := Lib.hid hmk; clear hmk
      go_wp2
      go_ret
      refine ⟨_, rfl, FrI.more (B := W0.heap.size) ⟨gg, cc, ?_, ?_⟩ hbw0.size, below_chain hbw0 hb⟩
      · rw [HMM.out]; unfold numsH totN; rw [List.length_append]; rfl
      · have e := HMM.out; rw [e] at ho; rw [show (numsH X).length = X.dg.length + totN X.up by unfold numsH totN; rw [List.length_append]]; exact ho
theorem FrH.op3 {w : World} {B : Nat} {x : Value} {X : Her} {p : Int} {n : Nat} (h : FrH w B x X) (hX : isH p n X = true) :
    ∃ a b c u v t bd cd bu cu r s q, X = ⟨[a, b, c], [u, v, t]⟩ ∧ x = .agg #[.slice (some ⟨bd, 0, none⟩) 3 cd, .slice (some ⟨bu, 0, none⟩) 3 cu] ∧ (Ev p n u ∧ Ev p n v ∧ Ev p n t) ∧
      (w.cell? ⟨bu, 0, none⟩ = some r ∧ w.cell? ⟨bu, 1, none⟩ = some s ∧ w.cell? ⟨bu, 2, none⟩ = some q) ∧ FrI w B r u ∧ FrI w B s v ∧ FrI w B q t ∧ (∃ a' c', r = .slice a' u.length c') ∧ (∃ a' c', s = .slice a' v.length c') ∧ (∃ a' c', q = .slice a' t.length c') := by
  obtain ⟨a, b, c, u, v, t, rfl, _, _, _, _, _, _, eu, ev, et⟩ := isH_op hX
  obtain ⟨d, y, us, rfl, ⟨gd, cd, rfl, hd⟩, ⟨gu, cu, rfl, ho, hl, hr, _⟩, _⟩ := h
  have hl3 : us.length = 3 := hl
  match us, hl3 with
  | [r, s, q], _ =>
    have hc := fun j z hz => World.ownsRow.cells ho (g := gu) rfl j z hz
    have c0 := hc 0 r rfl; have c1 := hc 1 s rfl; have c2 := hc 2 q rfl
    rw [addz] at c0 c1 c2
    have f0 := hr 0 (by simp) (by simp); have f1 := hr 1 (by simp) (by simp); have f2 := hr 2 (by simp) (by simp)
    exact ⟨a, b, c, u, v, t, gd, cd, gu, cu, r, s, q, rfl, rfl, ⟨eu, ev, et⟩, ⟨c0, c1, c2⟩, f0, f1, f2, by obtain ⟨g, cap, e, _⟩ := f0; exact ⟨_, _, e⟩, by obtain ⟨g, cap, e, _⟩ := f1; exact ⟨_, _, e⟩, by obtain ⟨g, cap, e, _⟩ := f2; exact ⟨_, _, e⟩⟩
/-- Slices that do not share a block. -/
def Apt (u v : Value) : Prop := u.ownBlock = none ∨ v.ownBlock = none ∨ u.ownBlock ≠ v.ownBlock
theorem Apt.sw {u v : Value} (h : Apt u v) : Apt v u := by
  rcases h with h | h | h
  · exact .inr (.inl h)
  · exact .inl h
  · exact .inr (.inr (Ne.symm h))
theorem Apt.fr {w w' : World} {B B' : Nat} {u v : Value} {xs ys : List Int} (h : FrI w B u xs) (h' : FrI w' B' v ys) (hB : w.heap.size ≤ B') : Apt u v := by
  obtain ⟨g, e, _, hg⟩ := h.blk
  obtain ⟨g', e', hg', _⟩ := h'.blk
  refine .inr (.inr ?_)
  rw [e, e']
  intro e2
  have e3 := Option.some.inj e2
  omega
end Go.Proofs.YtmplpoccalccoaaGreat
/-
  Peirce parts and primitive idempotents: plain functions; lists of three matrices.
-/
namespace Go.Proofs.YtmplpoccalccoaaGreat
open Go.RowKit

def wholeH (p : Int) (st : List Int) (E X : Her) : Her := sumH p (multH p (jordanH p st E (jordanH p st E X)) 2) (-1) (jordanH p st E X)
def halfP (p : Int) (st : List Int) (E X : Her) : Her := multH p (sumH p (jordanH p st E X) (-1) (jordanH p st E (jordanH p st E X))) 4
def peirH (p : Int) (st : List Int) (E X : Her) (k : Int) : Her := if k = 2 then wholeH p st E X else if k = 1 then halfP p st E X else sumH p (sumH p X (-1) (wholeH p st E X)) (-1) (halfP p st E X)
section
variable {p : Int} {st : List Int} {E X Y Z : Her}
theorem wholeH_is (hp : 2 ≤ p) (hE : isH p (sz st.length) E = true) (hX : isH p (sz st.length) X = true) : isH p (sz st.length) (wholeH p st E X) = true :=
  sumH_is (by omega) (multH_is (by omega) (jordanH_is hp hE (jordanH_is hp hE hX))) (jordanH_is hp hE hX)
theorem halfP_is (hp : 2 ≤ p) (hE : isH p (sz st.length) E = true) (hX : isH p (sz st.length) X = true) : isH p (sz st.length) (halfP p st E X) = true :=
  multH_is (by omega) (sumH_is (by omega) (jordanH_is hp hE hX) (jordanH_is hp hE (jordanH_is hp hE hX)))
theorem peirH_is {k : Int} (hp : 2 ≤ p) (hE : isH p (sz st.length) E = true) (hX : isH p (sz st.length) X = true) : isH p (sz st.length) (peirH p st E X k) = true := by
  unfold peirH
  split
  · exact wholeH_is hp hE hX
  · split
    · exact halfP_is hp hE hX
    · exact sumH_is (by omega) (sumH_is (by omega) hX (wholeH_is hp hE hX)) (halfP_is hp hE hX)
theorem plus_swap : ∀ xs ys zs : List Int, plusL p (plusL p xs ys (-1)) zs (-1) = plusL p (plusL p xs zs (-1)) ys (-1)
  | [], _, _ => by simp [plusL]
  | _ :: _, [], zs => by cases zs <;> simp [plusL]
  | _ :: _, _ :: _, [] => by simp [plusL]
  | x :: xs, y :: ys, z :: zs => by
    have ih := plus_swap xs ys zs
    unfold plusL at ih ⊢
    simp only [List.zipWith_cons_cons, ih, Int.emod_add_emod]
    rw [show x + -1 * y + -1 * z = x + -1 * z + -1 * y by omega]
theorem sumH_swap : sumH p (sumH p X (-1) Y) (-1) Z = sumH p (sumH p X (-1) Z) (-1) Y := by
  unfold sumH Her.r
  simp only [plus_swap, List.getD_cons_zero, List.getD_cons_succ]
theorem multH_mod {k : Int} : multH p X (k % p) = multH p X k := by
  have h : ∀ xs : List Int, scaleL p xs (k % p) = scaleL p xs k := fun xs => by
    unfold scaleL
    exact List.map_congr_left fun x _ => by rw [Int.mul_emod, Int.emod_emod_of_dvd _ (Int.dvd_refl p), ← Int.mul_emod]
  unfold multH
  simp only [h]
end
end Go.Proofs.YtmplpoccalccoaaGreat
