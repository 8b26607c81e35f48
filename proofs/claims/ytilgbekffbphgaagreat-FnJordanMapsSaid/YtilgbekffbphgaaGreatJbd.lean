/- Texts joined for a claim: Aut, MeA, LinD. -/
import Derived.Test.YtilgbekffbphgaaGreatJba
import Derived.Test.YtilgbekffbphgaaGreatJbc
import Derived.Test.YtilgbekffbphgaaGreatJbb
namespace Go.Proofs.YtilgbekffbphgaaGreat
def applyL (p : Int) (M : List (List Int)) (v : List Int) : List Int := M.map fun r => dotL p r v
theorem dotS_zr : ∀ {x y : List Int}, Zr y -> dotS x y = 0
 | [], _, _ => by simp [dotS]
 | _ :: _, [], _ => by simp [dotS]
 | x :: xs, y :: ys, z => by
  have h0 : y = 0 := z 0
  have h1 : Zr ys := fun j => z (j + 1)
  simp only [dotS, h0, dotS_zr h1, Int.mul_zero, Int.add_zero]
theorem dotS_sup : ∀ {x y : List Int} {k : Nat}, Sup k y -> dotS x y = x.getD k 0 * y.getD k 0
 | [], _, _, _ => by simp [dotS]
 | _ :: _, [], _, _ => by simp [dotS]
 | x :: xs, y :: ys, 0, z => by
  have h1 : Zr ys := fun j => z (j + 1) (by omega)
  simp only [dotS, dotS_zr h1, List.getD_cons_zero, Int.add_zero]
 | x :: xs, y :: ys, k + 1, z => by
  have h0 : y = 0 := z 0 (by omega)
  have h1 : Sup k ys := fun j hj => z (j + 1) (by omega)
  simp only [dotS, h0, dotS_sup h1, List.getD_cons_succ, Int.mul_zero, Int.zero_add]
theorem apply_sup {p : Int} {M : List (List Int)} {v : List Int} {j : Nat} (h : Sup j v) : applyL p M v = scaleL p (colL M j) (v.getD j 0) := by
 unfold applyL scaleL colL
 rw [List.map_map]
 refine List.map_congr_left fun r _ => ?_
 unfold dotL
 rw [dotS_sup h]; rfl
def autB (p : Int) (st : List Int) (M : List (List Int)) : Bool :=
 ((List.range (sz st.length)).all fun i => (List.range (sz st.length)).all fun k => decide (scaleL p (colL M (i ^^^ k)) (basF p st i k) = mulL p st (colL M i) (colL M k))) && decide ((redL p M).length = sz st.length)
def autK (p : Int) (st : List Int) (M : List (List Int)) : Bool :=
 (detL p M != 0) && ((List.range (sz st.length)).all fun i => (List.range (sz st.length)).all fun k => decide (applyL p M (mulL p st (oneL (sz st.length) i) (oneL (sz st.length) k)) = mulL p st (colL M i) (colL M k)))
theorem aut_eq {p : Int} {st : List Int} {M : List (List Int)} (hd : Dok p st) (hM : matB p (sz st.length) M = true) : autK p st M = autB p st M := by
 obtain ⟨h1, h2⟩ := matB_iff.1 hM
 have hdet := det_red hd.hp (m := sz st.length) h2 h1
 unfold autK autB
 rw [Bool.and_comm]
 congr 1
 ·rw [Bool.eq_iff_iff]
  simp only [List.all_eq_true, List.mem_range, decide_eq_true_eq]
  have e : ∀ i, i < sz st.length -> ∀ k, k < sz st.length -> applyL p M (mulL p st (oneL (sz st.length) i) (oneL (sz st.length) k)) = scaleL p (colL M (i ^^^ k)) (basF p st i k) := fun i hi k hk =>
   apply_sup (mul_sup hd oneL_len oneL_len hi hk one_sup one_sup)
  constructor
  ·intro a i hi k hk
   rw [<- e i hi k hk]; exact a i hi k hk
  ·intro a i hi k hk
   rw [e i hi k hk]; exact a i hi k hk
 ·rw [Bool.eq_iff_iff, bne_iff_ne, decide_eq_true_eq]
  exact hdet
def tabB (p : Int) (M : List (List Int)) : Bool := decide (M.length <= 16) && M.all fun r => decide (r.length = (M.getD 0 []).length) && decide (1 <= r.length) && decide (r.length <= 16) && isL p r
def matP (p : Int) (n : Nat) (M : List (List Int)) : Bool := decide (0 < M.length) && tabB p M && decide (M.length = n) && decide ((M.getD 0 []).length = n)
theorem matP_eq {p : Int} {n : Nat} {M : List (List Int)} (h1 : 1 <= n) (h2 : n <= 16) : matP p n M = matB p n M := by
 rw [Bool.eq_iff_iff, matB_iff]
 unfold matP tabB Ev
 simp only [Bool.and_eq_true, decide_eq_true_eq, List.all_eq_true, isL_fp]
 constructor
 ·rintro ⟨⟨⟨_, _, hall⟩, hl⟩, h0⟩
  exact ⟨hl, fun r hr => ⟨(hall r hr).1.1.1.trans h0, (hall r hr).2⟩⟩
 ·rintro ⟨hl, h⟩
  have e0 := (h _ (get_mem (B := M) (i := 0) (by omega))).1
  exact ⟨⟨⟨by omega, by omega, fun r hr => ⟨⟨⟨(h r hr).1.trans e0.symm, by have := (h r hr).1; omega⟩, by have := (h r hr).1; omega⟩, (h r hr).2⟩⟩, hl⟩, e0⟩
theorem apply_ev {p : Int} {n : Nat} {M : List (List Int)} {v : List Int} (hp : 1 <= p) (h : matB p n M = true) : Ev p n (applyL p M v) := by
 refine ⟨by unfold applyL; rw [List.length_map]; exact (matB_iff.1 h).1, fun x hx => ?_⟩
 obtain ⟨r, _, rfl⟩ := List.mem_map.1 hx
 exact mod_fp hp
def mapH (p : Int) (M : List (List Int)) (X : Her) : Her := ⟨X.dg, X.up.map (applyL p M)⟩
theorem mapH_is {p : Int} {n : Nat} {M : List (List Int)} {X : Her} (hp : 1 <= p) (h : matB p n M = true) (hX : isH p n X = true) : isH p n (mapH p M X) = true := by
 obtain ⟨a, b, c, u, v, t, rfl, ha, ha', hb, hb', hc, hc', eu, ev, et⟩ := isH_op hX
 exact isH_mk ⟨ha, ha'⟩ ⟨hb, hb'⟩ ⟨hc, hc'⟩ (apply_ev hp h) (apply_ev hp h) (apply_ev hp h)
def RMapEntries1 (p0 : Int) (st0 : List Int) (M1 : List (List Int)) (X2 : Her) : Int :=
 if chkH p0 st0 [X2] = 0 then (if matB p0 (sz st0.length) M1 = true then (if autB p0 st0 M1 = true then 0 else 5) else 2) else chkH p0 st0 [X2]
def RMapEntries0 (p0 : Int) (st0 : List Int) (M1 : List (List Int)) (X2 : Her) : Her := if RMapEntries1 p0 st0 M1 X2 = 0 then mapH p0 M1 X2 else ⟨[], []⟩
open Go.RowKit
/-! ### Rows of the call's own -/
def RowsF (w : World) (B : Nat) (us : List Value) (xss : List (List Int)) : Prop := us.length = xss.length /\ ∀ j (h : j < us.length) (h' : j < xss.length), FrI w B us[j] xss[j]
section
variable {w w' : World} {B B' : Nat} {v u : Value} {us us' : List Value} {xss : List (List Int)} {xs : List Int}
theorem RowsF.nil (w : World) (B : Nat) : RowsF w B [] [] := ⟨rfl, fun j h => by simp at h⟩
theorem RowsF.below (h : RowsF w B us xss) (hb : Below w.heap.size w w') : RowsF w' B us xss := ⟨h.1, fun j a b => (h.2 j a b).below hb⟩
theorem RowsF.app (h : RowsF w B us xss) (ho : OwV w B' v us') (hg : w.grownBy w' v.ownBlock) : RowsF w' B us xss := ⟨h.1, fun j a b => (h.2 j a b).app ho hg⟩
theorem RowsF.snoc (h : RowsF w B us xss) (hu : FrI w B u xs) : RowsF w B (us ++ [u]) (xss ++ [xs]) := by
 refine ⟨by simp [h.1], fun j a b => ?_⟩
 rw [List.length_append] at a
 simp at a
 by_cases hj : j < us.length
 ·have := h.1
  rw [List.getElem_append_left hj, List.getElem_append_left (by omega)]
  exact h.2 j hj (by omega)
 ·obtain rfl : j = us.length := by omega
  have e := h.1
  have h1 : (us ++ [u])[us.length]'(by simp) = u := by simp
  have h2 : (xss ++ [xs])[us.length]'(by simp [e]) = xs := by simp [e]
  rw [h1, h2]; exact hu
theorem RowsF.re (h : RowsF w B us xss) (ho : OwV w B v us) : Re w v xss := by
 have hl := h.1
 rcases ho.2 with ⟨rfl, h2⟩ | ⟨g, cap, cur, rfl, hB, hh, h3, h4, h5, h6⟩
 ·have : us.length = 0 := by simpa using h2
  have e : xss = [] := List.eq_nil_of_length_eq_zero (by omega)
  rw [e]; exact Re.nil w
 ·simp only [maxLen] at h4
  refine ⟨_, cap, by rw [hl], by omega, by omega, .inr ⟨g, 0, rfl, fun j hj => ⟨us[j]'(by omega), ?_, (h.2 j (by omega) hj).el⟩⟩⟩
  have := World.ownsRow.cells ho (g := g) rfl j (us[j]'(by omega)) (by simp)
  rw [addz] at this
  rw [Nat.zero_add]; exact this
end
theorem rest_take {p : Int} {L : List (List Int)} {v s : List Int} {k : Nat} (h : L.take (k + 1) = L.take k ++ [s]) : restL p (L.take (k + 1)) v = red p (leadN s) s (restL p (L.take k) v) := by
 unfold restL
 rw [h, List.foldl_append]; rfl
theorem red_minus {p : Int} {k : Nat} {w x : List Int} : plusL p x (scaleL p w (x.getD k 0)) (p - 1) = red p k w x := by
 unfold red
 rw [zw_scale2]
 refine plusL_cong ?_
 rw [Int.mul_sub, Int.mul_one, Int.sub_eq_add_neg, Int.add_comm, Int.add_mul_emod_self_right]
theorem Rref.short {p : Int} {m : Nat} {L : List (List Int)} (h : Rref p m L) : L.length <= m := by
 have := asc_le (b := 0) (m := m) h.asc (fun x hx => by
  obtain ⟨r, hr, rfl⟩ := List.mem_map.1 hx
  exact ⟨Nat.zero_le _, (h.one r hr).1⟩)
 rw [List.length_map] at this
 omega
theorem take_rw {p : Int} {m : Nat} {L : List (List Int)} (h : Rw p m L) (k : Nat) : Rw p m (L.take k) := fun r hr => h r (List.mem_of_mem_take hr)
set_option maxHeartbeats 1000000 in
set_option maxRecDepth 100000 in
theorem srest_c {p : Int} {rows x : Value} {m : Nat} {L : List (List Int)} {xs : List Int} {w : World} (hp : IsP p) (hL : Rref p m L) (hr : Re w rows L) (hx : Sl w x xs) (ex : Ev p m xs) (hm1 : 1 <= m) (hm2 : m <= 1000) :
  Calls Tryz.prog 120 #[.int .i64 p, rows, x] w fun e w' => ∃ v, e = .returned v /\ FrI w' w.heap.size v (restL p L xs) /\ Below w.heap.size w w' := by
 have hp1 := hp.lo
 have hp2 := hp.hi
 have hsh := hL.short
 obtain ⟨a, c, rfl, h1, h2, hR⟩ := hr
 obtain ⟨xl, hxl⟩ := ex
 have HX := Lib.hid xl; clear xl
 have hev := fun k => rest_ev (p := p) (by omega) (take_rw hL.rw_ k) ⟨HX.out, hxl⟩
 go_enter Tryz.func120, Tryz.ntmps120
 go_wp2_with fail
 refine (own_c hx (by have := HX.out; omega) (by have := HX.out; omega)).mono ?_; rintro e w1 ⟨v, rfl, ⟨g, cap, rfl, hv⟩, hb⟩
 rw [HX.out] at hv ⊢
 go_wp2_with fail
 go_loopw [7, 8] (fun o i wr => ∃ k g cap : Nat, k <= L.length /\ i = .int .i64 k /\ o = .slice (some ⟨g, 0, none⟩) m cap /\ OwnI wr w.heap.size g m cap (restL p (L.take k) xs) /\ Below w.heap.size w wr)
  (fun _ i _ => L.length - (intOf i).toNat)
 case atStart => exact ⟨0, g, cap, Nat.zero_le _, rfl, rfl, by rw [List.take_zero]; exact hv, hb⟩
 case round =>
  obtain ⟨k, g, cap, hk, rfl, rfl, hown, hbr⟩ := hrel
  by_cases hlt : k < L.length
  ·obtain ⟨b, off, rfl, hcell⟩ := hR.resolve_left (fun e => by rw [e] at hlt; simp at hlt)
   obtain ⟨a2, c2, s, hs, hc, hE, ht⟩ := Re.get hcell hlt
   have hc := kept hbr hc
   have hE := hE.below hbr
   have es := hL.rw_ s hs
   have ho := hL.one s hs
   have er := hev k
   have hrt := rest_take (p := p) (v := xs) ht
   have hq := hown.hold (i := leadN s) (by omega)
   have hqb := er.at (p := p) (by omega) (leadN s)
   obtain ⟨R, hR_⟩ : ∃ R, R = restL p (L.take k) xs := ⟨_, rfl⟩
   rw [<- hR_] at hown er hrt hq hqb
   obtain ⟨q, hq_⟩ : ∃ q, q = R.getD (leadN s) 0 := ⟨_, rfl⟩
   rw [<- hq_] at hq hqb
   have hll := ho.1
   have hl1 : s.length <= 1000000 := by have := es.1; omega
   obtain ⟨ld, hld⟩ : ∃ ld, ld = leadN s := ⟨_, rfl⟩
   have hcon := fun W (h : Sl W (.slice a2 s.length c2) s) => first_c h hl1
   simp only [<- hld] at hcon hq hll
   have H := Lib.hid (And.intro hrt (And.intro hR_ (And.intro hq_ (And.intro ht (And.intro ho (And.intro hld (And.intro es.1 er.1))))))); clear hrt hR_ hq_ ht ho hld hev
   have fs := es.2; have fr := er.2; clear es er
   go_wp2_with fail
   refine (hcon _ hE.sl).mono ?_; rintro e w2 ⟨rfl, rfl⟩
   by_cases hq0 : q = 0
   ·subst hq0
    have e1 : restL p (L.take (k + 1)) xs = R := by
     rw [H.out.1]
     exact red_0 (m := m) (by omega) ⟨H.out.2.2.2.2.2.2.2, fr⟩ ⟨H.out.2.2.2.2.2.2.1, fs⟩ H.out.2.2.1.symm
    have E1 := Lib.hid e1; clear e1
    go_wp2_with fail
    go_roundw
    case rel => exact ⟨k + 1, g, cap, by omega, by go_num, rfl, by rw [E1.out]; exact hown, hbr⟩
    case measure => simp [intOf]; omega
   ·have hne : (q != 0) = true := by simpa using hq0
    have e1 : plusL p R (scaleL p s q) (p - 1) = restL p (L.take (k + 1)) xs := by rw [H.out.1, H.out.2.2.1]; exact red_minus
    have E1 := Lib.hid e1; clear e1
    have E2 := Lib.hid (show (restL p (L.take (k + 1)) xs).length = m by rw [H.out.1]; exact (red_ev (m := m) (by omega) ⟨H.out.2.2.2.2.2.2.2, fr⟩ ⟨H.out.2.2.2.2.2.2.1, fs⟩).1)
    go_wp2_with fail
    refine (sscale_c (k := q) (by omega) (by omega) (by omega) (by omega) hE.sl (fs.sm (by omega) (by omega)) hl1).mono ?_; rintro e w3 ⟨v3, rfl, hv3, hb3⟩
    have hown := hown.below hb3
    have hbr := bwC hbr hb3
    have fsc := scaleL_fp (p := p) (xs := s) (k := q) (by omega)
    go_wp2_with fail
    refine (sminus_c (by omega) (by omega) hown.sl hv3.sl (fr.sm (by omega) (by omega)) (fsc.sm (by omega) (by omega)) (by rw [scaleL_len, H.out.2.2.2.2.2.2.1, H.out.2.2.2.2.2.2.2]) (by have := H.out.2.2.2.2.2.2.2; omega)).mono ?_; rintro e w4 ⟨v4, rfl, hv4, hb4⟩
    rw [E1.out] at hv4
    obtain ⟨g4, cap4, rfl, hO4⟩ := hv4.more hbr.size
    clear hv4
    rw [E2.out] at hO4 ⊢
    have hbr := bwC hbr hb4
    go_wp2_with fail
    go_roundw
    case rel => exact ⟨k + 1, g4, cap4, by omega, by go_num, rfl, hO4, hbr⟩
    case measure => simp [intOf]; omega
  ·obtain rfl : k = L.length := by omega
   rw [take_all (Nat.le_refl _)] at hown
   go_wp2_with fail
   go_ret
   exact ⟨_, rfl, hown.fr, hbr⟩
/-! ### Putting a row -/
def stepI (p : Int) (at_ : Nat) (w : List Int) (s : List (List Int) × Bool) (r : List Int) : List (List Int) × Bool :=
 if !s.2 && decide (at_ < leadN r) then (s.1 ++ [w] ++ [red p at_ w r], true) else (s.1 ++ [red p at_ w r], s.2)
def insF (p : Int) (at_ : Nat) (w : List Int) (L : List (List Int)) : List (List Int) × Bool := L.foldl (stepI p at_ w) ([], false)
theorem insL_pos {p : Int} {k : Nat} {w r : List Int} {rs : List (List Int)} (h : k < leadN r) : insL p k w (r :: rs) = w :: (r :: rs).map (red p k w) := if_pos h
theorem insL_neg {p : Int} {k : Nat} {w r : List Int} {rs : List (List Int)} (h : ¬ k < leadN r) : insL p k w (r :: rs) = red p k w r :: insL p k w rs := if_neg h
theorem ins_fold {p : Int} {k : Nat} {w : List Int} : ∀ {L acc : List (List Int)},
  (L.foldl (stepI p k w) (acc, true) = (acc ++ L.map (red p k w), true)) /\
  ((if (L.foldl (stepI p k w) (acc, false)).2 then (L.foldl (stepI p k w) (acc, false)).1 else (L.foldl (stepI p k w) (acc, false)).1 ++ [w]) = acc ++ insL p k w L)
 | [], acc => by simp [insL]
 | r :: L, acc => by
  constructor
  ·rw [List.foldl_cons, show stepI p k w (acc, true) r = (acc ++ [red p k w r], true) from rfl, ins_fold.1]; simp
  ·by_cases h : k < leadN r
   ·have e : stepI p k w (acc, false) r = (acc ++ [w] ++ [red p k w r], true) := by unfold stepI; simp [h]
    rw [List.foldl_cons, e, ins_fold.1, insL_pos h]
    simp
   ·have e : stepI p k w (acc, false) r = (acc ++ [red p k w r], false) := by unfold stepI; simp [h]
    rw [List.foldl_cons, e, ins_fold.2, insL_neg h]
    simp
theorem insF_eq {p : Int} {k : Nat} {w : List Int} {L : List (List Int)} : (if (insF p k w L).2 then (insF p k w L).1 else (insF p k w L).1 ++ [w]) = insL p k w L := by
 have := (ins_fold (p := p) (k := k) (w := w) (L := L) (acc := [])).2
 rw [List.nil_append] at this
 exact this
theorem insF_snoc {p : Int} {k j : Nat} {w s : List Int} {L : List (List Int)} (h : L.take (j + 1) = L.take j ++ [s]) : insF p k w (L.take (j + 1)) = stepI p k w (insF p k w (L.take j)) s := by
 unfold insF
 rw [h, List.foldl_append]; rfl
def potI (s : List (List Int) × Bool) : Nat := s.1.length + if s.2 then 0 else 1
theorem stepI_pot {p : Int} {k : Nat} {w r : List Int} {s : List (List Int) × Bool} : potI (stepI p k w s r) <= potI s + 1 := by
 obtain ⟨acc, b⟩ := s
 unfold stepI potI
 cases b
 ·by_cases h : k < leadN r <;> simp [h] <;> omega
 ·simp
theorem foldI_pot {p : Int} {k : Nat} {w : List Int} : ∀ {L : List (List Int)} {s : List (List Int) × Bool}, potI (L.foldl (stepI p k w) s) <= potI s + L.length
 | [], _ => Nat.le_refl _
 | r :: L, s => by
  have h1 := foldI_pot (p := p) (k := k) (w := w) (L := L) (s := stepI p k w s r)
  have h2 := stepI_pot (p := p) (k := k) (w := w) (r := r) (s := s)
  rw [List.foldl_cons, List.length_cons]; omega
theorem insF_len {p : Int} {k : Nat} {w : List Int} {L : List (List Int)} : (insF p k w L).1.length <= L.length + 1 := by
 have h := foldI_pot (p := p) (k := k) (w := w) (L := L) (s := ([], false))
 have e : potI ([], false) = 1 := rfl
 unfold insF
 unfold potI at h
 rw [show (if (([], false) : List (List Int) × Bool).2 = true then 0 else 1) = 1 from rfl] at h
 simp only [List.length_nil] at h
 omega
end Go.Proofs.YtilgbekffbphgaaGreat
