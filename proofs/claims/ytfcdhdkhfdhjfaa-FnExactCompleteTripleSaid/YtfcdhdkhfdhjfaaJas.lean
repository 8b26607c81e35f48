/- Texts joined for a claim: LinC, Aut, MeA, LinD. -/
import Derived.Test.YtfcdhdkhfdhjfaaLinB
import Derived.Test.YtfcdhdkhfdhjfaaJao
import Derived.Test.YtfcdhdkhfdhjfaaJap
/-
  Reduced rows by columns; determinants other than 0. No program in sight.
-/
namespace Go.Proofs.Ytfcdhdkhfdhjfaa

def fndR (k : Nat) (B : List (List Int)) : Nat := B.findIdx fun r => r.getD k 0 != 0
def othR (i : Nat) (B : List (List Int)) : List (List Int) := (B.set i (B.getD 0 [])).drop 1
def wB (p : Int) (k : Nat) (B : List (List Int)) : List Int := normW p k (B.getD (fndR k B) [])
def stepB (p : Int) (k : Nat) (s : List (List Int) × List (List Int)) : List (List Int) × List (List Int) :=
  if fndR k s.2 = s.2.length then s else (s.1.map (red p k (wB p k s.2)) ++ [wB p k s.2], (othR (fndR k s.2) s.2).map (red p k (wB p k s.2)))
def colsB (p : Int) : Nat → List (List Int) × List (List Int) → List (List Int) × List (List Int)
  | 0, s => s
  | k + 1, s => stepB p k (colsB p k s)
def basisL (p : Int) (m : Nat) (rows : List (List Int)) : List (List Int) := (colsB p m ([], rows)).1
section
variable {p : Int} {m : Nat} {rows rs a b c A B R : List (List Int)} {v w r x : List Int} {k i : Nat}
theorem fnd_le : fndR k B ≤ B.length := List.findIdx_le_length
theorem fnd_get (h : fndR k B < B.length) : (B.getD (fndR k B) []).getD k 0 ≠ 0 := by
  have := List.findIdx_getElem (w := h)
  have e : B.getD (fndR k B) [] = B[fndR k B] := by rw [List.getD_eq_getElem?_getD, List.getElem?_eq_getElem h]; rfl
  rw [e]
  simpa [fndR] using this
theorem fnd_none (h : fndR k B = B.length) : ∀ x ∈ B, x.getD k 0 = 0 := fun x hx => by
  have := (List.findIdx_eq_length.1 h) x hx
  simpa using this
theorem get_mem (h : i < B.length) : B.getD i [] ∈ B := by
  rw [List.getD_eq_getElem?_getD, List.getElem?_eq_getElem h]
  exact List.getElem_mem h
theorem oth_mem (h : i < B.length) (hx : x ∈ othR i B) : x ∈ B := by
  match B, i with
  | b :: bs, 0 => simpa [othR] using Or.inr hx
  | b :: bs, j + 1 =>
    have hx : x ∈ bs.set j b := by simpa [othR] using hx
    rcases List.mem_or_eq_of_mem_set hx with h | h
    · exact List.mem_cons_of_mem _ h
    · rw [h]; exact List.mem_cons_self
theorem mem_oth (h : i < B.length) (hx : x ∈ B) : x = B.getD i [] ∨ x ∈ othR i B := by
  match B, i with
  | b :: bs, 0 =>
    rcases List.mem_cons.1 hx with h | h
    · exact .inl (by simpa using h)
    · exact .inr (by simpa [othR] using h)
  | b :: bs, j + 1 =>
    have e : othR (j + 1) (b :: bs) = bs.set j b := by simp [othR]
    have hj : j < bs.length := by simpa using h
    rw [e]
    rcases List.mem_cons.1 hx with h | h
    · exact .inr (h ▸ List.mem_set hj _)
    · obtain ⟨t, ht, rfl⟩ := List.mem_iff_getElem.1 h
      by_cases e : t = j
      · subst e
        exact .inl (by simp [List.getD_eq_getElem?_getD, ht])
      · refine .inr (List.mem_iff_getElem.2 ⟨t, by simpa using ht, ?_⟩)
        rw [List.getElem_set_ne (fun h => e h.symm)]
theorem oth_len (_ : i < B.length) : (othR i B).length = B.length - 1 := by simp [othR]
theorem ins_all : ∀ {rows : List (List Int)}, (∀ x ∈ rows, leadN x < k) → insL p k w rows = rows.map (red p k w) ++ [w]
  | [], _ => rfl
  | r :: rs, h => by
    have := h r (by simp)
    unfold insL
    rw [if_neg (by omega), ins_all fun x hx => h x (by simp [hx])]; rfl
structure BI (p : Int) (m k : Nat) (orig : List (List Int)) (s : List (List Int) × List (List Int)) : Prop where
  rref : Rref p m s.1
  rwb : Rw p m s.2
  lt : ∀ x ∈ s.1, leadN x < k
  low : ∀ x ∈ s.2, ∀ c < k, x.getD c 0 = 0
  same : SameS p m (s.1 ++ s.2) orig
theorem low_succ (h : ∀ c < k, x.getD c 0 = 0) (h2 : x.getD k 0 = 0) : ∀ c < k + 1, x.getD c 0 = 0 := fun c hc => by
  by_cases e : c = k
  · rw [e]; exact h2
  · exact h c (by omega)
theorem BI.step (hp : IsP p) {orig : List (List Int)} {s : List (List Int) × List (List Int)} (hk : k < m) (h : BI p m k orig s) : BI p m (k + 1) orig (stepB p k s) := by
  have hp1 := hp.lo
  unfold stepB
  split
  · next hn => exact ⟨h.rref, h.rwb, fun x hx => by have := h.lt x hx; omega, fun x hx => low_succ (h.low x hx) (fnd_none hn x hx), h.same⟩
  · next hn =>
    have hlt : fndR k s.2 < s.2.length := Nat.lt_of_le_of_ne fnd_le hn
    have hm := get_mem hlt
    have ew := h.rwb _ hm
    have hne := fnd_get hlt
    have hw : Ev p m (wB p k s.2) := normW_ev (p := p) (k := k) (by omega) ew
    have wk : (wB p k s.2).getD k 0 = 1 := normW_k hp ew hne
    have wl : ∀ c < k, (wB p k s.2).getD c 0 = 0 := fun c hc => normW_0 (h.low _ hm c hc)
    have hl : leadN (wB p k s.2) = k := lead_is (by rw [wk]; decide) wl
    have hins := ins_all (p := p) (w := wB p k s.2) h.lt
    have hwz : ∀ x ∈ s.1, (wB p k s.2).getD (leadN x) 0 = 0 := fun x hx => wl _ (h.lt x hx)
    have hr := ins_rref (by omega) hw hl hk wk h.rref hwz
    have ho : Rw p m (othR (fndR k s.2) s.2) := fun x hx => h.rwb x (oth_mem hlt hx)
    have hom : Rw p m ((othR (fndR k s.2) s.2).map (red p k (wB p k s.2))) := fun x hx => by
      obtain ⟨y, hy, rfl⟩ := List.mem_map.1 hx
      exact red_ev (by omega) (ho y hy) hw
    have hab := h.rref.rw_.app h.rwb
    rw [← hins]
    refine ⟨hr, hom, fun x hx => ?_, fun x hx => ?_, SameS.tr ?_ h.same⟩
    · rcases ins_mem hx with rfl | ⟨y, hy, rfl⟩
      · omega
      · rw [red_lead (by omega) (h.rref.rw_ y hy) hw hl (h.rref.one y hy).1 (hwz y hy) (by have := h.lt y hy; omega)]
        have := h.lt y hy; omega
    · obtain ⟨y, hy, rfl⟩ := List.mem_map.1 hx
      have ey := ho y hy
      refine low_succ (fun c hc => ?_) (red_k ey hw wk)
      rw [red_off (by omega) ey hw (wl c hc)]
      exact h.low y (oth_mem hlt hy) c hc
    · have h2 := hr.rw_.app hom
      have sw : Spn p m (s.1 ++ s.2) (wB p k s.2) := (Spn.mem (by omega) hab (List.mem_append_right _ hm)).scale (by omega) hab
      have sw2 : Spn p m (insL p k (wB p k s.2) s.1 ++ (othR (fndR k s.2) s.2).map (red p k (wB p k s.2))) (wB p k s.2) := Spn.mem (by omega) h2 (List.mem_append_left _ ins_w)
      refine SameS.of (by omega) h2 hab (fun x hx => ?_) fun x hx => ?_
      · rcases List.mem_append.1 hx with hx | hx
        · rcases ins_mem hx with rfl | ⟨y, hy, rfl⟩
          · exact sw
          · exact red_spn (by omega) hab (Spn.mem (by omega) hab (List.mem_append_left _ hy)) sw
        · obtain ⟨y, hy, rfl⟩ := List.mem_map.1 hx
          exact red_spn (by omega) hab (Spn.mem (by omega) hab (List.mem_append_right _ (oth_mem hlt hy))) sw
      · rcases List.mem_append.1 hx with hx | hx
        · exact red_back (by omega) h2 (h.rref.rw_ x hx) hw (Spn.mem (by omega) h2 (List.mem_append_left _ (ins_r hx))) sw2
        · rcases mem_oth hlt hx with rfl | hx
          · exact norm_back hp h2 ew hne sw2
          · exact red_back (by omega) h2 (ho x hx) hw (Spn.mem (by omega) h2 (List.mem_append_right _ (List.mem_map_of_mem hx))) sw2
theorem BI.cols (hp : IsP p) (hr : Rw p m rows) : ∀ k, k ≤ m → BI p m k rows (colsB p k ([], rows))
  | 0, _ => ⟨Rref.nil, hr, fun x hx => by simp [colsB] at hx, fun _ _ c hc => by omega, SameS.rfl'⟩
  | k + 1, h => (BI.cols hp hr k (by omega)).step hp (by omega)
theorem basis_rref (hp : IsP p) (hr : Rw p m rows) : Rref p m (basisL p m rows) ∧ SameS p m (basisL p m rows) rows := by
  have hp1 := hp.lo
  have h := BI.cols hp hr m (Nat.le_refl m)
  refine ⟨h.rref, SameS.tr ?_ h.same⟩
  have hab := h.rref.rw_.app h.rwb
  refine SameS.of (by omega) h.rref.rw_ hab (fun x hx => Spn.mem (by omega) hab (List.mem_append_left _ hx)) fun x hx => ?_
  rcases List.mem_append.1 hx with hx | hx
  · exact Spn.mem (by omega) h.rref.rw_ hx
  · have e : x = zeroL m := (h.rwb x hx).ext (zeroL_ev (by omega)) fun j => by
      rw [zero_at]
      by_cases hj : j < m
      · exact h.low x hx j hj
      · exact out_at (by rw [(h.rwb x hx).1]; omega)
    rw [e]
    exact Spn.zr (by omega) h.rref.rw_
/-! ### Determinants -/
theorem asc_le : ∀ {l : List Nat} {b : Nat}, l.Pairwise (· < ·) → (∀ x ∈ l, b ≤ x ∧ x < m) → l.length ≤ m - b
  | [], _, _, _ => Nat.zero_le _
  | x :: l, b, h, hx => by
    obtain ⟨h1, h2⟩ := List.pairwise_cons.1 h
    have := asc_le (b := x + 1) h2 fun y hy => ⟨h1 y hy, (hx y (by simp [hy])).2⟩
    have := hx x (by simp)
    rw [List.length_cons]; omega
end
end Go.Proofs.Ytfcdhdkhfdhjfaa
/-
  Automorphisms: the program's test and the reference's are the same. No program in sight.
-/
namespace Go.Proofs.Ytfcdhdkhfdhjfaa

theorem dotS_zr : ∀ {x y : List Int}, Zr y → dotS x y = 0
  | [], _, _ => by simp [dotS]
  | _ :: _, [], _ => by simp [dotS]
  | x :: xs, y :: ys, z => by
    have h0 : y = 0 := z 0
    have h1 : Zr ys := fun j => z (j + 1)
    simp only [dotS, h0, dotS_zr h1, Int.mul_zero, Int.add_zero]
end Go.Proofs.Ytfcdhdkhfdhjfaa
/-
  MapEntries: what it computes. No program in sight.
-/
namespace Go.Proofs.Ytfcdhdkhfdhjfaa

def tabB (p : Int) (M : List (List Int)) : Bool := decide (M.length ≤ 16) && M.all fun r => decide (r.length = (M.getD 0 []).length) && decide (1 ≤ r.length) && decide (r.length ≤ 16) && isL p r
def matP (p : Int) (n : Nat) (M : List (List Int)) : Bool := decide (0 < M.length) && tabB p M && decide (M.length = n) && decide ((M.getD 0 []).length = n)
theorem matP_eq {p : Int} {n : Nat} {M : List (List Int)} (h1 : 1 ≤ n) (h2 : n ≤ 16) : matP p n M = matB p n M := by
  rw [Bool.eq_iff_iff, matB_iff]
  unfold matP tabB Ev
  simp only [Bool.and_eq_true, decide_eq_true_eq, List.all_eq_true, isL_fp]
  constructor
  · rintro ⟨⟨⟨_, _, hall⟩, hl⟩, h0⟩
    exact ⟨hl, fun r hr => ⟨(hall r hr).1.1.1.trans h0, (hall r hr).2⟩⟩
  · rintro ⟨hl, h⟩
    have e0 := (h _ (get_mem (B := M) (i := 0) (by omega))).1
    exact ⟨⟨⟨by omega, by omega, fun r hr => ⟨⟨⟨(h r hr).1.trans e0.symm, by have := (h r hr).1; omega⟩, by have := (h r hr).1; omega⟩, (h r hr).2⟩⟩, hl⟩, e0⟩
end Go.Proofs.Ytfcdhdkhfdhjfaa
/-
  Reduced rows by the reference: what is left of a row, a row put, all rows put.
-/
namespace Go.Proofs.Ytfcdhdkhfdhjfaa
open Go.RowKit

/-! ### Rows of the call's own -/
def RowsF (w : World) (B : Nat) (us : List Value) (xss : List (List Int)) : Prop := us.length = xss.length ∧ ∀ j (h : j < us.length) (h' : j < xss.length), FrI w B us[j] xss[j]
section
variable {w w' : World} {B B' : Nat} {v u : Value} {us us' : List Value} {xss : List (List Int)} {xs : List Int}
theorem RowsF.nil (w : World) (B : Nat) : RowsF w B [] [] := ⟨rfl, fun j h => by simp at h⟩
theorem RowsF.below (h : RowsF w B us xss) (hb : Below w.heap.size w w') : RowsF w' B us xss := ⟨h.1, fun j a b => (h.2 j a b).below hb⟩
theorem RowsF.app (h : RowsF w B us xss) (ho : OwV w B' v us') (hg : w.grownBy w' v.ownBlock) : RowsF w' B us xss := ⟨h.1, fun j a b => (h.2 j a b).app ho hg⟩
theorem RowsF.snoc (h : RowsF w B us xss) (hu : FrI w B u xs) : RowsF w B (us ++ [u]) (xss ++ [xs]) := by
  refine ⟨by simp [h.1], fun j a b => ?_⟩
  rw [List.length_append] at a
  simp at a
  by_cases hj : j < us.length
  · have := h.1
    rw [List.getElem_append_left hj, List.getElem_append_left (by omega)]
    exact h.2 j hj (by omega)
  · obtain rfl : j = us.length := by omega
    have e := h.1
    have h1 : (us ++ [u])[us.length]'(by simp) = u := by simp
    have h2 : (xss ++ [xs])[us.length]'(by simp [e]) = xs := by simp [e]
    rw [h1, h2]; exact hu
theorem RowsF.re (h : RowsF w B us xss) (ho : OwV w B v us) : Re w v xss := by
  have hl := h.1
  rcases ho.2 with ⟨rfl, h2⟩ | ⟨g, cap, cur, rfl, hB, hh, h3, h4, h5, h6⟩
  · have : us.length = 0 := by simpa using h2
    have e : xss = [] := List.eq_nil_of_length_eq_zero (by omega)
    rw [e]; exact Re.nil w
  · simp only [maxLen] at h4
    refine ⟨_, cap, by rw [hl], by omega, by omega, .inr ⟨g, 0, rfl, fun j hj => ⟨us[j]'(by omega), ?_, (h.2 j (by omega) hj).el⟩⟩⟩
    have := World.ownsRow.cells ho (g := g) rfl j (us[j]'(by omega)) (by simp)
    rw [addz] at this
    rw [Nat.zero_add]; exact this
end
theorem rest_take {p : Int} {L : List (List Int)} {v s : List Int} {k : Nat} (h : L.take (k + 1) = L.take k ++ [s]) : restL p (L.take (k + 1)) v = red p (leadN s) s (restL p (L.take k) v) := by
  unfold restL
  rw [h, List.foldl_append]; rfl
theorem red_minus {p : Int} {k : Nat} {w x : List Int} : plusL p x (scaleL p w (x.getD k 0)) (p - 1) = red p k w x := by
  unfold red
  rw [zw_scale2]
  refine plusL_cong ?_
  rw [Int.mul_sub, Int.mul_one, Int.sub_eq_add_neg, Int.add_comm, Int.add_mul_emod_self_right]
theorem Rref.short {p : Int} {m : Nat} {L : List (List Int)} (h : Rref p m L) : L.length ≤ m := by
  have := asc_le (b := 0) (m := m) h.asc (fun x hx => by
    obtain ⟨r, hr, rfl⟩ := List.mem_map.1 hx
    exact ⟨Nat.zero_le _, (h.one r hr).1⟩)
  rw [List.length_map] at this
  omega
theorem take_rw {p : Int} {m : Nat} {L : List (List Int)} (h : Rw p m L) (k : Nat) : Rw p m (L.take k) := fun r hr => h r (List.mem_of_mem_take hr)
set_option maxHeartbeats 1000000 in
set_option maxRecDepth 100000 in
theorem srest_c {p : Int} {rows x : Value} {m : Nat} {L : List (List Int)} {xs : List Int} {w : World} (hp : IsP p) (hL : Rref p m L) (hr : Re w rows L) (hx : Sl w x xs) (ex : Ev p m xs) (hm1 : 1 ≤ m) (hm2 : m ≤ 1000) :
    Calls Try.prog 96 #[.int .i64 p, rows, x] w fun e w' => ∃ v, e = .returned v ∧ FrI w' w.heap.size v (restL p L xs) ∧ Below w.heap.size w w' := by
  have hp1 := hp.lo
  have hp2 := hp.hi
  have hsh := hL.short
  obtain ⟨a, c, rfl, h1, h2, hR⟩ := hr
  obtain ⟨xl, hxl⟩ := ex
  have HX := Lib.hid xl; clear xl
  have hev := fun k => rest_ev (p := p) (by omega) (take_rw hL.rw_ k) ⟨HX.out, hxl⟩
  go_enter Try.func96, Try.ntmps96
  go_wp2_with fail
  refine (own_c hx (by have := HX.out; omega) (by have := HX.out; omega)).mono ?_; rintro e w1 ⟨v, rfl, ⟨g, cap, rfl, hv⟩, hb⟩
  rw [HX.out] at hv ⊢
  go_wp2_with fail
  go_loopw [7, 8] (fun o i wr => ∃ k g cap : Nat, k ≤ L.length ∧ i = .int .i64 k ∧ o = .slice (some ⟨g, 0, none⟩) m cap ∧ OwnI wr w.heap.size g m cap (restL p (L.take k) xs) ∧ Below w.heap.size w wr)
    (fun _ i _ => L.length - (intOf i).toNat)
  case atStart => exact ⟨0, g, cap, Nat.zero_le _, rfl, rfl, by rw [List.take_zero]; exact hv, hb⟩
  case round =>
    obtain ⟨k, g, cap, hk, rfl, rfl, hown, hbr⟩ := hrel
    by_cases hlt : k < L.length
    · obtain ⟨b, off, rfl, hcell⟩ := hR.resolve_left (fun e => by rw [e] at hlt; simp at hlt)
      obtain ⟨a2, c2, s, hs, hc, hE, ht⟩ := Re.get hcell hlt
      have hc := kept hbr hc
      have hE := hE.below hbr
      have es := hL.rw_ s hs
      have ho := hL.one s hs
      have er := hev k
      have hrt := rest_take (p := p) (v := xs) ht
      have hq := hown.hold (i := leadN s) (by omega)
      have hqb := er.at (p := p) (by omega) (leadN s)
      obtain ⟨R, hR_⟩ : ∃ R, R = restL p (L.take k) xs := ⟨_, rfl⟩
      rw [← hR_] at hown er hrt hq hqb
      obtain ⟨q, hq_⟩ : ∃ q, q = R.getD (leadN s) 0 := ⟨_, rfl⟩
      rw [← hq_] at hq hqb
      have hll := ho.1
      have hl1 : s.length ≤ 1000000 := by have := es.1; omega
      obtain ⟨ld, hld⟩ : ∃ ld, ld = leadN s := ⟨_, rfl⟩
      have hcon := fun W (h : Sl W (.slice a2 s.length c2) s) => first_c h hl1
      simp only [← hld] at hcon hq hll
      have H := Lib.hid (And.intro hrt (And.intro hR_ (And.intro hq_ (And.intro ht (And.intro ho (And.intro hld (And.intro es.1 er.1))))))); clear hrt hR_ hq_ ht ho hld hev
      have fs := es.2; have fr := er.2; clear es er
      go_wp2_with fail
      refine (hcon _ hE.sl).mono ?_; rintro e w2 ⟨rfl, rfl⟩
      by_cases hq0 : q = 0
      · subst hq0
        have e1 : restL p (L.take (k + 1)) xs = R := by
          rw [H.out.1]
          exact red_0 (m := m) (by omega) ⟨H.out.2.2.2.2.2.2.2, fr⟩ ⟨H.out.2.2.2.2.2.2.1, fs⟩ H.out.2.2.1.symm
        have E1 := Lib.hid e1; clear e1
        go_wp2_with fail
        go_roundw
        case rel => exact ⟨k + 1, g, cap, by omega, by go_num, rfl, by rw [E1.out]; exact hown, hbr⟩
        case measure => simp [intOf]; omega
      · have hne : (q != 0) = true := by simpa using hq0
        have e1 : plusL p R (scaleL p s q) (p - 1) = restL p (L.take (k + 1)) xs := by rw [H.out.1, H.out.2.2.1]; exact red_minus
        have E1 := Lib.hid e1; clear e1
        have E2 := Lib.hid (show (restL p (L.take (k + 1)) xs).length = m by rw [H.out.1]; exact (red_ev (m := m) (by omega) ⟨H.out.2.2.2.2.2.2.2, fr⟩ ⟨H.out.2.2.2.2.2.2.1, fs⟩).1)
        go_wp2_with fail
        refine (sscale_c (k := q) (by omega) (by omega) (by omega) (by omega) hE.sl (fs.sm (by omega) (by omega)) hl1).mono ?_; rintro e w3 ⟨v3, rfl, hv3, hb3⟩
        have hown := hown.below hb3
        have hbr := bwC hbr hb3
        have fsc := scaleL_fp (p := p) (xs := s) (k := q) (by omega)
        go_wp2_with fail
        refine (sminus_c (by omega) (by omega) hown.sl hv3.sl (fr.sm (by omega) (by omega)) (fsc.sm (by omega) (by omega)) (by rw [scaleL_len, H.out.2.2.2.2.2.2.1, H.out.2.2.2.2.2.2.2]) (by have := H.out.2.2.2.2.2.2.2; omega)).mono ?_; rintro e w4 ⟨v4, rfl, hv4, hb4⟩
        rw [E1.out] at hv4
        obtain ⟨g4, cap4, rfl, hO4⟩ := hv4.more hbr.size
        clear hv4
        rw [E2.out] at hO4 ⊢
        have hbr := bwC hbr hb4
        go_wp2_with fail
        go_roundw
        case rel => exact ⟨k + 1, g4, cap4, by omega, by go_num, rfl, hO4, hbr⟩
        case measure => simp [intOf]; omega
    · obtain rfl : k = L.length := by omega
      rw [take_all (Nat.le_refl _)] at hown
      go_wp2_with fail
      go_ret
      exact ⟨_, rfl, hown.fr, hbr⟩
/-! ### Putting a row -/
def stepI (p : Int) (at_ : Nat) (w : List Int) (s : List (List Int) × Bool) (r : List Int) : List (List Int) × Bool :=
  if !s.2 && decide (at_ < leadN r) then (s.1 ++ [w] ++ [red p at_ w r], true) else (s.1 ++ [red p at_ w r], s.2)
def insF (p : Int) (at_ : Nat) (w : List Int) (L : List (List Int)) : List (List Int) × Bool := L.foldl (stepI p at_ w) ([], false)
theorem insL_pos {p : Int} {k : Nat} {w r : List Int} {rs : List (List Int)} (h : k < leadN r) : insL p k w (r :: rs) = w :: (r :: rs).map (red p k w) := if_pos h
theorem insL_neg {p : Int} {k : Nat} {w r : List Int} {rs : List (List Int)} (h : ¬ k < leadN r) : insL p k w (r :: rs) = red p k w r :: insL p k w rs := if_neg h
theorem ins_fold {p : Int} {k : Nat} {w : List Int} : ∀ {L acc : List (List Int)},
    (L.foldl (stepI p k w) (acc, true) = (acc ++ L.map (red p k w), true)) ∧
    ((if (L.foldl (stepI p k w) (acc, false)).2 then (L.foldl (stepI p k w) (acc, false)).1 else (L.foldl (stepI p k w) (acc, false)).1 ++ [w]) = acc ++ insL p k w L)
  | [], acc => by simp [insL]
  | r :: L, acc => by
    constructor
    · rw [List.foldl_cons, show stepI p k w (acc, true) r = (acc ++ [red p k w r], true) from rfl, ins_fold.1]; simp
    · by_cases h : k < leadN r
      · have e : stepI p k w (acc, false) r = (acc ++ [w] ++ [red p k w r], true) := by unfold stepI; simp [h]
        rw [List.foldl_cons, e, ins_fold.1, insL_pos h]
        simp
      · have e : stepI p k w (acc, false) r = (acc ++ [red p k w r], false) := by unfold stepI; simp [h]
        rw [List.foldl_cons, e, ins_fold.2, insL_neg h]
        simp
theorem insF_eq {p : Int} {k : Nat} {w : List Int} {L : List (List Int)} : (if (insF p k w L).2 then (insF p k w L).1 else (insF p k w L).1 ++ [w]) = insL p k w L := by
  have := (ins_fold (p := p) (k := k) (w := w) (L := L) (acc := [])).2
  rw [List.nil_append] at this
  exact this
theorem insF_snoc {p : Int} {k j : Nat} {w s : List Int} {L : List (List Int)} (h : L.take (j + 1) = L.take j ++ [s]) : insF p k w (L.take (j + 1)) = stepI p k w (insF p k w (L.take j)) s := by
  unfold insF
  rw [h, List.foldl_append]; rfl
def potI (s : List (List Int) × Bool) : Nat := s.1.length + if s.2 then 0 else 1
theorem stepI_pot {p : Int} {k : Nat} {w r : List Int} {s : List (List Int) × Bool} : potI (stepI p k w s r) ≤ potI s + 1 := by
  obtain ⟨acc, b⟩ := s
  unfold stepI potI
  cases b
  · by_cases h : k < leadN r <;> simp [h] <;> omega
  · simp
theorem foldI_pot {p : Int} {k : Nat} {w : List Int} : ∀ {L : List (List Int)} {s : List (List Int) × Bool}, potI (L.foldl (stepI p k w) s) ≤ potI s + L.length
  | [], _ => Nat.le_refl _
  | r :: L, s => by
    have h1 := foldI_pot (p := p) (k := k) (w := w) (L := L) (s := stepI p k w s r)
    have h2 := stepI_pot (p := p) (k := k) (w := w) (r := r) (s := s)
    rw [List.foldl_cons, List.length_cons]; omega
theorem insF_len {p : Int} {k : Nat} {w : List Int} {L : List (List Int)} : (insF p k w L).1.length ≤ L.length + 1 := by
  have h := foldI_pot (p := p) (k := k) (w := w) (L := L) (s := ([], false))
  have e : potI ([], false) = 1 := rfl
  unfold insF
  unfold potI at h
  rw [show (if (([], false) : List (List Int) × Bool).2 = true then 0 else 1) = 1 from rfl] at h
  simp only [List.length_nil] at h
  omega
end Go.Proofs.Ytfcdhdkhfdhjfaa
