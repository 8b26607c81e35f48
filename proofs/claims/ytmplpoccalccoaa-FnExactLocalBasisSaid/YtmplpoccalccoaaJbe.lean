/- Texts joined for a claim: LinC, Aut, MeA. -/
import Derived.Test.YtmplpoccalccoaaLinB
import Derived.Test.YtmplpoccalccoaaJba
import Derived.Test.YtmplpoccalccoaaJbb
/-
  Reduced rows by columns; determinants other than 0. No program in sight.
-/
namespace Go.Proofs.Ytmplpoccalccoaa

/-- The first row with a number other than 0 at a place, or how many rows there are. -/
def fndR (k : Nat) (B : List (List Int)) : Nat := B.findIdx fun r => r.getD k 0 != 0
/-- The others, when row i is taken away and the first one stands in its place. -/
def othR (i : Nat) (B : List (List Int)) : List (List Int) := (B.set i (B.getD 0 [])).drop 1
def wB (p : Int) (k : Nat) (B : List (List Int)) : List Int := normW p k (B.getD (fndR k B) [])
def stepB (p : Int) (k : Nat) (s : List (List Int) × List (List Int)) : List (List Int) × List (List Int) :=
  if fndR k s.2 = s.2.length then s else (s.1.map (red p k (wB p k s.2)) ++ [wB p k s.2], (othR (fndR k s.2) s.2).map (red p k (wB p k s.2)))
def colsB (p : Int) : Nat → List (List Int) × List (List Int) → List (List Int) × List (List Int)
  | 0, s => s
  | k + 1, s => stepB p k (colsB p k s)
def basisL (p : Int) (m : Nat) (rows : List (List Int)) : List (List Int) := (colsB p m ([], rows)).1
section
variable {p : Int} {m : Nat} {rows rs a b c A B R : List (List Int)} {v w r x : List Int} {k i : Nat}
theorem fnd_le : fndR k B ≤ B.length := List.findIdx_le_length
theorem fnd_get (h : fndR k B < B.length) : (B.getD (fndR k B) []).getD k 0 ≠ 0 := by
  have := List.findIdx_getElem (w := h)
  have e : B.getD (fndR k B) [] = B[fndR k B] := by rw [List.getD_eq_getElem?_getD, List.getElem?_eq_getElem h]; rfl
  rw [e]
  simpa [fndR] using this
theorem fnd_none (h : fndR k B = B.length) : ∀ x ∈ B, x.getD k 0 = 0 := fun x hx => by
  have := (List.findIdx_eq_length.1 h) x hx
  simpa using this
theorem get_mem (h : i < B.length) : B.getD i [] ∈ B := by
  rw [List.getD_eq_getElem?_getD, List.getElem?_eq_getElem h]
  exact List.getElem_mem h
theorem oth_mem (h : i < B.length) (hx : x ∈ othR i B) : x ∈ B := by
  match B, i with
  | b :: bs, 0 => simpa [othR] using Or.inr hx
  | b :: bs, j + 1 =>
    have hx : x ∈ bs.set j b := by simpa [othR] using hx
    rcases List.mem_or_eq_of_mem_set hx with h | h
    · exact List.mem_cons_of_mem _ h
    · rw [h]; exact List.mem_cons_self
theorem mem_oth (h : i < B.length) (hx : x ∈ B) : x = B.getD i [] ∨ x ∈ othR i B := by
  match B, i with
  | b :: bs, 0 =>
    rcases List.mem_cons.1 hx with h | h
    · exact .inl (by simpa using h)
    · exact .inr (by simpa [othR] using h)
  | b :: bs, j + 1 =>
    have e : othR (j + 1) (b :: bs) = bs.set j b := by simp [othR]
    have hj : j < bs.length := by simpa using h
    rw [e]
    rcases List.mem_cons.1 hx with h | h
    · exact .inr (h ▸ List.mem_set hj _)
    · obtain ⟨t, ht, rfl⟩ := List.mem_iff_getElem.1 h
      by_cases e : t = j
      · subst e
        exact .inl (by simp [List.getD_eq_getElem?_getD, ht])
      · refine .inr (List.mem_iff_getElem.2 ⟨t, by simpa using ht, ?_⟩)
        rw [List.getElem_set_ne (fun h => e h.symm)]
theorem oth_len (_ : i < B.length) : (othR i B).length = B.length - 1 := by simp [othR]
theorem ins_all : ∀ {rows : List (List Int)}, (∀ x ∈ rows, leadN x < k) → insL p k w rows = rows.map (red p k w) ++ [w]
  | [], _ => rfl
  | r :: rs, h => by
    have := h r (by simp)
    unfold insL
    rw [if_neg (by omega), ins_all fun x hx => h x (by simp [hx])]; rfl
/-- What holds of the rows after k columns. -/
structure BI (p : Int) (m k : Nat) (orig : List (List Int)) (s : List (List Int) × List (List Int)) : Prop where
  rref : Rref p m s.1
  rwb : Rw p m s.2
  lt : ∀ x ∈ s.1, leadN x < k
  low : ∀ x ∈ s.2, ∀ c < k, x.getD c 0 = 0
  same : SameS p m (s.1 ++ s.2) orig
theorem low_succ (h : ∀ c < k, x.getD c 0 = 0) (h2 : x.getD k 0 = 0) : ∀ c < k + 1, x.getD c 0 = 0 := fun c hc => by
  by_cases e : c = k
  · rw [e]; exact h2
  · exact h c (by omega)
theorem BI.step (hp : IsP p) {orig : List (List Int)} {s : List (List Int) × List (List Int)} (hk : k < m) (h : BI p m k orig s) : BI p m (k + 1) orig (stepB p k s) := by
  have hp1 := hp.lo
  unfold stepB
  split
  · next hn => exact ⟨h.rref, h.rwb, fun x hx => by have := h.lt x hx; omega, fun x hx => low_succ (h.low x hx) (fnd_none hn x hx), h.same⟩
  · next hn =>
    have hlt : fndR k s.2 < s.2.length := Nat.lt_of_le_of_ne fnd_le hn
    have hm := get_mem hlt
    have ew := h.rwb _ hm
    have hne := fnd_get hlt
    have hw : Ev p m (wB p k s.2) := normW_ev (p := p) (k := k) (by omega) ew
    have wk : (wB p k s.2).getD k 0 = 1 := normW_k hp ew hne
    have wl : ∀ c < k, (wB p k s.2).getD c 0 = 0 := fun c hc => normW_0 (h.low _ hm c hc)
    have hl : leadN (wB p k s.2) = k := lead_is (by rw [wk]; decide) wl
    have hins := ins_all (p := p) (w := wB p k s.2) h.lt
    have hwz : ∀ x ∈ s.1, (wB p k s.2).getD (leadN x) 0 = 0 := fun x hx => wl _ (h.lt x hx)
    have hr := ins_rref (by omega) hw hl hk wk h.rref hwz
    have ho : Rw p m (othR (fndR k s.2) s.2) := fun x hx => h.rwb x (oth_mem hlt hx)
    have hom : Rw p m ((othR (fndR k s.2) s.2).map (red p k (wB p k s.2))) := fun x hx => by
      obtain ⟨y, hy, rfl⟩ := List.mem_map.1 hx
      exact red_ev (by omega) (ho y hy) hw
    have hab := h.rref.rw_.app h.rwb
    rw [← hins]
    refine ⟨hr, hom, fun x hx => ?_, fun x hx => ?_, SameS.tr ?_ h.same⟩
    · rcases ins_mem hx with rfl | ⟨y, hy, rfl⟩
      · omega
      · rw [red_lead (by omega) (h.rref.rw_ y hy) hw hl (h.rref.one y hy).1 (hwz y hy) (by have := h.lt y hy; omega)]
        have := h.lt y hy; omega
    · obtain ⟨y, hy, rfl⟩ := List.mem_map.1 hx
      have ey := ho y hy
      refine low_succ (fun c hc => ?_) (red_k ey hw wk)
      rw [red_off (by omega) ey hw (wl c hc)]
      exact h.low y (oth_mem hlt hy) c hc
    · have h2 := hr.rw_.app hom
      have sw : Spn p m (s.1 ++ s.2) (wB p k s.2) := (Spn.mem (by omega) hab (List.mem_append_right _ hm)).scale (by omega) hab
      have sw2 : Spn p m (insL p k (wB p k s.2) s.1 ++ (othR (fndR k s.2) s.2).map (red p k (wB p k s.2))) (wB p k s.2) := Spn.mem (by omega) h2 (List.mem_append_left _ ins_w)
      refine SameS.of (by omega) h2 hab (fun x hx => ?_) fun x hx => ?_
      · rcases List.mem_append.1 hx with hx | hx
        · rcases ins_mem hx with rfl | ⟨y, hy, rfl⟩
          · exact sw
          · exact red_spn (by omega) hab (Spn.mem (by omega) hab (List.mem_append_left _ hy)) sw
        · obtain ⟨y, hy, rfl⟩ := List.mem_map.1 hx
          exact red_spn (by omega) hab (Spn.mem (by omega) hab (List.mem_append_right _ (oth_mem hlt hy))) sw
      · rcases List.mem_append.1 hx with hx | hx
        · exact red_back (by omega) h2 (h.rref.rw_ x hx) hw (Spn.mem (by omega) h2 (List.mem_append_left _ (ins_r hx))) sw2
        · rcases mem_oth hlt hx with rfl | hx
          · exact norm_back hp h2 ew hne sw2
          · exact red_back (by omega) h2 (ho x hx) hw (Spn.mem (by omega) h2 (List.mem_append_right _ (List.mem_map_of_mem hx))) sw2
theorem BI.cols (hp : IsP p) (hr : Rw p m rows) : ∀ k, k ≤ m → BI p m k rows (colsB p k ([], rows))
  | 0, _ => ⟨Rref.nil, hr, fun x hx => by simp [colsB] at hx, fun _ _ c hc => by omega, SameS.rfl'⟩
  | k + 1, h => (BI.cols hp hr k (by omega)).step hp (by omega)
theorem basis_rref (hp : IsP p) (hr : Rw p m rows) : Rref p m (basisL p m rows) ∧ SameS p m (basisL p m rows) rows := by
  have hp1 := hp.lo
  have h := BI.cols hp hr m (Nat.le_refl m)
  refine ⟨h.rref, SameS.tr ?_ h.same⟩
  have hab := h.rref.rw_.app h.rwb
  refine SameS.of (by omega) h.rref.rw_ hab (fun x hx => Spn.mem (by omega) hab (List.mem_append_left _ hx)) fun x hx => ?_
  rcases List.mem_append.1 hx with hx | hx
  · exact Spn.mem (by omega) h.rref.rw_ hx
  · have e : x = zeroL m := (h.rwb x hx).ext (zeroL_ev (by omega)) fun j => by
      rw [zero_at]
      by_cases hj : j < m
      · exact h.low x hx j hj
      · exact out_at (by rw [(h.rwb x hx).1]; omega)
    rw [e]
    exact Spn.zr (by omega) h.rref.rw_
/-- By columns as by rows. -/
theorem basis_red (hp : IsP p) (hr : Rw p m rows) : basisL p m rows = redL p rows := by
  obtain ⟨h1, h2⟩ := basis_rref hp hr
  obtain ⟨h3, h4⟩ := redL_rref hp hr
  exact Rref.uniq (by have := hp.lo; omega) h1 h3 (h2.tr h4.sy)
/-! ### Determinants -/
theorem asc_le : ∀ {l : List Nat} {b : Nat}, l.Pairwise (· < ·) → (∀ x ∈ l, b ≤ x ∧ x < m) → l.length ≤ m - b
  | [], _, _, _ => Nat.zero_le _
  | x :: l, b, h, hx => by
    obtain ⟨h1, h2⟩ := List.pairwise_cons.1 h
    have := asc_le (b := x + 1) h2 fun y hy => ⟨h1 y hy, (hx y (by simp [hy])).2⟩
    have := hx x (by simp)
    rw [List.length_cons]; omega
end
end Go.Proofs.Ytmplpoccalccoaa
/-
  Automorphisms: the program's test and the reference's are the same. No program in sight.
-/
namespace Go.Proofs.Ytmplpoccalccoaa

end Go.Proofs.Ytmplpoccalccoaa
/-
  MapEntries: what it computes. No program in sight.
-/
namespace Go.Proofs.Ytmplpoccalccoaa

end Go.Proofs.Ytmplpoccalccoaa
