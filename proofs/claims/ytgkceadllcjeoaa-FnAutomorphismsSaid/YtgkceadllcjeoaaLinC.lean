/-
  Reduced rows by columns; determinants other than 0. No program in sight.
-/
import Derived.Test.YtgkceadllcjeoaaLinB
namespace Go.Proofs.Ytgkceadllcjeoaa

def fndR (k : Nat) (B : List (List Int)) : Nat := B.findIdx fun r => r.getD k 0 != 0
def othR (i : Nat) (B : List (List Int)) : List (List Int) := (B.set i (B.getD 0 [])).drop 1
def wB (p : Int) (k : Nat) (B : List (List Int)) : List Int := normW p k (B.getD (fndR k B) [])
def stepB (p : Int) (k : Nat) (s : List (List Int) × List (List Int)) : List (List Int) × List (List Int) :=
  if fndR k s.2 = s.2.length then s else (s.1.map (red p k (wB p k s.2)) ++ [wB p k s.2], (othR (fndR k s.2) s.2).map (red p k (wB p k s.2)))
def colsB (p : Int) : Nat → List (List Int) × List (List Int) → List (List Int) × List (List Int)
  | 0, s => s
  | k + 1, s => stepB p k (colsB p k s)
def redI (p : Int) (k : Nat) (w x : List Int) : List Int := plusL p x w (-(x.getD k 0) * invL p (w.getD k 0))
def detG (p : Int) : Nat → Nat → Int → List (List Int) → Int
  | 0, _, out, _ => out
  | n + 1, k, out, B => if fndR k B = B.length then 0 else
    detG p n (k + 1) ((if fndR k B = 0 then out else -out % p) * (B.getD (fndR k B) []).getD k 0 % p) ((othR (fndR k B) B).map (redI p k (B.getD (fndR k B) [])))
def detL (p : Int) (rows : List (List Int)) : Int := detG p rows.length 0 1 rows
section
variable {p : Int} {m : Nat} {rows rs a b c A B R : List (List Int)} {v w r x : List Int} {k i : Nat}
theorem fnd_le : fndR k B ≤ B.length := List.findIdx_le_length
theorem fnd_get (h : fndR k B < B.length) : (B.getD (fndR k B) []).getD k 0 ≠ 0 := by
  have := List.findIdx_getElem (w := h)
  have e : B.getD (fndR k B) [] = B[fndR k B] := by rw [List.getD_eq_getElem?_getD, List.getElem?_eq_getElem h]; rfl
  rw [e]
  simpa [fndR] using this
theorem fnd_none (h : fndR k B = B.length) : ∀ x ∈ B, x.getD k 0 = 0 := fun x hx => by
  have := (List.findIdx_eq_length.1 h) x hx
  simpa using this
theorem get_mem (h : i < B.length) : B.getD i [] ∈ B := by
  rw [List.getD_eq_getElem?_getD, List.getElem?_eq_getElem h]
  exact List.getElem_mem h
theorem oth_mem (h : i < B.length) (hx : x ∈ othR i B) : x ∈ B := by
  match B, i with
  | b :: bs, 0 => simpa [othR] using Or.inr hx
  | b :: bs, j + 1 =>
    have hx : x ∈ bs.set j b := by simpa [othR] using hx
    rcases List.mem_or_eq_of_mem_set hx with h | h
    · exact List.mem_cons_of_mem _ h
    · rw [h]; exact List.mem_cons_self
theorem mem_oth (h : i < B.length) (hx : x ∈ B) : x = B.getD i [] ∨ x ∈ othR i B := by
  match B, i with
  | b :: bs, 0 =>
    rcases List.mem_cons.1 hx with h | h
    · exact .inl (by simpa using h)
    · exact .inr (by simpa [othR] using h)
  | b :: bs, j + 1 =>
    have e : othR (j + 1) (b :: bs) = bs.set j b := by simp [othR]
    have hj : j < bs.length := by simpa using h
    rw [e]
    rcases List.mem_cons.1 hx with h | h
    · exact .inr (h ▸ List.mem_set hj _)
    · obtain ⟨t, ht, rfl⟩ := List.mem_iff_getElem.1 h
      by_cases e : t = j
      · subst e
        exact .inl (by simp [List.getD_eq_getElem?_getD, ht])
      · refine .inr (List.mem_iff_getElem.2 ⟨t, by simpa using ht, ?_⟩)
        rw [List.getElem_set_ne (fun h => e h.symm)]
theorem oth_len (_ : i < B.length) : (othR i B).length = B.length - 1 := by simp [othR]
theorem ins_all : ∀ {rows : List (List Int)}, (∀ x ∈ rows, leadN x < k) → insL p k w rows = rows.map (red p k w) ++ [w]
  | [], _ => rfl
  | r :: rs, h => by
    have := h r (by simp)
    unfold insL
    rw [if_neg (by omega), ins_all fun x hx => h x (by simp [hx])]; rfl
structure BI (p : Int) (m k : Nat) (orig : List (List Int)) (s : List (List Int) × List (List Int)) : Prop where
  rref : Rref p m s.1
  rwb : Rw p m s.2
  lt : ∀ x ∈ s.1, leadN x < k
  low : ∀ x ∈ s.2, ∀ c < k, x.getD c 0 = 0
  same : SameS p m (s.1 ++ s.2) orig
theorem low_succ (h : ∀ c < k, x.getD c 0 = 0) (h2 : x.getD k 0 = 0) : ∀ c < k + 1, x.getD c 0 = 0 := fun c hc => by
  by_cases e : c = k
  · rw [e]; exact h2
  · exact h c (by omega)
theorem BI.step (hp : IsP p) {orig : List (List Int)} {s : List (List Int) × List (List Int)} (hk : k < m) (h : BI p m k orig s) : BI p m (k + 1) orig (stepB p k s) := by
  have hp1 := hp.lo
  unfold stepB
  split
  · next hn => exact ⟨h.rref, h.rwb, fun x hx => by have := h.lt x hx; omega, fun x hx => low_succ (h.low x hx) (fnd_none hn x hx), h.same⟩
  · next hn =>
    have hlt : fndR k s.2 < s.2.length := Nat.lt_of_le_of_ne fnd_le hn
    have hm := get_mem hlt
    have ew := h.rwb _ hm
    have hne := fnd_get hlt
    have hw : Ev p m (wB p k s.2) := normW_ev (p := p) (k := k) (by omega) ew
    have wk : (wB p k s.2).getD k 0 = 1 := normW_k hp ew hne
    have wl : ∀ c < k, (wB p k s.2).getD c 0 = 0 := fun c hc => normW_0 (h.low _ hm c hc)
    have hl : leadN (wB p k s.2) = k := lead_is (by rw [wk]; decide) wl
    have hins := ins_all (p := p) (w := wB p k s.2) h.lt
    have hwz : ∀ x ∈ s.1, (wB p k s.2).getD (leadN x) 0 = 0 := fun x hx => wl _ (h.lt x hx)
    have hr := ins_rref (by omega) hw hl hk wk h.rref hwz
    have ho : Rw p m (othR (fndR k s.2) s.2) := fun x hx => h.rwb x (oth_mem hlt hx)
    have hom : Rw p m ((othR (fndR k s.2) s.2).map (red p k (wB p k s.2))) := fun x hx => by
      obtain ⟨y, hy, rfl⟩ := List.mem_map.1 hx
      exact red_ev (by omega) (ho y hy) hw
    have hab := h.rref.rw_.app h.rwb
    rw [← hins]
    refine ⟨hr, hom, fun x hx => ?_, fun x hx => ?_, SameS.tr ?_ h.same⟩
    · rcases ins_mem hx with rfl | ⟨y, hy, rfl⟩
      · omega
      · rw [red_lead (by omega) (h.rref.rw_ y hy) hw hl (h.rref.one y hy).1 (hwz y hy) (by have := h.lt y hy; omega)]
        have := h.lt y hy; omega
    · obtain ⟨y, hy, rfl⟩ := List.mem_map.1 hx
      have ey := ho y hy
      refine low_succ (fun c hc => ?_) (red_k ey hw wk)
      rw [red_off (by omega) ey hw (wl c hc)]
      exact h.low y (oth_mem hlt hy) c hc
    · have h2 := hr.rw_.app hom
      have sw : Spn p m (s.1 ++ s.2) (wB p k s.2) := (Spn.mem (by omega) hab (List.mem_append_right _ hm)).scale (by omega) hab
      have sw2 : Spn p m (insL p k (wB p k s.2) s.1 ++ (othR (fndR k s.2) s.2).map (red p k (wB p k s.2))) (wB p k s.2) := Spn.mem (by omega) h2 (List.mem_append_left _ ins_w)
      refine SameS.of (by omega) h2 hab (fun x hx => ?_) fun x hx => ?_
      · rcases List.mem_append.1 hx with hx | hx
        · rcases ins_mem hx with rfl | ⟨y, hy, rfl⟩
          · exact sw
          · exact red_spn (by omega) hab (Spn.mem (by omega) hab (List.mem_append_left _ hy)) sw
        · obtain ⟨y, hy, rfl⟩ := List.mem_map.1 hx
          exact red_spn (by omega) hab (Spn.mem (by omega) hab (List.mem_append_right _ (oth_mem hlt hy))) sw
      · rcases List.mem_append.1 hx with hx | hx
        · exact red_back (by omega) h2 (h.rref.rw_ x hx) hw (Spn.mem (by omega) h2 (List.mem_append_left _ (ins_r hx))) sw2
        · rcases mem_oth hlt hx with rfl | hx
          · exact norm_back hp h2 ew hne sw2
          · exact red_back (by omega) h2 (ho x hx) hw (Spn.mem (by omega) h2 (List.mem_append_right _ (List.mem_map_of_mem hx))) sw2
theorem BI.cols (hp : IsP p) (hr : Rw p m rows) : ∀ k, k ≤ m → BI p m k rows (colsB p k ([], rows))
  | 0, _ => ⟨Rref.nil, hr, fun x hx => by simp [colsB] at hx, fun _ _ c hc => by omega, SameS.rfl'⟩
  | k + 1, h => (BI.cols hp hr k (by omega)).step hp (by omega)
/-! ### Determinants -/
theorem mul_z {y z : Int} (hp : IsP p) (h : z * y % p = 0) (h1 : 1 ≤ y) (h2 : y < p) : z % p = 0 := by
  have hi := (inv_tab hp h1 h2).2.1
  have e : z * y * invL p y % p = 0 := by rw [Int.mul_emod, h, Int.zero_mul, Int.zero_emod]
  rw [Int.mul_assoc, Int.mul_emod, hi, Int.mul_one, Int.emod_emod] at e
  exact e
theorem asc_le : ∀ {l : List Nat} {b : Nat}, l.Pairwise (· < ·) → (∀ x ∈ l, b ≤ x ∧ x < m) → l.length ≤ m - b
  | [], _, _, _ => Nat.zero_le _
  | x :: l, b, h, hx => by
    obtain ⟨h1, h2⟩ := List.pairwise_cons.1 h
    have := asc_le (b := x + 1) h2 fun y hy => ⟨h1 y hy, (hx y (by simp [hy])).2⟩
    have := hx x (by simp)
    rw [List.length_cons]; omega
theorem asc_full : ∀ {l : List Nat} {b : Nat}, l.Pairwise (· < ·) → (∀ x ∈ l, b ≤ x ∧ x < m) → l.length = m - b → ∀ j, b ≤ j → j < m → j ∈ l
  | [], b, _, _, hl, j, h1, h2 => by simp at hl; omega
  | x :: l, b, h, hx, hl, j, hj1, hj2 => by
    obtain ⟨h1, h2⟩ := List.pairwise_cons.1 h
    have h3 := asc_le (b := x + 1) h2 fun y hy => ⟨h1 y hy, (hx y (by simp [hy])).2⟩
    have h4 := hx x (by simp)
    rw [List.length_cons] at hl
    by_cases e : j = x
    · simp [e]
    · exact List.mem_cons_of_mem _ (asc_full (b := x + 1) h2 (fun y hy => ⟨h1 y hy, (hx y (by simp [hy])).2⟩) (by omega) j (by omega) hj2)
theorem tri_zero (hp : IsP p) : ∀ {A : List (List Int)} {a : Nat} {v : List Int}, Rw p m A → Rw p m B → A.map leadN = List.range' a A.length → (∀ s ∈ B, ∀ c ≤ a + A.length, s.getD c 0 = 0) →
    a + A.length < m → Spn p m (A ++ B) v → (∀ c < a + A.length, v.getD c 0 = 0) → v.getD (a + A.length) 0 = 0
  | [], a, v, _, hB, _, hl, _, hv, _ => Spn.low (by have := hp.lo; omega) hB (fun s hs => hl s hs _ (Nat.le_refl _)) hv
  | r :: A, a, v, hA, hB, hm, hl, ham, ⟨cs, hc, e⟩, hz => by
    have hp1 := hp.lo
    match cs, hc, e with
    | c :: cs, hc, e =>
      rw [List.length_cons] at hm hl ham hz ⊢
      rw [List.range'_succ, List.map_cons] at hm
      obtain ⟨m1, m2⟩ := List.cons.inj hm
      have he := comb_ev (p := p) (m := m) (by omega) (cs := cs) (hA.cons.2.app hB)
      have e0 : v = plusL p (comb p m cs (A ++ B)) r c := e
      have hlow : (comb p m cs (A ++ B)).getD a 0 = 0 := comb_low (by omega) (hA.cons.2.app hB) fun s hs => by
        rcases List.mem_append.1 hs with hs | hs
        · have h1 : leadN s ∈ List.range' (a + 1) A.length := m2 ▸ List.mem_map_of_mem hs
          have := List.mem_range'_1.1 h1
          exact lead_low (by omega)
        · exact hl s hs a (by omega)
      have hr : r.getD a 0 ≠ 0 := by rw [← m1]; exact lead_nz r (by rw [hA.cons.1.1]; omega)
      have hb := hA.cons.1.at (p := p) (by omega) a
      have h0 := hz a (by omega)
      rw [e0, pat he hA.cons.1, hlow, Int.zero_add] at h0
      have hcz := mul_z hp h0 (by omega) hb.2
      have e1 : v = comb p m cs (A ++ B) := by rw [e0, plus_dvd (by omega) he hA.cons.1 hcz]
      have := tri_zero hp (a := a + 1) hA.cons.2 hB m2 (fun s hs c hc => hl s hs c (by omega)) (by omega) ⟨cs, by simpa using hc, e1⟩ (fun c hc => hz c (by omega))
      rw [show a + (A.length + 1) = a + 1 + A.length by omega]
      exact this
theorem redI_ev (hp : 1 ≤ p) (hx : Ev p m x) (hw : Ev p m w) : Ev p m (redI p k w x) := hx.plus hp hw
theorem redI_k (hp : IsP p) (hx : Ev p m x) (hw : Ev p m w) (h : w.getD k 0 ≠ 0) : (redI p k w x).getD k 0 = 0 := by
  have hp1 := hp.lo
  have hb := hw.at (p := p) (by omega) k
  have hi := (inv_tab hp (a := w.getD k 0) (by omega) hb.2).2.1
  unfold redI
  rw [pat hx hw, Int.mul_assoc, Int.mul_comm (invL _ _), Int.add_emod, Int.mul_emod, hi, Int.mul_one, Int.emod_emod, ← Int.add_emod, show x.getD k 0 + -(x.getD k 0) = 0 by omega, Int.zero_emod]
theorem redI_off (hp : 1 ≤ p) (hx : Ev p m x) (hw : Ev p m w) {j : Nat} (h : w.getD j 0 = 0) : (redI p k w x).getD j 0 = x.getD j 0 := by
  unfold redI
  rw [pat hx hw, h, Int.mul_zero, Int.add_zero, hx.md hp]
theorem redI_back (hp : 1 ≤ p) (hr : Rw p m rows) (ex : Ev p m x) (ew : Ev p m w) (hx : Spn p m rows (redI p k w x)) (hw : Spn p m rows w) : Spn p m rows x := by
  have e : plusL p (redI p k w x) w (x.getD k 0 * invL p (w.getD k 0)) = x := by
    unfold redI
    rw [plus_same hp ex ew, plus_dvd hp ex ew (by rw [Int.neg_mul, show ∀ z : Int, -z + z = 0 by intro z; omega]; rfl)]
  rw [← e]
  exact hx.plus hp hr hw
theorem det_full (hp : IsP p) (hR : Rref p m R) : ∀ {n k : Nat} {out : Int} {A B : List (List Int)}, Rw p m A → Rw p m B → A.length = k → A.map leadN = List.range' 0 k → (∀ s ∈ B, ∀ c < k, s.getD c 0 = 0) →
    k + n = m → B.length = n → 1 ≤ out → out < p → SameS p m R (A ++ B) → (detG p n k out B ≠ 0 ↔ R.length = m)
  | 0, k, out, A, B, hA, hB, hAl, hm, hl, hkn, hBl, ho, _, hs => by
    have hp1 := hp.lo
    obtain rfl : B = [] := List.eq_nil_of_length_eq_zero hBl
    have hall : ∀ x, x ∈ R.map leadN ↔ x ∈ List.range' 0 m := fun x => by
      rw [List.mem_range'_1]
      constructor
      · intro hx
        obtain ⟨r, hr, rfl⟩ := List.mem_map.1 hx
        have := (hR.one r hr).1
        omega
      · intro hx
        have hx2 : x ∈ A.map leadN := by rw [hm, List.mem_range'_1]; omega
        obtain ⟨r, hr, rfl⟩ := List.mem_map.1 hx2
        exact hR.lead (by omega) ((hs r).2 (Spn.mem (by omega) (hA.app hB) (List.mem_append_left _ hr))) (by omega)
    have e := asc_eq hR.asc (List.pairwise_lt_range' (s := 0) (n := m) (step := 1)) hall
    have e2 := congrArg List.length e
    rw [List.length_map, List.length_range'] at e2
    exact ⟨fun _ => e2, fun _ => by show out ≠ 0; omega⟩
  | n + 1, k, out, A, B, hA, hB, hAl, hm, hl, hkn, hBl, ho, ho2, hs => by
    have hp1 := hp.lo
    unfold detG
    split
    · next hn =>
      refine ⟨fun h => absurd rfl h, fun hRl => ?_⟩
      have hk : k ∈ R.map leadN := asc_full (m := m) (b := 0) hR.asc (fun x hx => by
        obtain ⟨r, hr, rfl⟩ := List.mem_map.1 hx
        exact ⟨Nat.zero_le _, (hR.one r hr).1⟩) (by rw [List.length_map]; omega) k (Nat.zero_le _) (by omega)
      obtain ⟨r, hr, hrk⟩ := List.mem_map.1 hk
      have h1 := (hR.one r hr).2
      rw [hrk] at h1
      have := tri_zero hp (a := 0) hA hB (by rw [hAl]; exact hm) (fun s hs c hc => by
        by_cases e : c = k
        · rw [e]; exact fnd_none hn s hs
        · exact hl s hs c (by omega)) (by omega) ((hs r).1 (Spn.mem (by omega) hR.rw_ hr)) (fun c hc => lead_low (by omega))
      rw [Nat.zero_add, hAl, h1] at this
      exact absurd this (by decide)
    · next hn =>
      have hlt : fndR k B < B.length := Nat.lt_of_le_of_ne fnd_le hn
      have hm_ := get_mem hlt
      have ew := hB _ hm_
      have hne := fnd_get hlt
      have hwb := ew.at (p := p) (by omega) k
      have wl : ∀ c < k, (B.getD (fndR k B) []).getD c 0 = 0 := fun c hc => hl _ hm_ c hc
      have hlead : leadN (B.getD (fndR k B) []) = k := lead_is hne wl
      have hB' : Rw p m (othR (fndR k B) B) := fun x hx => hB x (oth_mem hlt hx)
      have hB2 : Rw p m ((othR (fndR k B) B).map (redI p k (B.getD (fndR k B) []))) := fun x hx => by
        obtain ⟨y, hy, rfl⟩ := List.mem_map.1 hx
        exact redI_ev (by omega) (hB' y hy) ew
      have hA2 : Rw p m (A ++ [B.getD (fndR k B) []]) := hA.app fun x hx => by rw [List.mem_singleton.1 hx]; exact ew
      have hod : (if fndR k B = 0 then out else -out % p) % p ≠ 0 := by
        split
        · rw [Int.emod_eq_of_lt (by omega) ho2]; omega
        · rw [Int.emod_emod]
          intro h
          obtain ⟨q, hq⟩ := Int.dvd_of_emod_eq_zero h
          rcases Int.lt_trichotomy q 0 with h | h | h
          · have := Int.mul_le_mul_of_nonneg_left (show q ≤ -1 by omega) (show 0 ≤ p by omega); omega
          · subst h; omega
          · have := Int.mul_le_mul_of_nonneg_left (show 1 ≤ q by omega) (show 0 ≤ p by omega); omega
      have hb2 : 0 ≤ (if fndR k B = 0 then out else -out % p) * (B.getD (fndR k B) []).getD k 0 % p ∧ (if fndR k B = 0 then out else -out % p) * (B.getD (fndR k B) []).getD k 0 % p < p := mod_fp (by omega)
      have hb3 : (if fndR k B = 0 then out else -out % p) * (B.getD (fndR k B) []).getD k 0 % p ≠ 0 := fun h => hod (mul_z hp h (by omega) hwb.2)
      refine det_full hp hR (A := A ++ [B.getD (fndR k B) []]) hA2 hB2 (by simp [hAl]) ?_ ?_ (by omega) (by rw [List.length_map, oth_len hlt]; omega) (by omega) hb2.2 (hs.tr ?_)
      · rw [List.map_append, hm, List.range'_concat, List.map_singleton, hlead, Nat.zero_add, Nat.one_mul]
      · intro s hs2
        obtain ⟨y, hy, rfl⟩ := List.mem_map.1 hs2
        have ey := hB' y hy
        refine low_succ (fun c hc => ?_) (redI_k hp ey ew hne)
        rw [redI_off (by omega) ey ew (wl c hc)]
        exact hl y (oth_mem hlt hy) c hc
      · have h1 := hA.app hB
        have h2 := hA2.app hB2
        have sw : Spn p m (A ++ [B.getD (fndR k B) []] ++ (othR (fndR k B) B).map (redI p k (B.getD (fndR k B) []))) (B.getD (fndR k B) []) := Spn.mem (by omega) h2 (by simp)
        have sw0 := Spn.mem (p := p) (m := m) (by omega) h1 (List.mem_append_right A hm_)
        refine SameS.of (by omega) h1 h2 (fun x hx => ?_) fun x hx => ?_
        · rcases List.mem_append.1 hx with hx | hx
          · exact Spn.mem (by omega) h2 (by simp [hx])
          · rcases mem_oth hlt hx with rfl | hx
            · exact sw
            · exact redI_back (by omega) h2 (hB' x hx) ew (Spn.mem (by omega) h2 (List.mem_append_right _ (List.mem_map_of_mem hx))) sw
        · rcases List.mem_append.1 hx with hx | hx
          · rcases List.mem_append.1 hx with hx | hx
            · exact Spn.mem (by omega) h1 (List.mem_append_left _ hx)
            · rw [List.mem_singleton.1 hx]; exact sw0
          · obtain ⟨y, hy, rfl⟩ := List.mem_map.1 hx
            exact (Spn.mem (by omega) h1 (List.mem_append_right _ (oth_mem hlt hy))).plus (by omega) h1 sw0
theorem det_red (hp : IsP p) (hr : Rw p m rows) (hl : rows.length = m) : (detL p rows ≠ 0 ↔ (redL p rows).length = m) := by
  obtain ⟨h1, h2⟩ := redL_rref hp hr
  exact det_full hp h1 (A := []) (fun x hx => by simp at hx) hr rfl rfl (fun _ _ c hc => by omega) (by omega) rfl (by decide) (by have := hp.lo; omega) h2
end
end Go.Proofs.Ytgkceadllcjeoaa
