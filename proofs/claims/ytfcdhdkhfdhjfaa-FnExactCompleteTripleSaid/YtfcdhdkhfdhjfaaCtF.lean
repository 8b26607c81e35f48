/-
  The completion of a skew matrix: what the program solves for is what the reference sums up. No program in sight.
-/
import Derived.Test.YtfcdhdkhfdhjfaaJbm
namespace Go.Proofs.Ytfcdhdkhfdhjfaa

def sumK (p : Int) (f : List Int) (K : List (List Int)) : List Int := K.foldl (fun s r => plusL p s (scaleL p r (f.getD (leadN r) 0)) 1) (zeroL 192)
def wideL (p : Int) (f : List Int) (L : List (List Int)) : List (List Int) := L.map fun r => r.drop 64 ++ [(-(dotL p (r.take 64) f)) % p]
def setF (N : Nat) (o : List Int) (R : List (List Int)) : List Int := R.foldl (fun o r => o.set (leadN r) (r.getD N 0)) o
def setL (N : Nat) (R : List (List Int)) : List Int := setF N (zeroL N) R
section
variable {p : Int} {n : Nat} [NeZero n] {N : Nat} {st f : List Int} {R : List (List Int)}
theorem setF_len {o : List Int} : (setF N o R).length = o.length := by
  unfold setF
  induction R generalizing o with
  | nil => rfl
  | cons r R ih => rw [List.foldl_cons, ih, List.length_set]
theorem setF_off {j : Nat} : ∀ {R : List (List Int)} {o : List Int}, (∀ r ∈ R, leadN r ≠ j) → (setF N o R).getD j 0 = o.getD j 0
  | [], _, _ => rfl
  | r :: R, o, h => by
    have e : setF N o (r :: R) = setF N (o.set (leadN r) (r.getD N 0)) R := rfl
    rw [e, setF_off (fun s hs => h s (List.mem_cons_of_mem _ hs)), List.getD_eq_getElem?_getD, List.getElem?_set_ne (h r (by simp)), ← List.getD_eq_getElem?_getD]
theorem setF_at : ∀ {R : List (List Int)} {o : List Int}, R.Pairwise (fun r s => leadN r < leadN s ∧ r.getD (leadN s) 0 = 0) → (∀ r ∈ R, leadN r < o.length) → ∀ r ∈ R, (setF N o R).getD (leadN r) 0 = r.getD N 0
  | [], _, _, _, _, h => by cases h
  | s :: R, o, hp, hl, r, hr => by
    have e : setF N o (s :: R) = setF N (o.set (leadN s) (s.getD N 0)) R := rfl
    obtain ⟨h1, h2⟩ := List.pairwise_cons.1 hp
    rw [e]
    rcases List.mem_cons.1 hr with rfl | hr
    · rw [setF_off (fun t ht => by have := (h1 t ht).1; omega), List.getD_eq_getElem?_getD, List.getElem?_set_self (hl r (by simp))]; rfl
    · exact setF_at h2 (fun t ht => by rw [List.length_set]; exact hl t (List.mem_cons_of_mem _ ht)) r hr
theorem setL_at (hR : Rref p (N + 1) R) (hl : ∀ r ∈ R, leadN r < N) {r : List Int} (hr : r ∈ R) : (setL N R).getD (leadN r) 0 = r.getD N 0 := setF_at hR.pw (fun s hs => by rw [zero_len]; exact hl s hs) r hr
theorem setL_off {j : Nat} (h : ∀ r ∈ R, leadN r ≠ j) : (setL N R).getD j 0 = 0 := by unfold setL; rw [setF_off h, zero_at]
theorem setL_ev (hp : 1 ≤ p) (hR : Rref p (N + 1) R) (hl : ∀ r ∈ R, leadN r < N) : Ev p N (setL N R) := by
  have hlen : (setL N R).length = N := by unfold setL; rw [setF_len, zero_len]
  refine ⟨hlen, fun x hx => ?_⟩
  obtain ⟨j, hj, rfl⟩ := List.getElem_of_mem hx
  have e : (setL N R)[j] = (setL N R).getD j 0 := by rw [List.getD_eq_getElem?_getD, List.getElem?_eq_getElem hj]; rfl
  rw [e]
  by_cases h : ∃ r ∈ R, leadN r = j
  · obtain ⟨r, hr, rfl⟩ := h
    rw [setL_at hR hl hr]
    exact (hR.rw_ r hr).at hp N
  · rw [setL_off (fun r hr e => h ⟨r, hr, e⟩)]; omega
theorem snoc_lt {x : List Int} {a : Int} {j : Nat} (h : j < x.length) : (x ++ [a]).getD j 0 = x.getD j 0 := by rw [List.getD_eq_getElem?_getD, List.getElem?_append_left h, ← List.getD_eq_getElem?_getD]
theorem snoc_at {x : List Int} {a : Int} : (x ++ [a]).getD x.length 0 = a := by rw [List.getD_eq_getElem?_getD, List.getElem?_append_right (Nat.le_refl _)]; simp
theorem setL_zero (hp : 1 ≤ p) (hR : Rref p (N + 1) R) (hl : ∀ r ∈ R, leadN r < N) : Zro n R (setL N R ++ [-1]) := fun r hr => by
  have ho := (setL_ev hp hR hl).1
  have hrl := (hR.rw_ r hr).1
  have h1 := hl r hr
  have hy : ∀ j, j < N → (setL N R ++ [-1]).getD j 0 = (setL N R).getD j 0 := fun j hj => snoc_lt (by rw [ho]; exact hj)
  have hyN : (setL N R ++ [-1]).getD N 0 = -1 := by have := snoc_at (x := setL N R) (a := -1); rw [ho] at this; exact this
  rw [dotS_pair (a := leadN r) (b := N) (by rw [hrl, List.length_append, ho]; rfl) (by omega) (by omega) ?_, (hR.one r hr).2, hy _ h1, setL_at hR hl hr, hyN]
  · rw [show (1 : Int) * r.getD N 0 + r.getD N 0 * -1 = 0 by omega]; exact toF_zero n
  · intro j hj1 hj2
    by_cases hjN : j < N
    · rw [hy j hjN]
      by_cases h : ∃ s ∈ R, leadN s = j
      · obtain ⟨s, hs, rfl⟩ := h
        obtain ⟨i, hi, rfl⟩ := List.getElem_of_mem hr
        obtain ⟨i2, hi2, rfl⟩ := List.getElem_of_mem hs
        have e := hR.at hi hi2
        rw [if_neg (fun e => by subst e; exact hj1 rfl)] at e
        rw [e, Int.zero_mul]
      · rw [setL_off (fun s hs e => h ⟨s, hs, e⟩), Int.mul_zero]
    · have : r.getD j 0 = 0 := by rw [List.getD_eq_getElem?_getD, List.getElem?_eq_none (by omega)]; rfl
      rw [this, Int.zero_mul]
theorem dotS_app : ∀ {a c b d : List Int}, a.length = c.length → dotS (a ++ b) (c ++ d) = dotS a c + dotS b d
  | [], [], b, d, _ => by simp [dotS]
  | [], _ :: _, _, _, h => by simp at h
  | _ :: _, [], _, _, h => by simp at h
  | x :: a, y :: c, b, d, h => by
    show x * y + dotS (a ++ b) (c ++ d) = x * y + dotS a c + dotS b d
    rw [dotS_app (by simpa using h)]; omega
theorem wide_toF (hn : p = n) {r x : List Int} (hr : r.length = 192) (hf : f.length = 64) (hx : x.length = 128) : toF n (dotS (r.drop 64 ++ [(-(dotL p (r.take 64) f)) % p]) (x ++ [-1])) = toF n (dotS r (f ++ x)) := by
  have e : dotS r (f ++ x) = dotS (r.take 64) f + dotS (r.drop 64) x := by
    rw [← dotS_app (by rw [List.length_take, hr, hf]; rfl), List.take_append_drop]
  rw [e, dotS_snoc (by rw [List.length_drop, hr, hx])]
  unfold dotL
  subst hn
  rw [toF_add, toF_add, toF_mul, toF_mod, toF_neg, toF_mod, toF_neg, toF_one]
  grind
theorem wide_rw (hp : 1 ≤ p) {L : List (List Int)} (hL : Rw p 192 L) : Rw p 129 (wideL p f L) := fun r hr => by
  obtain ⟨s, hs, rfl⟩ := List.mem_map.1 hr
  obtain ⟨h1, h2⟩ := hL s hs
  refine ⟨by rw [List.length_append, List.length_drop, h1]; rfl, fun x hx => ?_⟩
  rcases List.mem_append.1 hx with hx | hx
  · exact h2 x (List.mem_of_mem_drop hx)
  · rw [List.mem_singleton.1 hx]; exact ⟨Int.emod_nonneg _ (by omega), Int.emod_lt_of_pos _ (by omega)⟩
theorem wide_iff (hn : p = n) {L : List (List Int)} {x : List Int} (hL : Rw p 192 L) (hf : f.length = 64) (hx : x.length = 128) : Zro n (wideL p f L) (x ++ [-1]) ↔ Zro n L (f ++ x) := by
  constructor
  · intro h r hr
    rw [← wide_toF hn (hL r hr).1 hf hx]
    exact h _ (List.mem_map.2 ⟨r, hr, rfl⟩)
  · intro h r hr
    obtain ⟨s, hs, rfl⟩ := List.mem_map.1 hr
    rw [wide_toF hn (hL s hs).1 hf hx]
    exact h s hs
theorem sum_spn (hp : 1 ≤ p) {K : List (List Int)} (hK : Rw p 192 K) : ∀ {J : List (List Int)} {s : List Int}, (∀ r ∈ J, r ∈ K) → Spn p 192 K s → Spn p 192 K (J.foldl (fun s r => plusL p s (scaleL p r (f.getD (leadN r) 0)) 1) s)
  | [], _, _, hs => hs
  | r :: J, s, h, hs => by
    rw [List.foldl_cons]
    exact sum_spn hp hK (fun t ht => h t (List.mem_cons_of_mem _ ht)) (hs.plus hp hK (Spn.scale hp hK (Spn.mem hp hK (h r (by simp)))))
theorem sum_lead (hp : 1 ≤ p) {K : List (List Int)} (hK : Rref p 192 K) (hfe : ∀ j, 0 ≤ f.getD j 0 ∧ f.getD j 0 < p) : ∀ k, k ≤ K.length → ∀ i (hi : i < K.length), (sumK p f (K.take k)).getD (leadN K[i]) 0 = if i < k then f.getD (leadN K[i]) 0 else 0
  | 0, _, i, hi => by show (zeroL 192).getD _ 0 = _; rw [zero_at, if_neg (by omega)]
  | k + 1, hk, i, hi => by
    have hkl : k < K.length := by omega
    have ih := sum_lead hp hK hfe k (by omega) i hi
    have e : sumK p f (K.take (k + 1)) = plusL p (sumK p f (K.take k)) (scaleL p K[k] (f.getD (leadN K[k]) 0)) 1 := by
      unfold sumK; rw [List.take_succ_eq_append_getElem hkl, List.foldl_append]; rfl
    have es : Ev p 192 (sumK p f (K.take k)) := Spn.ev hp hK.rw_ (sum_spn hp hK.rw_ (fun r hr => List.mem_of_mem_take hr) (Spn.zr hp hK.rw_))
    have er : Ev p 192 (scaleL p K[k] (f.getD (leadN K[k]) 0)) := scale_ev hp (hK.rw_ _ (List.getElem_mem hkl))
    have hat := hK.at hkl hi
    have bf := hfe (leadN K[i])
    rw [e, pat es er, ih, scale_at, hat]
    by_cases h : k = i
    · subst h
      rw [if_neg (by omega), if_pos rfl, if_pos (by omega), Int.one_mul, Int.zero_add, Int.one_mul, Int.emod_emod, Int.emod_eq_of_lt bf.1 bf.2]
    · rw [if_neg h, Int.zero_mul, Int.zero_emod, Int.mul_zero, Int.add_zero]
      by_cases h2 : i < k
      · rw [if_pos h2, if_pos (by omega), Int.emod_eq_of_lt bf.1 bf.2]
      · rw [if_neg h2, if_neg (by omega)]; rfl
theorem eq_of_diff (hp : 1 ≤ p) (hn : p = n) {m : Nat} {v w : List Int} (hv : Ev p m v) (hw : Ev p m w) (h : plusL p v w (-1) = zeroL m) : v = w := hv.ext hw fun j => by
  have e := congrArg (fun l => l.getD j 0) h
  rw [pat hv hw, zero_at] at e
  refine toF_inj hn (hv.at hp j) (hw.at hp j) ?_
  have e := congrArg (toF n) e
  subst hn
  rw [toF_mod, toF_add, toF_mul, toF_neg, toF_one, toF_zero] at e
  grind
theorem compl_same (hd : Dok p st) (h3 : st.length = 3) (hfe : Ev p 64 f)
    (hsk : ∀ i k, i < 8 → k < 8 → (dgN p st i * f.getD (i * 8 + k) 0 + dgN p st k * f.getD (k * 8 + i) 0) % p = 0) :
    (∀ r ∈ basisL p 129 (wideL p f (locP p st)), leadN r ≠ 128) ∧ (∀ r ∈ locN p st, leadN r < 64) ∧ Ev p 128 (setL 128 (basisL p 129 (wideL p f (locP p st)))) ∧ f ++ setL 128 (basisL p 129 (wideL p f (locP p st))) = sumK p f (locN p st) := by
  refine hd.hp.fldC fun n _ hn hf => ?_
  have h1 : 1 ≤ p := by have := hd.hp.lo; omega
  have h2 : 2 ≤ p := by have := hd.hp.lo; omega
  have h8 := sz3 h3
  have hP : Rw p 192 (locP p st) := by have e := locP_rw hd; rw [h8] at e; exact e
  obtain ⟨x, hx, hxz⟩ := compl_ex hd h3 hn hf hfe hsk
  have hW := wide_rw (f := f) h1 hP
  obtain ⟨hR, hsame⟩ := basis_rref hd.hp hW
  have hxW := (wide_iff hn hP hfe.1 hx.1).2 hxz
  have hxR := hxW.same hn hW hR.rw_ hsame.sy
  have hne : ∀ r ∈ basisL p 129 (wideL p f (locP p st)), leadN r ≠ 128 := fun r hr e => by
    have h0 := hxR r hr
    have hN : (x ++ [-1]).getD 128 0 = -1 := by have := snoc_at (x := x) (a := -1); rw [hx.1] at this; exact this
    rw [dotS_single (k := 128) (fun j hj => ?_), hN] at h0
    · have o := (hR.one r hr).2
      rw [e] at o
      rw [o, toF_mul, toF_neg, toF_one] at h0
      exact hf.one (by grind)
    · by_cases hj2 : j < 128
      · rw [lead_low (by omega), Int.zero_mul]
      · have : r.getD j 0 = 0 := by rw [List.getD_eq_getElem?_getD, List.getElem?_eq_none (by rw [(hR.rw_ r hr).1]; omega)]; rfl
        rw [this, Int.zero_mul]
  have hlt : ∀ r ∈ basisL p 129 (wideL p f (locP p st)), leadN r < 128 := fun r hr => by
    have a := hne r hr; have b := (hR.one r hr).1; omega
  have ho := setL_ev h1 hR hlt
  have hoW := (setL_zero (n := n) h1 hR hlt).same hn hR.rw_ hW hsame
  have hoz := (wide_iff hn hP hfe.1 ho.1).1 hoW
  obtain ⟨o, ho_⟩ : ∃ o, o = setL 128 (basisL p 129 (wideL p f (locP p st))) := ⟨_, rfl⟩
  rw [← ho_] at ho hoz ⊢
  have app : ∀ {y : List Int}, Ev p 128 y → Ev p 192 (f ++ y) := fun {y} hy => ⟨by rw [List.length_append, hfe.1, hy.1], fun z hz => (List.mem_append.1 hz).elim (hfe.2 z) (hy.2 z)⟩
  have efo := app ho; have efx := app hx
  have eq1 : f ++ o = f ++ x := by
    refine eq_of_diff h1 hn efo efx (compl_uniq hd h3 hn hf (efo.plus h1 efx) (fun r hr => ?_) fun j hj => ?_)
    · rw [dotS_plusF hn (by rw [efo.1, efx.1]), hoz r hr, hxz r hr]; grind
    · rw [pat efo efx, List.getD_eq_getElem?_getD, List.getElem?_append_left (by rw [hfe.1]; exact hj), List.getD_eq_getElem?_getD, List.getElem?_append_left (by rw [hfe.1]; exact hj)]
      generalize (f[j]?).getD 0 = y
      rw [show y + -1 * y = 0 by omega, Int.zero_emod]
  have hNe : locN p st = kerL p 192 (locP p st) := by unfold locN; rw [h8]
  have hK : Rref p 192 (locN p st) := by rw [hNe]; exact kerL_rref hd.hp
  have hlead : ∀ r ∈ locN p st, leadN r < 64 := fun r hr => by
    refine Nat.lt_of_not_le fun hge => ?_
    have er := hK.rw_ r hr
    have hs : Spn p 192 (kerL p 192 (locP p st)) r := by rw [← hNe]; exact Spn.mem h1 hK.rw_ hr
    have hz := (ker_iff hd.hp hn hP er).1 hs
    have e := compl_uniq hd h3 hn hf er hz fun j hj => lead_low (by omega)
    have o := (hK.one r hr).2
    have o2 : r.getD (leadN r) 0 = 0 := by
      have e2 := congrArg (fun l => l.getD (leadN r) 0) e
      rw [e2, zero_at]
    omega
  refine ⟨hne, hlead, ho, ?_⟩
  rw [eq1]
  have hsx : Spn p 192 (locN p st) (f ++ x) := by rw [hNe]; exact (ker_iff hd.hp hn hP efx).2 hxz
  have hss : Spn p 192 (locN p st) (sumK p f (locN p st)) := sum_spn h1 hK.rw_ (fun r hr => hr) (Spn.zr h1 hK.rw_)
  have ess := Spn.ev h1 hK.rw_ hss
  refine eq_of_diff h1 hn efx ess (Rref.zero_of h2 hK (hsx.plus h1 hK.rw_ hss) fun s hs => ?_)
  obtain ⟨i, hi, rfl⟩ := List.getElem_of_mem hs
  have e := sum_lead h1 hK (f := f) (fun j => hfe.at h1 j) (locN p st).length (Nat.le_refl _) i hi
  rw [List.take_length, if_pos hi] at e
  have hl64 := hlead _ (List.getElem_mem hi)
  rw [pat efx ess, e, List.getD_eq_getElem?_getD, List.getElem?_append_left (by rw [hfe.1]; exact hl64), ← List.getD_eq_getElem?_getD]
  generalize f.getD (leadN (locN p st)[i]) 0 = y
  rw [show y + -1 * y = 0 by omega, Int.zero_emod]
end
end Go.Proofs.Ytfcdhdkhfdhjfaa
