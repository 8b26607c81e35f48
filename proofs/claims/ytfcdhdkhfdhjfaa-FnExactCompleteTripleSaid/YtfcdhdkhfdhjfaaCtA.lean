/-
  What is 0 against rows: the kernel's rows generate it. No program in sight.
-/
import Derived.Test.YtfcdhdkhfdhjfaaJbj
namespace Go.Proofs.Ytfcdhdkhfdhjfaa

def Zro (n : Nat) [NeZero n] (rows : List (List Int)) (v : List Int) : Prop := ∀ r ∈ rows, toF n (dotS r v) = 0
section
variable {p : Int} {m n : Nat} [NeZero n] {rows a b R K : List (List Int)} {v w : List Int}
theorem Zro.spn (hn : p = n) (hr : Rw p m rows) (hz : Zro n rows v) (hw : Spn p m rows w) : toF n (dotS w v) = 0 := by
  obtain ⟨cs, _, rfl⟩ := hw
  exact dot_span hn hr hz
theorem Zro.same (hn : p = n) (ha : Rw p m a) (hb : Rw p m b) (h : SameS p m a b) (hz : Zro n a v) : Zro n b v := fun r hr =>
  hz.spn hn ha ((h r).2 (Spn.mem (by have := Nat.pos_of_neZero n; omega) hb hr))
theorem Zro.comb (hn : p = n) (hK : Rw p m K) (hz : ∀ k ∈ K, Zro n rows k) (hv : Spn p m K v) : Zro n rows v := fun r hr => by
  rw [dotS_comm]
  have h : Zro n K r := fun k hk => by rw [dotS_comm]; exact hz k hk r hr
  exact h.spn hn hK hv
theorem dotS_none : ∀ {r v : List Int}, (∀ j, r.getD j 0 * v.getD j 0 = 0) → dotS r v = 0
  | [], _, _ => rfl
  | _ :: _, [], _ => rfl
  | x :: r, y :: v, h => by
    have h0 := h 0
    simp only [List.getD_cons_zero] at h0
    show x * y + dotS r v = 0
    rw [h0, dotS_none (fun j => by have := h (j + 1); simpa using this)]; rfl
theorem dotS_single : ∀ {r v : List Int} {k : Nat}, (∀ j, j ≠ k → r.getD j 0 * v.getD j 0 = 0) → dotS r v = r.getD k 0 * v.getD k 0
  | [], v, k, _ => by simp [dotS]
  | x :: r, [], k, _ => by simp [dotS]
  | x :: r, y :: v, 0, h => by
    show x * y + dotS r v = x * y
    rw [dotS_none (fun j => by have := h (j + 1) (by omega); simpa using this), Int.add_zero]
  | x :: r, y :: v, k + 1, h => by
    have h0 := h 0 (by omega)
    simp only [List.getD_cons_zero] at h0
    show x * y + dotS r v = _
    rw [h0, dotS_single (k := k) (fun j hj => by have := h (j + 1) (by omega); simpa using this), Int.zero_add]; simp
theorem dotS_pair {r v : List Int} {a b : Nat} (hl : r.length = v.length) (ha : a < r.length) (hne : a ≠ b) (h : ∀ j, j ≠ a → j ≠ b → r.getD j 0 * v.getD j 0 = 0) : dotS r v = r.getD a 0 * v.getD a 0 + r.getD b 0 * v.getD b 0 := by
  have e := dotS_set (v := 0) hl ha
  have e2 : dotS (r.set a 0) v = (r.set a 0).getD b 0 * v.getD b 0 := dotS_single fun j hj => by
    by_cases hja : j = a
    · subst hja
      have : (r.set j 0).getD j 0 = 0 := by rw [List.getD_eq_getElem?_getD, List.getElem?_set_self ha]; rfl
      rw [this, Int.zero_mul]
    · have : (r.set a 0).getD j 0 = r.getD j 0 := by rw [List.getD_eq_getElem?_getD, List.getElem?_set_ne (fun e => hja e.symm), ← List.getD_eq_getElem?_getD]
      rw [this]; exact h j hja hj
  have e3 : (r.set a 0).getD b 0 = r.getD b 0 := by rw [List.getD_eq_getElem?_getD, List.getElem?_set_ne hne, ← List.getD_eq_getElem?_getD]
  rw [e2, e3, Int.zero_sub] at e
  have : -(r.getD a 0) * v.getD a 0 = -(r.getD a 0 * v.getD a 0) := Int.neg_mul ..
  omega
theorem kerS_zero (hp : 2 ≤ p) (hn : p = n) (hR : Rref p m R) {f : Nat} (hf : f < m) (hfr : ldB R f = false) : Zro n R (kerS p m R f (ldB R)) := fun r hr => by
  obtain ⟨i, hi, rfl⟩ := List.mem_iff_getElem.1 hr
  obtain ⟨hlm, h1⟩ := hR.one _ (List.getElem_mem hi)
  have hne : leadN R[i] ≠ f := fun e => by rw [← e, ldB_row hi] at hfr; exact absurd hfr (by decide)
  have hrl := (hR.rw_ _ (List.getElem_mem hi)).1
  rw [dotS_pair (a := leadN R[i]) (b := f) (by rw [hrl, kerS_len]) (by omega) hne ?_, h1, kerS_get hlm, if_pos (ldB_row hi), ldI_row hR hi, kerS_get hf, if_neg (by rw [hfr]; decide), if_pos rfl]
  · have e : R.getD i [] = R[i] := by rw [List.getD_eq_getElem?_getD, List.getElem?_eq_getElem hi]; rfl
    rw [e, Int.one_mul, Int.mul_one]
    subst hn
    rw [toF_add, toF_mod, toF_neg]
    grind
  · intro j hj1 hj2
    by_cases hjm : j < m
    · rw [kerS_get hjm]
      by_cases hb : ldB R j = true
      · obtain ⟨i2, hi2, e2⟩ := ldB_iff.1 hb
        have h0 := hR.at hi hi2
        rw [e2, if_neg (fun e => by subst e; exact hj1 e2.symm)] at h0
        rw [h0, Int.zero_mul]
      · rw [if_neg hb, if_neg hj2, Int.mul_zero]
    · have h0 : (R[i]).getD j 0 = 0 := by rw [List.getD_eq_getElem?_getD, List.getElem?_eq_none (by omega)]; rfl
      rw [h0, Int.zero_mul]
theorem Spn.left_ (hp : 1 ≤ p) (ha : Rw p m a) (hb : Rw p m b) (h : Spn p m a v) : Spn p m (a ++ b) v :=
  Spn.sub hp (ha.app hb) ha (fun r hr => List.mem_append_left _ hr) h
theorem ker_low (hp : 2 ≤ p) (hn : p = n) (hR : Rref p m R) (hv : Ev p m v) : ∀ c, c ≤ m → ∃ u, Spn p m (kerO p m R c) u ∧ Zro n R u ∧ ∀ f, f < m → ldB R f = false → u.getD f 0 = if f < c then v.getD f 0 else 0
  | 0, _ => ⟨zeroL m, Spn.zr (by omega) (kerO_rw hp 0), fun r _ => by rw [dotS_comm, show dotS (zeroL m) r = 0 from dotS_zeros, toF_zero], fun f _ _ => by rw [zero_at]; simp⟩
  | c + 1, hc => by
    have hp1 : 1 ≤ p := by omega
    obtain ⟨u, h1, h2, h3⟩ := ker_low hp hn hR hv c (by omega)
    have eu := Spn.ev hp1 (kerO_rw hp c) h1
    cases hb : ldB R c with
    | true =>
      refine ⟨u, by unfold kerO; rw [if_pos hb]; exact h1, h2, fun f hf hfb => ?_⟩
      have hne : f ≠ c := fun e => by rw [e, hb] at hfb; exact absurd hfb (by decide)
      rw [h3 f hf hfb]
      by_cases hlt : f < c
      · rw [if_pos hlt, if_pos (by omega)]
      · rw [if_neg hlt, if_neg (by omega)]
    | false =>
      have ek : Ev p m (kerS p m R c (ldB R)) := kerS_ev hp
      have eK : Rw p m [kerS p m R c (ldB R)] := fun r hr => by rw [List.mem_singleton.1 hr]; exact ek
      have e : kerO p m R (c + 1) = kerO p m R c ++ [kerS p m R c (ldB R)] := by
        show (if ldB R c = true then _ else _) = _
        rw [if_neg (by rw [hb]; decide)]
      have hrw := (kerO_rw (R := R) (m := m) hp c).app eK
      rw [e]
      refine ⟨plusL p u (kerS p m R c (ldB R)) (v.getD c 0), (Spn.left_ hp1 (kerO_rw hp c) eK h1).plus hp1 hrw (Spn.mem hp1 hrw (by simp)), fun r hr => ?_, fun f hf hfb => ?_⟩
      · rw [dotS_plusF hn (by rw [eu.1, kerS_len]), h2 r hr, kerS_zero hp hn hR (by omega) hb r hr]
        grind
      · have bv := hv.at hp1 f
        have k1 := h3 f hf hfb
        have k2 : (kerS p m R c (ldB R)).getD f 0 = if f = c then 1 else 0 := by rw [kerS_get hf, if_neg (show ¬ ldB R f = true by rw [hfb]; decide)]
        rw [pat eu ek, k1, k2]
        by_cases hfc : f = c
        · subst hfc
          rw [if_neg (show ¬ f < f by omega), if_pos (show f = f from rfl), if_pos (show f < f + 1 by omega), Int.zero_add, Int.mul_one, Int.emod_eq_of_lt bv.1 bv.2]
        · rw [if_neg hfc, Int.mul_zero, Int.add_zero]
          by_cases hlt : f < c
          · rw [if_pos hlt, if_pos (show f < c + 1 by omega), Int.emod_eq_of_lt bv.1 bv.2]
          · rw [if_neg hlt, if_neg (show ¬ f < c + 1 by omega)]; rfl
theorem ker_gen (hp : 2 ≤ p) (hn : p = n) (hR : Rref p m R) (hv : Ev p m v) (hz : Zro n R v) : Spn p m (kerO p m R m) v := by
  have hp1 : 1 ≤ p := by omega
  obtain ⟨u, h1, h2, h3⟩ := ker_low hp hn hR hv m (Nat.le_refl _)
  have eu := Spn.ev hp1 (kerO_rw hp m) h1
  have ew := hv.plus (k := -1) hp1 eu
  have hw : Zro n R (plusL p v u (-1)) := fun r hr => by rw [dotS_plusF hn (by rw [eu.1, hv.1]), hz r hr, h2 r hr]; grind
  have hfree : ∀ f, ldB R f = false → (plusL p v u (-1)).getD f 0 = 0 := fun f hfb => by
    by_cases hf : f < m
    · rw [pat hv eu, h3 f hf hfb, if_pos hf]
      have : v.getD f 0 + -1 * v.getD f 0 = 0 := by omega
      rw [this, Int.zero_emod]
    · rw [List.getD_eq_getElem?_getD, List.getElem?_eq_none (by rw [ew.1]; omega)]; rfl
  have hall : ∀ j, (plusL p v u (-1)).getD j 0 = 0 := fun j => by
    cases hb : ldB R j with
    | false => exact hfree j hb
    | true =>
      obtain ⟨i, hi, e⟩ := ldB_iff.1 hb
      obtain ⟨hlm, h1⟩ := hR.one _ (List.getElem_mem hi)
      have h0 := hw _ (List.getElem_mem hi)
      rw [dotS_single (k := leadN R[i]) (fun j2 hj2 => ?_), h1, Int.one_mul, e] at h0
      · exact toF_inj hn (ew.at hp1 j) ⟨Int.le_refl 0, by omega⟩ (by rw [h0, toF_zero])
      · cases hb2 : ldB R j2 with
        | false => rw [hfree j2 hb2, Int.mul_zero]
        | true =>
          obtain ⟨i2, hi2, e2⟩ := ldB_iff.1 hb2
          have h0 := hR.at hi hi2
          rw [e2, if_neg (fun e => by subst e; exact hj2 e2.symm)] at h0
          rw [h0, Int.zero_mul]
  have e : v = u := hv.ext eu fun j => by
    have h := hall j
    rw [pat hv eu] at h
    have b1 := hv.at hp1 j; have b2 := eu.at hp1 j
    refine toF_inj hn b1 b2 ?_
    have h := congrArg (toF n) h
    subst hn
    rw [toF_mod, toF_add, toF_mul, toF_neg, toF_one, toF_zero] at h
    grind
  rw [e]; exact h1
theorem ker_iff (hp : IsP p) (hn : p = n) (hL : Rw p m rows) (hv : Ev p m v) : Spn p m (kerL p m rows) v ↔ Zro n rows v := by
  have h2 : 2 ≤ p := by have := hp.lo; omega
  obtain ⟨hR, hsame⟩ := redL_rref hp hL
  obtain ⟨hK, hsame2⟩ := redL_rref hp (kerO_rw (R := redL p rows) (m := m) h2 m)
  have hz : ∀ u, Zro n rows u ↔ Zro n (redL p rows) u := fun u => ⟨fun h => h.same hn hL hR.rw_ hsame.sy, fun h => h.same hn hR.rw_ hL hsame⟩
  have e : Spn p m (kerL p m rows) v ↔ Spn p m (kerO p m (redL p rows) m) v := hsame2 v
  rw [e, hz v]
  constructor
  · intro h
    refine Zro.comb hn (kerO_rw h2 m) (fun k hk => ?_) h
    have hmem : ∀ c, c ≤ m → ∀ k ∈ kerO p m (redL p rows) c, Zro n (redL p rows) k := by
      intro c
      induction c with
      | zero => intro _ k hk; cases hk
      | succ c ih =>
        intro hc k hk
        cases hb : ldB (redL p rows) c with
        | true =>
          have e : kerO p m (redL p rows) (c + 1) = kerO p m (redL p rows) c := if_pos hb
          rw [e] at hk; exact ih (by omega) k hk
        | false =>
          have e : kerO p m (redL p rows) (c + 1) = kerO p m (redL p rows) c ++ [kerS p m (redL p rows) c (ldB (redL p rows))] := if_neg (by rw [hb]; decide)
          rw [e] at hk
          rcases List.mem_append.1 hk with hk | hk
          · exact ih (by omega) k hk
          · rw [List.mem_singleton.1 hk]; exact kerS_zero h2 hn hR (by omega) hb
    exact hmem m (Nat.le_refl _) k hk
  · exact fun h => ker_gen h2 hn hR hv h
end
end Go.Proofs.Ytfcdhdkhfdhjfaa
