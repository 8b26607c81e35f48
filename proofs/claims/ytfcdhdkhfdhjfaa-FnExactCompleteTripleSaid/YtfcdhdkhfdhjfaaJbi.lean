/- Texts joined for a claim: KeA, LbA. -/
import Derived.Test.YtfcdhdkhfdhjfaaJas
import Derived.Test.YtfcdhdkhfdhjfaaTlD
/-
  The kernel of rows of numbers, as rows. No program in sight.
-/
namespace Go.Proofs.Ytfcdhdkhfdhjfaa

def ldI (R : List (List Int)) (k : Nat) : Nat := R.findIdx fun r => leadN r == k
def ldB (R : List (List Int)) (k : Nat) : Bool := R.any fun r => leadN r == k
def kerS (p : Int) (m : Nat) (R : List (List Int)) (f : Nat) (S : Nat → Bool) : List Int :=
  (List.range m).map fun j => if S j = true then (-((R.getD (ldI R j) []).getD f 0)) % p else if j = f then 1 else 0
def kerO (p : Int) (m : Nat) (R : List (List Int)) : Nat → List (List Int)
  | 0 => []
  | c + 1 => if ldB R c = true then kerO p m R c else kerO p m R c ++ [kerS p m R c (ldB R)]
def kerL (p : Int) (m : Nat) (L : List (List Int)) : List (List Int) := redL p (kerO p m (redL p L) m)
section
variable {p : Int} {m f : Nat} {R L : List (List Int)} {S T : Nat → Bool}
theorem kerS_len : (kerS p m R f S).length = m := by simp [kerS]
theorem kerS_get {j : Nat} (hj : j < m) : (kerS p m R f S).getD j 0 = if S j = true then (-((R.getD (ldI R j) []).getD f 0)) % p else if j = f then 1 else 0 := by
  simp [kerS, List.getD_eq_getElem?_getD, hj]
theorem kerS_congr (h : ∀ j, j < m → S j = T j) : kerS p m R f S = kerS p m R f T :=
  List.map_congr_left fun j hj => by rw [h j (List.mem_range.1 hj)]
theorem kerS_start (_ : f < m) : (List.replicate m (0 : Int)).set f 1 = kerS p m R f (fun _ => false) := by
  refine List.ext_getElem (by simp [kerS]) fun i h1 h2 => ?_
  rw [List.getElem_set]
  simp only [kerS, List.getElem_map, List.getElem_range, List.getElem_replicate, Bool.false_eq_true, if_false]
  by_cases h : f = i
  · rw [if_pos h, if_pos h.symm]
  · rw [if_neg h, if_neg (fun e => h e.symm)]
theorem kerS_set {j : Nat} : (kerS p m R f S).set j ((-((R.getD (ldI R j) []).getD f 0)) % p) = kerS p m R f (fun k => S k || k == j) := by
  refine List.ext_getElem (by simp [kerS]) fun i h1 h2 => ?_
  rw [List.getElem_set]
  simp only [kerS, List.getElem_map, List.getElem_range]
  by_cases h : j = i
  · subst h; simp
  · have h2 : (i == j) = false := by rw [beq_eq_false_iff_ne]; exact fun e => h e.symm
    rw [if_neg h, h2, Bool.or_false]
theorem kerS_ev (hp : 2 ≤ p) : Ev p m (kerS p m R f S) := by
  refine ⟨kerS_len, fun x hx => ?_⟩
  obtain ⟨j, _, rfl⟩ := List.mem_map.1 hx
  split
  · exact ⟨Int.emod_nonneg _ (by omega), Int.emod_lt_of_pos _ (by omega)⟩
  · split <;> omega
theorem kerO_rw (hp : 2 ≤ p) : ∀ c, Rw p m (kerO p m R c)
  | 0 => fun r h => by cases h
  | c + 1 => by
    unfold kerO
    split
    · exact kerO_rw hp c
    · exact (kerO_rw hp c).app (fun r h => by rw [List.mem_singleton.1 h]; exact kerS_ev hp)
theorem kerO_len : ∀ c, (kerO p m R c).length ≤ c
  | 0 => Nat.le_refl _
  | c + 1 => by
    have := kerO_len c
    unfold kerO
    split
    · omega
    · rw [List.length_append]; simp; omega
theorem ldI_row (h : Rref p m R) {i : Nat} (hi : i < R.length) : ldI R (leadN R[i]) = i := by
  unfold ldI
  rw [List.findIdx_eq hi]
  refine ⟨by simp, fun j hj => ?_⟩
  have := List.pairwise_iff_getElem.1 h.pw j i (by omega) hi hj
  rw [beq_eq_false_iff_ne]; omega
theorem ldB_iff {k : Nat} : ldB R k = true ↔ ∃ i, ∃ h : i < R.length, leadN R[i] = k := by
  unfold ldB
  rw [List.any_eq_true]
  constructor
  · rintro ⟨r, hr, e⟩
    obtain ⟨i, hi, rfl⟩ := List.mem_iff_getElem.1 hr
    exact ⟨i, hi, by simpa using e⟩
  · rintro ⟨i, hi, e⟩
    exact ⟨R[i], List.getElem_mem hi, by simpa using e⟩
theorem ldB_row {i : Nat} (hi : i < R.length) : ldB R (leadN R[i]) = true := ldB_iff.2 ⟨i, hi, rfl⟩
theorem kerL_rref (hp : IsP p) : Rref p m (kerL p m L) := (redL_rref hp (kerO_rw (by have := hp.lo; omega) m)).1
theorem kerL_same {L' : List (List Int)} (hp : IsP p) (hL : Rw p m L) (hL' : Rw p m L') (h : SameS p m L L') : kerL p m L = kerL p m L' := by
  have h2 : 2 ≤ p := by have := hp.lo; omega
  have e1 := redL_rref hp hL
  have e2 := redL_rref hp hL'
  unfold kerL
  rw [Rref.uniq h2 e1.1 e2.1 (e1.2.tr (h.tr e2.2.sy))]
end
end Go.Proofs.Ytfcdhdkhfdhjfaa
/-
  The equations of local triples: the program's rows and the reference's generate the same. No program in sight.
-/
namespace Go.Proofs.Ytfcdhdkhfdhjfaa

def zrs (N : Nat) : List Int := List.replicate N 0
def skewS (n : Nat) (D : Nat → Int) (t i k : Nat) : List Int := ((zrs (3 * n * n)).set (t * n * n + i * n + k) (D i)).set (t * n * n + k * n + i) (D k)
def formS (n : Nat) (G : Nat → Nat → Nat → Int) (i j k : Nat) : List Int :=
  (((zrs (3 * n * n)).set ((j ^^^ k) * n + i) (G (j ^^^ k) j k)).set (n * n + (i ^^^ k) * n + j) (G i (i ^^^ k) k)).set (2 * n * n + (i ^^^ j) * n + k) (G i j (i ^^^ j))
def sK (n : Nat) (D : Nat → Int) (t i c : Nat) : List (List Int) := (List.range c).map (skewS n D t i)
def sI (n : Nat) (D : Nat → Int) (t c : Nat) : List (List Int) := (List.range c).flatMap fun i => sK n D t i (i + 1)
def sP (n : Nat) (D : Nat → Int) (c : Nat) : List (List Int) := (List.range c).flatMap fun t => sI n D t n
def fK (n : Nat) (G : Nat → Nat → Nat → Int) (i j c : Nat) : List (List Int) := (List.range c).map fun k => formS n G i j k
def fJ (n : Nat) (G : Nat → Nat → Nat → Int) (i c : Nat) : List (List Int) := (List.range c).flatMap fun j => fK n G i j n
def fI (n : Nat) (G : Nat → Nat → Nat → Int) (c : Nat) : List (List Int) := (List.range c).flatMap fun i => fJ n G i n
def refL (n : Nat) (D : Nat → Int) (G : Nat → Nat → Nat → Int) : List (List Int) := sP n D 3 ++ fI n G n
section
variable {p : Int} {n N : Nat} {D : Nat → Int} {F G : Nat → Nat → Nat → Int} {t i j k c a b : Nat} {v x : Int} {row : List Int}
theorem sK_succ : sK n D t i (c + 1) = sK n D t i c ++ [skewS n D t i c] := by unfold sK; rw [List.range_succ, List.map_append]; rfl
theorem sI_succ : sI n D t (c + 1) = sI n D t c ++ sK n D t c (c + 1) := by unfold sI; rw [List.range_succ, List.flatMap_append]; simp
theorem sP_succ : sP n D (c + 1) = sP n D c ++ sI n D c n := by unfold sP; rw [List.range_succ, List.flatMap_append]; simp
theorem fK_succ : fK n G i j (c + 1) = fK n G i j c ++ [formS n G i j c] := by unfold fK; rw [List.range_succ, List.map_append]; rfl
theorem fJ_succ : fJ n G i (c + 1) = fJ n G i c ++ fK n G i c n := by unfold fJ; rw [List.range_succ, List.flatMap_append]; simp
theorem fI_succ : fI n G (c + 1) = fI n G c ++ fJ n G c n := by unfold fI; rw [List.range_succ, List.flatMap_append]; simp
theorem set_at (h : a < row.length) : (row.set a v).getD a 0 = v := by
  rw [List.getD_eq_getElem?_getD, List.getElem?_set_self h]; rfl
theorem set_ne (h : a ≠ b) : (row.set a v).getD b 0 = row.getD b 0 := by
  rw [List.getD_eq_getElem?_getD, List.getElem?_set_ne h, ← List.getD_eq_getElem?_getD]
theorem zrs_at : (zrs N).getD a 0 = 0 := by
  unfold zrs
  rw [List.getD_eq_getElem?_getD, List.getElem?_replicate]
  split <;> rfl
theorem add_put (h : row.getD a 0 = 0) (h0 : 0 ≤ v) (h1 : v < p) : addAt p row a v = row.set a v := by
  unfold addAt; rw [h, Int.zero_add, Int.emod_eq_of_lt h0 h1]
theorem add_no (ha : a < row.length) (h : Fp p row) : addAt p row a 0 = row := by
  unfold addAt
  have hm : row.getD a 0 ∈ row := by
    rw [List.getD_eq_getElem?_getD, List.getElem?_eq_getElem ha]; exact List.getElem_mem ha
  rw [Int.add_zero, Int.emod_eq_of_lt (h _ hm).1 (h _ hm).2]
  refine List.ext_getElem (by simp) fun q h1 h2 => ?_
  rw [List.getElem_set]
  split
  · rename_i e
    subst e
    rw [List.getD_eq_getElem?_getD, List.getElem?_eq_getElem ha]; rfl
  · rfl
theorem skew_off (hi : i < n) (hk : k < n) (hne : i ≠ k) (hD : 0 ≤ D k ∧ D k < p) : skewRow p n D t i k = skewS n D t i k := by
  unfold skewRow skewS
  have hpos : t * n * n + i * n + k ≠ t * n * n + k * n + i := fun e => by
    have e2 : i * n + k = k * n + i := by omega
    have h1 := congrArg (· / n) e2
    have h2 : (i * n + k) / n = i := by rw [Nat.mul_comm, Nat.mul_add_div (by omega), Nat.div_eq_of_lt hk]; rfl
    have h3 : (k * n + i) / n = k := by rw [Nat.mul_comm, Nat.mul_add_div (by omega), Nat.div_eq_of_lt hi]; rfl
    simp only [h2, h3] at h1
    exact hne h1
  exact add_put (by rw [set_ne hpos]; exact zrs_at) hD.1 hD.2
theorem skew_on1 : skewS n D t i i = (zrs (3 * n * n)).set (t * n * n + i * n + i) (D i) := by unfold skewS; rw [List.set_set]
theorem skew_on2 (hi : i < n) (ht : t < 3) : skewRow p n D t i i = (zrs (3 * n * n)).set (t * n * n + i * n + i) ((D i + D i) % p) := by
  unfold skewRow addAt
  have hlt := idx_lt hi hi ht
  rw [set_at (by simpa using hlt), List.set_set]; rfl
theorem scale_set {q : Int} : scaleL p ((zrs N).set a v) q = (zrs N).set a (v * q % p) := by
  unfold scaleL
  rw [List.map_set]
  congr 1
  unfold zrs
  rw [List.map_replicate]
  simp
def cs (b : Bool) (row : List Int) (a : Nat) (f : Int) : List Int := if b = true then row.set a f else row
theorem cs_ne {q : Bool} (h : a ≠ b) : (cs q row a v).getD b 0 = row.getD b 0 := by
  unfold cs; split
  · exact set_ne h
  · rfl
theorem cs_set {q : Bool} (h : a ≠ b) : (cs q row a v).set b x = cs q (row.set b x) a v := by
  unfold cs; split
  · exact List.set_comm _ _ h
  · rfl
theorem cs_no : cs false row a v = row := rfl
theorem cs_yes : cs true row a v = row.set a v := rfl
theorem dec_ne {q r : Nat} (h : r ≠ q) : decide (q < r + 1) = decide (q < r) := by
  by_cases h1 : q < r
  · rw [decide_eq_true h1, decide_eq_true (by omega)]
  · rw [decide_eq_false h1, decide_eq_false (by omega)]
theorem form_eq (hp : 1 ≤ p) (hi : i < n) (hj : j < n) (hk : k < n) (hjk : j ^^^ k < n) (hik : i ^^^ k < n) (hij : i ^^^ j < n) (hG : ∀ a b c, 0 ≤ G a b c ∧ G a b c < p)
    (h1 : ∀ r, r < n → F r j k = if r = j ^^^ k then G (j ^^^ k) j k else 0) (h2 : ∀ r, r < n → F i r k = if r = i ^^^ k then G i (i ^^^ k) k else 0) (h3 : ∀ r, r < n → F i j r = if r = i ^^^ j then G i j (i ^^^ j) else 0) :
    formRow p n F i j k n = formS n G i j k := by
  obtain ⟨q1, e1⟩ : ∃ q, q = j ^^^ k := ⟨_, rfl⟩
  obtain ⟨q2, e2⟩ : ∃ q, q = i ^^^ k := ⟨_, rfl⟩
  obtain ⟨q3, e3⟩ : ∃ q, q = i ^^^ j := ⟨_, rfl⟩
  unfold formS
  rw [← e1] at hjk h1 ⊢
  rw [← e2] at hik h2 ⊢
  rw [← e3] at hij h3 ⊢
  have p1 := idx_lt (n := n) (t := 0) hjk hi (by omega)
  have b1 : q1 * n + i < n * n := by
    have : (q1 + 1) * n ≤ n * n := Nat.mul_le_mul_right n hjk
    rw [Nat.succ_mul] at this; omega
  have b2 : q2 * n + j < n * n := by
    have : (q2 + 1) * n ≤ n * n := Nat.mul_le_mul_right n hik
    rw [Nat.succ_mul] at this; omega
  have b3 : q3 * n + k < n * n := by
    have : (q3 + 1) * n ≤ n * n := Nat.mul_le_mul_right n hij
    rw [Nat.succ_mul] at this; omega
  have en : 2 * n * n = n * n + n * n := by rw [Nat.mul_assoc, Nat.two_mul]
  have eN : 3 * n * n = n * n + n * n + n * n := by rw [Nat.mul_assoc]; omega
  obtain ⟨a1, ha1⟩ : ∃ a, a = q1 * n + i := ⟨_, rfl⟩
  obtain ⟨a2, ha2⟩ : ∃ a, a = n * n + q2 * n + j := ⟨_, rfl⟩
  obtain ⟨a3, ha3⟩ : ∃ a, a = 2 * n * n + q3 * n + k := ⟨_, rfl⟩
  have n12 : a1 ≠ a2 := by omega
  have n13 : a1 ≠ a3 := by omega
  have n23 : a2 ≠ a3 := by omega
  have l1 : a1 < 3 * n * n := by omega
  have l2 : a2 < 3 * n * n := by omega
  have l3 : a3 < 3 * n * n := by omega
  rw [← ha1, ← ha2, ← ha3]
  have main : ∀ r, r ≤ n → formRow p n F i j k r = cs (decide (q3 < r)) (cs (decide (q2 < r)) (cs (decide (q1 < r)) (zrs (3 * n * n)) a1 (G q1 j k)) a2 (G i q2 k)) a3 (G i j q3) := by
    intro r
    induction r with
    | zero => intro _; simp only [Nat.not_lt_zero, decide_false]; rfl
    | succ r ih =>
      intro hr
      have hr' : r < n := by omega
      have e := ih (by omega)
      have hfp := formRow_fp (n := n) (i := i) (j := j) (k := k) (F := F) hp r
      have hln := formRow_len (p := p) (n := n) (i := i) (j := j) (k := k) (F := F) r
      show addAt p (addAt p (addAt p (formRow p n F i j k r) (r * n + i) (F r j k)) (n * n + r * n + j) (F i r k)) (2 * n * n + r * n + k) (F i j r) = _
      have br : ∀ y, y < n → r * n + y < n * n := fun y hy => by
        have : (r + 1) * n ≤ n * n := Nat.mul_le_mul_right n hr'
        rw [Nat.succ_mul] at this; omega
      have c1 := br i hi
      have c2 := br j hj
      have c3 := br k hk
      have s1 : addAt p (formRow p n F i j k r) (r * n + i) (F r j k) = cs (decide (q3 < r)) (cs (decide (q2 < r)) (cs (decide (q1 < r + 1)) (zrs (3 * n * n)) a1 (G q1 j k)) a2 (G i q2 k)) a3 (G i j q3) := by
        rw [h1 r hr']
        by_cases hq : r = q1
        · subst hq
          rw [if_pos rfl, ← ha1, e, decide_eq_false (Nat.lt_irrefl r), decide_eq_true (Nat.lt_succ_self r), cs_no, cs_yes]
          rw [add_put (by rw [cs_ne n13.symm, cs_ne n12.symm]; exact zrs_at) (hG _ _ _).1 (hG _ _ _).2, cs_set n13.symm, cs_set n12.symm]
        · rw [if_neg hq, add_no (by rw [hln]; omega) hfp, e, dec_ne hq]
      have f1 : Fp p (addAt p (formRow p n F i j k r) (r * n + i) (F r j k)) := addAt_fp hp hfp
      have s2 : addAt p (addAt p (formRow p n F i j k r) (r * n + i) (F r j k)) (n * n + r * n + j) (F i r k) = cs (decide (q3 < r)) (cs (decide (q2 < r + 1)) (cs (decide (q1 < r + 1)) (zrs (3 * n * n)) a1 (G q1 j k)) a2 (G i q2 k)) a3 (G i j q3) := by
        rw [h2 r hr']
        by_cases hq : r = q2
        · subst hq
          rw [if_pos rfl, ← ha2, s1, decide_eq_false (Nat.lt_irrefl r), decide_eq_true (Nat.lt_succ_self r), cs_no, cs_yes]
          rw [add_put (by rw [cs_ne n23.symm, cs_ne n12]; exact zrs_at) (hG _ _ _).1 (hG _ _ _).2, cs_set n23.symm]
        · rw [if_neg hq, add_no (by rw [addAt_len, hln]; omega) f1, s1, dec_ne hq]
      have f2 : Fp p (addAt p (addAt p (formRow p n F i j k r) (r * n + i) (F r j k)) (n * n + r * n + j) (F i r k)) := addAt_fp hp f1
      rw [h3 r hr']
      by_cases hq : r = q3
      · subst hq
        rw [if_pos rfl, ← ha3, s2, decide_eq_false (Nat.lt_irrefl r), decide_eq_true (Nat.lt_succ_self r), cs_no, cs_yes]
        rw [add_put (by rw [cs_ne n23, cs_ne n13]; exact zrs_at) (hG _ _ _).1 (hG _ _ _).2]
      · rw [if_neg hq, add_no (by rw [addAt_len, addAt_len, hln]; omega) f2, s2, dec_ne hq]
  rw [main n (Nat.le_refl n), decide_eq_true hjk, decide_eq_true hik, decide_eq_true hij]; rfl
end
section
variable {p : Int} {st : List Int}
theorem loc_mem {n : Nat} {D : Nat → Int} {F : Nat → Nat → Nat → Int} {r : List Int} : r ∈ locL p n D F ↔ (∃ t i k, t < 3 ∧ i < n ∧ k < i + 1 ∧ r = skewRow p n D t i k) ∨ ∃ i j k, i < n ∧ j < n ∧ k < n ∧ r = formRow p n F i j k n := by
  unfold locL skP skI skK foI foJ foK
  simp only [List.mem_append, List.mem_flatMap, List.mem_range, List.mem_map]
  constructor
  · rintro (⟨t, ht, i, hi, k, hk, rfl⟩ | ⟨i, hi, j, hj, k, hk, rfl⟩)
    · exact .inl ⟨t, i, k, ht, hi, hk, rfl⟩
    · exact .inr ⟨i, j, k, hi, hj, hk, rfl⟩
  · rintro (⟨t, i, k, ht, hi, hk, rfl⟩ | ⟨i, j, k, hi, hj, hk, rfl⟩)
    · exact .inl ⟨t, ht, i, hi, k, hk, rfl⟩
    · exact .inr ⟨i, hi, j, hj, k, hk, rfl⟩
theorem ref_mem {n : Nat} {D : Nat → Int} {G : Nat → Nat → Nat → Int} {r : List Int} : r ∈ refL n D G ↔ (∃ t i k, t < 3 ∧ i < n ∧ k < i + 1 ∧ r = skewS n D t i k) ∨ ∃ i j k, i < n ∧ j < n ∧ k < n ∧ r = formS n G i j k := by
  unfold refL sP sI sK fI fJ fK
  simp only [List.mem_append, List.mem_flatMap, List.mem_range, List.mem_map]
  constructor
  · rintro (⟨t, ht, i, hi, k, hk, rfl⟩ | ⟨i, hi, j, hj, k, hk, rfl⟩)
    · exact .inl ⟨t, i, k, ht, hi, hk, rfl⟩
    · exact .inr ⟨i, j, k, hi, hj, hk, rfl⟩
  · rintro (⟨t, i, k, ht, hi, hk, rfl⟩ | ⟨i, j, k, hi, hj, hk, rfl⟩)
    · exact .inl ⟨t, ht, i, hi, k, hk, rfl⟩
    · exact .inr ⟨i, hi, j, hj, k, hk, rfl⟩
def dgN (p : Int) (st : List Int) (i : Nat) : Int := (diagF p st).getD i 0
def locP (p : Int) (st : List Int) : List (List Int) := locL p (sz st.length) (dgN p st) (cycF p st)
def locR (p : Int) (st : List Int) : List (List Int) := refL (sz st.length) (dgN p st) (formF p st)
theorem dgN_fp (hp : 2 ≤ p) (i : Nat) : 0 ≤ dgN p st i ∧ dgN p st i < p := (diagF_fp (p := p) (st := st) hp).g0 (by omega) i
theorem locP_rw (hd : Dok p st) : Rw p (3 * sz st.length * sz st.length) (locP p st) := fun r hr => by
  have hp := hd.hp.lo
  rcases loc_mem.1 hr with ⟨t, i, k, _, _, _, rfl⟩ | ⟨i, j, k, _, _, _, rfl⟩
  · exact ⟨skewRow_len, addAt_fp (by omega) (set_fp (zeros_fp (by omega)) (dgN_fp (by omega) i))⟩
  · exact ⟨formRow_len _, formRow_fp (by omega) _⟩
theorem locR_rw (hd : Dok p st) : Rw p (3 * sz st.length * sz st.length) (locR p st) := fun r hr => by
  have hp := hd.hp.lo
  rcases ref_mem.1 hr with ⟨t, i, k, _, _, _, rfl⟩ | ⟨i, j, k, _, _, _, rfl⟩
  · exact ⟨by simp [skewS, zrs], set_fp (set_fp (zeros_fp (by omega)) (dgN_fp (by omega) i)) (dgN_fp (by omega) k)⟩
  · exact ⟨by simp [formS, zrs], set_fp (set_fp (set_fp (zeros_fp (by omega)) (formF_fp hd)) (formF_fp hd)) (formF_fp hd)⟩
theorem half_back {d : Int} (hp : IsP p) (h0 : 0 ≤ d) (h1 : d < p) : (d + d) % p * invL p 2 % p = d := by
  have hlo := hp.lo
  have h2 := (inv_tab (a := 2) hp (by omega) (by omega)).2.1
  rw [Int.mul_emod, Int.emod_emod_of_dvd _ (Int.dvd_refl p), ← Int.mul_emod]
  rw [show (d + d) * invL p 2 = d * (2 * invL p 2) by rw [← Int.mul_assoc]; congr 1; omega, Int.mul_emod, h2, Int.mul_one, Int.emod_emod_of_dvd _ (Int.dvd_refl p), Int.emod_eq_of_lt h0 h1]
theorem loc_same (hd : Dok p st) : SameS p (3 * sz st.length * sz st.length) (locP p st) (locR p st) := by
  have hp := hd.hp.lo
  have hform : ∀ i j k, i < sz st.length → j < sz st.length → k < sz st.length → formRow p (sz st.length) (cycF p st) i j k (sz st.length) = formS (sz st.length) (formF p st) i j k := fun i j k hi hj hk => by
    have hjk := xor_lt (st := st) hj hk
    have hik := xor_lt (st := st) hi hk
    have hij := xor_lt (st := st) hi hj
    refine form_eq (by omega) hi hj hk hjk hik hij (fun a b c => formF_fp hd) (fun r hr => ?_) (fun r hr => ?_) (fun r hr => ?_)
    · rw [cyc_form hd hr hj hk]
      by_cases h : r = j ^^^ k
      · rw [if_pos h, h]
      · unfold formF; rw [if_neg (fun e => h (xor_iff.1 e)), if_neg h]
    · rw [cyc_form hd hi hr hk]
      by_cases h : r = i ^^^ k
      · rw [if_pos h, h]
      · unfold formF; rw [if_neg (fun e => h (xor_iff.1 (by rw [Nat.xor_comm]; exact e))), if_neg h]
    · rw [cyc_form hd hi hj hr]
      by_cases h : r = i ^^^ j
      · rw [if_pos h, h]
      · unfold formF; rw [if_neg (fun e => h e.symm), if_neg h]
  refine SameS.of (by omega) (locP_rw hd) (locR_rw hd) (fun r hr => ?_) (fun r hr => ?_)
  · rcases loc_mem.1 hr with ⟨t, i, k, ht, hi, hk, rfl⟩ | ⟨i, j, k, hi, hj, hk, rfl⟩
    · have hm := Spn.mem (by omega) (locR_rw hd) (ref_mem.2 (.inl ⟨t, i, k, ht, hi, hk, rfl⟩))
      by_cases h : i = k
      · subst h
        rw [skew_on1] at hm
        rw [skew_on2 hi ht]
        have e := hm.scale (q := 2) (by omega) (locR_rw hd)
        rw [scale_set] at e
        rw [show dgN p st i + dgN p st i = dgN p st i * 2 by omega]
        exact e
      · rw [skew_off hi (by omega) h (dgN_fp (by omega) k)]
        exact hm
    · rw [hform i j k hi hj hk]
      exact Spn.mem (by omega) (locR_rw hd) (ref_mem.2 (.inr ⟨i, j, k, hi, hj, hk, rfl⟩))
  · rcases ref_mem.1 hr with ⟨t, i, k, ht, hi, hk, rfl⟩ | ⟨i, j, k, hi, hj, hk, rfl⟩
    · have hm := Spn.mem (by omega) (locP_rw hd) (loc_mem.2 (.inl ⟨t, i, k, ht, hi, hk, rfl⟩))
      by_cases h : i = k
      · subst h
        rw [skew_on2 hi ht] at hm
        rw [skew_on1]
        have e := hm.scale (q := invL p 2) (by omega) (locP_rw hd)
        rw [scale_set, half_back hd.hp (dgN_fp (by omega) i).1 (dgN_fp (by omega) i).2] at e
        exact e
      · rw [skew_off hi (by omega) h (dgN_fp (by omega) k)] at hm
        exact hm
    · rw [← hform i j k hi hj hk]
      exact Spn.mem (by omega) (locP_rw hd) (loc_mem.2 (.inr ⟨i, j, k, hi, hj, hk, rfl⟩))
def locN (p : Int) (st : List Int) : List (List Int) := kerL p (3 * sz st.length * sz st.length) (locP p st)
theorem locN_ref (hd : Dok p st) : kerL p (3 * sz st.length * sz st.length) (locR p st) = locN p st := (kerL_same hd.hp (locP_rw hd) (locR_rw hd) (loc_same hd)).symm
end
end Go.Proofs.Ytfcdhdkhfdhjfaa
