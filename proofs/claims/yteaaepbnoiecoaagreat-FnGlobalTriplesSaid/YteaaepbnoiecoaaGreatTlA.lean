import Derived.Test.YteaaepbnoiecoaaGreatTgE
namespace Go.Proofs.YteaaepbnoiecoaaGreat
theorem dotS_set : ∀ {xs ys : List Int} {a : Nat} {v : Int}, xs.length = ys.length -> a < xs.length -> dotS (xs.set a v) ys = dotS xs ys + (v - xs.getD a 0) * ys.getD a 0
 | [], _, _, _, _, h => by simp at h
 | _ :: _, [], _, _, h, _ => by simp at h
 | x :: xs, y :: ys, 0, v, _, _ => by
  simp only [List.set_cons_zero, dotS, List.getD_cons_zero]
  have : v * y = x * y + (v - x) * y := by rw [<- Int.add_mul]; congr 1; omega
  rw [this]; omega
 | x :: xs, y :: ys, a + 1, v, h, h2 => by
  simp only [List.set_cons_succ, dotS, List.getD_cons_succ]
  rw [dotS_set (by simpa using h) (by simpa using h2)]; omega
theorem dotS_zeros : ∀ {n : Nat} {ys : List Int}, dotS (List.replicate n 0) ys = 0
 | 0, _ => by simp [dotS]
 | _ + 1, [] => by simp [List.replicate_succ, dotS]
 | n + 1, y :: ys => by rw [List.replicate_succ]; simp only [dotS, dotS_zeros, Int.zero_mul, Int.add_zero]
def addAt (p : Int) (row : List Int) (a : Nat) (x : Int) : List Int := row.set a ((row.getD a 0 + x) % p)
theorem addAt_len {p : Int} {row : List Int} {a : Nat} {x : Int} : (addAt p row a x).length = row.length := by unfold addAt; simp
theorem dot_add {p : Int} {row ys : List Int} {a : Nat} {x : Int} (h : row.length = ys.length) (ha : a < row.length) : ∃ q, dotS (addAt p row a x) ys = dotS row ys + x * ys.getD a 0 + p * q := by
 unfold addAt
 rw [dotS_set h ha]
 obtain ⟨q, hq⟩ := mod_ex p (row.getD a 0 + x)
 rw [hq]
 refine ⟨q * ys.getD a 0, ?_⟩
 generalize row.getD a 0 = o
 generalize ys.getD a 0 = y
 generalize dotS row ys = s
 grind
def skewRow (p : Int) (n : Nat) (D : Nat -> Int) (t i k : Nat) : List Int := addAt p ((List.replicate (3 * n * n) 0).set (t * n * n + i * n + k) (D i)) (t * n * n + k * n + i) (D k)
def stepRow (p : Int) (n : Nat) (F : Nat -> Nat -> Nat -> Int) (i j k : Nat) (row : List Int) (r : Nat) : List Int :=
 addAt p (addAt p (addAt p row (r * n + i) (F r j k)) (n * n + r * n + j) (F i r k)) (2 * n * n + r * n + k) (F i j r)
def formRow (p : Int) (n : Nat) (F : Nat -> Nat -> Nat -> Int) (i j k : Nat) : Nat -> List Int
 | 0 => List.replicate (3 * n * n) 0
 | r + 1 => stepRow p n F i j k (formRow p n F i j k r) r
def skK (p : Int) (n : Nat) (D : Nat -> Int) (t i c : Nat) : List (List Int) := (List.range c).map (skewRow p n D t i)
def skI (p : Int) (n : Nat) (D : Nat -> Int) (t c : Nat) : List (List Int) := (List.range c).flatMap fun i => skK p n D t i (i + 1)
def skP (p : Int) (n : Nat) (D : Nat -> Int) (c : Nat) : List (List Int) := (List.range c).flatMap fun t => skI p n D t n
def foK (p : Int) (n : Nat) (F : Nat -> Nat -> Nat -> Int) (i j c : Nat) : List (List Int) := (List.range c).map fun k => formRow p n F i j k n
def foJ (p : Int) (n : Nat) (F : Nat -> Nat -> Nat -> Int) (i c : Nat) : List (List Int) := (List.range c).flatMap fun j => foK p n F i j n
def foI (p : Int) (n : Nat) (F : Nat -> Nat -> Nat -> Int) (c : Nat) : List (List Int) := (List.range c).flatMap fun i => foJ p n F i n
def locL (p : Int) (n : Nat) (D : Nat -> Int) (F : Nat -> Nat -> Nat -> Int) : List (List Int) := skP p n D 3 ++ foI p n F n
section
variable {p : Int} {n : Nat} {D : Nat -> Int} {F : Nat -> Nat -> Nat -> Int} {t i j k c r : Nat}
theorem skK_succ : skK p n D t i (c + 1) = skK p n D t i c ++ [skewRow p n D t i c] := by unfold skK; rw [List.range_succ, List.map_append]; rfl
theorem skI_succ : skI p n D t (c + 1) = skI p n D t c ++ skK p n D t c (c + 1) := by unfold skI; rw [List.range_succ, List.flatMap_append]; simp
theorem skP_succ : skP p n D (c + 1) = skP p n D c ++ skI p n D c n := by unfold skP; rw [List.range_succ, List.flatMap_append]; simp
theorem foK_succ : foK p n F i j (c + 1) = foK p n F i j c ++ [formRow p n F i j c n] := by unfold foK; rw [List.range_succ, List.map_append]; rfl
theorem foJ_succ : foJ p n F i (c + 1) = foJ p n F i c ++ foK p n F i c n := by unfold foJ; rw [List.range_succ, List.flatMap_append]; simp
theorem foI_succ : foI p n F (c + 1) = foI p n F c ++ foJ p n F c n := by unfold foI; rw [List.range_succ, List.flatMap_append]; simp
theorem skewRow_len : (skewRow p n D t i k).length = 3 * n * n := by unfold skewRow; rw [addAt_len]; simp
theorem stepRow_len {row : List Int} : (stepRow p n F i j k row r).length = row.length := by unfold stepRow; rw [addAt_len, addAt_len, addAt_len]
theorem formRow_len : ∀ r, (formRow p n F i j k r).length = 3 * n * n
 | 0 => by simp [formRow]
 | r + 1 => by rw [formRow, stepRow_len, formRow_len r]
theorem idx_lt {a b : Nat} (ha : a < n) (hb : b < n) (ht : t < 3) : t * n * n + a * n + b < 3 * n * n := by
 have h1 : a * n + b < n * n := by
  have : (a + 1) * n <= n * n := Nat.mul_le_mul_right n ha
  rw [Nat.succ_mul] at this; omega
 have h2 : (t + 1) * (n * n) <= 3 * (n * n) := Nat.mul_le_mul_right _ ht
 rw [Nat.succ_mul] at h2
 rw [Nat.mul_assoc, Nat.mul_assoc]; omega
theorem skew_dot {ys : List Int} (hl : ys.length = 3 * n * n) (ht : t < 3) (hi : i < n) (hk : k < n) : dotL p (skewRow p n D t i k) ys = (D i * ys.getD (t * n * n + i * n + k) 0 + D k * ys.getD (t * n * n + k * n + i) 0) % p := by
 unfold skewRow dotL
 obtain ⟨q, hq⟩ := dot_add (p := p) (row := (List.replicate (3 * n * n) 0).set (t * n * n + i * n + k) (D i)) (ys := ys) (a := t * n * n + k * n + i) (x := D k) (by simp [hl]) (by simp; exact idx_lt hk hi ht)
 rw [hq, dotS_set (by simp [hl]) (by simp; exact idx_lt hi hk ht), dotS_zeros]
 have e : (List.replicate (3 * n * n) (0 : Int)).getD (t * n * n + i * n + k) 0 = 0 := by
  rw [List.getD_eq_getElem?_getD, List.getElem?_replicate]; split <;> rfl
 rw [e, Int.zero_add, Int.sub_zero, Int.add_mul_emod_self_left]
theorem form_dot {ys : List Int} (hl : ys.length = 3 * n * n) (hi : i < n) (hj : j < n) (hk : k < n) : ∀ r, r <= n -> ∃ q, dotS (formRow p n F i j k r) ys =
  sumF (fun r => F r j k * ys.getD (0 * n * n + r * n + i) 0 + F i r k * ys.getD (1 * n * n + r * n + j) 0 + F i j r * ys.getD (2 * n * n + r * n + k) 0) r + p * q
 | 0, _ => ⟨0, by rw [formRow, dotS_zeros]; simp [sumF]⟩
 | r + 1, h => by
  obtain ⟨q, hq⟩ := form_dot hl hi hj hk r (by omega)
  have hrl := formRow_len (p := p) (n := n) (F := F) (i := i) (j := j) (k := k) r
  have l0 := idx_lt (t := 0) (a := r) (b := i) (n := n) (by omega) hi (by omega)
  have l1 := idx_lt (t := 1) (a := r) (b := j) (n := n) (by omega) hj (by omega)
  have l2 := idx_lt (t := 2) (a := r) (b := k) (n := n) (by omega) hk (by omega)
  rw [formRow]
  unfold stepRow
  rw [show r * n + i = 0 * n * n + r * n + i by simp, show n * n + r * n + j = 1 * n * n + r * n + j by simp]
  obtain ⟨q3, h3⟩ := dot_add (p := p) (row := addAt p (addAt p (formRow p n F i j k r) (0 * n * n + r * n + i) (F r j k)) (1 * n * n + r * n + j) (F i r k)) (ys := ys) (a := 2 * n * n + r * n + k) (x := F i j r) (by rw [addAt_len, addAt_len, hrl, hl]) (by rw [addAt_len, addAt_len, hrl]; exact l2)
  obtain ⟨q2, h2⟩ := dot_add (p := p) (row := addAt p (formRow p n F i j k r) (0 * n * n + r * n + i) (F r j k)) (ys := ys) (a := 1 * n * n + r * n + j) (x := F i r k) (by rw [addAt_len, hrl, hl]) (by rw [addAt_len, hrl]; exact l1)
  obtain ⟨q1, h1⟩ := dot_add (p := p) (row := formRow p n F i j k r) (ys := ys) (a := 0 * n * n + r * n + i) (x := F r j k) (by rw [hrl, hl]) (by rw [hrl]; exact l0)
  rw [h3, h2, h1, hq]
  refine ⟨q + q1 + q2 + q3, ?_⟩
  simp only [sumF]
  rw [Int.mul_add, Int.mul_add, Int.mul_add]
  omega
end
theorem sumF_oneT {f : Nat -> Int} {r0 : Nat} : ∀ {n : Nat}, r0 < n -> (∀ r, r < n -> r ≠ r0 -> f r = 0) -> sumF f n = f r0
 | 0, h, _ => by omega
 | n + 1, h, h2 => by
  unfold sumF
  by_cases e : r0 = n
  ·subst e
   have hz : ∀ {m : Nat}, (∀ r, r < m -> f r = 0) -> sumF f m = 0 := by
    intro m
    induction m with
    | zero => intro _; rfl
    | succ m ih => intro hm; unfold sumF; rw [ih (fun r hr => hm r (by omega)), hm m (by omega)]; rfl
   rw [hz (fun r hr => h2 r (by omega) (by omega)), Int.zero_add]
  ·rw [sumF_oneT (by omega) (fun r hr hne => h2 r (by omega) hne), h2 n (by omega) (fun h => e h.symm), Int.add_zero]
theorem sumF_add {f g : Nat -> Int} : ∀ {n : Nat}, sumF (fun r => f r + g r) n = sumF f n + sumF g n
 | 0 => rfl
 | n + 1 => by simp only [sumF]; rw [sumF_add]; omega
theorem flat_at : ∀ {L : List (List Int)} {n r i : Nat}, (∀ x ∈ L, x.length = n) -> r < L.length -> i < n -> L.flatten.getD (r * n + i) 0 = (L.getD r []).getD i 0
 | [], _, _, _, _, h, _ => by simp at h
 | x :: L, n, 0, i, h, _, hi => by
  have hx := h x (by simp)
  rw [List.flatten_cons, app_at, if_pos (by omega)]; simp
 | x :: L, n, r + 1, i, h, hr, hi => by
  have hx := h x (by simp)
  have e : (r + 1) * n + i - x.length = r * n + i := by rw [hx, Nat.succ_mul]; omega
  rw [List.flatten_cons, app_at, if_neg (by rw [hx, Nat.succ_mul]; omega), e, flat_at (fun y hy => h y (by simp [hy])) (by simpa using hr) hi]; simp
theorem flat_len : ∀ {L : List (List Int)} {n : Nat}, (∀ x ∈ L, x.length = n) -> L.flatten.length = L.length * n
 | [], n, _ => by simp
 | x :: L, n, h => by rw [List.flatten_cons, List.length_append, h x (by simp), flat_len (fun y hy => h y (by simp [hy])), List.length_cons, Nat.succ_mul]; omega
def tripL (A B C : List (List Int)) : List Int := (A ++ B ++ C).flatten
section
variable {p : Int} {A B C : List (List Int)} {n i r : Nat} (mA : matB p n A = true) (mB : matB p n B = true) (mC : matB p n C = true)
include mA mB mC
theorem trip_rows : ∀ x ∈ A ++ B ++ C, x.length = n := fun x hx => by
 rcases List.mem_append.1 hx with hx | hx
 ·rcases List.mem_append.1 hx with hx | hx
  ·exact ((matB_iff.1 mA).2 x hx).1
  ·exact ((matB_iff.1 mB).2 x hx).1
 ·exact ((matB_iff.1 mC).2 x hx).1
theorem trip_len : (tripL A B C).length = 3 * n * n := by
 unfold tripL
 rw [flat_len (trip_rows mA mB mC), List.length_append, List.length_append, (matB_iff.1 mA).1, (matB_iff.1 mB).1, (matB_iff.1 mC).1]
 congr 1; omega
theorem trip_a (hr : r < n) (hi : i < n) : (tripL A B C).getD (0 * n * n + r * n + i) 0 = (A.getD r []).getD i 0 := by
 have hA := (matB_iff.1 mA).1; have hB := (matB_iff.1 mB).1; have hC := (matB_iff.1 mC).1
 unfold tripL
 rw [show 0 * n * n + r * n + i = r * n + i by simp, flat_at (trip_rows mA mB mC) (by simp; omega) hi]
 congr 1
 rw [List.getD_eq_getElem?_getD, List.getElem?_append_left (by simp; omega), List.getElem?_append_left (by omega), <- List.getD_eq_getElem?_getD]
theorem trip_b (hr : r < n) (hi : i < n) : (tripL A B C).getD (1 * n * n + r * n + i) 0 = (B.getD r []).getD i 0 := by
 have hA := (matB_iff.1 mA).1; have hB := (matB_iff.1 mB).1; have hC := (matB_iff.1 mC).1
 unfold tripL
 rw [show 1 * n * n + r * n + i = (n + r) * n + i by rw [Nat.one_mul, Nat.add_mul], flat_at (trip_rows mA mB mC) (by simp; omega) hi]
 congr 1
 rw [List.getD_eq_getElem?_getD, List.getElem?_append_left (by simp; omega), List.getElem?_append_right (by omega), hA, Nat.add_sub_cancel_left, <- List.getD_eq_getElem?_getD]
theorem trip_c (hr : r < n) (hi : i < n) : (tripL A B C).getD (2 * n * n + r * n + i) 0 = (C.getD r []).getD i 0 := by
 have hA := (matB_iff.1 mA).1; have hB := (matB_iff.1 mB).1; have hC := (matB_iff.1 mC).1
 unfold tripL
 rw [show 2 * n * n + r * n + i = (n + n + r) * n + i by rw [Nat.add_mul, Nat.add_mul, Nat.two_mul, Nat.add_mul], flat_at (trip_rows mA mB mC) (by simp; omega) hi]
 congr 1
 rw [List.getD_eq_getElem?_getD, List.getElem?_append_right (by simp; omega), List.length_append, hA, hB, Nat.add_sub_cancel_left, <- List.getD_eq_getElem?_getD]
end
def locG (p : Int) (st : List Int) (A B C : List (List Int)) (i j k : Nat) : Bool :=
 ((A.getD (j ^^^ k) []).getD i 0 * formF p st (j ^^^ k) j k + (B.getD (i ^^^ k) []).getD j 0 * formF p st i (i ^^^ k) k + (C.getD (i ^^^ j) []).getD k 0 * formF p st i j (i ^^^ j)) % p == 0
def locB (p : Int) (st : List Int) (A B C : List (List Int)) : Bool := skewB p (diagF p st) A && (skewB p (diagF p st) B && (skewB p (diagF p st) C && all3 (sz st.length) (locG p st A B C)))
def locK (p : Int) (st : List Int) (A B C : List (List Int)) : Bool := (locL p (sz st.length) (fun i => (diagF p st).getD i 0) (cycF p st)).all fun row => decide (dotL p row (tripL A B C) = 0)
theorem all_range_congr {n : Nat} {f g : Nat -> Bool} (h : ∀ i, i < n -> f i = g i) : (List.range n).all f = (List.range n).all g := by
 rw [Bool.eq_iff_iff]
 simp only [List.all_eq_true, List.mem_range]
 exact ⟨fun a i hi => by rw [<- h i hi]; exact a i hi, fun a i hi => by rw [h i hi]; exact a i hi⟩
theorem xor_self2 {a b : Nat} : a ^^^ (a ^^^ b) = b := by rw [<- Nat.xor_assoc, Nat.xor_self, Nat.zero_xor]
theorem xor_iff {r j k : Nat} : r ^^^ j = k ↔ r = j ^^^ k := by
 constructor
 ·intro h; rw [<- h, Nat.xor_comm r j, xor_self2]
 ·intro h; rw [h, Nat.xor_comm (j ^^^ k) j, xor_self2]
theorem loc_eq {p : Int} {st : List Int} {A B C : List (List Int)} (hd : Dok p st) (mA : matB p (sz st.length) A = true) (mB : matB p (sz st.length) B = true) (mC : matB p (sz st.length) C = true) : locK p st A B C = locB p st A B C := by
 have hl := trip_len mA mB mC
 have hsk : ∀ (t : Nat) (M : List (List Int)), t < 3 -> M.length = sz st.length -> (∀ r i, r < sz st.length -> i < sz st.length -> (tripL A B C).getD (t * sz st.length * sz st.length + r * sz st.length + i) 0 = (M.getD r []).getD i 0) ->
   (skI p (sz st.length) (fun i => (diagF p st).getD i 0) t (sz st.length)).all (fun row => decide (dotL p row (tripL A B C) = 0)) = skewB p (diagF p st) M := fun t M ht hM hat => by
  unfold skI skewB skK
  rw [List.all_flatMap, hM]
  refine all_range_congr fun i hi => ?_
  rw [List.all_map]
  refine all_range_congr fun k hk => ?_
  have hk' : k < sz st.length := by omega
  show decide (dotL p (skewRow p (sz st.length) _ t i k) (tripL A B C) = 0) = _
  rw [skew_dot hl ht hi hk', hat i k hi hk', hat k i hk' hi, Int.mul_comm ((diagF p st).getD i 0), Int.mul_comm ((diagF p st).getD k 0)]
  rw [Bool.eq_iff_iff]; simp
 unfold locK locL
 rw [List.all_append]
 have e1 : (skP p (sz st.length) (fun i => (diagF p st).getD i 0) 3).all (fun row => decide (dotL p row (tripL A B C) = 0)) = (skewB p (diagF p st) A && (skewB p (diagF p st) B && skewB p (diagF p st) C)) := by
  unfold skP
  rw [List.all_flatMap]
  show ([0, 1, 2] : List Nat).all _ = _
  simp only [List.all_cons, List.all_nil, Bool.and_true]
  rw [hsk 0 A (by omega) (matB_iff.1 mA).1 (fun r i hr hi => trip_a mA mB mC hr hi), hsk 1 B (by omega) (matB_iff.1 mB).1 (fun r i hr hi => trip_b mA mB mC hr hi), hsk 2 C (by omega) (matB_iff.1 mC).1 (fun r i hr hi => trip_c mA mB mC hr hi)]
 rw [e1]
 unfold locB
 rw [Bool.and_assoc, Bool.and_assoc]
 congr 3
 unfold foI foJ foK all3
 rw [List.all_flatMap]
 refine all_range_congr fun i hi => ?_
 rw [List.all_flatMap]
 refine all_range_congr fun j hj => ?_
 rw [List.all_map]
 refine all_range_congr fun k hk => ?_
 obtain ⟨q, hq⟩ := form_dot (p := p) (F := cycF p st) hl hi hj hk (sz st.length) (Nat.le_refl _)
 show decide (dotL p (formRow p (sz st.length) (cycF p st) i j k (sz st.length)) (tripL A B C) = 0) = _
 unfold dotL
 rw [hq, Int.add_mul_emod_self_left, sumF_add, sumF_add]
 have hjk := xor_lt (st := st) hj hk
 have hik := xor_lt (st := st) hi hk
 have hij := xor_lt (st := st) hi hj
 have s1 : sumF (fun r => cycF p st r j k * (tripL A B C).getD (0 * sz st.length * sz st.length + r * sz st.length + i) 0) (sz st.length) = (A.getD (j ^^^ k) []).getD i 0 * formF p st (j ^^^ k) j k := by
  rw [sumF_oneT hjk (fun r hr hne => by rw [cyc_form hd hr hj hk]; unfold formF; rw [if_neg (fun h => hne (xor_iff.1 h)), Int.zero_mul]), cyc_form hd hjk hj hk, trip_a mA mB mC hjk hi, Int.mul_comm]
 have s2 : sumF (fun r => cycF p st i r k * (tripL A B C).getD (1 * sz st.length * sz st.length + r * sz st.length + j) 0) (sz st.length) = (B.getD (i ^^^ k) []).getD j 0 * formF p st i (i ^^^ k) k := by
  rw [sumF_oneT hik (fun r hr hne => by rw [cyc_form hd hi hr hk]; unfold formF; rw [if_neg (fun h => hne (xor_iff.1 (by rw [Nat.xor_comm]; exact h))), Int.zero_mul]), cyc_form hd hi hik hk, trip_b mA mB mC hik hj, Int.mul_comm]
 have s3 : sumF (fun r => cycF p st i j r * (tripL A B C).getD (2 * sz st.length * sz st.length + r * sz st.length + k) 0) (sz st.length) = (C.getD (i ^^^ j) []).getD k 0 * formF p st i j (i ^^^ j) := by
  rw [sumF_oneT hij (fun r hr hne => by rw [cyc_form hd hi hj hr]; unfold formF; rw [if_neg (fun h => hne h.symm), Int.zero_mul]), cyc_form hd hi hj hij, trip_c mA mB mC hij hk, Int.mul_comm]
 rw [s1, s2, s3]
 unfold locG
 rw [Bool.eq_iff_iff]; simp
def RIsLocalTriple1 (p0 : Int) (st0 : List Int) (A1 B1 C1 : List (List Int)) : Int := chkT p0 st0 [A1, B1, C1]
def RIsLocalTriple0 (p0 : Int) (st0 : List Int) (A1 B1 C1 : List (List Int)) : Bool := if chkT p0 st0 [A1, B1, C1] = 0 then locB p0 st0 A1 B1 C1 else false
end Go.Proofs.YteaaepbnoiecoaaGreat
