/- Texts joined for a claim: TlA, TlB. -/
import Derived.Test.YtfcdhdkhfdhjfaaJbe
import Derived.Test.YtfcdhdkhfdhjfaaJay
/-
  Local triples: the equations of the program and the reference's test are the same. No program in sight.
-/
namespace Go.Proofs.Ytfcdhdkhfdhjfaa

theorem dotS_set : ∀ {xs ys : List Int} {a : Nat} {v : Int}, xs.length = ys.length → a < xs.length → dotS (xs.set a v) ys = dotS xs ys + (v - xs.getD a 0) * ys.getD a 0
  | [], _, _, _, _, h => by simp at h
  | _ :: _, [], _, _, h, _ => by simp at h
  | x :: xs, y :: ys, 0, v, _, _ => by
    simp only [List.set_cons_zero, dotS, List.getD_cons_zero]
    have : v * y = x * y + (v - x) * y := by rw [← Int.add_mul]; congr 1; omega
    rw [this]; omega
  | x :: xs, y :: ys, a + 1, v, h, h2 => by
    simp only [List.set_cons_succ, dotS, List.getD_cons_succ]
    rw [dotS_set (by simpa using h) (by simpa using h2)]; omega
theorem dotS_zeros : ∀ {n : Nat} {ys : List Int}, dotS (List.replicate n 0) ys = 0
  | 0, _ => by simp [dotS]
  | _ + 1, [] => by simp [List.replicate_succ, dotS]
  | n + 1, y :: ys => by rw [List.replicate_succ]; simp only [dotS, dotS_zeros, Int.zero_mul, Int.add_zero]
def addAt (p : Int) (row : List Int) (a : Nat) (x : Int) : List Int := row.set a ((row.getD a 0 + x) % p)
theorem addAt_len {p : Int} {row : List Int} {a : Nat} {x : Int} : (addAt p row a x).length = row.length := by unfold addAt; simp
theorem dot_add {p : Int} {row ys : List Int} {a : Nat} {x : Int} (h : row.length = ys.length) (ha : a < row.length) : ∃ q, dotS (addAt p row a x) ys = dotS row ys + x * ys.getD a 0 + p * q := by
  unfold addAt
  rw [dotS_set h ha]
  obtain ⟨q, hq⟩ := mod_ex p (row.getD a 0 + x)
  rw [hq]
  refine ⟨q * ys.getD a 0, ?_⟩
  generalize row.getD a 0 = o
  generalize ys.getD a 0 = y
  generalize dotS row ys = s
  grind
def skewRow (p : Int) (n : Nat) (D : Nat → Int) (t i k : Nat) : List Int := addAt p ((List.replicate (3 * n * n) 0).set (t * n * n + i * n + k) (D i)) (t * n * n + k * n + i) (D k)
def stepRow (p : Int) (n : Nat) (F : Nat → Nat → Nat → Int) (i j k : Nat) (row : List Int) (r : Nat) : List Int :=
  addAt p (addAt p (addAt p row (r * n + i) (F r j k)) (n * n + r * n + j) (F i r k)) (2 * n * n + r * n + k) (F i j r)
def formRow (p : Int) (n : Nat) (F : Nat → Nat → Nat → Int) (i j k : Nat) : Nat → List Int
  | 0 => List.replicate (3 * n * n) 0
  | r + 1 => stepRow p n F i j k (formRow p n F i j k r) r
def skK (p : Int) (n : Nat) (D : Nat → Int) (t i c : Nat) : List (List Int) := (List.range c).map (skewRow p n D t i)
def skI (p : Int) (n : Nat) (D : Nat → Int) (t c : Nat) : List (List Int) := (List.range c).flatMap fun i => skK p n D t i (i + 1)
def skP (p : Int) (n : Nat) (D : Nat → Int) (c : Nat) : List (List Int) := (List.range c).flatMap fun t => skI p n D t n
def foK (p : Int) (n : Nat) (F : Nat → Nat → Nat → Int) (i j c : Nat) : List (List Int) := (List.range c).map fun k => formRow p n F i j k n
def foJ (p : Int) (n : Nat) (F : Nat → Nat → Nat → Int) (i c : Nat) : List (List Int) := (List.range c).flatMap fun j => foK p n F i j n
def foI (p : Int) (n : Nat) (F : Nat → Nat → Nat → Int) (c : Nat) : List (List Int) := (List.range c).flatMap fun i => foJ p n F i n
def locL (p : Int) (n : Nat) (D : Nat → Int) (F : Nat → Nat → Nat → Int) : List (List Int) := skP p n D 3 ++ foI p n F n
section
variable {p : Int} {n : Nat} {D : Nat → Int} {F : Nat → Nat → Nat → Int} {t i j k c r : Nat}
theorem skK_succ : skK p n D t i (c + 1) = skK p n D t i c ++ [skewRow p n D t i c] := by unfold skK; rw [List.range_succ, List.map_append]; rfl
theorem skI_succ : skI p n D t (c + 1) = skI p n D t c ++ skK p n D t c (c + 1) := by unfold skI; rw [List.range_succ, List.flatMap_append]; simp
theorem skP_succ : skP p n D (c + 1) = skP p n D c ++ skI p n D c n := by unfold skP; rw [List.range_succ, List.flatMap_append]; simp
theorem foK_succ : foK p n F i j (c + 1) = foK p n F i j c ++ [formRow p n F i j c n] := by unfold foK; rw [List.range_succ, List.map_append]; rfl
theorem foJ_succ : foJ p n F i (c + 1) = foJ p n F i c ++ foK p n F i c n := by unfold foJ; rw [List.range_succ, List.flatMap_append]; simp
theorem foI_succ : foI p n F (c + 1) = foI p n F c ++ foJ p n F c n := by unfold foI; rw [List.range_succ, List.flatMap_append]; simp
theorem skewRow_len : (skewRow p n D t i k).length = 3 * n * n := by unfold skewRow; rw [addAt_len]; simp
theorem stepRow_len {row : List Int} : (stepRow p n F i j k row r).length = row.length := by unfold stepRow; rw [addAt_len, addAt_len, addAt_len]
theorem formRow_len : ∀ r, (formRow p n F i j k r).length = 3 * n * n
  | 0 => by simp [formRow]
  | r + 1 => by rw [formRow, stepRow_len, formRow_len r]
theorem idx_lt {a b : Nat} (ha : a < n) (hb : b < n) (ht : t < 3) : t * n * n + a * n + b < 3 * n * n := by
  have h1 : a * n + b < n * n := by
    have : (a + 1) * n ≤ n * n := Nat.mul_le_mul_right n ha
    rw [Nat.succ_mul] at this; omega
  have h2 : (t + 1) * (n * n) ≤ 3 * (n * n) := Nat.mul_le_mul_right _ ht
  rw [Nat.succ_mul] at h2
  rw [Nat.mul_assoc, Nat.mul_assoc]; omega
theorem skew_dot {ys : List Int} (hl : ys.length = 3 * n * n) (ht : t < 3) (hi : i < n) (hk : k < n) : dotL p (skewRow p n D t i k) ys = (D i * ys.getD (t * n * n + i * n + k) 0 + D k * ys.getD (t * n * n + k * n + i) 0) % p := by
  unfold skewRow dotL
  obtain ⟨q, hq⟩ := dot_add (p := p) (row := (List.replicate (3 * n * n) 0).set (t * n * n + i * n + k) (D i)) (ys := ys) (a := t * n * n + k * n + i) (x := D k) (by simp [hl]) (by simp; exact idx_lt hk hi ht)
  rw [hq, dotS_set (by simp [hl]) (by simp; exact idx_lt hi hk ht), dotS_zeros]
  have e : (List.replicate (3 * n * n) (0 : Int)).getD (t * n * n + i * n + k) 0 = 0 := by
    rw [List.getD_eq_getElem?_getD, List.getElem?_replicate]; split <;> rfl
  rw [e, Int.zero_add, Int.sub_zero, Int.add_mul_emod_self_left]
theorem form_dot {ys : List Int} (hl : ys.length = 3 * n * n) (hi : i < n) (hj : j < n) (hk : k < n) : ∀ r, r ≤ n → ∃ q, dotS (formRow p n F i j k r) ys =
    sumF (fun r => F r j k * ys.getD (0 * n * n + r * n + i) 0 + F i r k * ys.getD (1 * n * n + r * n + j) 0 + F i j r * ys.getD (2 * n * n + r * n + k) 0) r + p * q
  | 0, _ => ⟨0, by rw [formRow, dotS_zeros]; simp [sumF]⟩
  | r + 1, h => by
    obtain ⟨q, hq⟩ := form_dot hl hi hj hk r (by omega)
    have hrl := formRow_len (p := p) (n := n) (F := F) (i := i) (j := j) (k := k) r
    have l0 := idx_lt (t := 0) (a := r) (b := i) (n := n) (by omega) hi (by omega)
    have l1 := idx_lt (t := 1) (a := r) (b := j) (n := n) (by omega) hj (by omega)
    have l2 := idx_lt (t := 2) (a := r) (b := k) (n := n) (by omega) hk (by omega)
    rw [formRow]
    unfold stepRow
    rw [show r * n + i = 0 * n * n + r * n + i by simp, show n * n + r * n + j = 1 * n * n + r * n + j by simp]
    obtain ⟨q3, h3⟩ := dot_add (p := p) (row := addAt p (addAt p (formRow p n F i j k r) (0 * n * n + r * n + i) (F r j k)) (1 * n * n + r * n + j) (F i r k)) (ys := ys) (a := 2 * n * n + r * n + k) (x := F i j r) (by rw [addAt_len, addAt_len, hrl, hl]) (by rw [addAt_len, addAt_len, hrl]; exact l2)
    obtain ⟨q2, h2⟩ := dot_add (p := p) (row := addAt p (formRow p n F i j k r) (0 * n * n + r * n + i) (F r j k)) (ys := ys) (a := 1 * n * n + r * n + j) (x := F i r k) (by rw [addAt_len, hrl, hl]) (by rw [addAt_len, hrl]; exact l1)
    obtain ⟨q1, h1⟩ := dot_add (p := p) (row := formRow p n F i j k r) (ys := ys) (a := 0 * n * n + r * n + i) (x := F r j k) (by rw [hrl, hl]) (by rw [hrl]; exact l0)
    rw [h3, h2, h1, hq]
    refine ⟨q + q1 + q2 + q3, ?_⟩
    simp only [sumF]
    rw [Int.mul_add, Int.mul_add, Int.mul_add]
    omega
end
theorem flat_at : ∀ {L : List (List Int)} {n r i : Nat}, (∀ x ∈ L, x.length = n) → r < L.length → i < n → L.flatten.getD (r * n + i) 0 = (L.getD r []).getD i 0
  | [], _, _, _, _, h, _ => by simp at h
  | x :: L, n, 0, i, h, _, hi => by
    have hx := h x (by simp)
    rw [List.flatten_cons, app_at, if_pos (by omega)]; simp
  | x :: L, n, r + 1, i, h, hr, hi => by
    have hx := h x (by simp)
    have e : (r + 1) * n + i - x.length = r * n + i := by rw [hx, Nat.succ_mul]; omega
    rw [List.flatten_cons, app_at, if_neg (by rw [hx, Nat.succ_mul]; omega), e, flat_at (fun y hy => h y (by simp [hy])) (by simpa using hr) hi]; simp
theorem flat_len : ∀ {L : List (List Int)} {n : Nat}, (∀ x ∈ L, x.length = n) → L.flatten.length = L.length * n
  | [], n, _ => by simp
  | x :: L, n, h => by rw [List.flatten_cons, List.length_append, h x (by simp), flat_len (fun y hy => h y (by simp [hy])), List.length_cons, Nat.succ_mul]; omega
section
variable {p : Int} {A B C : List (List Int)} {n i r : Nat} (mA : matB p n A = true) (mB : matB p n B = true) (mC : matB p n C = true)
include mA mB mC
end
theorem xor_self2 {a b : Nat} : a ^^^ (a ^^^ b) = b := by rw [← Nat.xor_assoc, Nat.xor_self, Nat.zero_xor]
theorem xor_iff {r j k : Nat} : r ^^^ j = k ↔ r = j ^^^ k := by
  constructor
  · intro h; rw [← h, Nat.xor_comm r j, xor_self2]
  · intro h; rw [h, Nat.xor_comm (j ^^^ k) j, xor_self2]
end Go.Proofs.Ytfcdhdkhfdhjfaa
/-
  Local triples: the reference's test, walked.
-/
namespace Go.Proofs.Ytfcdhdkhfdhjfaa
open Go.RowKit

def skG (p : Int) (dg : List Int) (M : List (List Int)) (i k : Nat) : Bool := ((M.getD i []).getD k 0 * dg.getD i 0 + (M.getD k []).getD i 0 * dg.getD k 0) % p == 0
theorem entry_b {p : Int} {n : Nat} {M : List (List Int)} (hp : 2 ≤ p) (hM : matB p n M = true) (i k : Nat) : 0 ≤ (M.getD i []).getD k 0 ∧ (M.getD i []).getD k 0 < p := by
  obtain ⟨hl, hw⟩ := matB_iff.1 hM
  by_cases h : i < M.length
  · exact (hw _ (get_mem h)).2.g0 (by omega) k
  · rw [show M.getD i [] = [] by rw [List.getD_eq_getElem?_getD, List.getElem?_eq_none (by omega)]; rfl]
    simp; omega
set_option maxHeartbeats 2000000 in
theorem sskew_c {p : Int} {s m : Value} {st : List Int} {M : List (List Int)} {w : World} (hd : Dok p st) (hs : El w s st) (hr : Re w m M) (hM : matB p (sz st.length) M = true) :
    Calls Try.prog 19 #[.agg #[.int .i64 p, s], m] w fun e w' => e = .returned (.bool (skewB p (diagF p st) M)) ∧ Below w.heap.size w w' := by
  have hp1 := hd.hp.lo; have hp2 := hd.hp.hi; have hl3 := hd.hl; have hsz := sz_le hd
  obtain ⟨hMl, hMw⟩ := matB_iff.1 hM
  obtain ⟨a0, c0, rfl, _⟩ := id hs.op
  obtain ⟨bm, om, cm, rfl, hT⟩ := Re.tb hr hMl (by omega) (fun r h => (hMw r h).1)
  have hAb := entry_b (by omega : 2 ≤ p) hM
  have hdl := diagF_len (p := p) (st := st)
  have hDb : ∀ i, 0 ≤ (diagF p st).getD i 0 ∧ (diagF p st).getD i 0 < p := fun i => (diagF_fp (p := p) (st := st) (by omega)).g0 (by omega) i
  have hG : ∀ i k, skG p (diagF p st) M i k = (((M.getD i []).getD k 0 * (diagF p st).getD i 0 + (M.getD k []).getD i 0 * (diagF p st).getD k 0) % p == 0) := fun _ _ => rfl
  have hB : skewB p (diagF p st) M = ((List.range (sz st.length)).all fun i => (List.range (i + 1)).all (skG p (diagF p st) M i)) := by unfold skewB; rw [hMl]; rfl
  have hno : ∀ i k, i < sz st.length → k < i + 1 → skG p (diagF p st) M i k = false → skewB p (diagF p st) M = false := fun i k hi hk h => by
    rw [hB]
    exact List.all_eq_false.2 ⟨i, List.mem_range.2 hi, by rw [List.all_eq_false.2 ⟨k, List.mem_range.2 hk, by rw [h]; decide⟩]; decide⟩
  obtain ⟨G, hG_⟩ : ∃ G, G = skG p (diagF p st) M := ⟨_, rfl⟩
  simp only [← hG_] at hG hB hno
  obtain ⟨A, hA⟩ : ∃ A : Nat → Nat → Int, A = fun i k => (M.getD i []).getD k 0 := ⟨_, rfl⟩
  have hAe : ∀ i k, (M.getD i []).getD k 0 = A i k := fun i k => by rw [hA]
  obtain ⟨D, hD_⟩ : ∃ D : Nat → Int, D = fun i => (diagF p st).getD i 0 := ⟨_, rfl⟩
  have hDe : ∀ i, (diagF p st).getD i 0 = D i := fun i => by rw [hD_]
  simp only [hAe, hDe] at hG hAb hDb
  have hT := hT.congr (G := A) (fun i _ k _ => hAe i k)
  obtain ⟨n, hn⟩ : ∃ n, n = sz st.length := ⟨_, rfl⟩
  simp only [← hn] at hsz hB hno hdl hT ⊢
  have HG := Lib.hid hG; have HB_ := Lib.hid hB; have HNO := Lib.hid hno; have HDL := Lib.hid hdl; have HDB := Lib.hid hDb; have HAB := Lib.hid hAb; have HDE := Lib.hid hDe
  clear hn hG hB hno hdl hDb hAb hDe hG_ hA hAe hD_ hMl
  go_enter Try.func19, Try.ntmps19
  have hb0 : Below w.heap.size w (w.alloc (.cells #[.int .i64 p, .slice a0 st.length c0] 32)) := (by repeat (first | exact .refl _ _ | apply bwD | apply bwA | (refine bwS ?_ (by first | omega | simp <;> omega) _) | refine bwC ?_ (by assumption)))
  have hs := hs.below hb0; have hT := hT.below hb0
  have d0 : (w.alloc (.cells #[.int .i64 p, .slice a0 st.length c0] 32)).cell? ⟨w.heap.size, 0, none⟩ = some (.int .i64 p) := by simp [go_sem]
  have d1 : (w.alloc (.cells #[.int .i64 p, .slice a0 st.length c0] 32)).cell? ⟨w.heap.size, 1, none⟩ = some (.slice a0 st.length c0) := by simp [go_sem]
  go_wp2_with fail
  refine (sdiag_c hd hs).mono ?_; rintro e w1 ⟨vd, rfl, hD, hb1⟩
  have hs := hs.below hb1; have hT := hT.below hb1; have d0 := kept hb1 d0; have d1 := kept hb1 d1
  obtain ⟨gd, kd, rfl, hDo⟩ := id hD
  rw [HDL.out] at hDo ⊢
  have hDc : ∀ i, i < n → w1.cell? ⟨gd, i, none⟩ = some (.int .i64 (D i)) := fun i hi => by
    have := hDo.hold hi
    rw [HDE.out] at this
    exact this
  have HDC := Lib.hid hDc
  have hbx : Below w.heap.size w w1 := (by repeat (first | exact .refl _ _ | apply bwD | apply bwA | (refine bwS ?_ (by first | omega | simp <;> omega) _) | refine bwC ?_ (by assumption)))
  clear hD hDo hDc
  go_wp2_with fail
  go_loopw [6] (fun i wr => ∃ k : Nat, k ≤ n ∧ i = .int .i64 k ∧ ((List.range k).all fun i => (List.range (i + 1)).all (G i)) = true ∧ Below w1.heap.size w1 wr) (fun i _ => n - (intOf i).toNat)
  case atStart => exact ⟨0, Nat.zero_le _, rfl, rfl, Below.refl _ _⟩
  case round =>
    obtain ⟨k, hk, rfl, hall, hb⟩ := hrel
    by_cases hlt : k < n
    · have HALL := Lib.hid hall; clear hall
      generalize wr = wo at *
      go_wp2_with fail
      go_loopw [7] (fun i wr => ∃ j : Nat, j ≤ k + 1 ∧ i = .int .i64 j ∧ (List.range j).all (G k) = true ∧ Below wo.heap.size wo wr) (fun i _ => k + 1 - (intOf i).toNat)
      case atStart => exact ⟨0, Nat.zero_le _, rfl, rfl, Below.refl _ _⟩
      case round =>
        obtain ⟨j, hj, rfl, hal2, hb5⟩ := hrel
        by_cases hlt2 : j < k + 1
        · have HAL2 := Lib.hid hal2; clear hal2
          have hle : j ≤ k := by omega
          have hjn : j < n := by omega
          have hbc := bwC hb hb5
          have hT := hT.below hbc; have d0 := kept hbc d0; have d1 := kept hbc d1
          obtain ⟨b2, o2, c2, hcr, hcA⟩ := hT k hlt
          obtain ⟨b3, o3, c3, hcr2, hcA2⟩ := hT j hjn
          have hc1 := hcA j hjn; have hc2 := hcA2 k hlt
          have hc3 := kept hbc (HDC.out k hlt); have hc4 := kept hbc (HDC.out j hjn)
          have b1 := HAB.out k j; have b2_ := HAB.out j k; have b3_ := HDB.out k; have b4 := HDB.out j
          have hg := HG.out k j
          obtain ⟨x, hx⟩ : ∃ x, x = A k j := ⟨_, rfl⟩
          obtain ⟨y, hy⟩ : ∃ y, y = A j k := ⟨_, rfl⟩
          obtain ⟨z, hz⟩ : ∃ z, z = D k := ⟨_, rfl⟩
          obtain ⟨u, hu⟩ : ∃ u, u = D j := ⟨_, rfl⟩
          rw [← hx] at hc1 b1 hg; rw [← hy] at hc2 b2_ hg; rw [← hz] at hc3 b3_ hg; rw [← hu] at hc4 b4 hg
          obtain ⟨t, ht⟩ : ∃ t, t = (x * z + y * u) % p := ⟨_, rfl⟩
          rw [← ht] at hg
          obtain ⟨b, hb_⟩ : ∃ b, b = G k j := ⟨_, rfl⟩
          rw [← hb_] at hg
          have HN := Lib.hid (bne_not hg); have HT := Lib.hid ht; have HBB := Lib.hid hb_
          have m1 := mulb (k := x) (y := z) (A := 13) (B := 13) (by omega) (by omega) (by omega) (by omega)
          have m2 := mulb (k := y) (y := u) (A := 13) (B := 13) (by omega) (by omega) (by omega) (by omega)
          clear hx hy hz hu ht hb_ hg hcA hcA2 hT hbc
          go_wp2_with fail
          go_wp2_with fail
          refine region_flowP [(27, 1, []), (27, 5, [26, 13, 8, 7]), (27, 8, [26, 13]), (27, 12, [26, 13]), (27, 17, [26, 25, 20, 19]), (27, 20, [26, 25]), (27, 24, [26, 25])] [(false, [(0, 0), (1, 1), (2, 0), (3, 0), (4, 0), (5, 1), (6, 0), (7, 0), (8, 1), (9, 0), (10, 0), (11, 0), (12, 1), (13, 0), (14, 0), (15, 0), (16, 0), (17, 1), (18, 0), (19, 0), (20, 1), (21, 0), (22, 0), (23, 0), (24, 1), (25, 0), (26, 0), (27, 4), (28, 0)])] (by kernel_rfl) ?_
          refine norm_K fun K hK => ?_
          change wpList _ _ _ [_, _, _, _, _, _, _, _, _, _, _, _, _, _, _, _, _, _, _, _, _, _, _, _, _, _, _, _, _] _ _
          have hb21 : Below wr.heap.size wr wr.drew := (by repeat (first | exact .refl _ _ | apply bwD | apply bwA | (refine bwS ?_ (by first | omega | simp <;> omega) _) | refine bwC ?_ (by assumption)))
          have d0 := kept hb21 d0; have d1 := kept hb21 d1; have hcr := kept hb21 hcr; have hcr2 := kept hb21 hcr2; have hc1 := kept hb21 hc1; have hc2 := kept hb21 hc2; have hc3 := kept hb21 hc3; have hc4 := kept hb21 hc4
          generalize wr.drew = wq at *
          go_wp2_with fail
          refine (smod_c (by omega) (by omega)).mono ?_; rintro e w22 ⟨rfl, rfl⟩
          rw [← HT.out]
          have hbz : Below wr.heap.size wr wq := hb21
          cases b
          · have hne : (t != 0) = true := HN.out
            go_wp2_with fail
            first | (refine hK _ _ ⟨rfl, ?_⟩; clear hK K) | refine ⟨rfl, ?_⟩
            go_wp2_with fail
            go_ret
            exact ⟨by rw [HNO.out k j hlt hlt2 HBB.out.symm]; rfl, bwC hbx (bwC hb (bwC hb5 hbz))⟩
          · have hne : (t != 0) = false := HN.out
            go_wp2_with fail
            first | (refine hK _ _ ⟨rfl, ?_⟩; clear hK K) | refine ⟨rfl, ?_⟩
            go_wp2_with fail
            go_roundw
            case rel => exact ⟨j + 1, by omega, by go_num, by rw [all_succ, HAL2.out, ← HBB.out]; rfl, bwC hb5 hbz⟩
            case measure => first | (simp [intOf]; done) | (simp [intOf]; omega)
        · obtain rfl : j = k + 1 := by omega
          have HAL2 := Lib.hid hal2; clear hal2
          have hnl : ¬ ((k : Int) + 1 ≤ (k : Int)) := by omega
          go_wp2_with fail
          go_roundw
          case rel => exact ⟨k + 1, by omega, by go_num, by rw [all_succ, HALL.out, HAL2.out]; rfl, bwC hb hb5⟩
          case measure => simp [intOf]; omega
    · obtain rfl : k = n := by omega
      have HALL := Lib.hid hall; clear hall
      go_wp2_with fail
      go_ret
      exact ⟨by rw [HB_.out, HALL.out]; rfl, bwC hbx hb⟩
end Go.Proofs.Ytfcdhdkhfdhjfaa
