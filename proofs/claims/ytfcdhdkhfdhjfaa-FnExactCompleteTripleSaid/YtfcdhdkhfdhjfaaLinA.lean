/-
  Rows of numbers modulo a prime: sums of multiples of rows, reduced rows, their uniqueness. No program in sight.
-/
import Derived.Test.YtfcdhdkhfdhjfaaPla
import Derived.Test.YtfcdhdkhfdhjfaaJap
namespace Go.Proofs.Ytfcdhdkhfdhjfaa

def Rw (p : Int) (m : Nat) (rows : List (List Int)) : Prop := ∀ r ∈ rows, Ev p m r
def zeroL (m : Nat) : List Int := List.replicate m 0
def comb (p : Int) (m : Nat) : List Int → List (List Int) → List Int
  | c :: cs, r :: rs => plusL p (comb p m cs rs) r c
  | _, _ => zeroL m
def Spn (p : Int) (m : Nat) (rows : List (List Int)) (v : List Int) : Prop := ∃ cs, cs.length = rows.length ∧ v = comb p m cs rows
section
variable {p : Int} {m : Nat} {rows rows' rs : List (List Int)} {v w r : List Int}
theorem Rw.cons (h : Rw p m (r :: rs)) : Ev p m r ∧ Rw p m rs := ⟨h r (by simp), fun x hx => h x (by simp [hx])⟩
theorem Rw.mk_ (h : Ev p m r) (h2 : Rw p m rs) : Rw p m (r :: rs) := fun x hx => by
  rcases List.mem_cons.1 hx with rfl | hx
  · exact h
  · exact h2 x hx
theorem Rw.app (h : Rw p m rows) (h2 : Rw p m rows') : Rw p m (rows ++ rows') := fun x hx => by
  rcases List.mem_append.1 hx with hx | hx
  · exact h x hx
  · exact h2 x hx
theorem zero_at {j : Nat} : (zeroL m).getD j 0 = 0 := by
  unfold zeroL
  rw [List.getD_eq_getElem?_getD, List.getElem?_replicate]
  split <;> rfl
theorem zero_len : (zeroL m).length = m := by simp [zeroL]
theorem zeroL_ev (hp : 1 ≤ p) : Ev p m (zeroL m) := ⟨zero_len, fun x hx => by have := List.eq_of_mem_replicate hx; omega⟩
theorem Ev.at {xs : List Int} {n : Nat} (h : Ev p n xs) (hp : 1 ≤ p) (j : Nat) : 0 ≤ xs.getD j 0 ∧ xs.getD j 0 < p := by
  rw [List.getD_eq_getElem?_getD]
  cases hx : xs[j]? with
  | none => simp; omega
  | some y => exact h.2 y (List.mem_of_getElem? hx)
theorem Ev.md {xs : List Int} {n : Nat} (h : Ev p n xs) (hp : 1 ≤ p) (j : Nat) : xs.getD j 0 % p = xs.getD j 0 := Int.emod_eq_of_lt (h.at hp j).1 (h.at hp j).2
theorem pat {k : Int} (h : Ev p m v) (h2 : Ev p m w) (j : Nat) : (plusL p v w k).getD j 0 = (v.getD j 0 + k * w.getD j 0) % p := plus_at (h2.1.trans h.1.symm) j
theorem Ev.ext (h : Ev p m v) (h2 : Ev p m w) (e : ∀ j, v.getD j 0 = w.getD j 0) : v = w := ext_at (h.1.trans h2.1.symm) fun j _ => e j
theorem comb_ev (hp : 1 ≤ p) : ∀ {cs : List Int} {rows : List (List Int)}, Rw p m rows → Ev p m (comb p m cs rows)
  | [], _, _ => zeroL_ev hp
  | _ :: _, [], _ => zeroL_ev hp
  | _ :: _, _ :: _, h => (comb_ev hp h.cons.2).plus hp h.cons.1
theorem plus_zero (hp : 1 ≤ p) {k : Int} (h : Ev p m v) : plusL p v (zeroL m) k = v :=
  (h.plus hp (zeroL_ev hp)).ext h fun j => by rw [pat h (zeroL_ev hp), zero_at, Int.mul_zero, Int.add_zero, h.md hp]
theorem plus_dvd (hp : 1 ≤ p) {k : Int} (h : Ev p m v) (h2 : Ev p m w) (hk : k % p = 0) : plusL p v w k = v :=
  (h.plus hp h2).ext h fun j => by
    rw [pat h h2, Int.add_emod, Int.mul_emod, hk, Int.zero_mul, Int.zero_emod, Int.add_zero, Int.emod_emod, h.md hp]
theorem plus_plus (hp : 1 ≤ p) {a b : Int} (h : Ev p m v) (h2 : Ev p m w) (h3 : Ev p m r) : plusL p (plusL p v w a) r b = plusL p (plusL p v r b) w a :=
  ((h.plus hp h2).plus hp h3).ext ((h.plus hp h3).plus hp h2) fun j => by
    rw [pat (h.plus hp h2) h3, pat h h2, pat (h.plus hp h3) h2, pat h h3, Int.emod_add_emod, Int.emod_add_emod]
    congr 1; omega
theorem plus_assoc (hp : 1 ≤ p) {a b : Int} (h : Ev p m v) (h2 : Ev p m w) (h3 : Ev p m r) : plusL p v (plusL p w r a) b = plusL p (plusL p v w b) r (b * a) :=
  (h.plus hp (h2.plus hp h3)).ext ((h.plus hp h2).plus hp h3) fun j => by
    rw [pat h (h2.plus hp h3), pat h2 h3, pat (h.plus hp h2) h3, pat h h2, Int.emod_add_emod]
    rw [Int.add_emod, Int.mul_emod, Int.emod_emod, ← Int.mul_emod, ← Int.add_emod]
    congr 1; grind
theorem plus_same (hp : 1 ≤ p) {a b : Int} (h : Ev p m v) (h2 : Ev p m w) : plusL p (plusL p v w a) w b = plusL p v w (a + b) :=
  ((h.plus hp h2).plus hp h2).ext (h.plus hp h2) fun j => by
    rw [pat (h.plus hp h2) h2, pat h h2, pat h h2, Int.emod_add_emod]
    congr 1; grind
theorem Spn.ev (hp : 1 ≤ p) (hr : Rw p m rows) (h : Spn p m rows v) : Ev p m v := by
  obtain ⟨cs, _, rfl⟩ := h
  exact comb_ev hp hr
theorem comb_plus (hp : 1 ≤ p) {k : Int} : ∀ {cs ds : List Int} {rows : List (List Int)}, Rw p m rows → cs.length = rows.length → ds.length = rows.length →
    plusL p (comb p m cs rows) (comb p m ds rows) k = comb p m (List.zipWith (fun a b => a + k * b) cs ds) rows
  | [], [], [], _, _, _ => plus_zero hp (zeroL_ev hp)
  | [], _ :: _, _, _, h1, h2 => absurd (h1.trans h2.symm) (by simp)
  | _ :: _, [], _, _, h1, h2 => absurd (h1.trans h2.symm) (by simp)
  | c :: cs, d :: ds, r :: rs, h, h1, h2 => by
    have ih := comb_plus hp (k := k) (cs := cs) (ds := ds) h.cons.2 (by simpa using h1) (by simpa using h2)
    have e1 := comb_ev hp (cs := cs) h.cons.2
    have e2 := comb_ev hp (cs := ds) h.cons.2
    have e3 := h.cons.1
    show plusL p (plusL p (comb p m cs rs) r c) (plusL p (comb p m ds rs) r d) k = plusL p (comb p m (List.zipWith _ cs ds) rs) r (c + k * d)
    rw [plus_assoc hp (e1.plus hp e3) e2 e3, plus_plus hp e1 e3 e2, ih, plus_same hp (comb_ev hp h.cons.2) e3]
theorem Spn.plus (hp : 1 ≤ p) (hr : Rw p m rows) {k : Int} (h : Spn p m rows v) (h2 : Spn p m rows w) : Spn p m rows (plusL p v w k) := by
  obtain ⟨cs, hc, rfl⟩ := h
  obtain ⟨ds, hd, rfl⟩ := h2
  exact ⟨_, by simp [hc, hd], comb_plus hp hr hc hd⟩
theorem Spn.zr (hp : 1 ≤ p) : ∀ {rows : List (List Int)}, Rw p m rows → Spn p m rows (zeroL m)
  | [], _ => ⟨[], rfl, rfl⟩
  | r :: rs, h => by
    obtain ⟨cs, hc, e⟩ := Spn.zr hp h.cons.2
    exact ⟨0 :: cs, by simp [hc], by show zeroL m = plusL p (comb p m cs rs) r 0; rw [← e, plus_dvd hp (zeroL_ev hp) h.cons.1 rfl]⟩
theorem Spn.tail (hp : 1 ≤ p) (hr : Rw p m (r :: rs)) (h : Spn p m rs v) : Spn p m (r :: rs) v := by
  obtain ⟨cs, hc, rfl⟩ := h
  exact ⟨0 :: cs, by simp [hc], (plus_dvd hp (comb_ev hp hr.cons.2) hr.cons.1 rfl).symm⟩
theorem Spn.head (hp : 1 ≤ p) (hr : Rw p m (r :: rs)) : Spn p m (r :: rs) r := by
  obtain ⟨cs, hc, e⟩ := Spn.zr hp hr.cons.2
  refine ⟨1 :: cs, by simp [hc], ?_⟩
  show r = plusL p (comb p m cs rs) r 1
  rw [← e]
  refine hr.cons.1.ext ((zeroL_ev hp).plus hp hr.cons.1) fun j => ?_
  rw [pat (zeroL_ev hp) hr.cons.1, zero_at, Int.zero_add, Int.one_mul, hr.cons.1.md hp]
theorem Spn.mem (hp : 1 ≤ p) : ∀ {rows : List (List Int)}, Rw p m rows → r ∈ rows → Spn p m rows r
  | [], _, h => by simp at h
  | x :: xs, hr, h => by
    rcases List.mem_cons.1 h with rfl | h
    · exact Spn.head hp hr
    · exact (Spn.mem hp hr.cons.2 h).tail hp hr
theorem Spn.trans (hp : 1 ≤ p) (hr' : Rw p m rows') : ∀ {rows : List (List Int)} {v : List Int}, (∀ r ∈ rows, Spn p m rows' r) → Spn p m rows v → Spn p m rows' v
  | [], v, _, ⟨cs, hc, e⟩ => by
    obtain rfl : cs = [] := by simpa using hc
    rw [e]; exact Spn.zr hp hr'
  | r :: rs, v, h, ⟨cs, hc, e⟩ => by
    match cs, hc, e with
    | c :: cs, hc, e =>
      rw [e]
      exact Spn.plus hp hr' (Spn.trans hp hr' (fun x hx => h x (by simp [hx])) ⟨cs, by simpa using hc, rfl⟩) (h r (by simp))
def SameS (p : Int) (m : Nat) (a b : List (List Int)) : Prop := ∀ v, Spn p m a v ↔ Spn p m b v
theorem SameS.of (hp : 1 ≤ p) (hr : Rw p m rows) (hr' : Rw p m rows') (h : ∀ r ∈ rows, Spn p m rows' r) (h' : ∀ r ∈ rows', Spn p m rows r) : SameS p m rows rows' :=
  fun _ => ⟨Spn.trans hp hr' h, Spn.trans hp hr h'⟩
theorem SameS.rfl' : SameS p m rows rows := fun _ => Iff.rfl
theorem SameS.tr {a b c : List (List Int)} (h : SameS p m a b) (h2 : SameS p m b c) : SameS p m a c := fun v => (h v).trans (h2 v)
theorem SameS.sy {a b : List (List Int)} (h : SameS p m a b) : SameS p m b a := fun v => (h v).symm
/-! ### Leading places -/
theorem lead_nz : ∀ xs : List Int, leadN xs < xs.length → xs.getD (leadN xs) 0 ≠ 0
  | [], h => absurd h (by decide)
  | x :: xs, h => by
    by_cases h0 : x = 0
    · have e : leadN (x :: xs) = leadN xs + 1 := if_pos h0
      rw [e] at h ⊢
      rw [List.getD_cons_succ]
      exact lead_nz xs (by simpa using h)
    · have e : leadN (x :: xs) = 0 := if_neg h0
      rw [e]
      simpa using h0
theorem lead_low : ∀ {xs : List Int} {c : Nat}, c < leadN xs → xs.getD c 0 = 0
  | [], c, h => by simp [leadN] at h
  | x :: xs, c, h => by
    unfold leadN at h
    split at h
    · next e =>
      match c with
      | 0 => simpa using e
      | c + 1 => rw [List.getD_cons_succ]; exact lead_low (by omega)
    · omega
theorem lead_is {xs : List Int} {c : Nat} (h : xs.getD c 0 ≠ 0) (h2 : ∀ j < c, xs.getD j 0 = 0) : leadN xs = c := by
  rcases Nat.lt_trichotomy (leadN xs) c with h1 | h1 | h1
  · have hl : c < xs.length := by
      by_cases hc : c < xs.length
      · exact hc
      · exact absurd (out_at (by omega)) h
    exact absurd (h2 _ h1) (lead_nz xs (by omega))
  · exact h1
  · exact absurd (lead_low h1) h
structure Rref (p : Int) (m : Nat) (rows : List (List Int)) : Prop where
  rw_ : Rw p m rows
  one : ∀ r ∈ rows, leadN r < m ∧ r.getD (leadN r) 0 = 1
  pw : rows.Pairwise fun r s => leadN r < leadN s ∧ r.getD (leadN s) 0 = 0
theorem Rref.nil : Rref p m [] := ⟨fun _ h => by simp at h, fun _ h => by simp at h, List.Pairwise.nil⟩
theorem Rref.cons (h : Rref p m (r :: rs)) : Rref p m rs := ⟨h.rw_.cons.2, fun x hx => h.one x (by simp [hx]), (List.pairwise_cons.1 h.pw).2⟩
theorem Rref.hd (h : Rref p m (r :: rs)) : ∀ s ∈ rs, leadN r < leadN s ∧ r.getD (leadN s) 0 = 0 := (List.pairwise_cons.1 h.pw).1
theorem comb_low (hp : 1 ≤ p) {c : Nat} : ∀ {cs : List Int} {rows : List (List Int)}, Rw p m rows → (∀ s ∈ rows, s.getD c 0 = 0) → (comb p m cs rows).getD c 0 = 0
  | [], _, _, _ => zero_at
  | _ :: _, [], _, _ => zero_at
  | a :: cs, r :: rs, hr, h => by
    show (plusL p (comb p m cs rs) r a).getD c 0 = 0
    rw [pat (comb_ev hp hr.cons.2) hr.cons.1, comb_low hp hr.cons.2 (fun s hs => h s (by simp [hs])), h r (by simp)]; simp
theorem Spn.low (hp : 1 ≤ p) {c : Nat} (hr : Rw p m rows) (h : ∀ s ∈ rows, s.getD c 0 = 0) (hv : Spn p m rows v) : v.getD c 0 = 0 := by
  obtain ⟨cs, _, rfl⟩ := hv
  exact comb_low hp hr h
theorem Rref.zero_of (hp : 2 ≤ p) : ∀ {rows : List (List Int)} {v : List Int}, Rref p m rows → Spn p m rows v → (∀ s ∈ rows, v.getD (leadN s) 0 = 0) → v = zeroL m
  | [], v, _, ⟨cs, hc, e⟩, _ => by
    obtain rfl : cs = [] := by simpa using hc
    exact e
  | r :: rs, v, h, ⟨cs, hc, e⟩, hz => by
    match cs, hc, e with
    | c :: cs, hc, e =>
      have he := comb_ev (p := p) (m := m) (by omega) (cs := cs) h.cons.rw_
      have e0 : v = plusL p (comb p m cs rs) r c := e
      have h0 := hz r (by simp)
      have hl : (comb p m cs rs).getD (leadN r) 0 = 0 := comb_low (by omega) h.cons.rw_ fun s hs => lead_low (h.hd s hs).1
      rw [e0, pat he h.rw_.cons.1, hl, (h.one r (by simp)).2, Int.zero_add, Int.mul_one] at h0
      have e1 : v = comb p m cs rs := by rw [e0, plus_dvd (by omega) he h.rw_.cons.1 h0]
      exact Rref.zero_of hp h.cons ⟨cs, by simpa using hc, e1⟩ fun s hs => hz s (by simp [hs])
theorem Rref.lead (hp : 2 ≤ p) : ∀ {rows : List (List Int)} {v : List Int}, Rref p m rows → Spn p m rows v → leadN v < m → leadN v ∈ rows.map leadN
  | [], v, _, ⟨cs, hc, e⟩, hl => by
    obtain rfl : cs = [] := by simpa using hc
    have e0 : v = zeroL m := e
    have hne := lead_nz v (by rw [e0, zero_len, ← e0]; exact hl)
    rw [e0, zero_at] at hne
    exact absurd rfl hne
  | r :: rs, v, h, ⟨cs, hc, e⟩, hl => by
    match cs, hc, e with
    | c :: cs, hc, e =>
      have he := comb_ev (p := p) (m := m) (by omega) (cs := cs) h.cons.rw_
      have e0 : v = plusL p (comb p m cs rs) r c := e
      have hlow : ∀ j, j ≤ leadN r → (comb p m cs rs).getD j 0 = 0 := fun j hj => comb_low (by omega) h.cons.rw_ fun s hs => lead_low (by have := (h.hd s hs).1; omega)
      by_cases h0 : c % p = 0
      · have e1 : v = comb p m cs rs := by rw [e0, plus_dvd (by omega) he h.rw_.cons.1 h0]
        exact List.mem_cons_of_mem _ (Rref.lead hp h.cons ⟨cs, by simpa using hc, e1⟩ hl)
      · have : leadN v = leadN r := by
          refine lead_is ?_ fun j hj => ?_
          · rw [e0, pat he h.rw_.cons.1, hlow _ (Nat.le_refl _), (h.one r (by simp)).2, Int.zero_add, Int.mul_one]; exact h0
          · rw [e0, pat he h.rw_.cons.1, hlow _ (by omega), lead_low hj]; simp
        rw [this]
        exact List.mem_cons_self
theorem asc_eq : ∀ {a b : List Nat}, a.Pairwise (· < ·) → b.Pairwise (· < ·) → (∀ x, x ∈ a ↔ x ∈ b) → a = b
  | [], [], _, _, _ => rfl
  | [], y :: ys, _, _, h => by have := (h y).2 (by simp); simp at this
  | x :: xs, [], _, _, h => by have := (h x).1 (by simp); simp at this
  | x :: xs, y :: ys, ha, hb, h => by
    obtain ⟨a1, a2⟩ := List.pairwise_cons.1 ha
    obtain ⟨b1, b2⟩ := List.pairwise_cons.1 hb
    have e : x = y := by
      have h1 := (h x).1 (by simp)
      have h2 := (h y).2 (by simp)
      rcases List.mem_cons.1 h1 with h1 | h1
      · exact h1
      rcases List.mem_cons.1 h2 with h2 | h2
      · exact h2.symm
      have := b1 x h1
      have := a1 y h2
      omega
    subst e
    refine congrArg _ (asc_eq a2 b2 fun z => ?_)
    constructor
    · intro hz
      rcases List.mem_cons.1 ((h z).1 (by simp [hz])) with e | e
      · have := a1 z hz; omega
      · exact e
    · intro hz
      rcases List.mem_cons.1 ((h z).2 (by simp [hz])) with e | e
      · have := b1 z hz; omega
      · exact e
theorem Rref.asc (h : Rref p m rows) : (rows.map leadN).Pairwise (· < ·) := by
  rw [List.pairwise_map]
  exact h.pw.imp fun x => x.1
theorem Rref.leads (hp : 2 ≤ p) {a b : List (List Int)} (ha : Rref p m a) (hb : Rref p m b) (h : SameS p m a b) : a.map leadN = b.map leadN := by
  refine asc_eq ha.asc hb.asc fun x => ⟨fun hx => ?_, fun hx => ?_⟩
  · obtain ⟨r, hr, rfl⟩ := List.mem_map.1 hx
    exact hb.lead hp ((h r).1 (Spn.mem (by omega) ha.rw_ hr)) (ha.one r hr).1
  · obtain ⟨r, hr, rfl⟩ := List.mem_map.1 hx
    exact ha.lead hp ((h r).2 (Spn.mem (by omega) hb.rw_ hr)) (hb.one r hr).1
theorem Rref.at (h : Rref p m rows) {i j : Nat} (hi : i < rows.length) (hj : j < rows.length) : rows[i].getD (leadN rows[j]) 0 = if i = j then 1 else 0 := by
  have hp := List.pairwise_iff_getElem.1 h.pw
  rcases Nat.lt_trichotomy i j with h1 | h1 | h1
  · rw [(hp i j hi hj h1).2, if_neg (by omega)]
  · subst h1; rw [(h.one _ (List.getElem_mem hi)).2, if_pos rfl]
  · rw [lead_low (hp j i hj hi h1).1, if_neg (by omega)]
theorem Rref.uniq (hp : 2 ≤ p) {a b : List (List Int)} (ha : Rref p m a) (hb : Rref p m b) (h : SameS p m a b) : a = b := by
  have hl := Rref.leads hp ha hb h
  have hlen : a.length = b.length := by simpa using congrArg List.length hl
  refine List.ext_getElem hlen fun i h1 h2 => ?_
  have ea := ha.rw_ _ (List.getElem_mem h1)
  have eb := hb.rw_ _ (List.getElem_mem h2)
  have lj : ∀ j (h1 : j < a.length) (h2 : j < b.length), leadN a[j] = leadN b[j] := fun j h1 h2 => by
    have := congrArg (·[j]?) hl
    simpa [h1, h2] using this
  have hd : plusL p a[i] b[i] (-1) = zeroL m := by
    refine ha.zero_of hp (Spn.plus (by omega) ha.rw_ (Spn.mem (by omega) ha.rw_ (List.getElem_mem h1)) ((h _).2 (Spn.mem (by omega) hb.rw_ (List.getElem_mem h2)))) fun s hs => ?_
    obtain ⟨j, hj, rfl⟩ := List.mem_iff_getElem.1 hs
    rw [pat ea eb, ha.at h1 hj, lj j hj (hlen ▸ hj), hb.at h2 (hlen ▸ hj)]
    split <;> simp
  refine ea.ext eb fun j => ?_
  have e := congrArg (·.getD j 0) hd
  simp only [pat ea eb, zero_at] at e
  have b1 := ea.at (by omega) j
  have b2 := eb.at (by omega) j
  obtain ⟨k, hk⟩ := Int.dvd_of_emod_eq_zero e
  have : k = 0 := by
    rcases Int.lt_trichotomy k 0 with h | h | h
    · have := Int.mul_le_mul_of_nonneg_left (show k ≤ -1 by omega) (show 0 ≤ p by omega); omega
    · exact h
    · have := Int.mul_le_mul_of_nonneg_left (show 1 ≤ k by omega) (show 0 ≤ p by omega); omega
  subst this
  omega
end
end Go.Proofs.Ytfcdhdkhfdhjfaa
