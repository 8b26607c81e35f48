/- Texts joined for a claim: LinA, LinB, LinC, Aut, MeA, LinD, LinE. -/
import Derived.Test.YteaaepbnoiecoaaGreatJae
import Derived.Test.YteaaepbnoiecoaaGreatJak
import Derived.Test.YteaaepbnoiecoaaGreatJaj
namespace Go.Proofs.YteaaepbnoiecoaaGreat
def Rw (p : Int) (m : Nat) (rows : List (List Int)) : Prop := ∀ r ∈ rows, Ev p m r
def zeroL (m : Nat) : List Int := List.replicate m 0
def comb (p : Int) (m : Nat) : List Int -> List (List Int) -> List Int
 | c :: cs, r :: rs => plusL p (comb p m cs rs) r c
 | _, _ => zeroL m
def Spn (p : Int) (m : Nat) (rows : List (List Int)) (v : List Int) : Prop := ∃ cs, cs.length = rows.length /\ v = comb p m cs rows
section
variable {p : Int} {m : Nat} {rows rows' rs : List (List Int)} {v w r : List Int}
theorem Rw.cons (h : Rw p m (r :: rs)) : Ev p m r /\ Rw p m rs := ⟨h r (by simp), fun x hx => h x (by simp [hx])⟩
theorem Rw.mk_ (h : Ev p m r) (h2 : Rw p m rs) : Rw p m (r :: rs) := fun x hx => by
 rcases List.mem_cons.1 hx with rfl | hx
 ·exact h
 ·exact h2 x hx
theorem Rw.app (h : Rw p m rows) (h2 : Rw p m rows') : Rw p m (rows ++ rows') := fun x hx => by
 rcases List.mem_append.1 hx with hx | hx
 ·exact h x hx
 ·exact h2 x hx
theorem zero_at {j : Nat} : (zeroL m).getD j 0 = 0 := by
 unfold zeroL
 rw [List.getD_eq_getElem?_getD, List.getElem?_replicate]
 split <;> rfl
theorem zero_len : (zeroL m).length = m := by simp [zeroL]
theorem zeroL_ev (hp : 1 <= p) : Ev p m (zeroL m) := ⟨zero_len, fun x hx => by have := List.eq_of_mem_replicate hx; omega⟩
theorem Ev.at {xs : List Int} {n : Nat} (h : Ev p n xs) (hp : 1 <= p) (j : Nat) : 0 <= xs.getD j 0 /\ xs.getD j 0 < p := by
 rw [List.getD_eq_getElem?_getD]
 cases hx : xs[j]? with
 | none => simp; omega
 | some y => exact h.2 y (List.mem_of_getElem? hx)
theorem Ev.md {xs : List Int} {n : Nat} (h : Ev p n xs) (hp : 1 <= p) (j : Nat) : xs.getD j 0 % p = xs.getD j 0 := Int.emod_eq_of_lt (h.at hp j).1 (h.at hp j).2
theorem pat {k : Int} (h : Ev p m v) (h2 : Ev p m w) (j : Nat) : (plusL p v w k).getD j 0 = (v.getD j 0 + k * w.getD j 0) % p := plus_at (h2.1.trans h.1.symm) j
theorem Ev.ext (h : Ev p m v) (h2 : Ev p m w) (e : ∀ j, v.getD j 0 = w.getD j 0) : v = w := ext_at (h.1.trans h2.1.symm) fun j _ => e j
theorem comb_ev (hp : 1 <= p) : ∀ {cs : List Int} {rows : List (List Int)}, Rw p m rows -> Ev p m (comb p m cs rows)
 | [], _, _ => zeroL_ev hp
 | _ :: _, [], _ => zeroL_ev hp
 | _ :: _, _ :: _, h => (comb_ev hp h.cons.2).plus hp h.cons.1
theorem plus_zero (hp : 1 <= p) {k : Int} (h : Ev p m v) : plusL p v (zeroL m) k = v :=
 (h.plus hp (zeroL_ev hp)).ext h fun j => by rw [pat h (zeroL_ev hp), zero_at, Int.mul_zero, Int.add_zero, h.md hp]
theorem plus_dvd (hp : 1 <= p) {k : Int} (h : Ev p m v) (h2 : Ev p m w) (hk : k % p = 0) : plusL p v w k = v :=
 (h.plus hp h2).ext h fun j => by
  rw [pat h h2, Int.add_emod, Int.mul_emod, hk, Int.zero_mul, Int.zero_emod, Int.add_zero, Int.emod_emod, h.md hp]
theorem plus_plus (hp : 1 <= p) {a b : Int} (h : Ev p m v) (h2 : Ev p m w) (h3 : Ev p m r) : plusL p (plusL p v w a) r b = plusL p (plusL p v r b) w a :=
  ((h.plus hp h2).plus hp h3).ext ((h.plus hp h3).plus hp h2) fun j => by
    rw [pat (h.plus hp h2) h3, pat h h2, pat (h.plus hp h3) h2, pat h h3, Int.emod_add_emod, Int.emod_add_emod]
    congr 1; omega
theorem plus_assoc (hp : 1 <= p) {a b : Int} (h : Ev p m v) (h2 : Ev p m w) (h3 : Ev p m r) : plusL p v (plusL p w r a) b = plusL p (plusL p v w b) r (b * a) :=
 (h.plus hp (h2.plus hp h3)).ext ((h.plus hp h2).plus hp h3) fun j => by
  rw [pat h (h2.plus hp h3), pat h2 h3, pat (h.plus hp h2) h3, pat h h2, Int.emod_add_emod]
  rw [Int.add_emod, Int.mul_emod, Int.emod_emod, <- Int.mul_emod, <- Int.add_emod]
  congr 1; grind
theorem plus_same (hp : 1 <= p) {a b : Int} (h : Ev p m v) (h2 : Ev p m w) : plusL p (plusL p v w a) w b = plusL p v w (a + b) :=
  ((h.plus hp h2).plus hp h2).ext (h.plus hp h2) fun j => by
    rw [pat (h.plus hp h2) h2, pat h h2, pat h h2, Int.emod_add_emod]
    congr 1; grind
theorem Spn.ev (hp : 1 <= p) (hr : Rw p m rows) (h : Spn p m rows v) : Ev p m v := by
 obtain ⟨cs, _, rfl⟩ := h
 exact comb_ev hp hr
theorem comb_plus (hp : 1 <= p) {k : Int} : ∀ {cs ds : List Int} {rows : List (List Int)}, Rw p m rows -> cs.length = rows.length -> ds.length = rows.length ->
  plusL p (comb p m cs rows) (comb p m ds rows) k = comb p m (List.zipWith (fun a b => a + k * b) cs ds) rows
 | [], [], [], _, _, _ => plus_zero hp (zeroL_ev hp)
 | [], _ :: _, _, _, h1, h2 => absurd (h1.trans h2.symm) (by simp)
 | _ :: _, [], _, _, h1, h2 => absurd (h1.trans h2.symm) (by simp)
 | c :: cs, d :: ds, r :: rs, h, h1, h2 => by
  have ih := comb_plus hp (k := k) (cs := cs) (ds := ds) h.cons.2 (by simpa using h1) (by simpa using h2)
  have e1 := comb_ev hp (cs := cs) h.cons.2
  have e2 := comb_ev hp (cs := ds) h.cons.2
  have e3 := h.cons.1
  show plusL p (plusL p (comb p m cs rs) r c) (plusL p (comb p m ds rs) r d) k = plusL p (comb p m (List.zipWith _ cs ds) rs) r (c + k * d)
  rw [plus_assoc hp (e1.plus hp e3) e2 e3, plus_plus hp e1 e3 e2, ih, plus_same hp (comb_ev hp h.cons.2) e3]
theorem Spn.plus (hp : 1 <= p) (hr : Rw p m rows) {k : Int} (h : Spn p m rows v) (h2 : Spn p m rows w) : Spn p m rows (plusL p v w k) := by
 obtain ⟨cs, hc, rfl⟩ := h
 obtain ⟨ds, hd, rfl⟩ := h2
 exact ⟨_, by simp [hc, hd], comb_plus hp hr hc hd⟩
theorem Spn.zr (hp : 1 <= p) : ∀ {rows : List (List Int)}, Rw p m rows -> Spn p m rows (zeroL m)
 | [], _ => ⟨[], rfl, rfl⟩
 | r :: rs, h => by
  obtain ⟨cs, hc, e⟩ := Spn.zr hp h.cons.2
  exact ⟨0 :: cs, by simp [hc], by show zeroL m = plusL p (comb p m cs rs) r 0; rw [<- e, plus_dvd hp (zeroL_ev hp) h.cons.1 rfl]⟩
theorem Spn.tail (hp : 1 <= p) (hr : Rw p m (r :: rs)) (h : Spn p m rs v) : Spn p m (r :: rs) v := by
 obtain ⟨cs, hc, rfl⟩ := h
 exact ⟨0 :: cs, by simp [hc], (plus_dvd hp (comb_ev hp hr.cons.2) hr.cons.1 rfl).symm⟩
theorem Spn.head (hp : 1 <= p) (hr : Rw p m (r :: rs)) : Spn p m (r :: rs) r := by
 obtain ⟨cs, hc, e⟩ := Spn.zr hp hr.cons.2
 refine ⟨1 :: cs, by simp [hc], ?_⟩
 show r = plusL p (comb p m cs rs) r 1
 rw [<- e]
 refine hr.cons.1.ext ((zeroL_ev hp).plus hp hr.cons.1) fun j => ?_
 rw [pat (zeroL_ev hp) hr.cons.1, zero_at, Int.zero_add, Int.one_mul, hr.cons.1.md hp]
theorem Spn.mem (hp : 1 <= p) : ∀ {rows : List (List Int)}, Rw p m rows -> r ∈ rows -> Spn p m rows r
 | [], _, h => by simp at h
 | x :: xs, hr, h => by
  rcases List.mem_cons.1 h with rfl | h
  ·exact Spn.head hp hr
  ·exact (Spn.mem hp hr.cons.2 h).tail hp hr
theorem Spn.trans (hp : 1 <= p) (hr' : Rw p m rows') : ∀ {rows : List (List Int)} {v : List Int}, (∀ r ∈ rows, Spn p m rows' r) -> Spn p m rows v -> Spn p m rows' v
 | [], v, _, ⟨cs, hc, e⟩ => by
  obtain rfl : cs = [] := by simpa using hc
  rw [e]; exact Spn.zr hp hr'
 | r :: rs, v, h, ⟨cs, hc, e⟩ => by
  match cs, hc, e with
  | c :: cs, hc, e =>
   rw [e]
   exact Spn.plus hp hr' (Spn.trans hp hr' (fun x hx => h x (by simp [hx])) ⟨cs, by simpa using hc, rfl⟩) (h r (by simp))
def SameS (p : Int) (m : Nat) (a b : List (List Int)) : Prop := ∀ v, Spn p m a v ↔ Spn p m b v
theorem SameS.of (hp : 1 <= p) (hr : Rw p m rows) (hr' : Rw p m rows') (h : ∀ r ∈ rows, Spn p m rows' r) (h' : ∀ r ∈ rows', Spn p m rows r) : SameS p m rows rows' :=
 fun _ => ⟨Spn.trans hp hr' h, Spn.trans hp hr h'⟩
theorem SameS.tr {a b c : List (List Int)} (h : SameS p m a b) (h2 : SameS p m b c) : SameS p m a c := fun v => (h v).trans (h2 v)
theorem SameS.sy {a b : List (List Int)} (h : SameS p m a b) : SameS p m b a := fun v => (h v).symm
/-! ### Leading places -/
theorem lead_nz : ∀ xs : List Int, leadN xs < xs.length -> xs.getD (leadN xs) 0 ≠ 0
 | [], h => absurd h (by decide)
 | x :: xs, h => by
  by_cases h0 : x = 0
  ·have e : leadN (x :: xs) = leadN xs + 1 := if_pos h0
   rw [e] at h ⊢
   rw [List.getD_cons_succ]
   exact lead_nz xs (by simpa using h)
  ·have e : leadN (x :: xs) = 0 := if_neg h0
   rw [e]
   simpa using h0
theorem lead_low : ∀ {xs : List Int} {c : Nat}, c < leadN xs -> xs.getD c 0 = 0
 | [], c, h => by simp [leadN] at h
 | x :: xs, c, h => by
  unfold leadN at h
  split at h
  ·next e =>
   match c with
   | 0 => simpa using e
   | c + 1 => rw [List.getD_cons_succ]; exact lead_low (by omega)
  ·omega
theorem lead_is {xs : List Int} {c : Nat} (h : xs.getD c 0 ≠ 0) (h2 : ∀ j < c, xs.getD j 0 = 0) : leadN xs = c := by
 rcases Nat.lt_trichotomy (leadN xs) c with h1 | h1 | h1
 ·have hl : c < xs.length := by
   by_cases hc : c < xs.length
   ·exact hc
   ·exact absurd (out_at (by omega)) h
  exact absurd (h2 _ h1) (lead_nz xs (by omega))
 ·exact h1
 ·exact absurd (lead_low h1) h
structure Rref (p : Int) (m : Nat) (rows : List (List Int)) : Prop where
 rw_ : Rw p m rows
 one : ∀ r ∈ rows, leadN r < m /\ r.getD (leadN r) 0 = 1
 pw : rows.Pairwise fun r s => leadN r < leadN s /\ r.getD (leadN s) 0 = 0
theorem Rref.nil : Rref p m [] := ⟨fun _ h => by simp at h, fun _ h => by simp at h, List.Pairwise.nil⟩
theorem Rref.cons (h : Rref p m (r :: rs)) : Rref p m rs := ⟨h.rw_.cons.2, fun x hx => h.one x (by simp [hx]), (List.pairwise_cons.1 h.pw).2⟩
theorem Rref.hd (h : Rref p m (r :: rs)) : ∀ s ∈ rs, leadN r < leadN s /\ r.getD (leadN s) 0 = 0 := (List.pairwise_cons.1 h.pw).1
theorem comb_low (hp : 1 <= p) {c : Nat} : ∀ {cs : List Int} {rows : List (List Int)}, Rw p m rows -> (∀ s ∈ rows, s.getD c 0 = 0) -> (comb p m cs rows).getD c 0 = 0
 | [], _, _, _ => zero_at
 | _ :: _, [], _, _ => zero_at
 | a :: cs, r :: rs, hr, h => by
  show (plusL p (comb p m cs rs) r a).getD c 0 = 0
  rw [pat (comb_ev hp hr.cons.2) hr.cons.1, comb_low hp hr.cons.2 (fun s hs => h s (by simp [hs])), h r (by simp)]; simp
theorem Spn.low (hp : 1 <= p) {c : Nat} (hr : Rw p m rows) (h : ∀ s ∈ rows, s.getD c 0 = 0) (hv : Spn p m rows v) : v.getD c 0 = 0 := by
 obtain ⟨cs, _, rfl⟩ := hv
 exact comb_low hp hr h
theorem Rref.at (h : Rref p m rows) {i j : Nat} (hi : i < rows.length) (hj : j < rows.length) : rows[i].getD (leadN rows[j]) 0 = if i = j then 1 else 0 := by
 have hp := List.pairwise_iff_getElem.1 h.pw
 rcases Nat.lt_trichotomy i j with h1 | h1 | h1
 ·rw [(hp i j hi hj h1).2, if_neg (by omega)]
 ·subst h1; rw [(h.one _ (List.getElem_mem hi)).2, if_pos rfl]
 ·rw [lead_low (hp j i hj hi h1).1, if_neg (by omega)]
end
def red (p : Int) (k : Nat) (w x : List Int) : List Int := plusL p x w (-(x.getD k 0))
def insL (p : Int) (k : Nat) (w : List Int) : List (List Int) -> List (List Int)
 | [] => [w]
 | r :: rs => if k < leadN r then w :: (r :: rs).map (red p k w) else red p k w r :: insL p k w rs
def normW (p : Int) (k : Nat) (r : List Int) : List Int := scaleL p r (invL p (r.getD k 0))
section
variable {p : Int} {m : Nat} {rows rs a b c : List (List Int)} {v w r x : List Int} {k : Nat}
theorem Spn.sub (hp : 1 <= p) (hr : Rw p m rows) (_ : Rw p m a) (h : ∀ r ∈ a, r ∈ rows) (hv : Spn p m a v) : Spn p m rows v :=
 Spn.trans hp hr (fun r h1 => Spn.mem hp hr (h r h1)) hv
theorem SameS.app (hp : 1 <= p) (ha : Rw p m a) (hb : Rw p m b) (hc : Rw p m c) (h : SameS p m a b) : SameS p m (a ++ c) (b ++ c) := by
 refine SameS.of hp (ha.app hc) (hb.app hc) (fun r hr => ?_) fun r hr => ?_
 ·rcases List.mem_append.1 hr with h1 | h1
  ·exact Spn.sub hp (hb.app hc) hb (fun r h => List.mem_append_left _ h) ((h r).1 (Spn.mem hp ha h1))
  ·exact Spn.mem hp (hb.app hc) (List.mem_append_right _ h1)
 ·rcases List.mem_append.1 hr with h1 | h1
  ·exact Spn.sub hp (ha.app hc) ha (fun r h => List.mem_append_left _ h) ((h r).2 (Spn.mem hp hb h1))
  ·exact Spn.mem hp (ha.app hc) (List.mem_append_right _ h1)
theorem red_ev (hp : 1 <= p) (hx : Ev p m x) (hw : Ev p m w) : Ev p m (red p k w x) := hx.plus hp hw
theorem red_at (hx : Ev p m x) (hw : Ev p m w) (j : Nat) : (red p k w x).getD j 0 = (x.getD j 0 - x.getD k 0 * w.getD j 0) % p := by
 unfold red
 rw [pat hx hw, Int.neg_mul]; rfl
theorem red_0 (hp : 1 <= p) (hx : Ev p m x) (hw : Ev p m w) (h : x.getD k 0 = 0) : red p k w x = x := plus_dvd hp hx hw (by rw [h]; simp)
theorem red_off (hp : 1 <= p) (hx : Ev p m x) (hw : Ev p m w) {j : Nat} (h : w.getD j 0 = 0) : (red p k w x).getD j 0 = x.getD j 0 := by
 rw [red_at hx hw, h, Int.mul_zero, Int.sub_zero, hx.md hp]
theorem red_k (hx : Ev p m x) (hw : Ev p m w) (h : w.getD k 0 = 1) : (red p k w x).getD k 0 = 0 := by
 rw [red_at hx hw, h, Int.mul_one, Int.sub_self, Int.zero_emod]
theorem red_spn (hp : 1 <= p) (hr : Rw p m rows) (hx : Spn p m rows x) (hw : Spn p m rows w) : Spn p m rows (red p k w x) := hx.plus hp hr hw
theorem red_back (hp : 1 <= p) (hr : Rw p m rows) (ex : Ev p m x) (ew : Ev p m w) (hx : Spn p m rows (red p k w x)) (hw : Spn p m rows w) : Spn p m rows x := by
 have e : plusL p (red p k w x) w (x.getD k 0) = x := by
  unfold red
  rw [plus_same hp ex ew, plus_dvd hp ex ew (by rw [show -(x.getD k 0) + x.getD k 0 = 0 by omega]; rfl)]
 rw [<- e]
 exact hx.plus hp hr hw
theorem scale_ev {q : Int} (hp : 1 <= p) (h : Ev p m r) : Ev p m (scaleL p r q) := ⟨by rw [scaleL_len, h.1], scaleL_fp hp⟩
theorem scale_plus {q : Int} (hp : 1 <= p) (h : Ev p m r) : scaleL p r q = plusL p (zeroL m) r q :=
 (scale_ev hp h).ext ((zeroL_ev hp).plus hp h) fun j => by rw [scale_at, pat (zeroL_ev hp) h, zero_at, Int.zero_add, Int.mul_comm]
theorem Spn.scale {q : Int} (hp : 1 <= p) (hr : Rw p m rows) (h : Spn p m rows r) : Spn p m rows (scaleL p r q) := by
 rw [scale_plus hp (h.ev hp hr)]
 exact (Spn.zr hp hr).plus hp hr h
theorem normW_ev (hp : 1 <= p) (h : Ev p m r) : Ev p m (normW p k r) := scale_ev hp h
theorem normW_k (hp : IsP p) (h : Ev p m r) (h0 : r.getD k 0 ≠ 0) : (normW p k r).getD k 0 = 1 := by
 have hb := h.at (p := p) (by have := hp.lo; omega) k
 unfold normW
 rw [scale_at, (inv_tab hp (by omega) hb.2).2.1]
theorem normW_0 {j : Nat} (h0 : r.getD j 0 = 0) : (normW p k r).getD j 0 = 0 := by
 unfold normW
 rw [scale_at, h0, Int.zero_mul, Int.zero_emod]
theorem norm_back (hp : IsP p) (hr : Rw p m rows) (er : Ev p m r) (h0 : r.getD k 0 ≠ 0) (h : Spn p m rows (normW p k r)) : Spn p m rows r := by
 have hp1 : 1 <= p := by have := hp.lo; omega
 have hb := er.at hp1 k
 have hi := (inv_tab hp (a := r.getD k 0) (by omega) hb.2).2.1
 have e : scaleL p (normW p k r) (r.getD k 0) = r := (scale_ev hp1 (normW_ev hp1 er)).ext er fun j => by
  unfold normW
  rw [scale_at, scale_at, Int.mul_emod, Int.emod_emod, <- Int.mul_emod, Int.mul_assoc, Int.mul_comm (invL _ _), Int.mul_emod, hi, Int.mul_one, Int.emod_emod, er.md hp1]
 rw [<- e]
 exact h.scale hp1 hr
/-! ### Putting a row -/
theorem ins_mem : ∀ {rows : List (List Int)} {x : List Int}, x ∈ insL p k w rows -> x = w \/ ∃ s ∈ rows, x = red p k w s
 | [], x, h => .inl (by simpa [insL] using h)
 | r :: rs, x, h => by
  unfold insL at h
  split at h
  ·rcases List.mem_cons.1 h with h | h
   ·exact .inl h
   ·obtain ⟨s, hs, e⟩ := List.mem_map.1 h
    exact .inr ⟨s, hs, e.symm⟩
  ·rcases List.mem_cons.1 h with h | h
   ·exact .inr ⟨r, by simp, h⟩
   ·rcases ins_mem h with h | ⟨s, hs, e⟩
    ·exact .inl h
    ·exact .inr ⟨s, by simp [hs], e⟩
theorem ins_w : ∀ {rows : List (List Int)}, w ∈ insL p k w rows
 | [] => by simp [insL]
 | r :: rs => by
  unfold insL
  split
  ·exact List.mem_cons_self
  ·exact List.mem_cons_of_mem _ ins_w
theorem ins_r : ∀ {rows : List (List Int)} {s : List Int}, s ∈ rows -> red p k w s ∈ insL p k w rows
 | [], s, h => by simp at h
 | r :: rs, s, h => by
  unfold insL
  split
  ·exact List.mem_cons_of_mem _ (List.mem_map_of_mem h)
  ·rcases List.mem_cons.1 h with rfl | h
   ·exact List.mem_cons_self
   ·exact List.mem_cons_of_mem _ (ins_r h)
theorem ins_ev (hp : 1 <= p) (hr : Rw p m rows) (hw : Ev p m w) : Rw p m (insL p k w rows) := fun x hx => by
 rcases ins_mem hx with rfl | ⟨s, hs, rfl⟩
 ·exact hw
 ·exact red_ev hp (hr s hs) hw
theorem red_lead (hp : 1 <= p) {s : List Int} (hs : Ev p m s) (hw : Ev p m w) (hk : leadN w = k) (h1 : leadN s < m) (hz : w.getD (leadN s) 0 = 0) (hne : leadN s ≠ k) : leadN (red p k w s) = leadN s := by
 rcases Nat.lt_or_gt_of_ne hne with h | h
 ·refine lead_is ?_ fun j hj => ?_
  ·rw [red_off hp hs hw hz]; exact lead_nz s (by rw [hs.1]; exact h1)
  ·rw [red_off hp hs hw (lead_low (by omega))]; exact lead_low hj
 ·rw [red_0 hp hs hw (lead_low h)]
theorem ins_rref (hp : 2 <= p) (hw : Ev p m w) (hk : leadN w = k) (hkm : k < m) (h1 : w.getD k 0 = 1) : ∀ {rows : List (List Int)}, Rref p m rows -> (∀ s ∈ rows, w.getD (leadN s) 0 = 0) -> Rref p m (insL p k w rows)
 | [], _, _ => ⟨fun x hx => by simp [insL] at hx; exact hx ▸ hw, fun x hx => by simp [insL] at hx; subst hx; rw [hk]; exact ⟨hkm, h1⟩, by simp [insL]⟩
 | r :: rs, h, hz => by
  have ne : ∀ s ∈ r :: rs, leadN s ≠ k := fun s hs e => by have := hz s hs; rw [e, h1] at this; exact absurd this (by decide)
  have rl : ∀ s ∈ r :: rs, leadN (red p k w s) = leadN s := fun s hs => red_lead (by omega) (h.rw_ s hs) hw hk (h.one s hs).1 (hz s hs) (ne s hs)
  have ro : ∀ s ∈ r :: rs, leadN (red p k w s) < m /\ (red p k w s).getD (leadN (red p k w s)) 0 = 1 := fun s hs => by
   rw [rl s hs, red_off (by omega) (h.rw_ s hs) hw (hz s hs)]
   exact h.one s hs
  refine ⟨ins_ev (by omega) h.rw_ hw, fun x hx => ?_, ?_⟩
  ·rcases ins_mem hx with rfl | ⟨s, hs, rfl⟩
   ·rw [hk]; exact ⟨hkm, h1⟩
   ·exact ro s hs
  ·unfold insL
   split
   ·next hlt =>
    have hge : ∀ s ∈ r :: rs, k < leadN s := fun s hs => by
     rcases List.mem_cons.1 hs with rfl | hs
     ·exact hlt
     ·have := (h.hd s hs).1; omega
    have e : (r :: rs).map (red p k w) = r :: rs := by
     refine (List.map_congr_left fun s hs => ?_).trans (List.map_id _)
     exact red_0 (by omega) (h.rw_ s hs) hw (lead_low (hge s hs))
    rw [e]
    exact List.pairwise_cons.2 ⟨fun s hs => ⟨by rw [hk]; exact hge s hs, hz s hs⟩, h.pw⟩
   ·next hlt =>
    have hl : leadN r < k := by have := ne r (by simp); omega
    refine List.pairwise_cons.2 ⟨fun x hx => ?_, (ins_rref hp hw hk hkm h1 h.cons fun s hs => hz s (by simp [hs])).pw⟩
    have er := h.rw_ r (by simp)
    rw [rl r (by simp)]
    rcases ins_mem hx with rfl | ⟨s, hs, rfl⟩
    ·rw [hk]; exact ⟨hl, red_k er hw h1⟩
    ·rw [rl s (by simp [hs]), red_off (by omega) er hw (hz s (by simp [hs]))]
     exact h.hd s hs
end
def fndR (k : Nat) (B : List (List Int)) : Nat := B.findIdx fun r => r.getD k 0 != 0
def othR (i : Nat) (B : List (List Int)) : List (List Int) := (B.set i (B.getD 0 [])).drop 1
def wB (p : Int) (k : Nat) (B : List (List Int)) : List Int := normW p k (B.getD (fndR k B) [])
def stepB (p : Int) (k : Nat) (s : List (List Int) × List (List Int)) : List (List Int) × List (List Int) :=
 if fndR k s.2 = s.2.length then s else (s.1.map (red p k (wB p k s.2)) ++ [wB p k s.2], (othR (fndR k s.2) s.2).map (red p k (wB p k s.2)))
section
variable {p : Int} {m : Nat} {rows rs a b c A B R : List (List Int)} {v w r x : List Int} {k i : Nat}
theorem fnd_le : fndR k B <= B.length := List.findIdx_le_length
theorem fnd_get (h : fndR k B < B.length) : (B.getD (fndR k B) []).getD k 0 ≠ 0 := by
 have := List.findIdx_getElem (w := h)
 have e : B.getD (fndR k B) [] = B[fndR k B] := by rw [List.getD_eq_getElem?_getD, List.getElem?_eq_getElem h]; rfl
 rw [e]
 simpa [fndR] using this
theorem fnd_none (h : fndR k B = B.length) : ∀ x ∈ B, x.getD k 0 = 0 := fun x hx => by
 have := (List.findIdx_eq_length.1 h) x hx
 simpa using this
theorem get_mem (h : i < B.length) : B.getD i [] ∈ B := by
 rw [List.getD_eq_getElem?_getD, List.getElem?_eq_getElem h]
 exact List.getElem_mem h
theorem oth_mem (h : i < B.length) (hx : x ∈ othR i B) : x ∈ B := by
 match B, i with
 | b :: bs, 0 => simpa [othR] using Or.inr hx
 | b :: bs, j + 1 =>
  have hx : x ∈ bs.set j b := by simpa [othR] using hx
  rcases List.mem_or_eq_of_mem_set hx with h | h
  ·exact List.mem_cons_of_mem _ h
  ·rw [h]; exact List.mem_cons_self
theorem mem_oth (h : i < B.length) (hx : x ∈ B) : x = B.getD i [] \/ x ∈ othR i B := by
 match B, i with
 | b :: bs, 0 =>
  rcases List.mem_cons.1 hx with h | h
  ·exact .inl (by simpa using h)
  ·exact .inr (by simpa [othR] using h)
 | b :: bs, j + 1 =>
  have e : othR (j + 1) (b :: bs) = bs.set j b := by simp [othR]
  have hj : j < bs.length := by simpa using h
  rw [e]
  rcases List.mem_cons.1 hx with h | h
  ·exact .inr (h ▸ List.mem_set hj _)
  ·obtain ⟨t, ht, rfl⟩ := List.mem_iff_getElem.1 h
   by_cases e : t = j
   ·subst e
    exact .inl (by simp [List.getD_eq_getElem?_getD, ht])
   ·refine .inr (List.mem_iff_getElem.2 ⟨t, by simpa using ht, ?_⟩)
    rw [List.getElem_set_ne (fun h => e h.symm)]
theorem ins_all : ∀ {rows : List (List Int)}, (∀ x ∈ rows, leadN x < k) -> insL p k w rows = rows.map (red p k w) ++ [w]
 | [], _ => rfl
 | r :: rs, h => by
  have := h r (by simp)
  unfold insL
  rw [if_neg (by omega), ins_all fun x hx => h x (by simp [hx])]; rfl
structure BI (p : Int) (m k : Nat) (orig : List (List Int)) (s : List (List Int) × List (List Int)) : Prop where
 rref : Rref p m s.1
 rwb : Rw p m s.2
 lt : ∀ x ∈ s.1, leadN x < k
 low : ∀ x ∈ s.2, ∀ c < k, x.getD c 0 = 0
 same : SameS p m (s.1 ++ s.2) orig
theorem low_succ (h : ∀ c < k, x.getD c 0 = 0) (h2 : x.getD k 0 = 0) : ∀ c < k + 1, x.getD c 0 = 0 := fun c hc => by
 by_cases e : c = k
 ·rw [e]; exact h2
 ·exact h c (by omega)
theorem BI.step (hp : IsP p) {orig : List (List Int)} {s : List (List Int) × List (List Int)} (hk : k < m) (h : BI p m k orig s) : BI p m (k + 1) orig (stepB p k s) := by
 have hp1 := hp.lo
 unfold stepB
 split
 ·next hn => exact ⟨h.rref, h.rwb, fun x hx => by have := h.lt x hx; omega, fun x hx => low_succ (h.low x hx) (fnd_none hn x hx), h.same⟩
 ·next hn =>
  have hlt : fndR k s.2 < s.2.length := Nat.lt_of_le_of_ne fnd_le hn
  have hm := get_mem hlt
  have ew := h.rwb _ hm
  have hne := fnd_get hlt
  have hw : Ev p m (wB p k s.2) := normW_ev (p := p) (k := k) (by omega) ew
  have wk : (wB p k s.2).getD k 0 = 1 := normW_k hp ew hne
  have wl : ∀ c < k, (wB p k s.2).getD c 0 = 0 := fun c hc => normW_0 (h.low _ hm c hc)
  have hl : leadN (wB p k s.2) = k := lead_is (by rw [wk]; decide) wl
  have hins := ins_all (p := p) (w := wB p k s.2) h.lt
  have hwz : ∀ x ∈ s.1, (wB p k s.2).getD (leadN x) 0 = 0 := fun x hx => wl _ (h.lt x hx)
  have hr := ins_rref (by omega) hw hl hk wk h.rref hwz
  have ho : Rw p m (othR (fndR k s.2) s.2) := fun x hx => h.rwb x (oth_mem hlt hx)
  have hom : Rw p m ((othR (fndR k s.2) s.2).map (red p k (wB p k s.2))) := fun x hx => by
   obtain ⟨y, hy, rfl⟩ := List.mem_map.1 hx
   exact red_ev (by omega) (ho y hy) hw
  have hab := h.rref.rw_.app h.rwb
  rw [<- hins]
  refine ⟨hr, hom, fun x hx => ?_, fun x hx => ?_, SameS.tr ?_ h.same⟩
  ·rcases ins_mem hx with rfl | ⟨y, hy, rfl⟩
   ·omega
   ·rw [red_lead (by omega) (h.rref.rw_ y hy) hw hl (h.rref.one y hy).1 (hwz y hy) (by have := h.lt y hy; omega)]
    have := h.lt y hy; omega
  ·obtain ⟨y, hy, rfl⟩ := List.mem_map.1 hx
   have ey := ho y hy
   refine low_succ (fun c hc => ?_) (red_k ey hw wk)
   rw [red_off (by omega) ey hw (wl c hc)]
   exact h.low y (oth_mem hlt hy) c hc
  ·have h2 := hr.rw_.app hom
   have sw : Spn p m (s.1 ++ s.2) (wB p k s.2) := (Spn.mem (by omega) hab (List.mem_append_right _ hm)).scale (by omega) hab
   have sw2 : Spn p m (insL p k (wB p k s.2) s.1 ++ (othR (fndR k s.2) s.2).map (red p k (wB p k s.2))) (wB p k s.2) := Spn.mem (by omega) h2 (List.mem_append_left _ ins_w)
   refine SameS.of (by omega) h2 hab (fun x hx => ?_) fun x hx => ?_
   ·rcases List.mem_append.1 hx with hx | hx
    ·rcases ins_mem hx with rfl | ⟨y, hy, rfl⟩
     ·exact sw
     ·exact red_spn (by omega) hab (Spn.mem (by omega) hab (List.mem_append_left _ hy)) sw
    ·obtain ⟨y, hy, rfl⟩ := List.mem_map.1 hx
     exact red_spn (by omega) hab (Spn.mem (by omega) hab (List.mem_append_right _ (oth_mem hlt hy))) sw
   ·rcases List.mem_append.1 hx with hx | hx
    ·exact red_back (by omega) h2 (h.rref.rw_ x hx) hw (Spn.mem (by omega) h2 (List.mem_append_left _ (ins_r hx))) sw2
    ·rcases mem_oth hlt hx with rfl | hx
     ·exact norm_back hp h2 ew hne sw2
     ·exact red_back (by omega) h2 (ho x hx) hw (Spn.mem (by omega) h2 (List.mem_append_right _ (List.mem_map_of_mem hx))) sw2
/-! ### Determinants -/
end
def applyL (p : Int) (M : List (List Int)) (v : List Int) : List Int := M.map fun r => dotL p r v
theorem dotS_zr : ∀ {x y : List Int}, Zr y -> dotS x y = 0
 | [], _, _ => by simp [dotS]
 | _ :: _, [], _ => by simp [dotS]
 | x :: xs, y :: ys, z => by
  have h0 : y = 0 := z 0
  have h1 : Zr ys := fun j => z (j + 1)
  simp only [dotS, h0, dotS_zr h1, Int.mul_zero, Int.add_zero]
theorem dotS_sup : ∀ {x y : List Int} {k : Nat}, Sup k y -> dotS x y = x.getD k 0 * y.getD k 0
 | [], _, _, _ => by simp [dotS]
 | _ :: _, [], _, _ => by simp [dotS]
 | x :: xs, y :: ys, 0, z => by
  have h1 : Zr ys := fun j => z (j + 1) (by omega)
  simp only [dotS, dotS_zr h1, List.getD_cons_zero, Int.add_zero]
 | x :: xs, y :: ys, k + 1, z => by
  have h0 : y = 0 := z 0 (by omega)
  have h1 : Sup k ys := fun j hj => z (j + 1) (by omega)
  simp only [dotS, h0, dotS_sup h1, List.getD_cons_succ, Int.mul_zero, Int.zero_add]
theorem apply_sup {p : Int} {M : List (List Int)} {v : List Int} {j : Nat} (h : Sup j v) : applyL p M v = scaleL p (colL M j) (v.getD j 0) := by
 unfold applyL scaleL colL
 rw [List.map_map]
 refine List.map_congr_left fun r _ => ?_
 unfold dotL
 rw [dotS_sup h]; rfl
def tabB (p : Int) (M : List (List Int)) : Bool := decide (M.length <= 16) && M.all fun r => decide (r.length = (M.getD 0 []).length) && decide (1 <= r.length) && decide (r.length <= 16) && isL p r
def matP (p : Int) (n : Nat) (M : List (List Int)) : Bool := decide (0 < M.length) && tabB p M && decide (M.length = n) && decide ((M.getD 0 []).length = n)
theorem matP_eq {p : Int} {n : Nat} {M : List (List Int)} (h1 : 1 <= n) (h2 : n <= 16) : matP p n M = matB p n M := by
 rw [Bool.eq_iff_iff, matB_iff]
 unfold matP tabB Ev
 simp only [Bool.and_eq_true, decide_eq_true_eq, List.all_eq_true, isL_fp]
 constructor
 ·rintro ⟨⟨⟨_, _, hall⟩, hl⟩, h0⟩
  exact ⟨hl, fun r hr => ⟨(hall r hr).1.1.1.trans h0, (hall r hr).2⟩⟩
 ·rintro ⟨hl, h⟩
  have e0 := (h _ (get_mem (B := M) (i := 0) (by omega))).1
  exact ⟨⟨⟨by omega, by omega, fun r hr => ⟨⟨⟨(h r hr).1.trans e0.symm, by have := (h r hr).1; omega⟩, by have := (h r hr).1; omega⟩, (h r hr).2⟩⟩, hl⟩, e0⟩
open Go.RowKit
/-! ### Rows of the call's own -/
def RowsF (w : World) (B : Nat) (us : List Value) (xss : List (List Int)) : Prop := us.length = xss.length /\ ∀ j (h : j < us.length) (h' : j < xss.length), FrI w B us[j] xss[j]
section
variable {w w' : World} {B B' : Nat} {v u : Value} {us us' : List Value} {xss : List (List Int)} {xs : List Int}
theorem RowsF.nil (w : World) (B : Nat) : RowsF w B [] [] := ⟨rfl, fun j h => by simp at h⟩
theorem RowsF.below (h : RowsF w B us xss) (hb : Below w.heap.size w w') : RowsF w' B us xss := ⟨h.1, fun j a b => (h.2 j a b).below hb⟩
theorem RowsF.app (h : RowsF w B us xss) (ho : OwV w B' v us') (hg : w.grownBy w' v.ownBlock) : RowsF w' B us xss := ⟨h.1, fun j a b => (h.2 j a b).app ho hg⟩
theorem RowsF.snoc (h : RowsF w B us xss) (hu : FrI w B u xs) : RowsF w B (us ++ [u]) (xss ++ [xs]) := by
 refine ⟨by simp [h.1], fun j a b => ?_⟩
 rw [List.length_append] at a
 simp at a
 by_cases hj : j < us.length
 ·have := h.1
  rw [List.getElem_append_left hj, List.getElem_append_left (by omega)]
  exact h.2 j hj (by omega)
 ·obtain rfl : j = us.length := by omega
  have e := h.1
  have h1 : (us ++ [u])[us.length]'(by simp) = u := by simp
  have h2 : (xss ++ [xs])[us.length]'(by simp [e]) = xs := by simp [e]
  rw [h1, h2]; exact hu
theorem RowsF.re (h : RowsF w B us xss) (ho : OwV w B v us) : Re w v xss := by
 have hl := h.1
 rcases ho.2 with ⟨rfl, h2⟩ | ⟨g, cap, cur, rfl, hB, hh, h3, h4, h5, h6⟩
 ·have : us.length = 0 := by simpa using h2
  have e : xss = [] := List.eq_nil_of_length_eq_zero (by omega)
  rw [e]; exact Re.nil w
 ·simp only [maxLen] at h4
  refine ⟨_, cap, by rw [hl], by omega, by omega, .inr ⟨g, 0, rfl, fun j hj => ⟨us[j]'(by omega), ?_, (h.2 j (by omega) hj).el⟩⟩⟩
  have := World.ownsRow.cells ho (g := g) rfl j (us[j]'(by omega)) (by simp)
  rw [addz] at this
  rw [Nat.zero_add]; exact this
end
/-! ### Putting a row -/
end Go.Proofs.YteaaepbnoiecoaaGreat
