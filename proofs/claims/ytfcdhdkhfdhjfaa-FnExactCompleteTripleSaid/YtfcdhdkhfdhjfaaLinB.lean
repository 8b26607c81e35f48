/-
  Reduced rows by putting one row after the other, and by columns: both give the same. No program in sight.
-/
import Derived.Test.YtfcdhdkhfdhjfaaLinA
import Derived.Test.YtfcdhdkhfdhjfaaJai
namespace Go.Proofs.Ytfcdhdkhfdhjfaa

def red (p : Int) (k : Nat) (w x : List Int) : List Int := plusL p x w (-(x.getD k 0))
def restL (p : Int) (rows : List (List Int)) (v : List Int) : List Int := rows.foldl (fun v r => red p (leadN r) r v) v
def insL (p : Int) (k : Nat) (w : List Int) : List (List Int) → List (List Int)
  | [] => [w]
  | r :: rs => if k < leadN r then w :: (r :: rs).map (red p k w) else red p k w r :: insL p k w rs
def normW (p : Int) (k : Nat) (r : List Int) : List Int := scaleL p r (invL p (r.getD k 0))
def putRow (p : Int) (rows : List (List Int)) (v : List Int) : List (List Int) :=
  if leadN (restL p rows v) = (restL p rows v).length then rows else insL p (leadN (restL p rows v)) (normW p (leadN (restL p rows v)) (restL p rows v)) rows
def redL (p : Int) (lists : List (List Int)) : List (List Int) := lists.foldl (putRow p) []
section
variable {p : Int} {m : Nat} {rows rs a b c : List (List Int)} {v w r x : List Int} {k : Nat}
theorem Spn.sub (hp : 1 ≤ p) (hr : Rw p m rows) (_ : Rw p m a) (h : ∀ r ∈ a, r ∈ rows) (hv : Spn p m a v) : Spn p m rows v :=
  Spn.trans hp hr (fun r h1 => Spn.mem hp hr (h r h1)) hv
theorem SameS.app (hp : 1 ≤ p) (ha : Rw p m a) (hb : Rw p m b) (hc : Rw p m c) (h : SameS p m a b) : SameS p m (a ++ c) (b ++ c) := by
  refine SameS.of hp (ha.app hc) (hb.app hc) (fun r hr => ?_) fun r hr => ?_
  · rcases List.mem_append.1 hr with h1 | h1
    · exact Spn.sub hp (hb.app hc) hb (fun r h => List.mem_append_left _ h) ((h r).1 (Spn.mem hp ha h1))
    · exact Spn.mem hp (hb.app hc) (List.mem_append_right _ h1)
  · rcases List.mem_append.1 hr with h1 | h1
    · exact Spn.sub hp (ha.app hc) ha (fun r h => List.mem_append_left _ h) ((h r).2 (Spn.mem hp hb h1))
    · exact Spn.mem hp (ha.app hc) (List.mem_append_right _ h1)
theorem red_ev (hp : 1 ≤ p) (hx : Ev p m x) (hw : Ev p m w) : Ev p m (red p k w x) := hx.plus hp hw
theorem red_at (hx : Ev p m x) (hw : Ev p m w) (j : Nat) : (red p k w x).getD j 0 = (x.getD j 0 - x.getD k 0 * w.getD j 0) % p := by
  unfold red
  rw [pat hx hw, Int.neg_mul]; rfl
theorem red_0 (hp : 1 ≤ p) (hx : Ev p m x) (hw : Ev p m w) (h : x.getD k 0 = 0) : red p k w x = x := plus_dvd hp hx hw (by rw [h]; simp)
theorem red_off (hp : 1 ≤ p) (hx : Ev p m x) (hw : Ev p m w) {j : Nat} (h : w.getD j 0 = 0) : (red p k w x).getD j 0 = x.getD j 0 := by
  rw [red_at hx hw, h, Int.mul_zero, Int.sub_zero, hx.md hp]
theorem red_k (hx : Ev p m x) (hw : Ev p m w) (h : w.getD k 0 = 1) : (red p k w x).getD k 0 = 0 := by
  rw [red_at hx hw, h, Int.mul_one, Int.sub_self, Int.zero_emod]
theorem red_spn (hp : 1 ≤ p) (hr : Rw p m rows) (hx : Spn p m rows x) (hw : Spn p m rows w) : Spn p m rows (red p k w x) := hx.plus hp hr hw
theorem red_back (hp : 1 ≤ p) (hr : Rw p m rows) (ex : Ev p m x) (ew : Ev p m w) (hx : Spn p m rows (red p k w x)) (hw : Spn p m rows w) : Spn p m rows x := by
  have e : plusL p (red p k w x) w (x.getD k 0) = x := by
    unfold red
    rw [plus_same hp ex ew, plus_dvd hp ex ew (by rw [show -(x.getD k 0) + x.getD k 0 = 0 by omega]; rfl)]
  rw [← e]
  exact hx.plus hp hr hw
theorem scale_ev {q : Int} (hp : 1 ≤ p) (h : Ev p m r) : Ev p m (scaleL p r q) := ⟨by rw [scaleL_len, h.1], scaleL_fp hp⟩
theorem scale_plus {q : Int} (hp : 1 ≤ p) (h : Ev p m r) : scaleL p r q = plusL p (zeroL m) r q :=
  (scale_ev hp h).ext ((zeroL_ev hp).plus hp h) fun j => by rw [scale_at, pat (zeroL_ev hp) h, zero_at, Int.zero_add, Int.mul_comm]
theorem Spn.scale {q : Int} (hp : 1 ≤ p) (hr : Rw p m rows) (h : Spn p m rows r) : Spn p m rows (scaleL p r q) := by
  rw [scale_plus hp (h.ev hp hr)]
  exact (Spn.zr hp hr).plus hp hr h
theorem normW_ev (hp : 1 ≤ p) (h : Ev p m r) : Ev p m (normW p k r) := scale_ev hp h
theorem normW_k (hp : IsP p) (h : Ev p m r) (h0 : r.getD k 0 ≠ 0) : (normW p k r).getD k 0 = 1 := by
  have hb := h.at (p := p) (by have := hp.lo; omega) k
  unfold normW
  rw [scale_at, (inv_tab hp (by omega) hb.2).2.1]
theorem normW_0 {j : Nat} (h0 : r.getD j 0 = 0) : (normW p k r).getD j 0 = 0 := by
  unfold normW
  rw [scale_at, h0, Int.zero_mul, Int.zero_emod]
theorem normW_lead (hp : IsP p) (h : Ev p m r) (h0 : leadN r < m) : leadN (normW p (leadN r) r) = leadN r :=
  lead_is (by rw [normW_k hp h (lead_nz r (by rw [h.1]; exact h0))]; decide) fun j hj => normW_0 (lead_low hj)
theorem norm_back (hp : IsP p) (hr : Rw p m rows) (er : Ev p m r) (h0 : r.getD k 0 ≠ 0) (h : Spn p m rows (normW p k r)) : Spn p m rows r := by
  have hp1 : 1 ≤ p := by have := hp.lo; omega
  have hb := er.at hp1 k
  have hi := (inv_tab hp (a := r.getD k 0) (by omega) hb.2).2.1
  have e : scaleL p (normW p k r) (r.getD k 0) = r := (scale_ev hp1 (normW_ev hp1 er)).ext er fun j => by
    unfold normW
    rw [scale_at, scale_at, Int.mul_emod, Int.emod_emod, ← Int.mul_emod, Int.mul_assoc, Int.mul_comm (invL _ _), Int.mul_emod, hi, Int.mul_one, Int.emod_emod, er.md hp1]
  rw [← e]
  exact h.scale hp1 hr
/-! ### Putting a row -/
theorem rest_ev (hp : 1 ≤ p) : ∀ {rows : List (List Int)} {v : List Int}, Rw p m rows → Ev p m v → Ev p m (restL p rows v)
  | [], _, _, h => h
  | r :: rs, v, hr, h => show Ev p m (restL p rs (red p (leadN r) r v)) from rest_ev hp hr.cons.2 (red_ev hp h hr.cons.1)
theorem rest_low (hp : 1 ≤ p) {j : Nat} : ∀ {rows : List (List Int)} {v : List Int}, Rw p m rows → Ev p m v → (∀ s ∈ rows, s.getD j 0 = 0) → v.getD j 0 = 0 → (restL p rows v).getD j 0 = 0
  | [], _, _, _, _, h => h
  | r :: rs, v, hr, hv, hs, h => show (restL p rs (red p (leadN r) r v)).getD j 0 = 0 from rest_low hp hr.cons.2 (red_ev hp hv hr.cons.1) (fun s h1 => hs s (by simp [h1])) (by rw [red_off hp hv hr.cons.1 (hs r (by simp))]; exact h)
theorem rest_lead (hp : 1 ≤ p) : ∀ {rows : List (List Int)} {v : List Int}, Rref p m rows → Ev p m v → ∀ s ∈ rows, (restL p rows v).getD (leadN s) 0 = 0
  | [], _, _, _, s, hs => by simp at hs
  | r :: rs, v, h, hv, s, hs => by
    have e := red_ev hp (k := leadN r) hv h.rw_.cons.1
    show (restL p rs (red p (leadN r) r v)).getD (leadN s) 0 = 0
    rcases List.mem_cons.1 hs with rfl | hs
    · exact rest_low hp h.rw_.cons.2 e (fun t ht => lead_low (h.hd t ht).1) (red_k hv h.rw_.cons.1 (h.one _ (by simp)).2)
    · exact rest_lead hp h.cons e s hs
theorem rest_spn (hp : 1 ≤ p) : ∀ {rows rs : List (List Int)} {v : List Int}, Rw p m rs → (∀ r ∈ rows, r ∈ rs) → Spn p m rs v → Spn p m rs (restL p rows v)
  | [], _, _, _, _, h => h
  | r :: rows, rs, v, hr, hs, h => show Spn p m rs (restL p rows (red p (leadN r) r v)) from rest_spn hp hr (fun x hx => hs x (by simp [hx])) (red_spn hp hr h (Spn.mem hp hr (hs r (by simp))))
theorem rest_back (hp : 1 ≤ p) : ∀ {rows rs : List (List Int)} {v : List Int}, Rw p m rs → (∀ r ∈ rows, r ∈ rs) → Ev p m v → Spn p m rs (restL p rows v) → Spn p m rs v
  | [], _, _, _, _, _, h => h
  | r :: rows, rs, v, hr, hs, hv, h =>
    have e := hr r (hs r (by simp))
    red_back hp hr hv e (rest_back hp hr (fun x hx => hs x (by simp [hx])) (red_ev hp hv e) h) (Spn.mem hp hr (hs r (by simp)))
theorem ins_mem : ∀ {rows : List (List Int)} {x : List Int}, x ∈ insL p k w rows → x = w ∨ ∃ s ∈ rows, x = red p k w s
  | [], x, h => .inl (by simpa [insL] using h)
  | r :: rs, x, h => by
    unfold insL at h
    split at h
    · rcases List.mem_cons.1 h with h | h
      · exact .inl h
      · obtain ⟨s, hs, e⟩ := List.mem_map.1 h
        exact .inr ⟨s, hs, e.symm⟩
    · rcases List.mem_cons.1 h with h | h
      · exact .inr ⟨r, by simp, h⟩
      · rcases ins_mem h with h | ⟨s, hs, e⟩
        · exact .inl h
        · exact .inr ⟨s, by simp [hs], e⟩
theorem ins_w : ∀ {rows : List (List Int)}, w ∈ insL p k w rows
  | [] => by simp [insL]
  | r :: rs => by
    unfold insL
    split
    · exact List.mem_cons_self
    · exact List.mem_cons_of_mem _ ins_w
theorem ins_r : ∀ {rows : List (List Int)} {s : List Int}, s ∈ rows → red p k w s ∈ insL p k w rows
  | [], s, h => by simp at h
  | r :: rs, s, h => by
    unfold insL
    split
    · exact List.mem_cons_of_mem _ (List.mem_map_of_mem h)
    · rcases List.mem_cons.1 h with rfl | h
      · exact List.mem_cons_self
      · exact List.mem_cons_of_mem _ (ins_r h)
theorem ins_ev (hp : 1 ≤ p) (hr : Rw p m rows) (hw : Ev p m w) : Rw p m (insL p k w rows) := fun x hx => by
  rcases ins_mem hx with rfl | ⟨s, hs, rfl⟩
  · exact hw
  · exact red_ev hp (hr s hs) hw
theorem red_lead (hp : 1 ≤ p) {s : List Int} (hs : Ev p m s) (hw : Ev p m w) (hk : leadN w = k) (h1 : leadN s < m) (hz : w.getD (leadN s) 0 = 0) (hne : leadN s ≠ k) : leadN (red p k w s) = leadN s := by
  rcases Nat.lt_or_gt_of_ne hne with h | h
  · refine lead_is ?_ fun j hj => ?_
    · rw [red_off hp hs hw hz]; exact lead_nz s (by rw [hs.1]; exact h1)
    · rw [red_off hp hs hw (lead_low (by omega))]; exact lead_low hj
  · rw [red_0 hp hs hw (lead_low h)]
theorem ins_rref (hp : 2 ≤ p) (hw : Ev p m w) (hk : leadN w = k) (hkm : k < m) (h1 : w.getD k 0 = 1) : ∀ {rows : List (List Int)}, Rref p m rows → (∀ s ∈ rows, w.getD (leadN s) 0 = 0) → Rref p m (insL p k w rows)
  | [], _, _ => ⟨fun x hx => by simp [insL] at hx; exact hx ▸ hw, fun x hx => by simp [insL] at hx; subst hx; rw [hk]; exact ⟨hkm, h1⟩, by simp [insL]⟩
  | r :: rs, h, hz => by
    have ne : ∀ s ∈ r :: rs, leadN s ≠ k := fun s hs e => by have := hz s hs; rw [e, h1] at this; exact absurd this (by decide)
    have rl : ∀ s ∈ r :: rs, leadN (red p k w s) = leadN s := fun s hs => red_lead (by omega) (h.rw_ s hs) hw hk (h.one s hs).1 (hz s hs) (ne s hs)
    have ro : ∀ s ∈ r :: rs, leadN (red p k w s) < m ∧ (red p k w s).getD (leadN (red p k w s)) 0 = 1 := fun s hs => by
      rw [rl s hs, red_off (by omega) (h.rw_ s hs) hw (hz s hs)]
      exact h.one s hs
    refine ⟨ins_ev (by omega) h.rw_ hw, fun x hx => ?_, ?_⟩
    · rcases ins_mem hx with rfl | ⟨s, hs, rfl⟩
      · rw [hk]; exact ⟨hkm, h1⟩
      · exact ro s hs
    · unfold insL
      split
      · next hlt =>
        have hge : ∀ s ∈ r :: rs, k < leadN s := fun s hs => by
          rcases List.mem_cons.1 hs with rfl | hs
          · exact hlt
          · have := (h.hd s hs).1; omega
        have e : (r :: rs).map (red p k w) = r :: rs := by
          refine (List.map_congr_left fun s hs => ?_).trans (List.map_id _)
          exact red_0 (by omega) (h.rw_ s hs) hw (lead_low (hge s hs))
        rw [e]
        exact List.pairwise_cons.2 ⟨fun s hs => ⟨by rw [hk]; exact hge s hs, hz s hs⟩, h.pw⟩
      · next hlt =>
        have hl : leadN r < k := by have := ne r (by simp); omega
        refine List.pairwise_cons.2 ⟨fun x hx => ?_, (ins_rref hp hw hk hkm h1 h.cons fun s hs => hz s (by simp [hs])).pw⟩
        have er := h.rw_ r (by simp)
        rw [rl r (by simp)]
        rcases ins_mem hx with rfl | ⟨s, hs, rfl⟩
        · rw [hk]; exact ⟨hl, red_k er hw h1⟩
        · rw [rl s (by simp [hs]), red_off (by omega) er hw (hz s (by simp [hs]))]
          exact h.hd s hs
theorem ins_same (hp : 1 ≤ p) (hr : Rw p m rows) (hw : Ev p m w) : SameS p m (insL p k w rows) (w :: rows) := by
  have h1 := ins_ev (k := k) hp hr hw
  have h2 := Rw.mk_ hw hr
  refine SameS.of hp h1 h2 (fun x hx => ?_) fun x hx => ?_
  · rcases ins_mem hx with rfl | ⟨s, hs, rfl⟩
    · exact Spn.head hp h2
    · exact red_spn hp h2 (Spn.mem hp h2 (by simp [hs])) (Spn.head hp h2)
  · rcases List.mem_cons.1 hx with rfl | hx
    · exact Spn.mem hp h1 ins_w
    · exact red_back hp h1 (hr x hx) hw (Spn.mem hp h1 (ins_r hx)) (Spn.mem hp h1 ins_w)
theorem put_rref (hp : IsP p) (h : Rref p m rows) (hv : Ev p m v) : Rref p m (putRow p rows v) ∧ SameS p m (putRow p rows v) (v :: rows) := by
  have hp1 := hp.lo
  have he := rest_ev (by omega) h.rw_ hv
  have h2 := Rw.mk_ hv h.rw_
  unfold putRow
  split
  · next hl =>
    refine ⟨h, SameS.of (by omega) h.rw_ h2 (fun r hr => Spn.mem (by omega) h2 (by simp [hr])) fun r hr => ?_⟩
    rcases List.mem_cons.1 hr with rfl | hr
    · refine rest_back (rows := rows) (by omega) h.rw_ (fun x hx => hx) hv ?_
      have e : restL p rows r = zeroL m := he.ext (zeroL_ev (by omega)) fun j => by
        rw [zero_at]
        by_cases hj : j < (restL p rows r).length
        · exact lead_low (by omega)
        · exact out_at (by omega)
      rw [e]
      exact Spn.zr (by omega) h.rw_
    · exact Spn.mem (by omega) h.rw_ hr
  · next hl =>
    have hlt : leadN (restL p rows v) < m := by have := leadN_le (restL p rows v); rw [he.1] at this hl; omega
    have hne := lead_nz (restL p rows v) (by rw [he.1]; exact hlt)
    have hw := normW_ev (p := p) (k := leadN (restL p rows v)) (by omega) he
    have hz : ∀ s ∈ rows, (normW p (leadN (restL p rows v)) (restL p rows v)).getD (leadN s) 0 = 0 := fun s hs => normW_0 (rest_lead (by omega) h hv s hs)
    refine ⟨ins_rref (by omega) hw (normW_lead hp he hlt) hlt (normW_k hp he hne) h hz, (ins_same (by omega) h.rw_ hw).tr ?_⟩
    have h3 := Rw.mk_ hw h.rw_
    refine SameS.of (by omega) h3 h2 (fun r hr => ?_) fun r hr => ?_
    · rcases List.mem_cons.1 hr with rfl | hr
      · exact Spn.scale (by omega) h2 (rest_spn (by omega) h2 (fun x hx => by simp [hx]) (Spn.head (by omega) h2))
      · exact Spn.mem (by omega) h2 (by simp [hr])
    · rcases List.mem_cons.1 hr with rfl | hr
      · exact rest_back (rows := rows) (by omega) h3 (fun x hx => by simp [hx]) hv (norm_back hp h3 he hne (Spn.head (by omega) h3))
      · exact Spn.mem (by omega) h3 (by simp [hr])
theorem red_fold (hp : IsP p) : ∀ {lists rows : List (List Int)}, Rref p m rows → Rw p m lists → Rref p m (lists.foldl (putRow p) rows) ∧ SameS p m (lists.foldl (putRow p) rows) (rows ++ lists)
  | [], rows, h, _ => ⟨h, by rw [List.append_nil]; exact SameS.rfl'⟩
  | v :: lists, rows, h, hl => by
    have hp1 := hp.lo
    obtain ⟨h1, h2⟩ := put_rref hp h hl.cons.1
    obtain ⟨h3, h4⟩ := red_fold hp h1 hl.cons.2
    refine ⟨h3, h4.tr ((SameS.app (by omega) h1.rw_ (Rw.mk_ hl.cons.1 h.rw_) hl.cons.2 h2).tr ?_)⟩
    have a1 : Rw p m (v :: rows ++ lists) := (Rw.mk_ hl.cons.1 h.rw_).app hl.cons.2
    have a2 : Rw p m (rows ++ v :: lists) := h.rw_.app hl
    exact SameS.of (by omega) a1 a2 (fun r hr => Spn.mem (by omega) a2 (by simp only [List.mem_append, List.mem_cons, List.cons_append] at hr ⊢; rcases hr with h | h | h <;> simp [h])) fun r hr => Spn.mem (by omega) a1 (by simp only [List.mem_append, List.mem_cons, List.cons_append] at hr ⊢; rcases hr with h | h | h <;> simp [h])
theorem redL_rref (hp : IsP p) (hl : Rw p m rows) : Rref p m (redL p rows) ∧ SameS p m (redL p rows) rows := red_fold hp Rref.nil hl
end
end Go.Proofs.Ytfcdhdkhfdhjfaa
