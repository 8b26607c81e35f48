/-
  Rows of a table of the call's own, marked in parts; triples out of them.
-/
import Derived.Test.YtmplpoccalccoaaLbC
import Derived.Test.YtmplpoccalccoaaJas
namespace Go.Proofs.Ytmplpoccalccoaa
open Go.RowKit

/-- A table of rows in block g, each row in a block of its own, all blocks between lo and hi. -/
structure TG (w : World) (lo hi g : Nat) (us : List Value) (xss : List (List Int)) : Prop where
  rows : RowsI w lo hi us xss
  lo_ : lo ≤ g
  hi_ : g < hi
  sz : hi ≤ w.heap.size
  cells : ∀ j (h : j < us.length), w.cell? ⟨g, j, none⟩ = some us[j]
  ne : ∀ z ∈ us, z.ownBlock ≠ some g
theorem FrI.owI {w : World} {B : Nat} {v : Value} {xs : List Int} (h : FrI w B v xs) : OwI w B v xs := by
  obtain ⟨g, cap, rfl, h⟩ := h
  exact .inr ⟨g, cap, cap, rfl, h⟩
theorem FrR.tg {w : World} {B : Nat} {v : Value} {us : List Value} {xss : List (List Int)} (h : FrR w B v us xss) : ∃ g cap, v = .slice (some ⟨g, 0, none⟩) us.length cap ∧ us.length ≤ cap ∧ cap ≤ 9223372036854775807 ∧ TG w B w.heap.size g us xss := by
  obtain ⟨g0, cap0, e0, hB, hz, hc1, hc2⟩ := h.lt
  obtain ⟨g, cap, rfl, h1, h2, h3, h4⟩ := h
  cases e0
  simp only [maxLen] at hc2
  have hcell : ∀ j (h : j < us.length), w.cell? ⟨g0, j, none⟩ = some us[j] := fun j hj => by
    have h := World.ownsRow.cells h1 (g := g0) rfl j us[j] (List.getElem?_eq_getElem hj)
    rw [addz] at h
    exact h
  have hblk : ∀ z ∈ us, ∃ k, z.ownBlock = some k ∧ B ≤ k ∧ k < w.heap.size := fun z hz => by
    obtain ⟨j, hj, rfl⟩ := List.mem_iff_getElem.1 hz
    exact (h3 j hj (by omega)).blk
  refine ⟨g0, cap0, rfl, by omega, by omega, ⟨⟨h2, fun j a b => (h3 j a b).owI, fun z hz k hk => ?_, ?_⟩, hB, hz, Nat.le_refl _, hcell, fun z hz => ?_⟩⟩
  · obtain ⟨k', e, _, h5⟩ := hblk z hz
    rw [e] at hk; cases hk; exact h5
  · refine h4.imp_of_mem fun {a b} ha hb hne k hk e => ?_
    exact hne (by rw [hk, e])
  · obtain ⟨j, hj, rfl⟩ := List.mem_iff_getElem.1 hz
    have hr := (h3 j hj (by omega))
    rcases apart (hr.own) (show OwV w B _ us from h1) with h5 | h5
    · rw [h5]; simp
    · exact fun e => h5 (by rw [e]; rfl)
section
variable {w w' : World} {lo hi g n : Nat} {us : List Value} {xss P M S : List (List Int)}
theorem OwI.keepB {B : Nat} {v : Value} {xs : List Int} (h : OwI w B v xs) (he : ∀ k, v.ownBlock = some k → w'.heap[k]? = w.heap[k]?) : OwI w' B v xs := by
  rcases h with h | ⟨g, cap, cap', rfl, h⟩
  · exact .inl h
  · refine .inr ⟨g, cap, cap', rfl, ⟨h.1, ?_⟩⟩
    rcases h.2 with h2 | ⟨g1, c1, cur, e, h3, h4, h5⟩
    · exact .inl h2
    · cases e
      exact .inr ⟨_, _, cur, rfl, h3, by rw [he g rfl]; exact h4, h5⟩
theorem TG.keep (h : TG w lo hi g us xss) (hz : hi ≤ w'.heap.size) (hk : ∀ b, lo ≤ b → b < hi → w'.heap[b]? = w.heap[b]?) : TG w' lo hi g us xss := by
  refine ⟨⟨h.rows.len, fun j a b => (h.rows.rows j a b).keepB fun k hk' => hk k ?_ (h.rows.hib _ (List.getElem_mem a) k hk'), h.rows.hib, h.rows.pw⟩, h.lo_, h.hi_, hz, fun j hj => ?_, h.ne⟩
  · exact ((h.rows.rows j a b).blk k hk').1
  · rw [World.cell?_of_block (w := w) (hk g h.lo_ h.hi_)]; exact h.cells j hj
theorem TG.chg {a b : Nat} (h : TG w lo hi g us xss) (hc : Chg a b w w') (hr : hi ≤ a ∨ b ≤ lo) : TG w' lo hi g us xss :=
  h.keep (Nat.le_trans h.sz hc.size) fun k h1 h2 => hc.block k (by have := h.sz; omega) (by omega)
theorem TG.below (h : TG w lo hi g us xss) (hb : Below w.heap.size w w') : TG w' lo hi g us xss :=
  h.keep (Nat.le_trans h.sz hb.size) fun k _ h2 => hb.block k (by have := h.sz; omega)
/-- A part of the table, read. -/
theorem TG.rs (h : TG w lo hi g us (P ++ M ++ S)) (cap : Nat) : Rs w (.slice (some ⟨g, P.length, none⟩) M.length cap) M := by
  have hl := h.rows.len
  rw [List.length_append, List.length_append] at hl
  refine ⟨_, cap, rfl, .inr ⟨g, P.length, rfl, fun j hj => ⟨us[P.length + j]'(by omega), h.cells _ (by omega), ?_⟩⟩⟩
  have hr := h.rows.rows (P.length + j) (by omega) (by rw [List.length_append, List.length_append]; omega)
  have e : (P ++ M ++ S)[P.length + j]'(by rw [List.length_append, List.length_append]; omega) = M[j] := by
    rw [List.getElem_append_left (by rw [List.length_append]; omega), List.getElem_append_right (by omega)]
    congr 1; omega
  rw [e] at hr
  exact hr.sl
end
theorem mid_set {P X S : List (List Int)} {m : Nat} {y : List Int} (hm : m < X.length) : (P ++ X ++ S).set (P.length + m) y = P ++ X.set m y ++ S := by
  rw [List.set_append_left _ _ (by rw [List.length_append]; omega), List.set_append_right _ _ (by omega)]
  congr 3; omega
theorem markseg_c {lo hi g cap : Nat} {us : List Value} {P M S : List (List Int)} {k : Int} {w : World} (hv : TG w lo hi g us (P ++ M ++ S)) (hS : sumL M ≤ 10000000) (hl : M.length ≤ 1048576) (h3 : ∀ xs ∈ M, xs.length ≤ 1048576) (hk0 : 0 ≤ k) (hk : k ≤ 10000000000) :
    Calls Try.prog 27 #[.slice (some ⟨g, P.length, none⟩) M.length cap, .int .i64 k] w fun e w' => e = .returned (.int .i64 (k + sumL M)) ∧ TG w' lo hi g us (P ++ cntR k M ++ S) ∧ Chg lo hi w w' := by
  obtain ⟨o, ho⟩ : ∃ o, o = P.length := ⟨_, rfl⟩
  obtain ⟨n, hn⟩ : ∃ n, n = M.length := ⟨_, rfl⟩
  have hul := hv.rows.len
  rw [List.length_append, List.length_append, ← ho, ← hn] at hul
  rw [← ho, ← hn]
  rw [← hn] at hl
  have HU := Lib.hid (And.intro hul (And.intro ho hn)); clear hul ho hn
  go_enter Try.func27, Try.ntmps27
  go_wp2
  go_loopw [1, 5] (fun q i wr => ∃ m : Nat, m ≤ n ∧ i = .int .i64 m ∧ q = .int .i64 (k + sumL (M.take m)) ∧ TG wr lo hi g us (P ++ (cntR k (M.take m) ++ M.drop m) ++ S) ∧ Chg lo hi w wr)
    (fun _ i _ => n - (intOf i).toNat)
  case atStart => exact ⟨0, Nat.zero_le _, rfl, by simp [sumL], by simpa [cntR] using hv, Chg.refl⟩
  case round =>
    obtain ⟨m, hm, rfl, rfl, ht, hch⟩ := hrel
    have hsb := sumL_take (xss := M) (m := m)
    by_cases hlt : m < n
    · have hlx : m < M.length := by have := HU.out; omega
      have hou : o + m < us.length := by have := HU.out; omega
      obtain ⟨hst1, hst2⟩ := mark_step (k := k) hlx
      have h3m := h3 _ (List.getElem_mem hlx)
      have hrow := ht.rows.rows (o + m) hou (by rw [← ht.rows.len]; exact hou)
      have hidx : (P ++ (cntR k (M.take m) ++ M.drop m) ++ S)[o + m]'(by rw [← ht.rows.len]; exact hou) = M[m] := by
        rw [List.getElem_append_left (by rw [List.length_append, List.length_append, cntR_len, List.length_take, List.length_drop]; have := HU.out; omega)]
        rw [List.getElem_append_right (by have := HU.out; omega), List.getElem_append_right (by rw [cntR_len, List.length_take]; have := HU.out; omega)]
        simp only [cntR_len, List.length_take, List.getElem_drop]
        congr 1; have := HU.out; omega
      rw [hidx] at hrow
      have hcm := ht.cells (o + m) hou
      have hzm := ht.ne _ (List.getElem_mem hou)
      have hset : (P ++ (cntR k (M.take m) ++ M.drop m) ++ S).set (o + m) (cnt (k + sumL (M.take m)) M[m].length) = P ++ (cntR k (M.take (m + 1)) ++ M.drop (m + 1)) ++ S := by
        rw [HU.out.2.1, mid_set (by rw [List.length_append, cntR_len, List.length_take, List.length_drop]; omega), hst1]
      have hmk := fun (W : World) (hy : OwI W lo us[o + m] (cnt (k + sumL (M.take m)) M[m].length)) (hg : wr.grownBy W us[o + m].ownBlock) => ht.rows.mark hou hy hg
      rw [hset] at hmk
      have hzb := ht.rows.hib _ (List.getElem_mem hou)
      obtain ⟨z, hz⟩ : ∃ z, z = us[o + m] := ⟨_, rfl⟩
      rw [← hz] at hrow hcm hzm hzb hmk
      obtain ⟨xs, hxs⟩ : ∃ xs, xs = M[m] := ⟨_, rfl⟩
      rw [← hxs] at hrow hst2 h3m hmk
      obtain ⟨a9, c9, rfl, _⟩ := id hrow.sl
      obtain ⟨Q, hQ⟩ : ∃ Q, Q = sumL (M.take m) := ⟨_, rfl⟩
      rw [← hQ] at hsb hst2 hmk ⊢
      have H2 := Lib.hid hst2; have HHM := Lib.hid hmk; have HZ := Lib.hid (And.intro hz (And.intro hxs hQ)); have HT := Lib.hid ht
      clear hst1 hst2 hz hxs hQ hidx hset hmk ht
      go_wp2_with (go_at_call 67; refine (mark_c hrow (by omega) (by omega) (by omega)).mono ?_; rintro e w1 ⟨rfl, hz1, hg1⟩)
      go_roundw
      case rel =>
        have hT := HT.out
        refine ⟨m + 1, by omega, by go_num, by rw [H2.out, show k + ((Q + xs.length : Nat) : Int) = k + Q + xs.length by omega], ⟨HHM.out _ hz1 hg1, hT.lo_, hT.hi_, Nat.le_trans hT.sz hg1.size, fun j hj => ?_, hT.ne⟩, hch.trans (Chg.grown hg1 (fun j hj => ⟨(hrow.blk j hj).1, hzb j hj⟩))⟩
        have hold := hT.cells j hj
        rw [World.cell?_of_block (w := wr) (hg1.block g (World.block_lt_of_cell? wr _ hold) (Ne.symm hzm))]; exact hold
      case measure => simp [intOf]; omega
    · obtain rfl : m = n := by omega
      have e1 : M.take m = M := take_all (by have := HU.out; omega)
      have e2 : M.drop m = [] := List.drop_eq_nil_of_le (by have := HU.out; omega)
      rw [e1, e2, List.append_nil] at ht
      rw [e1]
      have H1 := Lib.hid e1; clear e1 e2
      go_wp2
      go_ret
      exact ⟨rfl, ht, hch⟩
end Go.Proofs.Ytmplpoccalccoaa
