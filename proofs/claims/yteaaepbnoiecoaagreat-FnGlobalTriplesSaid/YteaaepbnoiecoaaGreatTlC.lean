import Derived.Test.YteaaepbnoiecoaaGreatTgD
import Derived.Test.YteaaepbnoiecoaaGreatTlA
import Derived.Test.YteaaepbnoiecoaaGreatJak
import Derived.Test.YteaaepbnoiecoaaGreatJaw
import Derived.Lib.AppendZeros
namespace Go.Proofs.YteaaepbnoiecoaaGreat
open Go.RowKit
theorem list_of {n : Nat} {P : Nat -> Value -> Prop} (h : ∀ j, j < n -> ∃ u, P j u) : ∃ us : List Value, us.length = n /\ ∀ j (hj : j < us.length), P j us[j] := by
 induction n with
 | zero => exact ⟨[], rfl, fun j hj => by simp at hj⟩
 | succ n ih =>
  obtain ⟨us, hl, hp⟩ := ih (fun j hj => h j (by omega))
  obtain ⟨u, hu⟩ := h n (by omega)
  refine ⟨us ++ [u], by simp [hl], fun j hj => ?_⟩
  by_cases hjn : j < us.length
  ·rw [List.getElem_append_left hjn]; exact hp j hjn
  ·have e : j = n := by simp at hj; omega
   subst e
   rw [List.getElem_append_right (by omega)]
   simpa [hl] using hu
def RowsE (w : World) (us : List Value) (xss : List (List Int)) : Prop := us.length = xss.length /\ ∀ j (h : j < us.length) (h' : j < xss.length), El w us[j] xss[j]
theorem RowsE.app {w : World} {us us2 : List Value} {xss yss : List (List Int)} (h : RowsE w us xss) (h2 : RowsE w us2 yss) : RowsE w (us ++ us2) (xss ++ yss) := by
 refine ⟨by simp [h.1, h2.1], fun j a b => ?_⟩
 have e1 := h.1
 by_cases hj : j < us.length
 ·rw [List.getElem_append_left hj, List.getElem_append_left (by omega)]
  exact h.2 j hj (by omega)
 ·rw [List.getElem_append_right (by omega), List.getElem_append_right (by omega)]
  simp at a b
  have := h2.2 (j - us.length) (by omega) (by omega)
  simp only [e1] at this ⊢
  exact this
theorem zero_sizeR {n : Nat} : (Builtin.zeroCells #[Value.slice none 0 0] n).size = n := by simp [Builtin.zeroCells]
set_option maxRecDepth 100000 in
theorem growr_c {n : Nat} {w : World} (h0 : 0 < n) (hn : n <= 1000) :
  Calls Tryz.prog 101 #[.slice none 0 0, .int .i64 n] w fun e w' => ∃ g cap, e = .returned (.slice (some ⟨g, 0, none⟩) 0 cap) /\ OwV w' w.heap.size (.slice (some ⟨g, 0, none⟩) 0 cap) [] /\ Below w.heap.size w w' := by
 obtain ⟨i0, hi, hz0, hz1, hz2⟩ := info_parts infoR
 have hrun := fun W => Lib.run_append_nil_zeros (P := Tryz.prog) W 27 3 27 24 i0 (.slice none 0 0) .i64 .i64 Tryz.underlying27 Tryz.underlying3 hi hz0 n h0 (by omega) (by omega) (by rw [hz2]; omega)
 have hcap := grownCap_ge w n 0 24
 have hcap2 := grownCap_le_maxLen w n 0 24 (by simp only [maxLen]; omega)
 obtain ⟨C, hC⟩ : ∃ C, C = Builtin.zeroCells #[Value.slice none 0 0] n ++ Builtin.zeroCells #[Value.slice none 0 0] (grownCap w n 0 24 - n) := ⟨_, rfl⟩
 have hsz : C.size = grownCap w n 0 24 := by rw [hC, Array.size_append, zero_sizeR, zero_sizeR]; omega
 have hr := hrun w
 rw [show (Value.slice none 0 0).cells = #[Value.slice none 0 0] from rfl, <- hC] at hr
 obtain ⟨k, hk⟩ : ∃ k, k = grownCap w n 0 24 := ⟨_, rfl⟩
 rw [<- hk] at hcap hcap2 hsz hr
 simp only [maxLen] at hcap2
 have HR := Lib.hid hr; have HS := Lib.hid hsz
 clear hrun hC hr hk hsz
 go_enter Tryz.func101, Tryz.ntmps101
 go_wp2_with (at_builtin; refine Lib.wpList_append_run _ rfl _ _ _ _ rfl (.slice none 0 0) (.int .i64 n) rfl rfl _ _ HR.out ?_)
 go_ret
 exact ⟨_, _, rfl, OwV.mk_ (us := []) (cur := C) (Nat.le_refl _) (heap_alloc_new w.drew _) HS.out (by simp) (Nat.zero_le _) (by simp only [maxLen]; omega), bwT⟩
section
variable {ops : Array Oper} {rest : List Oper} {o : Oper} {a : Act} {Q : Exit -> Act -> World -> Prop}
theorem appr_all (hgd : o.guard = none) (s x : Operand)
  (ho : o.op = .call { callee := .builtin .append, args := #[s, x], argTypes := #[27, 27] })
  (W : World) (B : Nat) (v : Value) (us : List Value) (hs : a.eval s = v) (b off k c : Nat) (zs : List Value) (hx : a.eval x = .slice (some ⟨b, off, none⟩) k c) (hk : zs.length = k)
  (hz : ∀ j u, zs[j]? = some u -> W.cell? ⟨b, off + j, none⟩ = some u) (h1 : ∀ u ∈ zs, u.oneCell' = true) (hk0 : 0 < k)
  (hown : OwV W B v us) (hB : B <= W.heap.size) (hm : us.length + k <= 100000000)
  (h : ∀ g' cap' w', OwV w' B (.slice (some ⟨g', 0, none⟩) (us.length + k) cap') (us ++ zs) -> W.grownBy w' v.ownBlock -> wpList Tryz.prog ops Q rest (a.put o.dst (.slice (some ⟨g', 0, none⟩) (us.length + k) cap')) w') :
  wpList Tryz.prog ops Q (o :: rest) a W := by
 obtain ⟨i0, hi, hz0, hzs, hzb⟩ := info_parts infoR
 refine wpList_append_lies W hgd s x 27 ho B 24 i0 (.slice none 0 0) 1 24 Tryz.underlying27 hi hz0 hzs hzb rfl (by decide) v us.length us hs hown ⟨b, off, none⟩ k c zs hx (by rw [hk, Nat.mul_one]) (fun j u hu => by rw [addo]; exact hz j u hu) h1 hk0 (by simp only [maxLen]; omega) (by omega) hB _ rfl ?_
 intro g cap w' h2 h3 _ _
 refine h g cap w' ?_ h3
 unfold OwV
 rw [List.length_append, hk]
 exact h2
end
set_option maxHeartbeats 1000000 in
set_option maxRecDepth 100000 in
theorem concatr_c {b c : Nat} {Ms : List (List (List Int))} {w : World} (hx : ∀ j (h : j < Ms.length), ∃ u, w.cell? ⟨b, j, none⟩ = some u /\ Re w u Ms[j]) (hne : ∀ M ∈ Ms, 0 < M.length) (hb8 : ∀ M ∈ Ms, M.length <= 100) (hn : 0 < Ms.length) (hm2 : Ms.length <= 10) :
  Calls Tryz.prog 68 #[.slice (some ⟨b, 0, none⟩) Ms.length c] w fun e w' => ∃ v, e = .returned v /\ Re w' v Ms.flatten /\ Below w.heap.size w w' := by
 have hfl : ∀ k, (Ms.take k).flatten.length <= 100 * k := fun k => by
  induction k with
  | zero => simp
  | succ k ih =>
   by_cases h : k < Ms.length
   ·rw [List.take_succ_eq_append_getElem h, List.flatten_append, List.length_append]
    have := hb8 _ (List.getElem_mem h)
    rw [show [Ms[k]].flatten = Ms[k] by simp]
    omega
   ·rw [List.take_of_length_le (by omega)]
    rw [List.take_of_length_le (by omega)] at ih
    omega
 have hpos : 0 < Ms.flatten.length := by
  match Ms, hn with
  | y :: ys, _ => have := hne y (by simp); simp; omega
 have hle := Lib.hid hfl
 have HX := Lib.hid hx; clear hx hfl
 go_enter Tryz.func68, Tryz.ntmps68
 go_wp2
 go_loop [3, 11] (fun q i => ∃ k : Nat, k <= Ms.length /\ i = .int .i64 k /\ q = .int .i64 ((Ms.take k).flatten.length : Nat)) (fun _ i => Ms.length - (intOf i).toNat)
 case atStart => exact ⟨0, Nat.zero_le _, rfl, rfl⟩
 case round =>
  obtain ⟨k, hk, rfl, rfl⟩ := hrel
  by_cases hlt : k < Ms.length
  ·obtain ⟨a1, c1, M, hM, hc, he, ht⟩ := Ml.get HX.out hlt
   have hf := hle.out k
   have hml := hb8 M hM
   obtain ⟨m, hmm⟩ : ∃ m, m = (Ms.take k).flatten.length := ⟨_, rfl⟩
   rw [<- hmm] at hf ⊢
   have HT := Lib.hid (show (Ms.take (k + 1)).flatten.length = m + M.length by rw [ht, List.flatten_append, List.length_append, <- hmm]; simp)
   clear ht hmm
   have hneg : ¬ ((m : Int) + (M.length : Int) < 0) := by omega
   go_wp2
   go_round
   case rel => exact ⟨k + 1, by omega, by go_num, by rw [HT.out]; go_num⟩
   case measure => simp [intOf]; omega
  ·obtain rfl : k = Ms.length := by omega
   have hf := hle.out Ms.length
   rw [List.take_length] at hf ⊢
   obtain ⟨S, hS⟩ : ∃ S, S = Ms.flatten.length := ⟨_, rfl⟩
   rw [<- hS] at hpos hf ⊢
   have HS := Lib.hid hS; clear hS
   go_wp2_with fail
   refine (growr_c hpos (by omega)).mono ?_; rintro e w1 ⟨g, cap, rfl, ho, hb⟩
   go_wp2
   go_loopw [6, 27] (fun q i wr => ∃ (k g cap : Nat) (us : List Value), k <= Ms.length /\ i = .int .i64 k /\ q = .slice (some ⟨g, 0, none⟩) us.length cap /\ OwV wr w.heap.size (.slice (some ⟨g, 0, none⟩) us.length cap) us /\ RowsE w us (Ms.take k).flatten /\ Below w.heap.size w wr) (fun _ i _ => Ms.length - (intOf i).toNat)
   case atStart => exact ⟨0, g, cap, [], Nat.zero_le _, rfl, rfl, ho, ⟨rfl, fun j h => by simp at h⟩, hb⟩
   case round =>
    clear ho hb
    obtain ⟨k, gg, cc, us, hk, rfl, rfl, ho, hR, hb⟩ := hrel
    by_cases hlt : k < Ms.length
    ·obtain ⟨a1, c1, M, hM, hc, he, ht⟩ := Ml.get HX.out hlt
     have hf := hle.out k
     have hml := hb8 M hM
     have hmp := hne M hM
     obtain ⟨_, _, e_, _, _, hcell⟩ := id he
     cases e_
     obtain ⟨b1, o1, rfl, hcel2⟩ := hcell.resolve_left (fun e => by rw [e] at hmp; simp at hmp)
     obtain ⟨zs, hzl, hzs⟩ := list_of (n := M.length) (P := fun j u => w.cell? ⟨b1, o1 + j, none⟩ = some u /\ ∀ h : j < M.length, El w u M[j]) (fun j hj => by
      obtain ⟨u, h1, h2⟩ := hcel2 j hj
      exact ⟨u, h1, fun _ => h2⟩)
     have hE2 : RowsE w zs M := ⟨hzl, fun j h h' => (hzs j h).2 h'⟩
     have hul : us.length <= 100 * k := by rw [hR.1]; exact hf
     have hzc : ∀ j u, zs[j]? = some u -> wr.cell? ⟨b1, o1 + j, none⟩ = some u := fun j u hu => by
      obtain ⟨hj, e⟩ := List.getElem?_eq_some_iff.1 hu
      rw [<- e]; exact kept hb (hzs j hj).1
     have hz1 : ∀ u ∈ zs, u.oneCell' = true := fun u hu => by
      obtain ⟨j, hj, rfl⟩ := List.getElem_of_mem hu
      obtain ⟨a5, c5, e5, _⟩ := ((hzs j hj).2 (by omega)).op
      rw [e5]; rfl
     have hc := kept hb hc
     have HT := Lib.hid (show (Ms.take (k + 1)).flatten = (Ms.take k).flatten ++ M by rw [ht, List.flatten_append]; simp)
     have HZC := Lib.hid hzc; have HZ1 := Lib.hid hz1; have HZL := Lib.hid hzl
     clear ht hzc hz1 hzl hzs hcell hcel2
     go_wp2_with (at_builtin; refine appr_all rfl _ _ rfl wr w.heap.size (.slice (some ⟨gg, 0, none⟩) us.length cc) us rfl b1 o1 M.length c1 zs rfl HZL.out HZC.out HZ1.out hmp ho hb.size (by omega) ?_; intro g' cap' w' ho' hg')
     go_roundw
     case rel => exact ⟨k + 1, g', cap', us ++ zs, by omega, by go_num, by rw [List.length_append, HZL.out], by rw [List.length_append, HZL.out]; exact ho', by rw [HT.out]; exact hR.app hE2, blw_grown hb hg' (OwV.lt ho _ rfl).1⟩
     case measure => simp [intOf]; omega
    ·obtain rfl : k = Ms.length := by omega
     rw [List.take_length] at hR
     go_wp2
     go_ret
     obtain ⟨cur, h1, h2, h3, h4, h5, h6, h7⟩ := ho.row
     have hl := hR.1
     simp only [maxLen] at h6
     refine ⟨_, rfl, ?_, hb⟩
     rw [hl]
     refine ⟨_, cc, rfl, by omega, by omega, .inr ⟨gg, 0, rfl, fun j hj => ⟨us[j]'(by omega), ?_, (hR.2 j (by omega) hj).below hb⟩⟩⟩
     rw [Nat.zero_add]; exact ho.cell (by omega)
theorem triplist_c {p : Int} {n : Nat} {x : Value} {A B C : List (List Int)} {w : World} (hx : Tv w x A B C) (mA : matB p n A = true) (mB : matB p n B = true) (mC : matB p n C = true) (hn1 : 1 <= n) (hn8 : n <= 8) :
  Calls Tryz.prog 26 #[x] w fun e w' => ∃ v, e = .returned v /\ FrI w' w.heap.size v (tripL A B C) /\ Below w.heap.size w w' := by
 have hA := matB_iff.1 mA; have hB := matB_iff.1 mB; have hC := matB_iff.1 mC
 obtain ⟨va, vb, vc, rfl, hva, hvb, hvc⟩ := id hx
 obtain ⟨a1, c1, rfl, _⟩ := id hva
 obtain ⟨a2, c2, rfl, _⟩ := id hvb
 obtain ⟨a3, c3, rfl, _⟩ := id hvc
 have e3 : tripL A B C = ([A, B, C].flatten).flatten := by unfold tripL; simp
 rw [e3]
 have hlen : [A, B, C].flatten.length = n + (n + n) := by simp [hA.1, hB.1, hC.1]
 have hfl : [A, B, C].flatten.flatten.length <= 1000 := by
  rw [<- e3, trip_len mA mB mC]
  have h1 : 3 * n <= 24 := by omega
  have := Nat.mul_le_mul h1 hn8
  omega
 have hpos : ∀ xs ∈ [A, B, C].flatten, 0 < xs.length := fun xs hxs => by
  have := trip_rows mA mB mC xs (by simpa using hxs)
  omega
 have hcc := fun W b (h : ∀ j (h : j < [A, B, C].length), ∃ u, W.cell? ⟨b, j, none⟩ = some u /\ Re W u [A, B, C][j]) => concatr_c (w := W) (b := b) (c := 3) (Ms := [A, B, C]) h
  (fun M hM => by simp at hM; rcases hM with rfl | rfl | rfl; exact hA.1 ▸ hn1; exact hB.1 ▸ hn1; exact hC.1 ▸ hn1)
  (fun M hM => by simp at hM; rcases hM with rfl | rfl | rfl; rw [hA.1]; omega; rw [hB.1]; omega; rw [hC.1]; omega) (by simp) (by simp)
 have hc2 := fun W v (h : Re W v [A, B, C].flatten) => concat_c (w := W) h hpos (by rw [hlen]; omega) hfl (by rw [hlen]; omega)
 obtain ⟨R, hR⟩ : ∃ R, R = [A, B, C].flatten := ⟨_, rfl⟩
 simp only [<- hR] at hcc hc2 ⊢
 clear hR hlen hfl hpos e3 hx hA hB hC
 go_enter Tryz.func26, Tryz.ntmps26
 have hb0 : Below w.heap.size w (w.alloc (.cells #[.slice a1 A.length c1, .slice a2 B.length c2, .slice a3 C.length c3] 29)) := bwT
 have hva := hva.below hb0; have hvb := hvb.below hb0; have hvc := hvc.below hb0
 have d0 : (w.alloc (.cells #[.slice a1 A.length c1, .slice a2 B.length c2, .slice a3 C.length c3] 29)).cell? ⟨w.heap.size, 0, none⟩ = some (.slice a1 A.length c1) := by simp [go_sem]
 have d1 : (w.alloc (.cells #[.slice a1 A.length c1, .slice a2 B.length c2, .slice a3 C.length c3] 29)).cell? ⟨w.heap.size, 1, none⟩ = some (.slice a2 B.length c2) := by simp [go_sem]
 have d2 : (w.alloc (.cells #[.slice a1 A.length c1, .slice a2 B.length c2, .slice a3 C.length c3] 29)).cell? ⟨w.heap.size, 2, none⟩ = some (.slice a3 C.length c3) := by simp [go_sem]
 have hb1 : Below (w.alloc (.cells #[.slice a1 A.length c1, .slice a2 B.length c2, .slice a3 C.length c3] 29)).heap.size (w.alloc (.cells #[.slice a1 A.length c1, .slice a2 B.length c2, .slice a3 C.length c3] 29)) ((w.alloc (.cells #[.slice a1 A.length c1, .slice a2 B.length c2, .slice a3 C.length c3] 29)).alloc (.cells #[.slice a1 A.length c1, .slice a2 B.length c2, .slice a3 C.length c3] 27)) := bwT
 have hva := hva.below hb1; have hvb := hvb.below hb1; have hvc := hvc.below hb1; have d0 := kept hb1 d0; have d1 := kept hb1 d1; have d2 := kept hb1 d2
 have l0 : ((w.alloc (.cells #[.slice a1 A.length c1, .slice a2 B.length c2, .slice a3 C.length c3] 29)).alloc (.cells #[.slice a1 A.length c1, .slice a2 B.length c2, .slice a3 C.length c3] 27)).cell? ⟨w.heap.size + 1, 0, none⟩ = some (.slice a1 A.length c1) := by simp [go_sem]
 have l1 : ((w.alloc (.cells #[.slice a1 A.length c1, .slice a2 B.length c2, .slice a3 C.length c3] 29)).alloc (.cells #[.slice a1 A.length c1, .slice a2 B.length c2, .slice a3 C.length c3] 27)).cell? ⟨w.heap.size + 1, 1, none⟩ = some (.slice a2 B.length c2) := by simp [go_sem]
 have l2 : ((w.alloc (.cells #[.slice a1 A.length c1, .slice a2 B.length c2, .slice a3 C.length c3] 29)).alloc (.cells #[.slice a1 A.length c1, .slice a2 B.length c2, .slice a3 C.length c3] 27)).cell? ⟨w.heap.size + 1, 2, none⟩ = some (.slice a3 C.length c3) := by simp [go_sem]
 go_wp2_with fail
 refine (hcc _ (w.heap.size + 1) (fun j hj => ?_)).mono ?_
 ·simp at hj
  rcases (show j = 0 \/ j = 1 \/ j = 2 by omega) with rfl | rfl | rfl
  ·exact ⟨_, l0, hva⟩
  ·exact ⟨_, l1, hvb⟩
  ·exact ⟨_, l2, hvc⟩
 rintro e w1 ⟨v1, rfl, h1, hb1⟩
 have hbx : Below w.heap.size w w1 := bwT
 go_wp2_with fail
 refine (hc2 _ _ h1).mono ?_; rintro e w2 ⟨v2, rfl, h2, hb2⟩
 go_wp2_with fail
 go_ret
 exact ⟨_, rfl, h2.more hbx.size, bwC hbx hb2⟩
end Go.Proofs.YteaaepbnoiecoaaGreat
