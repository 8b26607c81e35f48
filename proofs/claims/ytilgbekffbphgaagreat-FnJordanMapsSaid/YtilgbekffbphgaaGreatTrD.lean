import Derived.Test.YtilgbekffbphgaaGreatJbj
namespace Go.Proofs.YtilgbekffbphgaaGreat
open Go.RowKit
theorem set_same (X : List (List Int)) (n : Nat) (h : n < X.length) : X.set n (X.getD n []) = X := by
 rw [List.getD_eq_getElem?_getD, List.getElem?_eq_getElem h]; simp
section
variable {A B O : List (List Int)} {R : List Int} {p : Int} {k t m i : Nat}
theorem swap_eq (h : i < B.length) : ((A ++ B).set A.length (B.getD i [])).set (A.length + i) (B.getD 0 []) = A ++ B.getD i [] :: othR i B := by
 have h1 := swap_set (A := A) (w := B.getD i []) h
 have h2 := swap_get (A := A) h
 rw [<- h1]
 have h3 := set_same (((A ++ B).set A.length (B.getD i [])).set (A.length + i) (B.getD 0 [])) A.length (by simp; omega)
 rw [h2] at h3
 exact h3.symm
theorem swap_none (h : 0 < B.length) : A ++ B = A ++ B.getD 0 [] :: othR 0 B := by
 match B with
 | b :: bs => rfl
def elimD (p : Int) (k : Nat) (R : List Int) (A O : List (List Int)) (t : Nat) : List (List Int) := A ++ R :: ((O.take t).map (redI p k R) ++ O.drop t)
theorem elimD_full : elimD p k R A O O.length = (A ++ [R]) ++ O.map (redI p k R) := by unfold elimD; simp
theorem elimD_len : (elimD p k R A O t).length = A.length + 1 + O.length := by unfold elimD; simp; omega
theorem elimD_d : (elimD p k R A O t).getD A.length [] = R := by unfold elimD; simp [List.getD_eq_getElem?_getD]
theorem elimD_at (h : t < O.length) : (elimD p k R A O t).getD (A.length + 1 + t) [] = O.getD t [] := by
 unfold elimD
 rw [List.getD_eq_getElem?_getD, List.getElem?_append_right (by omega), show A.length + 1 + t - A.length = t + 1 by omega, List.getElem?_cons_succ,
  List.getElem?_append_right (by simp; omega), List.getElem?_drop, List.getD_eq_getElem?_getD]
 simp [show min t O.length = t by omega]
theorem elimD_set (h : t < O.length) : (elimD p k R A O t).set (A.length + 1 + t) (redI p k R (O.getD t [])) = elimD p k R A O (t + 1) := by
 have e1 : O.take (t + 1) = O.take t ++ [O.getD t []] := by
  rw [List.take_succ_eq_append_getElem h, List.getD_eq_getElem?_getD, List.getElem?_eq_getElem h]; rfl
 have e2 : O.drop t = O.getD t [] :: O.drop (t + 1) := by
  rw [List.drop_eq_getElem_cons h, List.getD_eq_getElem?_getD, List.getElem?_eq_getElem h]; rfl
 unfold elimD
 rw [e1, e2, List.set_append_right _ _ (by omega), show A.length + 1 + t - A.length = t + 1 by omega, List.set_cons_succ,
  List.set_append_right _ _ (by simp; omega)]
 simp [show t - min t O.length = 0 by omega]
theorem elimD_rw (hp : 1 <= p) (hA : Rw p m A) (hR : Ev p m R) (hO : Rw p m O) : Rw p m (elimD p k R A O t) := fun x hx => by
 unfold elimD at hx
 rcases List.mem_append.1 hx with h | h
 ·exact hA x h
 rcases List.mem_cons.1 h with rfl | h
 ·exact hR
 rcases List.mem_append.1 h with h | h
 ·obtain ⟨y, hy, rfl⟩ := List.mem_map.1 h
  exact redI_ev hp (hO y (List.mem_of_mem_take hy)) hR
 ·exact hO x (List.mem_of_mem_drop h)
end
set_option maxHeartbeats 8000000 in
set_option maxRecDepth 100000 in
theorem det_c {p : Int} {rows : Value} {m : Nat} {L : List (List Int)} {w : World} (hp : IsP p) (hL : Rw p m L) (hr : Re w rows L) (hm1 : 1 <= m) (hm2 : m <= 1000) (hn : L.length = m) :
  Calls Tryz.prog 55 #[.int .i64 p, rows] w fun e w' => e = .returned (.int .i64 (detL p L)) /\ Below w.heap.size w w' := by
 have hp1 := hp.lo
 have hp2 := hp.hi
 subst hn
 obtain ⟨ar, cr, rfl, _⟩ := id hr
 obtain ⟨D, hD⟩ : ∃ D, D = detL p L := ⟨_, rfl⟩
 have hD0 : D = detG p (L.length - 0) 0 1 L := hD
 rw [<- hD]
 have HD0 := Lib.hid hD0; clear hD hD0
 go_enter Tryz.func55, Tryz.ntmps55
 go_wp2_with fail
 refine (clonerows_c hr (fun r h => by have := (hL r h).1; omega) (by omega)).mono ?_; rintro e w1 ⟨g, cap, us0, rfl, hown0, hrow0, hb1⟩
 obtain ⟨_, _, _, _, _, hcn, hcm, hgB⟩ := hown0.row
 simp only [maxLen] at hcm
 go_wp2_with fail
 go_loopw [6, 14] (fun o i wr => ∃ (k : Nat) (z : Int) (us : List Value) (A B : List (List Int)), k <= L.length /\ i = .int .i64 k /\ o = .int .i64 z /\ A.length = k /\ OwV wr w.heap.size (.slice (some ⟨g, 0, none⟩) L.length cap) us /\ RowsF wr w.heap.size us (A ++ B) /\
   Rw p L.length A /\ Rw p L.length B /\ A.length + B.length = L.length /\ D = detG p (L.length - k) k z B /\ 0 <= z /\ z < p /\ Below w.heap.size w wr)
  (fun _ i _ => L.length - (intOf i).toNat)
 case atStart => exact ⟨0, 1, us0, [], L, Nat.zero_le _, rfl, rfl, rfl, hown0, hrow0, fun x h => by simp at h, hL, by simp, HD0.out, by decide, by omega, hb1⟩
 case round =>
  obtain ⟨k, z, us, A, B, hk, rfl, rfl, hAl, hown, hrow, hrwA, hrwB, hlen, hdet, hz0, hz1, hbr⟩ := hrel
  subst hAl
  have hrw : Rw p L.length (A ++ B) := Rw.app hrwA hrwB
  have hBL : B.length <= L.length := by omega
  by_cases hkm : A.length < L.length
  case neg =>
   have hkL : A.length = L.length := by omega
   have hDz : D = z := by rw [hdet, show L.length - A.length = 0 by omega]; rfl
   have HDZ := Lib.hid hDz
   clear hDz hdet hkL hlen
   go_wp2_with fail
   go_ret
   exact ⟨by rw [HDZ.out]; rfl, hbr⟩
  have hsu : L.length - A.length = (L.length - (A.length + 1)) + 1 := by omega
  rw [hsu] at hdet
  have hdet2 : D = if fndR A.length B = B.length then 0 else
   detG p (L.length - (A.length + 1)) (A.length + 1) ((if fndR A.length B = 0 then z else -z % p) * (B.getD (fndR A.length B) []).getD A.length 0 % p) ((othR (fndR A.length B) B).map (redI p A.length (B.getD (fndR A.length B) []))) := hdet
  have HDT := Lib.hid hdet2; have HLEN := Lib.hid hlen; have HRW := Lib.hid hrw
  clear hdet hdet2 hsu hlen hrw
  go_wp2_with fail
  by_cases hf : fndR A.length B = B.length
  ·have hDz : D = 0 := by rw [HDT.out, if_pos hf]
   have HDZ := Lib.hid hDz; have HF := Lib.hid hf; clear hDz hf
   go_loop [8] (fun i => ∃ j : Nat, A.length <= j /\ j <= L.length /\ i = .int .i64 j) (fun i => L.length - (intOf i).toNat)
   case atStart => exact ⟨A.length, Nat.le_refl _, hk, rfl⟩
   case round =>
    obtain ⟨j, hj1, hj2, rfl⟩ := hrel
    by_cases hj : j < L.length
    ·obtain ⟨gj, cj, _, hcj, hfj, hej⟩ := row_at hown hrow HRW.out (j := j) (by have := HLEN.out; rw [List.length_append]; omega)
     have hzz : ((A ++ B).getD j []).getD A.length 0 = 0 := by
      obtain ⟨t, rfl⟩ := Nat.exists_eq_add_of_le hj1
      rw [app_get]
      exact fnd_none HF.out _ (get_mem (by have := HLEN.out; omega))
     have hek := hej A.length hkm
     rw [hzz] at hek
     clear hzz hej hfj
     go_wp2_with fail
     go_round
     case rel => exact ⟨j + 1, by omega, by omega, by go_num⟩
     case measure => simp [intOf]; omega
    ·obtain rfl : j = L.length := by omega
     go_wp2_with fail
     go_ret
     exact ⟨by rw [HDZ.out]; rfl, hbr⟩
  ·have hflt : fndR A.length B < B.length := Nat.lt_of_le_of_ne fnd_le hf
   have hDz := HDT.out
   rw [if_neg hf] at hDz
   have hfl := fun j h => fnd_low (k := A.length) (B := B) (j := j) h
   have hfg := fnd_get hflt
   obtain ⟨f, hf_⟩ : ∃ f, f = fndR A.length B := ⟨_, rfl⟩
   rw [<- hf_] at hflt hDz hfl hfg
   have hsw := swap_eq (A := A) hflt
   have hsn := swap_none (A := A) (B := B) (by omega)
   have hx0 : (A ++ B).getD A.length [] = B.getD 0 [] := by have := app_get (A := A) (B := B) (j := 0); rwa [Nat.add_zero] at this
   have hxf : (A ++ B).getD (A.length + f) [] = B.getD f [] := app_get
   have ew0 := hrwB (B.getD f []) (get_mem hflt)
   have hOl := oth_len hflt
   have hOw : Rw p L.length (othR f B) := fun x hx => hrwB x (oth_mem hflt hx)
   have hsn' : f = 0 -> A ++ B = A ++ B.getD f [] :: othR f B := fun e => by rw [e]; exact hsn
   obtain ⟨R, hR_⟩ : ∃ R, R = B.getD f [] := ⟨_, rfl⟩
   obtain ⟨O, hO_⟩ : ∃ O, O = othR f B := ⟨_, rfl⟩
   rw [<- hR_] at hDz hfg hsw hxf ew0 hsn'
   rw [<- hO_] at hDz hsw hOl hOw hsn'
   obtain ⟨q, hq_⟩ : ∃ q, q = R.getD A.length 0 := ⟨_, rfl⟩
   rw [<- hq_] at hDz hfg
   have hq0 := ew0.at (p := p) (by omega) A.length
   rw [<- hq_] at hq0
   obtain ⟨z2, hz2⟩ : ∃ z2, z2 = if f = 0 then z else -z % p := ⟨_, rfl⟩
   rw [<- hz2] at hDz
   have hzb : 0 <= z2 /\ z2 < p := by
    rw [hz2]
    split
    ·exact ⟨hz0, hz1⟩
    ·exact mod_fp (by omega)
   have hqne : (q == 0) = false := by simpa using hfg
   have hfn : A.length + f < L.length := by have := HLEN.out; omega
   have HSW := Lib.hid hsw; have HSN := Lib.hid hsn'; have HX0 := Lib.hid hx0; have HXF := Lib.hid hxf; have E0 := Lib.hid ew0; have HOL := Lib.hid hOl; have HOW := Lib.hid hOw; have HDZ := Lib.hid hDz; have HQ := Lib.hid hq_; have HZ2 := Lib.hid hz2; have HFL := Lib.hid hfl
   clear hsw hsn hsn' hx0 hxf ew0 hOl hOw hDz hq_ hz2 hfl hR_ hO_ hf_ hf
   go_loop [8] (fun i => ∃ j : Nat, A.length <= j /\ j <= A.length + f /\ i = .int .i64 j) (fun i => A.length + f - (intOf i).toNat)
   case atStart => exact ⟨A.length, Nat.le_refl _, by omega, rfl⟩
   case round =>
    obtain ⟨j, hj1, hj2, rfl⟩ := hrel
    obtain ⟨gj, cj, _, hcj, hfj, hej⟩ := row_at hown hrow HRW.out (j := j) (by have := HLEN.out; rw [List.length_append]; omega)
    by_cases hj : j < A.length + f
    ·have hzz : ((A ++ B).getD j []).getD A.length 0 = 0 := by
      obtain ⟨t, rfl⟩ := Nat.exists_eq_add_of_le hj1
      rw [app_get]
      exact HFL.out t (by omega)
     have hek := hej A.length hkm
     rw [hzz] at hek
     clear hzz hej hfj
     have hjn : j < L.length := by omega
     go_wp2_with fail
     go_round
     case rel => exact ⟨j + 1, by omega, by omega, by go_num⟩
     case measure => simp [intOf]; omega
    ·obtain rfl : j = A.length + f := by omega
     have hek := hej A.length hkm
     rw [HXF.out, <- HQ.out] at hek
     clear hej hfj
     have hqf : (((A.length + f : Nat) : Int) == (L.length : Int)) = false := by rw [beq_eq_false_iff_ne]; omega
     go_upto_if 40 with fail
     clear hcj hek
     go_cut [6] (fun o wx => ∃ us2, o = .int .i64 z2 /\ OwV wx w.heap.size (.slice (some ⟨g, 0, none⟩) L.length cap) us2 /\ RowsF wx w.heap.size us2 (A ++ R :: O) /\ Below w.heap.size w wx)
     case first =>
      rcases Nat.eq_zero_or_pos f with hf0 | hf0
      ·have hz2 := HZ2.out
       rw [if_pos hf0] at hz2
       have hrow2 := hrow
       rw [HSN.out hf0] at hrow2
       have HE := Lib.hid hz2; clear hz2
       subst hf0
       have hbe : (((A.length + 0 : Nat) : Int) != (A.length : Int)) = false := by simp
       go_wp2_with fail
       go_meet
       case rel => exact ⟨us, by rw [HE.out], hown, hrow2, hbr⟩
      ·have hz2 := HZ2.out
       rw [if_neg (by omega)] at hz2
       have HE := Lib.hid hz2; clear hz2
       have hbe : (((A.length + f : Nat) : Int) != (A.length : Int)) = true := by rw [bne_iff_ne]; omega
       go_wp2_with fail
       refine region_flow [(false, [(0, 0), (1, 0), (2, 0), (3, 0), (4, 0), (5, 0), (6, 0), (7, 1), (8, 0), (9, 0), (10, 0), (11, 1), (12, 0), (13, 4), (14, 0), (15, 4)])] (by kernel_rfl) ?_
       refine norm_K fun K hK => ?_
       change wpList _ _ _ [_, _, _, _, _, _, _, _, _, _, _, _, _, _, _, _] _ _
       have hbd : Below wr.heap.size wr wr.drew := bwT
       have hown := hown.below hbd; have hrow := hrow.below hbd; have hbr := bwC hbr hbd
       generalize wr.drew = wq at *
       clear hbd
       obtain ⟨gd, cd, _, hcd, hfd, _⟩ := row_at hown hrow HRW.out (j := A.length) (by have := HLEN.out; rw [List.length_append]; omega)
       obtain ⟨gi, ci, _, hci, hfi, _⟩ := row_at hown hrow HRW.out (j := A.length + f) (by have := HLEN.out; rw [List.length_append]; omega)
       rw [HX0.out] at hfd; rw [HXF.out] at hfi
       have fz1 := hown.free A.length; have fz2 := hown.free (A.length + f)
       have ho1 := hown.set A.length (.slice (some ⟨gi, 0, none⟩) L.length ci)
       have ho2 := ho1.set (A.length + f) (.slice (some ⟨gd, 0, none⟩) L.length cd)
       have hr1 := (hrow.setg hown A.length (.slice (some ⟨gi, 0, none⟩) L.length ci)).set (hfi.setg hown A.length (.slice (some ⟨gi, 0, none⟩) L.length ci)) A.length
       have hr2 := (hr1.setg ho1 (A.length + f) (.slice (some ⟨gd, 0, none⟩) L.length cd)).set ((hfd.setg hown A.length (.slice (some ⟨gi, 0, none⟩) L.length ci)).setg ho1 (A.length + f) (.slice (some ⟨gd, 0, none⟩) L.length cd)) (A.length + f)
       have hbS := bwS (p := ⟨g, A.length + f, none⟩) (bwS (p := ⟨g, A.length, none⟩) hbr hgB (.slice (some ⟨gi, 0, none⟩) L.length ci)) hgB (.slice (some ⟨gd, 0, none⟩) L.length cd)
       rw [HSW.out] at hr2
       clear hr1 ho1
       have hne0 : ¬ f = 0 := by omega
       go_wp2_with fail
       first | (refine hK _ _ ⟨rfl, ?_⟩; clear hK K) | refine ⟨rfl, ?_⟩
       go_wp2_with fail
       refine (num_c (by omega) (by omega)).mono ?_; rintro e w9 ⟨rfl, rfl⟩
       rw [<- HE.out]
       go_wp2_with fail
       go_meet
       case rel => exact ⟨_, rfl, ho2, hr2, hbS⟩
     case' rest => skip
     obtain ⟨us2, rfl, ho2, hr2, hbS⟩ := hcut
     clear hown hrow hbr
     have HEW := Lib.hid (elimD_rw (k := A.length) (t := 0) (by omega) hrwA E0.out HOW.out)
     obtain ⟨gr, cr2, _, hcr, hfr, her⟩ := row_at ho2 hr2 HEW.out (j := A.length) (by simp)
     have hgd : (A ++ R :: O).getD A.length [] = R := elimD_d (p := p) (k := A.length) (t := 0)
     rw [hgd] at hfr her
     have hek := her A.length hkm
     rw [<- HQ.out] at hek
     clear her hgd
     have hmb := mulb (k := z2) (y := q) (A := 13) (B := 13) (by omega) (by omega) (by omega) (by omega)
     go_wp2_with fail
     refine (num_c (by omega) (by omega)).mono ?_; rintro e w9 ⟨rfl, rfl⟩
     have hz3 := mod_fp (p := p) (x := z2 * q) (by omega)
     obtain ⟨z3, hz3_⟩ : ∃ z3, z3 = z2 * q % p := ⟨_, rfl⟩
     rw [<- hz3_] at hz3 ⊢
     have hDz := HDZ.out
     rw [<- hz3_] at hDz
     have HD3 := Lib.hid hDz; clear hDz hz3_ hmb
     clear hcr hfr hek
     generalize wc = wo at *
     go_wp2_with fail
     go_loopw [9] (fun i wr => ∃ (t : Nat) (us : List Value), t <= O.length /\ i = .int .i64 ((A.length + 1 + t : Nat) : Int) /\ OwV wr w.heap.size (.slice (some ⟨g, 0, none⟩) L.length cap) us /\ RowsF wr w.heap.size us (elimD p A.length R A O t) /\ Below w.heap.size w wr)
      (fun i _ => L.length - (intOf i).toNat)
     case atStart => exact ⟨0, us2, Nat.zero_le _, by simp, ho2, hr2, hbS⟩
     case round =>
      clear ho2 hr2 hbS
      obtain ⟨t, us, htl, rfl, hown, hrow, hbr⟩ := hrel
      have HEV := Lib.hid (elimD_rw (k := A.length) (t := t) (by omega) hrwA E0.out HOW.out)
      by_cases htn : t < O.length
      ·have hrn : A.length + 1 + t < L.length := by have := HOL.out; have := HLEN.out; omega
       go_wp2_with fail
       refine region_flowP [(27, 23, [26, 25]), (27, 26, []), (29, 6, []), (29, 10, []), (29, 14, [28, 18, 17, 16]), (29, 17, [28, 18]), (29, 23, [27, 26, 25]), (29, 26, [27]), (31, 6, []), (31, 10, []), (31, 14, []), (31, 17, []), (31, 23, []), (31, 26, [])] [(false, [(0, 0), (1, 0), (2, 0), (3, 0), (4, 0), (5, 0), (6, 1), (7, 0), (8, 0), (9, 0), (10, 1), (11, 0), (12, 0), (13, 0), (14, 1), (15, 0), (16, 0), (17, 1), (18, 0), (19, 0), (20, 0), (21, 0), (22, 0), (23, 1), (24, 0), (25, 0), (26, 1), (27, 5)]), (false, [(28, 0), (29, 4), (30, 0), (31, 4)])] (by kernel_rfl) ?_
       refine norm_K fun K hK => ?_
       change wpList _ _ _ [_, _, _, _, _, _, _, _, _, _, _, _, _, _, _, _, _, _, _, _, _, _, _, _, _, _, _, _] _ _
       have hbd : Below wr.heap.size wr wr.drew := bwT
       have hown := hown.below hbd; have hrow := hrow.below hbd; have hbr := bwC hbr hbd
       generalize wr.drew = wv at *
       obtain ⟨gr, cr2, _, hcr, hfr, her⟩ := row_at hown hrow HEV.out (j := A.length + 1 + t) (by rw [elimD_len]; omega)
       rw [elimD_at htn] at hfr her
       have HXE := Lib.hid (HOW.out (O.getD t []) (get_mem htn))
       have HST2 := Lib.hid (elimD_set (p := p) (k := A.length) (R := R) (A := A) htn)
       obtain ⟨x, hx⟩ : ∃ x, x = O.getD t [] := ⟨_, rfl⟩
       rw [<- hx] at hfr her HXE HST2
       have hek := her A.length hkm
       obtain ⟨gd, cd, _, hcd, hfd, hed⟩ := row_at hown hrow HEV.out (j := A.length) (by rw [elimD_len]; omega)
       rw [elimD_d] at hfd hed
       have hek2 := hed A.length hkm
       rw [<- HQ.out] at hek2
       obtain ⟨q2, hq2⟩ : ∃ q2, q2 = x.getD A.length 0 := ⟨_, rfl⟩
       rw [<- hq2] at hek
       have hq2b := HXE.out.at (p := p) (by omega) A.length
       rw [<- hq2] at hq2b
       have hred : plusL p x R (-q2 * invL p q) = redI p A.length R x := by rw [hq2, HQ.out]; rfl
       have HRD := Lib.hid hred
       have hib := invL_fp (p := p) (a := q) (by omega)
       have hmb := mulb (k := -q2) (y := invL p q) (A := 13) (B := 13) (by omega) (by omega) (by omega) (by omega)
       clear her hed hred hq2 hx
       go_wp2_with fail
       refine (inv_c (by omega) (by omega) (by omega) (by omega)).mono ?_; rintro e w3 ⟨rfl, rfl⟩
       obtain ⟨y, hy⟩ : ∃ y, y = invL p q := ⟨_, rfl⟩
       rw [<- hy] at hib hmb HRD ⊢
       clear hy
       go_wp2_with fail
       first | (refine hK _ _ ⟨Below.refl _ _, ?_⟩; clear hK K) | refine ⟨Below.refl _ _, ?_⟩
       refine norm_K fun K hK => ?_
       change wpList _ _ _ [_, _, _, _] _ _
       go_wp2_with fail
       refine (plus_c (k := -q2 * y) (by omega) (by omega) (by omega) (by omega) hfr.sl hfd.sl (HXE.out.2.sm (by omega) (by omega)) (E0.out.2.sm (by omega) (by omega)) (by rw [E0.out.1, HXE.out.1]) (by have := HXE.out.1; omega)).mono ?_; rintro e w5 ⟨v5, rfl, hv5, hb5⟩
       rw [HRD.out] at hv5
       have hown := hown.below hb5; have hrow := hrow.below hb5
       have hv6 := hv5.more hbr.size
       have hbr := bwC hbr hb5
       obtain ⟨g5, cap5, rfl, _⟩ := id hv5
       have HRL := Lib.hid (show (redI p A.length R x).length = L.length from (redI_ev (by omega) HXE.out E0.out).1)
       rw [HRL.out] at hv6 ⊢
       have fz := hown.free (A.length + 1 + t)
       have hold := hown.cell (j := A.length + 1 + t) (by have := hrow.1; rw [elimD_len] at this; omega)
       have ho3 := hown.set (A.length + 1 + t) (.slice (some ⟨g5, 0, none⟩) L.length cap5)
       have hr3 := (hrow.setg hown (A.length + 1 + t) (.slice (some ⟨g5, 0, none⟩) L.length cap5)).set (hv6.setg hown (A.length + 1 + t) (.slice (some ⟨g5, 0, none⟩) L.length cap5)) (A.length + 1 + t)
       rw [HST2.out] at hr3
       have hbT := bwS (p := ⟨g, A.length + 1 + t, none⟩) hbr hgB (.slice (some ⟨g5, 0, none⟩) L.length cap5)
       go_wp2_with fail
       first | (refine hK _ _ ⟨rfl, ?_⟩; clear hK K) | refine ⟨rfl, ?_⟩
       go_wp2_with fail
       go_roundw
       case rel => exact ⟨t + 1, _, by omega, by go_num, ho3, hr3, hbT⟩
       case measure => simp [intOf]; omega
      ·obtain rfl : t = O.length := by omega
       have hAO : A.length + 1 + O.length = L.length := by have := HOL.out; have := HLEN.out; omega
       rw [elimD_full] at hrow
       have HAO := Lib.hid hAO
       have hlt9 : ¬ A.length + 1 + O.length < L.length := by omega
       clear hAO
       go_wp2_with fail
       go_roundw
       case rel => exact ⟨A.length + 1, z3, us, A ++ [R], O.map (redI p A.length R), by omega, by go_num, rfl, by simp, hown, hrow, Rw.app hrwA (Rw.mk_ E0.out fun x hx => by simp at hx), fun x hx => by obtain ⟨y, hy, rfl⟩ := List.mem_map.1 hx; exact redI_ev (by omega) (HOW.out y hy) E0.out, by have := HAO.out; simp; omega, HD3.out, hz3.1, hz3.2, hbr⟩
       case measure => simp [intOf]; omega
end Go.Proofs.YtilgbekffbphgaaGreat
