import Derived.Test.YteaaepbnoiecoaaGreatJbc
import Derived.Test.YteaaepbnoiecoaaGreatLsF
import Derived.Test.YteaaepbnoiecoaaGreatDbT
namespace Go.Proofs.YteaaepbnoiecoaaGreat
open Go.RowKit
section
variable {p : Int} {s x y z : Value} {st xs ys zs : List Int} {w : World}
theorem cols_len {F : Nat -> List Int} {k : Nat} : ((List.range k).map F).length = k := by simp
theorem cols_succ {F : Nat -> List Int} {k : Nat} : (List.range (k + 1)).map F = (List.range k).map F ++ [F k] := by rw [List.range_succ, List.map_append]; rfl
set_option maxHeartbeats 4000000 in
set_option maxRecDepth 100000 in
theorem sleft_c (hd : Dok p st) (hs : El w s st) (hx : El w x xs) (ex : Ev p (sz st.length) xs) :
  Calls Tryz.prog 86 #[.agg #[.int .i64 p, s], x] w fun e w' => ∃ v, e = .returned v /\ ReG w' w.heap.size v (unA p st xs) /\ Below w.heap.size w w' := by
 have h1 : 1 <= p := by have := hd.hp.lo; omega
 have h2 : 2 <= p := by have := hd.hp.lo; omega
 have h13 := hd.hp.hi; have hsz := sz_le hd; have hl3 := hd.hl
 have e1 : ∀ i, Ev p (sz st.length) (oneL (sz st.length) i) := fun i => ⟨oneL_len, oneL_fp h2⟩
 obtain ⟨F, hF⟩ : ∃ F : Nat -> List Int, F = fun i => mulL p st xs (oneL (sz st.length) i) := ⟨_, rfl⟩
 have hv : ∀ i, mulL p st xs (oneL (sz st.length) i) = F i := fun i => by rw [hF]
 have hev : ∀ i, Ev p (sz st.length) (F i) := fun i => by rw [<- hv]; exact mulL_ev h1 ex (e1 _)
 have hun : unA p st xs = trL ((List.range (sz st.length)).map F) (sz st.length) := by rw [hF]; rfl
 have hcol := fun (W : World) v (h : Re W v ((List.range (sz st.length)).map F)) => scolsF_c (w := W) (L := (List.range (sz st.length)).map F) h (fun r hr => by obtain ⟨i, _, rfl⟩ := List.mem_map.1 hr; rw [(hev i).1]; simp) (by simp; omega) (by simp; omega)
 rw [cols_len, <- hun] at hcol
 have HV := Lib.hid hv; have HEV := Lib.hid hev; have HE1 := Lib.hid e1; clear hv hev hun hF e1
 obtain ⟨a, c, rfl, _⟩ := id hs.op
 obtain ⟨a1, c1, rfl, _⟩ := id hx.op
 go_enter Tryz.func86, Tryz.ntmps86
 have hb0 : Below w.heap.size w (w.alloc (.cells #[.int .i64 p, .slice a st.length c] 26)) := bwT
 have hs := hs.below hb0; have hx := hx.below hb0
 have d0 : (w.alloc (.cells #[.int .i64 p, .slice a st.length c] 26)).cell? ⟨w.heap.size, 0, none⟩ = some (.int .i64 p) := by simp [go_sem]
 have d1 : (w.alloc (.cells #[.int .i64 p, .slice a st.length c] 26)).cell? ⟨w.heap.size, 1, none⟩ = some (.slice a st.length c) := by simp [go_sem]
 have hz0 : (w.alloc (.cells #[.int .i64 p, .slice a st.length c] 26)).heap.size = w.heap.size + 1 := by simp
 have hl0 := LsR.new (w := (w.alloc (.cells #[.int .i64 p, .slice a st.length c] 26))) (B := w.heap.size + 1) (Nat.le_of_eq hz0.symm)
 rw [hz0] at hl0
 have HZ0 := Lib.hid hz0; clear hz0
 have hs1 := hs; have hx1 := hx; have d01 := d0; have d11 := d1
 have hbA : Below (w.heap.size + 1) (w.alloc (.cells #[.int .i64 p, .slice a st.length c] 26)) ((w.alloc (.cells #[.int .i64 p, .slice a st.length c] 26)).alloc (.cells #[] 24)) := by rw [<- HZ0.out]; exact bwT
 obtain ⟨wA, hwA⟩ : ∃ x, x = (w.alloc (.cells #[.int .i64 p, .slice a st.length c] 26)) := ⟨_, rfl⟩
 rw [<- hwA] at hs1 hx1 d01 d11 hbA HZ0 hb0 hl0
 clear hs hx d0 d1
 go_wp2_with fail
 rw [<- hwA]; clear hwA
 go_loopw [5, 6] (fun o q wr => ∃ (k : Nat) (us : List Value), k <= sz st.length /\ q = .int .i64 k /\ LsR wr (w.heap.size + 1) o us ((List.range k).map F) /\ Below (w.heap.size + 1) wA wr) (fun _ q _ => sz st.length - (intOf q).toNat)
 case atStart => exact ⟨0, [], Nat.zero_le _, rfl, hl0, hbA⟩
 case round =>
  clear hl0 hbA
  obtain ⟨k, us, hk, rfl, hl, hbr⟩ := hrel
  obtain ⟨al, cl, rfl⟩ := hl.form
  have hul := hl.len; rw [cols_len] at hul
  have HUL := Lib.hid hul; clear hul
  have hbr1 : Below wA.heap.size wA wr := hbr.mono (Nat.le_of_eq HZ0.out)
  have hs := hs1.below hbr1; have hx := hx1.below hbr1; have d0 := kept hbr1 d01; have d1 := kept hbr1 d11
  have hwr : w.heap.size + 1 <= wr.heap.size := by have := hbr1.size; rw [HZ0.out] at this; exact this
  have hbr0 := hb0.trans (hbr.mono (Nat.le_succ _))
  clear hs1 hx1 d01 d11 hbr1
  by_cases hlt : k < sz st.length
  ·have hlti : (k : Int) < sz st.length := by omega
   obtain ⟨J, hJ⟩ : ∃ J, J = F k := ⟨_, rfl⟩
   have HV1 := Lib.hid ((HV.out k).trans hJ.symm)
   have hnext : (List.range (k + 1)).map F = (List.range k).map F ++ [J] := by rw [hJ]; exact cols_succ
   obtain ⟨I, hI⟩ : ∃ I, I = (List.range k).map F := ⟨_, rfl⟩
   rw [<- hI] at hl hnext
   have HN := Lib.hid hnext
   clear hJ hI hnext
   generalize wr = wo at *
   go_wp2_with fail
   refine (ssize_c (by omega)).mono ?_; rintro e w21 ⟨rfl, hb21⟩
   have hs := hs.below hb21; have hx := hx.below hb21; have d0 := kept hb21 d0; have d1 := kept hb21 d1; have hl := hl.below hb21
   go_wp2_with fail
   refine region_flow [(false, [(0, 0), (1, 1), (2, 0), (3, 1), (4, 0), (5, 5)]), (false, [(6, 4), (7, 4), (8, 4), (9, 0)])] (by kernel_rfl) ?_
   refine norm_K fun K hK => ?_
   change wpList _ _ _ [_, _, _, _, _, _] _ _
   have hb22 : Below w21.heap.size w21 w21.drew := bwT
   have hs := hs.below hb22; have hx := hx.below hb22; have d0 := kept hb22 d0; have d1 := kept hb22 d1; have hl := hl.below hb22
   generalize w21.drew = wq at *
   go_wp2_with fail
   refine (sone_c hd hs hlt).mono ?_; rintro e w23 ⟨vz, rfl, hzv, hb23⟩
   have hs := hs.below hb23; have hx := hx.below hb23; have d0 := kept hb23 d0; have d1 := kept hb23 d1; have hl := hl.below hb23
   go_wp2_with fail
   have hz0 : Below wq.heap.size wq w23 := bwT
   first | (refine hK _ _ ⟨hz0, ?_⟩; clear hK K) | refine ⟨hz0, ?_⟩
   clear hz0
   refine norm_K fun K hK => ?_
   change wpList _ _ _ [_, _, _, _] _ _
   obtain ⟨az, cz, rfl, _⟩ := id hzv.el.op
   have hlp := hl
   go_wp2_with fail
   refine (stimes_c hd hs hx hzv.el ex (HE1.out k)).mono ?_; rintro e w24 ⟨v4, rfl, hv4, hb24⟩
   have hs := hs.below hb24; have hx := hx.below hb24; have d0 := kept hb24 d0; have d1 := kept hb24 d1; have hl := hl.below hb24; have hzv := hzv.below hb24
   rw [HV1.out] at hv4
   obtain ⟨a4, c4, rfl, _⟩ := id hv4.el.op
   have hzn := hlp.fresh hv4.elr
   have hb6 : Below wo.heap.size wo w23 := bwT
   have hbB : Below wo.heap.size wo w24 := bwT
   have hnx := hbr.trans (hbB.mono hwr)
   have hcs : w.heap.size + 1 <= w24.heap.size := Nat.le_trans hwr hbB.size
   have hz4 : ElR w24 (w.heap.size + 1) _ J := hv4.elr.more (Nat.le_trans hwr hb6.size)
   go_wp2_with (at_builtin; refine appr_one rfl _ _ rfl w24 (w.heap.size + 1) _ rfl (.slice al us.length cl) us rfl (.slice a4 J.length c4) 1 rfl rfl hl.own hcs (by have := HUL.out; omega) ?_; intro g' cap' w8 hown' hgb' hg' hge)
   have hl8 := hl.snoc hz4 hzn (nv := .slice (some ⟨g', 0, none⟩) (us.length + 1) cap') rfl hown' hgb' hg' hge
   first | (refine hK _ _ ⟨rfl, ?_⟩; clear hK K) | refine ⟨rfl, ?_⟩
   go_wp2_with fail
   go_roundw
   case rel => exact ⟨k + 1, _, by omega, by go_num, by rw [HN.out]; exact hl8, hnx.trans hgb'⟩
   case measure => simp [intOf]; omega
  ·obtain rfl : k = sz st.length := by omega
   have hlf : ¬ ((sz st.length : Nat) : Int) < sz st.length := by omega
   generalize wr = wo at *
   go_wp2_with fail
   refine (ssize_c (by omega)).mono ?_; rintro e w51 ⟨rfl, hb51⟩
   have d0 := kept hb51 d0; have d1 := kept hb51 d1; have hl := hl.below hb51
   go_wp2_with fail
   refine (hcol _ _ hl.rer.re).mono ?_; rintro e w60 ⟨v, rfl, hv, hb60⟩
   go_wp2_with fail
   go_ret
   exact ⟨_, rfl, hv.more (by have := hbr0.size; have := hb51.size; omega), hbr0.trans ((hb51.trans (hb60.mono hb51.size)).mono hbr0.size)⟩
set_option maxHeartbeats 4000000 in
set_option maxRecDepth 100000 in
theorem sright_c (hd : Dok p st) (hs : El w s st) (hx : El w x xs) (ex : Ev p (sz st.length) xs) :
  Calls Tryz.prog 87 #[.agg #[.int .i64 p, s], x] w fun e w' => ∃ v, e = .returned v /\ ReG w' w.heap.size v (unB p st xs) /\ Below w.heap.size w w' := by
 have h1 : 1 <= p := by have := hd.hp.lo; omega
 have h2 : 2 <= p := by have := hd.hp.lo; omega
 have h13 := hd.hp.hi; have hsz := sz_le hd; have hl3 := hd.hl
 have e1 : ∀ i, Ev p (sz st.length) (oneL (sz st.length) i) := fun i => ⟨oneL_len, oneL_fp h2⟩
 obtain ⟨F, hF⟩ : ∃ F : Nat -> List Int, F = fun i => mulL p st (oneL (sz st.length) i) xs := ⟨_, rfl⟩
 have hv : ∀ i, mulL p st (oneL (sz st.length) i) xs = F i := fun i => by rw [hF]
 have hev : ∀ i, Ev p (sz st.length) (F i) := fun i => by rw [<- hv]; exact mulL_ev h1 (e1 _) ex
 have hun : unB p st xs = trL ((List.range (sz st.length)).map F) (sz st.length) := by rw [hF]; rfl
 have hcol := fun (W : World) v (h : Re W v ((List.range (sz st.length)).map F)) => scolsF_c (w := W) (L := (List.range (sz st.length)).map F) h (fun r hr => by obtain ⟨i, _, rfl⟩ := List.mem_map.1 hr; rw [(hev i).1]; simp) (by simp; omega) (by simp; omega)
 rw [cols_len, <- hun] at hcol
 have HV := Lib.hid hv; have HEV := Lib.hid hev; have HE1 := Lib.hid e1; clear hv hev hun hF e1
 obtain ⟨a, c, rfl, _⟩ := id hs.op
 obtain ⟨a1, c1, rfl, _⟩ := id hx.op
 go_enter Tryz.func87, Tryz.ntmps87
 have hb0 : Below w.heap.size w (w.alloc (.cells #[.int .i64 p, .slice a st.length c] 26)) := bwT
 have hs := hs.below hb0; have hx := hx.below hb0
 have d0 : (w.alloc (.cells #[.int .i64 p, .slice a st.length c] 26)).cell? ⟨w.heap.size, 0, none⟩ = some (.int .i64 p) := by simp [go_sem]
 have d1 : (w.alloc (.cells #[.int .i64 p, .slice a st.length c] 26)).cell? ⟨w.heap.size, 1, none⟩ = some (.slice a st.length c) := by simp [go_sem]
 have hz0 : (w.alloc (.cells #[.int .i64 p, .slice a st.length c] 26)).heap.size = w.heap.size + 1 := by simp
 have hl0 := LsR.new (w := (w.alloc (.cells #[.int .i64 p, .slice a st.length c] 26))) (B := w.heap.size + 1) (Nat.le_of_eq hz0.symm)
 rw [hz0] at hl0
 have HZ0 := Lib.hid hz0; clear hz0
 have hs1 := hs; have hx1 := hx; have d01 := d0; have d11 := d1
 have hbA : Below (w.heap.size + 1) (w.alloc (.cells #[.int .i64 p, .slice a st.length c] 26)) ((w.alloc (.cells #[.int .i64 p, .slice a st.length c] 26)).alloc (.cells #[] 24)) := by rw [<- HZ0.out]; exact bwT
 obtain ⟨wA, hwA⟩ : ∃ x, x = (w.alloc (.cells #[.int .i64 p, .slice a st.length c] 26)) := ⟨_, rfl⟩
 rw [<- hwA] at hs1 hx1 d01 d11 hbA HZ0 hb0 hl0
 clear hs hx d0 d1
 go_wp2_with fail
 rw [<- hwA]; clear hwA
 go_loopw [5, 6] (fun o q wr => ∃ (k : Nat) (us : List Value), k <= sz st.length /\ q = .int .i64 k /\ LsR wr (w.heap.size + 1) o us ((List.range k).map F) /\ Below (w.heap.size + 1) wA wr) (fun _ q _ => sz st.length - (intOf q).toNat)
 case atStart => exact ⟨0, [], Nat.zero_le _, rfl, hl0, hbA⟩
 case round =>
  clear hl0 hbA
  obtain ⟨k, us, hk, rfl, hl, hbr⟩ := hrel
  obtain ⟨al, cl, rfl⟩ := hl.form
  have hul := hl.len; rw [cols_len] at hul
  have HUL := Lib.hid hul; clear hul
  have hbr1 : Below wA.heap.size wA wr := hbr.mono (Nat.le_of_eq HZ0.out)
  have hs := hs1.below hbr1; have hx := hx1.below hbr1; have d0 := kept hbr1 d01; have d1 := kept hbr1 d11
  have hwr : w.heap.size + 1 <= wr.heap.size := by have := hbr1.size; rw [HZ0.out] at this; exact this
  have hbr0 := hb0.trans (hbr.mono (Nat.le_succ _))
  clear hs1 hx1 d01 d11 hbr1
  by_cases hlt : k < sz st.length
  ·have hlti : (k : Int) < sz st.length := by omega
   obtain ⟨J, hJ⟩ : ∃ J, J = F k := ⟨_, rfl⟩
   have HV1 := Lib.hid ((HV.out k).trans hJ.symm)
   have hnext : (List.range (k + 1)).map F = (List.range k).map F ++ [J] := by rw [hJ]; exact cols_succ
   obtain ⟨I, hI⟩ : ∃ I, I = (List.range k).map F := ⟨_, rfl⟩
   rw [<- hI] at hl hnext
   have HN := Lib.hid hnext
   clear hJ hI hnext
   generalize wr = wo at *
   go_wp2_with fail
   refine (ssize_c (by omega)).mono ?_; rintro e w21 ⟨rfl, hb21⟩
   have hs := hs.below hb21; have hx := hx.below hb21; have d0 := kept hb21 d0; have d1 := kept hb21 d1; have hl := hl.below hb21
   go_wp2_with fail
   refine region_flow [(false, [(0, 0), (1, 1), (2, 1), (3, 0), (5, 0), (4, 5)]), (false, [(6, 4), (7, 4), (8, 4), (9, 0)])] (by kernel_rfl) ?_
   refine norm_K fun K hK => ?_
   change wpList _ _ _ [_, _, _, _, _, _] _ _
   have hb22 : Below w21.heap.size w21 w21.drew := bwT
   have hs := hs.below hb22; have hx := hx.below hb22; have d0 := kept hb22 d0; have d1 := kept hb22 d1; have hl := hl.below hb22
   generalize w21.drew = wq at *
   go_wp2_with fail
   refine (sone_c hd hs hlt).mono ?_; rintro e w23 ⟨vz, rfl, hzv, hb23⟩
   have hs := hs.below hb23; have hx := hx.below hb23; have d0 := kept hb23 d0; have d1 := kept hb23 d1; have hl := hl.below hb23
   go_wp2_with fail
   have hz0 : Below wq.heap.size wq w23 := bwT
   first | (refine hK _ _ ⟨hz0, ?_⟩; clear hK K) | refine ⟨hz0, ?_⟩
   clear hz0
   refine norm_K fun K hK => ?_
   change wpList _ _ _ [_, _, _, _] _ _
   obtain ⟨az, cz, rfl, _⟩ := id hzv.el.op
   have hlp := hl
   go_wp2_with fail
   refine (stimes_c hd hs hzv.el hx (HE1.out k) ex).mono ?_; rintro e w24 ⟨v4, rfl, hv4, hb24⟩
   have hs := hs.below hb24; have hx := hx.below hb24; have d0 := kept hb24 d0; have d1 := kept hb24 d1; have hl := hl.below hb24; have hzv := hzv.below hb24
   rw [HV1.out] at hv4
   obtain ⟨a4, c4, rfl, _⟩ := id hv4.el.op
   have hzn := hlp.fresh hv4.elr
   have hb6 : Below wo.heap.size wo w23 := bwT
   have hbB : Below wo.heap.size wo w24 := bwT
   have hnx := hbr.trans (hbB.mono hwr)
   have hcs : w.heap.size + 1 <= w24.heap.size := Nat.le_trans hwr hbB.size
   have hz4 : ElR w24 (w.heap.size + 1) _ J := hv4.elr.more (Nat.le_trans hwr hb6.size)
   go_wp2_with (at_builtin; refine appr_one rfl _ _ rfl w24 (w.heap.size + 1) _ rfl (.slice al us.length cl) us rfl (.slice a4 J.length c4) 1 rfl rfl hl.own hcs (by have := HUL.out; omega) ?_; intro g' cap' w8 hown' hgb' hg' hge)
   have hl8 := hl.snoc hz4 hzn (nv := .slice (some ⟨g', 0, none⟩) (us.length + 1) cap') rfl hown' hgb' hg' hge
   first | (refine hK _ _ ⟨rfl, ?_⟩; clear hK K) | refine ⟨rfl, ?_⟩
   go_wp2_with fail
   go_roundw
   case rel => exact ⟨k + 1, _, by omega, by go_num, by rw [HN.out]; exact hl8, hnx.trans hgb'⟩
   case measure => simp [intOf]; omega
  ·obtain rfl : k = sz st.length := by omega
   have hlf : ¬ ((sz st.length : Nat) : Int) < sz st.length := by omega
   generalize wr = wo at *
   go_wp2_with fail
   refine (ssize_c (by omega)).mono ?_; rintro e w51 ⟨rfl, hb51⟩
   have d0 := kept hb51 d0; have d1 := kept hb51 d1; have hl := hl.below hb51
   go_wp2_with fail
   refine (hcol _ _ hl.rer.re).mono ?_; rintro e w60 ⟨v, rfl, hv, hb60⟩
   go_wp2_with fail
   go_ret
   exact ⟨_, rfl, hv.more (by have := hbr0.size; have := hb51.size; omega), hbr0.trans ((hb51.trans (hb60.mono hb51.size)).mono hbr0.size)⟩
end
end Go.Proofs.YteaaepbnoiecoaaGreat
