import Derived.Test.YteaaepbnoiecoaaGreatGuE
import Derived.Test.YteaaepbnoiecoaaGreatJbe
import Derived.Test.YteaaepbnoiecoaaGreatGuA
namespace Go.Proofs.YteaaepbnoiecoaaGreat
open Go.RowKit
def DrMt (w : World) (q : Nat) (p : Int) (m : Nat) (e : Ending) (w' : World) : Prop := ∃ v : Value, e = .returned v /\ MtR w' w.heap.size p m v /\ Src w' q /\ Chg q (q + 1) w w'
set_option maxHeartbeats 16000000 in
set_option maxRecDepth 100000 in
theorem sdrawsk_c {q : Nat} {p : Int} {x : Value} {st : List Int} {w : World} (hd : Dok p st) (hs : Src w q) (hE : ElR w (q + 1) x st) :
  Calls Tryz.prog 95 #[.pointer (some ⟨q, 0, none⟩), .agg #[.int .i64 p, x]] w fun e w' => DrMt w q p (sz st.length) e w' := by
 have hp2 : 2 <= p := by have := hd.hp.lo; omega
 have h13 := hd.hp.hi
 have hq := hs.lt
 have hsz := sz_le hd; have hl3 := hd.hl
 obtain ⟨a, c, rfl, _⟩ := id hE.1.op
 have hdl := diagF_len (p := p) (st := st)
 have hdf := diagF_fp (p := p) (st := st) hp2
 have hdg : ∀ i, 0 <= (diagF p st).getD i 0 /\ (diagF p st).getD i 0 < p := fun i => hdf.g0 (by omega) i
 have HDG := Lib.hid hdg; clear hdg hdf
 have kd := fun W (h : El W (.slice a st.length c) st) => sdiag_c (w := W) (p := p) hd h
 have ks := fun W => ssize_c (w := W) (p := p) (a := a) (n := st.length) (c := c) (by omega)
 obtain ⟨n, hn⟩ : ∃ n, n = sz st.length := ⟨_, rfl⟩
 rw [<- hn] at hdl hsz ⊢
 simp only [<- hn] at ks
 clear hn
 have hDL := Lib.hid hdl; clear hdl
 have hmk := fun W => run_make_row' (P := Tryz.prog) 24 2 (.int .i64 0) 8 Tryz.underlying24 infoI rfl .i64 .i64 n (by omega) (by omega) W
 have hE0 := hE.1
 go_enter Tryz.func95, Tryz.ntmps95
 have hb0 : Below w.heap.size w (w.alloc (.cells #[.int .i64 p, .slice a st.length c] 26)) := bwT
 have hE0 := hE0.below hb0; have hs := hs.below hb0
 have d0 : (w.alloc (.cells #[.int .i64 p, .slice a st.length c] 26)).cell? ⟨w.heap.size, 0, none⟩ = some (.int .i64 p) := by simp [go_sem]
 have d1 : (w.alloc (.cells #[.int .i64 p, .slice a st.length c] 26)).cell? ⟨w.heap.size, 1, none⟩ = some (.slice a st.length c) := by simp [go_sem]
 have hB : Bd (w.alloc (.cells #[.int .i64 p, .slice a st.length c] 26)) w.heap.size (.int .i64 p) (.slice a st.length c) := heap_alloc_new w _
 go_wp2_with fail
 refine region_flow [(false, [(0, 1), (2, 1), (1, 5)]), (false, [(3, 4), (4, 0), (5, 0)])] (by kernel_rfl) ?_
 refine norm_K fun K hK => ?_
 change wpList _ _ _ [_, _, _] _ _
 have hb1 : Below (w.alloc (.cells #[.int .i64 p, .slice a st.length c] 26)).heap.size (w.alloc (.cells #[.int .i64 p, .slice a st.length c] 26)) (w.alloc (.cells #[.int .i64 p, .slice a st.length c] 26)).drew := bwT
 have hE0 := hE0.below hb1; have hs := hs.below hb1; have d0 := kept hb1 d0; have d1 := kept hb1 d1; have hB := hB.below hb1
 generalize (w.alloc (.cells #[.int .i64 p, .slice a st.length c] 26)).drew = wq at *
 have hzq : w.heap.size + 1 <= wq.heap.size := by have := hb1.size; simpa using this
 have hbw1 : Below w.heap.size w wq := bwT
 go_wp2_with fail
 refine (kd _ hE0).mono ?_; rintro e w2 ⟨vd, rfl, hvd, hb2⟩
 have hE0 := hE0.below hb2; have hs := hs.below hb2; have d0 := kept hb2 d0; have d1 := kept hb2 d1; have hB := hB.below hb2
 go_wp2_with fail
 have hz0 : Below wq.heap.size wq w2 := bwT
 first | (refine hK _ _ ⟨hz0, ?_⟩; clear hK K) | refine ⟨hz0, ?_⟩
 clear hz0
 refine norm_K fun K hK => ?_
 change wpList _ _ _ [_, _, _] _ _
 obtain ⟨gd, capd, rfl, hv⟩ := hvd
 rw [hDL.out] at hv ⊢
 have hv := hv.rebase (B' := w.heap.size + 1) (by have := hv.lt.1; omega)
 go_wp2_with fail
 refine (ks _).mono ?_; rintro e w3 ⟨rfl, hb3⟩
 have hE0 := hE0.below hb3; have hs := hs.below hb3; have d0 := kept hb3 d0; have d1 := kept hb3 d1; have hB := hB.below hb3; have hv := hv.below hb3
 go_wp2_with fail
 first | (refine hK _ _ ⟨rfl, ?_⟩; clear hK K) | refine ⟨rfl, ?_⟩
 obtain ⟨M, hM⟩ : ∃ M, M = w3.heap.size := ⟨_, rfl⟩
 have hgd := hv.lt
 have hb3w : Below w.heap.size w w3 := hbw1.trans ((hb2.trans (hb3.mono hb2.size)).mono hbw1.size)
 have hMw : w.heap.size <= M := by rw [hM]; exact hb3w.size
 have hMq : q + 1 <= M := by omega
 have hgM : gd < M := by rw [hM]; exact hgd.2
 have hbM : w.heap.size < M := by have := hgd.1; omega
 have hl0 := LsF.new (w := w3) (B := w3.heap.size) (Nat.le_refl _)
 have hbA : Below w3.heap.size w3 (w3.alloc (.cells #[] 24)) := bwT
 rw [<- hM] at hl0 hbA
 have hs3 := hs; have hv3 := hv; have hB3 := hB
 have HM := Lib.hid hM
 clear hE0 hs hv hB d0 d1 hb0 hb1 hb2 hb3 hM hbw1
 go_wp2_with fail
 rw [<- HM.out]
 go_loopw [7, 8] (fun o i wr => ∃ (k : Nat) (us : List Value), k <= n /\ i = .int .i64 k /\ LsF wr M o us ((List.range k).map fun _ => List.replicate n 0) /\ Below M w3 wr) (fun _ i _ => n - (intOf i).toNat)
 case atStart => exact ⟨0, [], Nat.zero_le _, rfl, hl0, hbA⟩
 case round =>
  clear hl0 hbA
  obtain ⟨k, us, hk, rfl, hl, hbr⟩ := hrel
  obtain ⟨al, cl, rfl⟩ := hl.form
  have hul := hl.len; rw [cols_len] at hul
  have HUL := Lib.hid hul; clear hul
  by_cases hlt : k < n
  ·have hlti : (k : Int) < n := by omega
   have hmo := made_own (W := wr) (n := n) (by omega)
   have hbm : Below wr.heap.size wr (wr.alloc (.cells (madeCells #[Value.int .i64 0] n) 2)) := bwT
   obtain ⟨J, hJ⟩ : ∃ J, J = List.replicate n (0 : Int) := ⟨_, rfl⟩
   have hJl : J.length = n := by rw [hJ]; simp
   have hnext : ((List.range (k + 1)).map fun _ => J) = ((List.range k).map fun _ => J) ++ [J] := by rw [List.range_succ, List.map_append]; rfl
   rw [<- hJ] at hl hmo ⊢
   have hzf : ElF (wr.alloc (.cells (madeCells #[Value.int .i64 0] n) 2)) wr.heap.size (.slice (some ⟨wr.heap.size, 0, none⟩) J.length n) J := (show FrI _ _ _ _ from ⟨_, _, rfl, by rw [hJl]; exact hmo⟩).elf
   rw [hJl] at hzf
   have hzn := hl.fresh hzf.1
   have hl4 := hl.below hbm
   have hz4 := hzf.more (show M <= wr.heap.size by rw [HM.out]; exact hbr.size)
   have hb5 := hbr.trans (hbm.mono (by rw [HM.out]; exact hbr.size))
   have hcs : M <= (wr.alloc (.cells (madeCells #[Value.int .i64 0] n) 2)).heap.size := by have := hbr.size; rw [<- HM.out] at this; simp; omega
   have HN := Lib.hid hnext; have HJ := Lib.hid hJ
   clear hJ hJl hnext hl hmo hzf
   go_wp2_with (at_builtin; refine appr_one rfl _ _ rfl (wr.alloc (.cells (madeCells #[Value.int .i64 0] n) 2)) M (wr.heap.size + 1) (by simp) (.slice al us.length cl) us rfl (.slice (some ⟨wr.heap.size, 0, none⟩) n n) 1 rfl rfl hl4.own hcs (by have := HUL.out; omega) ?_; intro g' cap' w8 hown' hgb' hg' hge)
   have hl8 := hl4.snoc hz4 hzn (nv := .slice (some ⟨g', 0, none⟩) (us.length + 1) cap') rfl hown' hgb' hg' (hge.imp_right fun h => by rw [h]; simp)
   go_roundw
   case rel => exact ⟨k + 1, _, by omega, by go_num, by rw [HN.out]; exact hl8, hb5.trans hgb'⟩
   case measure => simp [intOf]; omega
  ·obtain rfl : n = k := by omega
   have hlf : ¬ (n : Int) < n := by omega
   have hm : MtR wr M p n (.slice al us.length cl) := ⟨_, hl.reg, matB_iff.2 ⟨by simp, fun r hr => by
    obtain ⟨i, _, rfl⟩ := List.mem_map.1 hr
    exact ⟨by simp, fun y hy => by have := List.eq_of_mem_replicate hy; omega⟩⟩⟩
   have hs := hs3.bl hbr (by omega)
   have hB := hB3.bl hbr (by omega)
   have hv : OwnI wr (w.heap.size + 1) gd n capd (diagF p st) := hv3.below (hbr.mono (Nat.le_of_eq HM.out.symm))
   have hc : Chg q (q + 1) w wr := (Chg.below hb3w).bl (hbr.mono hMw)
   have hsz4 : M <= wr.heap.size := by have := hbr.size; rw [<- HM.out] at this; exact this
   rw [HUL.out] at hm ⊢
   obtain ⟨b, off, c', b2, o2, c2, y, hoe, _⟩ := hm.at (i := 0) (k := 0) (by omega) (by omega)
   cases hoe
   clear hs3 hB3 hv3 hl hbr hb3w
   generalize wr = wo at *
   go_wp2_with fail
   refine (snext_c hs (by decide) (by decide)).mono ?_; rintro e w10 ⟨few, rfl, hf0, hf1, hs10, hc10, hz10⟩
   have hm := hm.chg hc10 (by omega)
   have hB := hB.chg hc10 (.inr (by omega))
   have hv : OwnI w10 (w.heap.size + 1) gd n capd (diagF p st) := ownsRow_chg hc10 hv (fun g' hg' => by cases hg'; right; show q + 1 <= gd; have := hgd.1; omega)
   have hc := hc.trans hc10
   have hs := hs10
   have hsz4 : M <= w10.heap.size := by omega
   clear hs10 hc10 hz10 hlf
   go_wp2_with fail
   go_loopw [10] (fun s wr => ∃ i : Nat, i <= n /\ s = .int .i64 i /\ MtR wr M p n (.slice (some ⟨b, off, none⟩) n cl) /\ Src wr q /\ Chg q (q + 1) w wr /\ Bd wr w.heap.size (.int .i64 p) (.slice a st.length c) /\ OwnI wr (w.heap.size + 1) gd n capd (diagF p st) /\ M <= wr.heap.size) (fun s _ => n - (intOf s).toNat)
   case atStart => exact ⟨0, Nat.zero_le _, rfl, hm, hs, hc, hB, hv, hsz4⟩
   case round =>
    clear hm hs hc hB hv hsz4
    obtain ⟨i, hi, rfl, hm, hs, hc, hB, hv, hsz4⟩ := hrel
    by_cases hlt2 : i < n
    ·have hlti : (i : Int) < n := by omega
     have hi_ := hi
     clear hi
     have hi := hlt2
     generalize wr = w5 at *
     have hdi : decide ((i : Int) < n) = true := by simpa using hlti
     go_wp2_with fail
     go_loopw [11] (fun s wr => ∃ k : Nat, k <= i /\ s = .int .i64 k /\ MtR wr M p n (.slice (some ⟨b, off, none⟩) n cl) /\ Src wr q /\ Chg q (q + 1) w wr /\ Bd wr w.heap.size (.int .i64 p) (.slice a st.length c) /\ OwnI wr (w.heap.size + 1) gd n capd (diagF p st) /\ M <= wr.heap.size) (fun s _ => i - (intOf s).toNat)
     case atStart => exact ⟨0, Nat.zero_le _, rfl, hm, hs, hc, hB, hv, hsz4⟩
     case round =>
      clear hm hs hc hB hv hsz4
      obtain ⟨k, hk_, rfl, hm, hs, hc, hB, hv, hsz4⟩ := hrel
      by_cases hlt3 : k < i
      ·have hltk : (k : Int) < i := by omega
       have hk : k < n := by omega
       have hkn : (k : Int) < n := by omega
       by_cases hfew : few = 1
       ·have hfb : (few == 1) = true := by simpa using hfew
        clear hfew
        go_wp2_with fail
        refine (snext_c hs (by decide) (by decide)).mono ?_; rintro e w20 ⟨y2, rfl, hy0, hy1, hs20, hc20, hz20⟩
        have hm := hm.chg hc20 (by omega)
        have hB := hB.chg hc20 (.inr (by omega))
        have hv : OwnI w20 (w.heap.size + 1) gd n capd (diagF p st) := ownsRow_chg hc20 hv (fun g' hg' => by cases hg'; right; show q + 1 <= gd; have := hgd.1; omega)
        have hc := hc.trans hc20
        have hs := hs20
        have hsz4 : M <= w20.heap.size := by omega
        clear hs20 hc20 hz20 hy1
        by_cases hy : 0 < y2
        ·go_wp2_with fail
         go_roundw
         case rel => exact ⟨k + 1, by omega, by go_num, hm, hs, hc, hB, hv, hsz4⟩
         case measure => simp [intOf]; omega
        ·skip
         have d0 := hB.c0; have d1 := hB.c1
         go_wp2_with fail
         refine (snext_c hs (by omega) (by omega)).mono ?_; rintro e w30 ⟨z, rfl, hz0, hz1, hs3, hc3, hz3⟩
         have hzp : z < p := by omega
         have hm := hm.chg hc3 (by omega)
         have hB := hB.chg hc3 (.inr (by omega))
         have hv : OwnI w30 (w.heap.size + 1) gd n capd (diagF p st) := ownsRow_chg hc3 hv (fun g' hg' => by cases hg'; right; show q + 1 <= gd; have := hgd.1; omega)
         have hc := hc.trans hc3
         have hs := hs3
         have hsz4 : M <= w30.heap.size := by omega
         clear hz1 hc3 hz3 d0 d1 hs3
         go_wp2_with fail
         refine region_flow [(false, [(0, 0), (1, 0), (2, 0), (3, 1), (4, 0), (5, 0), (6, 1), (7, 0), (8, 0), (9, 0), (10, 0), (11, 1), (12, 0), (13, 5)]), (false, [(14, 0), (15, 4)])] (by kernel_rfl) ?_
         refine norm_K fun K hK => ?_
         change wpList _ _ _ [_, _, _, _, _, _, _, _, _, _, _, _, _, _] _ _
         have hb31 : Below w30.heap.size w30 w30.drew := bwT
         have hm := hm.below hb31; have hB := hB.below hb31; have hv := hv.below hb31; have hs := hs.below hb31
         generalize w30.drew = wq at *
         have hc := hc.bl (hb31.mono hc.size)
         have hsz4 := Nat.le_trans hsz4 hb31.size
         obtain ⟨b', off', c', b2, o2, c2, y, hoe, _, _, hr1, hg2, hg3, hr2, hfz, hB2, hB3⟩ := hm.at hi hk
         cases hoe
         have hfz1 := hfz (o2 + k)
         have d0 := hB.c0; have d1 := hB.c1
         have hdk := hv.hold (i := k) hk
         have hdb := HDG.out k
         obtain ⟨dk, hdk_⟩ : ∃ x, x = (diagF p st).getD k 0 := ⟨_, rfl⟩
         rw [<- hdk_] at hdk hdb; clear hdk_
         have m1 := mulb (k := z) (y := dk) (A := 13) (B := 13) (by omega) (by omega) (by omega) (by omega)
         have hmod := Lib.hid (mod_fp (p := p) (x := z * dk) (by omega))
         go_wp2_with fail
         refine (smod_c (by omega) (by omega)).mono ?_; rintro e w32 ⟨rfl, rfl⟩
         obtain ⟨t, ht⟩ : ∃ t, t = z * dk % p := ⟨_, rfl⟩
         rw [<- ht]
         have hmo := hmod.out
         rw [<- ht] at hmo
         clear ht
         go_wp2_with fail
         have hz0 : Below wq.heap.size wq wq := bwT
         first | (refine hK _ _ ⟨hz0, ?_⟩; clear hK K) | refine ⟨hz0, ?_⟩
         clear hz0
         refine norm_K fun K hK => ?_
         change wpList _ _ _ [_, _] _ _
         go_wp2_with fail
         first | (refine hK _ _ ⟨rfl, ?_⟩; clear hK K) | refine ⟨rfl, ?_⟩
         obtain ⟨W16, hW16⟩ : ∃ x, x = wq.setCell ⟨b2, o2 + k, none⟩ (.int .i64 t) := ⟨_, rfl⟩
         have hbs : Below M wq W16 := by rw [hW16]; exact (Below.refl _ _).setCell (p := ⟨b2, o2 + k, none⟩) hB2 _
         have hm_ : MtR W16 M p n (.slice (some ⟨b, off, none⟩) n cl) := by rw [hW16]; exact hm.setI hr2 hmo.1 hmo.2
         have hv_ : OwnI W16 (w.heap.size + 1) gd n capd (diagF p st) := by rw [hW16]; exact ownsRow_chg (Chg.set wq ⟨b2, o2 + k, none⟩ _) hv (fun g' hg' => by cases hg'; left; show gd < b2; omega)
         have hB_ := hB.bl hbs (by omega)
         have hs_ := hs.bl hbs (by omega)
         have hc_ := hc.bl (hbs.mono hMw)
         have hsz_ : M <= W16.heap.size := Nat.le_trans hsz4 hbs.size
         rw [<- hW16]
         clear hm hv hB hs hc hr1 hr2 hfz hfz1 hB2 hB3 d0 d1 hdk hdb m1 hmod hmo hW16 hbs hg2 hg3 hsz4
         have hm := hm_; have hv := hv_; have hB := hB_; have hs := hs_; have hc := hc_; have hsz4 := hsz_
         clear hm_ hv_ hB_ hs_ hc_ hsz_
         go_wp2_with fail
         refine region_flow [(false, [(0, 0), (1, 0), (2, 0), (3, 1), (4, 0), (5, 0), (6, 1), (7, 0), (8, 0), (9, 0), (10, 0), (11, 0), (12, 1), (13, 0), (14, 5)]), (false, [(15, 0), (16, 4)])] (by kernel_rfl) ?_
         refine norm_K fun K hK => ?_
         change wpList _ _ _ [_, _, _, _, _, _, _, _, _, _, _, _, _, _, _] _ _
         have hb51 : Below W16.heap.size W16 W16.drew := bwT
         have hm := hm.below hb51; have hB := hB.below hb51; have hv := hv.below hb51; have hs := hs.below hb51
         generalize W16.drew = wq at *
         have hc := hc.bl (hb51.mono hc.size)
         have hsz4 := Nat.le_trans hsz4 hb51.size
         obtain ⟨b', off', c', b2, o2, c2, y, hoe, _, _, hr1, hg2, hg3, hr2, hfz, hB2, hB3⟩ := hm.at hk hi
         cases hoe
         have hfz1 := hfz (o2 + i)
         have d0 := hB.c0; have d1 := hB.c1
         have hdk := hv.hold (i := i) hi
         have hdb := HDG.out i
         obtain ⟨dk, hdk_⟩ : ∃ x, x = (diagF p st).getD i 0 := ⟨_, rfl⟩
         rw [<- hdk_] at hdk hdb; clear hdk_
         have m1 := mulb (k := (-z)) (y := dk) (A := 13) (B := 13) (by omega) (by omega) (by omega) (by omega)
         have hmod := Lib.hid (mod_fp (p := p) (x := (-z) * dk) (by omega))
         go_wp2_with fail
         refine (smod_c (by omega) (by omega)).mono ?_; rintro e w52 ⟨rfl, rfl⟩
         obtain ⟨t, ht⟩ : ∃ t, t = (-z) * dk % p := ⟨_, rfl⟩
         rw [<- ht]
         have hmo := hmod.out
         rw [<- ht] at hmo
         clear ht
         go_wp2_with fail
         have hz0 : Below wq.heap.size wq wq := bwT
         first | (refine hK _ _ ⟨hz0, ?_⟩; clear hK K) | refine ⟨hz0, ?_⟩
         clear hz0
         refine norm_K fun K hK => ?_
         change wpList _ _ _ [_, _] _ _
         go_wp2_with fail
         first | (refine hK _ _ ⟨rfl, ?_⟩; clear hK K) | refine ⟨rfl, ?_⟩
         obtain ⟨W17, hW17⟩ : ∃ x, x = wq.setCell ⟨b2, o2 + i, none⟩ (.int .i64 t) := ⟨_, rfl⟩
         have hbs : Below M wq W17 := by rw [hW17]; exact (Below.refl _ _).setCell (p := ⟨b2, o2 + i, none⟩) hB2 _
         have hm_ : MtR W17 M p n (.slice (some ⟨b, off, none⟩) n cl) := by rw [hW17]; exact hm.setI hr2 hmo.1 hmo.2
         have hv_ : OwnI W17 (w.heap.size + 1) gd n capd (diagF p st) := by rw [hW17]; exact ownsRow_chg (Chg.set wq ⟨b2, o2 + i, none⟩ _) hv (fun g' hg' => by cases hg'; left; show gd < b2; omega)
         have hB_ := hB.bl hbs (by omega)
         have hs_ := hs.bl hbs (by omega)
         have hc_ := hc.bl (hbs.mono hMw)
         have hsz_ : M <= W17.heap.size := Nat.le_trans hsz4 hbs.size
         rw [<- hW17]
         clear hm hv hB hs hc hr1 hr2 hfz hfz1 hB2 hB3 d0 d1 hdk hdb m1 hmod hmo hW17 hbs hg2 hg3 hsz4
         have hm := hm_; have hv := hv_; have hB := hB_; have hs := hs_; have hc := hc_; have hsz4 := hsz_
         clear hm_ hv_ hB_ hs_ hc_ hsz_
         go_wp2_with fail
         go_roundw
         case rel => exact ⟨k + 1, by omega, by go_num, hm, hs, hc, hB, hv, hsz4⟩
         case measure => simp [intOf]; omega
       ·have hfb : (few == 1) = false := by simpa using hfew
        have d0 := hB.c0; have d1 := hB.c1
        go_wp2_with fail
        refine (snext_c hs (by omega) (by omega)).mono ?_; rintro e w30 ⟨z, rfl, hz0, hz1, hs3, hc3, hz3⟩
        have hzp : z < p := by omega
        have hm := hm.chg hc3 (by omega)
        have hB := hB.chg hc3 (.inr (by omega))
        have hv : OwnI w30 (w.heap.size + 1) gd n capd (diagF p st) := ownsRow_chg hc3 hv (fun g' hg' => by cases hg'; right; show q + 1 <= gd; have := hgd.1; omega)
        have hc := hc.trans hc3
        have hs := hs3
        have hsz4 : M <= w30.heap.size := by omega
        clear hz1 hc3 hz3 d0 d1 hs3
        go_wp2_with fail
        refine region_flow [(false, [(0, 0), (1, 0), (2, 0), (3, 1), (4, 0), (5, 0), (6, 1), (7, 0), (8, 0), (9, 0), (10, 0), (11, 1), (12, 0), (13, 5)]), (false, [(14, 0), (15, 4)])] (by kernel_rfl) ?_
        refine norm_K fun K hK => ?_
        change wpList _ _ _ [_, _, _, _, _, _, _, _, _, _, _, _, _, _] _ _
        have hb31 : Below w30.heap.size w30 w30.drew := bwT
        have hm := hm.below hb31; have hB := hB.below hb31; have hv := hv.below hb31; have hs := hs.below hb31
        generalize w30.drew = wq at *
        have hc := hc.bl (hb31.mono hc.size)
        have hsz4 := Nat.le_trans hsz4 hb31.size
        obtain ⟨b', off', c', b2, o2, c2, y, hoe, _, _, hr1, hg2, hg3, hr2, hfz, hB2, hB3⟩ := hm.at hi hk
        cases hoe
        have hfz1 := hfz (o2 + k)
        have d0 := hB.c0; have d1 := hB.c1
        have hdk := hv.hold (i := k) hk
        have hdb := HDG.out k
        obtain ⟨dk, hdk_⟩ : ∃ x, x = (diagF p st).getD k 0 := ⟨_, rfl⟩
        rw [<- hdk_] at hdk hdb; clear hdk_
        have m1 := mulb (k := z) (y := dk) (A := 13) (B := 13) (by omega) (by omega) (by omega) (by omega)
        have hmod := Lib.hid (mod_fp (p := p) (x := z * dk) (by omega))
        go_wp2_with fail
        refine (smod_c (by omega) (by omega)).mono ?_; rintro e w32 ⟨rfl, rfl⟩
        obtain ⟨t, ht⟩ : ∃ t, t = z * dk % p := ⟨_, rfl⟩
        rw [<- ht]
        have hmo := hmod.out
        rw [<- ht] at hmo
        clear ht
        go_wp2_with fail
        have hz0 : Below wq.heap.size wq wq := bwT
        first | (refine hK _ _ ⟨hz0, ?_⟩; clear hK K) | refine ⟨hz0, ?_⟩
        clear hz0
        refine norm_K fun K hK => ?_
        change wpList _ _ _ [_, _] _ _
        go_wp2_with fail
        first | (refine hK _ _ ⟨rfl, ?_⟩; clear hK K) | refine ⟨rfl, ?_⟩
        obtain ⟨W16, hW16⟩ : ∃ x, x = wq.setCell ⟨b2, o2 + k, none⟩ (.int .i64 t) := ⟨_, rfl⟩
        have hbs : Below M wq W16 := by rw [hW16]; exact (Below.refl _ _).setCell (p := ⟨b2, o2 + k, none⟩) hB2 _
        have hm_ : MtR W16 M p n (.slice (some ⟨b, off, none⟩) n cl) := by rw [hW16]; exact hm.setI hr2 hmo.1 hmo.2
        have hv_ : OwnI W16 (w.heap.size + 1) gd n capd (diagF p st) := by rw [hW16]; exact ownsRow_chg (Chg.set wq ⟨b2, o2 + k, none⟩ _) hv (fun g' hg' => by cases hg'; left; show gd < b2; omega)
        have hB_ := hB.bl hbs (by omega)
        have hs_ := hs.bl hbs (by omega)
        have hc_ := hc.bl (hbs.mono hMw)
        have hsz_ : M <= W16.heap.size := Nat.le_trans hsz4 hbs.size
        rw [<- hW16]
        clear hm hv hB hs hc hr1 hr2 hfz hfz1 hB2 hB3 d0 d1 hdk hdb m1 hmod hmo hW16 hbs hg2 hg3 hsz4
        have hm := hm_; have hv := hv_; have hB := hB_; have hs := hs_; have hc := hc_; have hsz4 := hsz_
        clear hm_ hv_ hB_ hs_ hc_ hsz_
        go_wp2_with fail
        refine region_flow [(false, [(0, 0), (1, 0), (2, 0), (3, 1), (4, 0), (5, 0), (6, 1), (7, 0), (8, 0), (9, 0), (10, 0), (11, 0), (12, 1), (13, 0), (14, 5)]), (false, [(15, 0), (16, 4)])] (by kernel_rfl) ?_
        refine norm_K fun K hK => ?_
        change wpList _ _ _ [_, _, _, _, _, _, _, _, _, _, _, _, _, _, _] _ _
        have hb51 : Below W16.heap.size W16 W16.drew := bwT
        have hm := hm.below hb51; have hB := hB.below hb51; have hv := hv.below hb51; have hs := hs.below hb51
        generalize W16.drew = wq at *
        have hc := hc.bl (hb51.mono hc.size)
        have hsz4 := Nat.le_trans hsz4 hb51.size
        obtain ⟨b', off', c', b2, o2, c2, y, hoe, _, _, hr1, hg2, hg3, hr2, hfz, hB2, hB3⟩ := hm.at hk hi
        cases hoe
        have hfz1 := hfz (o2 + i)
        have d0 := hB.c0; have d1 := hB.c1
        have hdk := hv.hold (i := i) hi
        have hdb := HDG.out i
        obtain ⟨dk, hdk_⟩ : ∃ x, x = (diagF p st).getD i 0 := ⟨_, rfl⟩
        rw [<- hdk_] at hdk hdb; clear hdk_
        have m1 := mulb (k := (-z)) (y := dk) (A := 13) (B := 13) (by omega) (by omega) (by omega) (by omega)
        have hmod := Lib.hid (mod_fp (p := p) (x := (-z) * dk) (by omega))
        go_wp2_with fail
        refine (smod_c (by omega) (by omega)).mono ?_; rintro e w52 ⟨rfl, rfl⟩
        obtain ⟨t, ht⟩ : ∃ t, t = (-z) * dk % p := ⟨_, rfl⟩
        rw [<- ht]
        have hmo := hmod.out
        rw [<- ht] at hmo
        clear ht
        go_wp2_with fail
        have hz0 : Below wq.heap.size wq wq := bwT
        first | (refine hK _ _ ⟨hz0, ?_⟩; clear hK K) | refine ⟨hz0, ?_⟩
        clear hz0
        refine norm_K fun K hK => ?_
        change wpList _ _ _ [_, _] _ _
        go_wp2_with fail
        first | (refine hK _ _ ⟨rfl, ?_⟩; clear hK K) | refine ⟨rfl, ?_⟩
        obtain ⟨W17, hW17⟩ : ∃ x, x = wq.setCell ⟨b2, o2 + i, none⟩ (.int .i64 t) := ⟨_, rfl⟩
        have hbs : Below M wq W17 := by rw [hW17]; exact (Below.refl _ _).setCell (p := ⟨b2, o2 + i, none⟩) hB2 _
        have hm_ : MtR W17 M p n (.slice (some ⟨b, off, none⟩) n cl) := by rw [hW17]; exact hm.setI hr2 hmo.1 hmo.2
        have hv_ : OwnI W17 (w.heap.size + 1) gd n capd (diagF p st) := by rw [hW17]; exact ownsRow_chg (Chg.set wq ⟨b2, o2 + i, none⟩ _) hv (fun g' hg' => by cases hg'; left; show gd < b2; omega)
        have hB_ := hB.bl hbs (by omega)
        have hs_ := hs.bl hbs (by omega)
        have hc_ := hc.bl (hbs.mono hMw)
        have hsz_ : M <= W17.heap.size := Nat.le_trans hsz4 hbs.size
        rw [<- hW17]
        clear hm hv hB hs hc hr1 hr2 hfz hfz1 hB2 hB3 d0 d1 hdk hdb m1 hmod hmo hW17 hbs hg2 hg3 hsz4
        have hm := hm_; have hv := hv_; have hB := hB_; have hs := hs_; have hc := hc_; have hsz4 := hsz_
        clear hm_ hv_ hB_ hs_ hc_ hsz_
        go_wp2_with fail
        go_roundw
        case rel => exact ⟨k + 1, by omega, by go_num, hm, hs, hc, hB, hv, hsz4⟩
        case measure => simp [intOf]; omega
      ·obtain rfl : k = i := by omega
       have hlf : ¬ (k : Int) < k := by omega
       go_wp2_with fail
       go_roundw
       case rel => exact ⟨k + 1, by omega, by go_num, hm, hs, hc, hB, hv, hsz4⟩
       case measure => simp [intOf]; omega
    ·obtain rfl : i = n := by omega
     have hlf : ¬ (i : Int) < i := by omega
     go_wp2_with fail
     go_ret
     exact ⟨_, rfl, hm.more hMw, hs, hc⟩
end Go.Proofs.YteaaepbnoiecoaaGreat
