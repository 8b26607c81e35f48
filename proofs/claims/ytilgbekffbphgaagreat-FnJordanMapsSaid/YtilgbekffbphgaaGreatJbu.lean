/- Texts joined for a claim: AfB, AfC. -/
import Derived.Test.YtilgbekffbphgaaGreatJbg
import Derived.Test.YtilgbekffbphgaaGreatTrE
import Derived.Test.YtilgbekffbphgaaGreatJbj
namespace Go.Proofs.YtilgbekffbphgaaGreat
open Go.RowKit
def OutM (w : World) (M : List (List Int)) (c : Int) (e : Ending) (w' : World) : Prop := ∃ v, e = .returned (.tuple #[v, .int .i64 c]) /\ ReR w' w.heap.size v M /\ Below w.heap.size w w'
theorem ReR.nilA {w : World} {B c : Nat} {a : Option Addr} (hc : c <= 9223372036854775807) : ReR w B (.slice a 0 c) [] := ⟨a, c, rfl, Nat.zero_le _, hc, .inl rfl⟩
theorem LsR.one {w : World} {B : Nat} {z : Value} {xs : List Int} (hz : ElR w B z xs) (hB : B <= w.heap.size) : LsR (w.alloc (.cells #[z] 24)) B (.slice (some ⟨w.heap.size, 0, none⟩) 1 1) [z] [xs] := by
 have hb : Below w.heap.size w (w.alloc (.cells #[z] 24)) := bwT
 refine ⟨World.ownsRow_lit (base := B) (e := 24) (size := 1) w #[z] 1 hB (by decide) rfl, rfl, fun j a b => ?_, fun y hy b off sp n c e => ?_⟩
 ·obtain rfl : j = 0 := by simpa using a
  exact hz.below hb
 ·rw [List.mem_singleton.1 hy] at e
  have := (hz.2 _ _ _ _ _ e).2
  intro e2
  simp [Value.ownBlock] at e2
  omega
theorem ReR.shapeA {w : World} {B : Nat} {v : Value} {xss : List (List Int)} (h : ReR w B v xss) : ∃ a c, v = .slice a xss.length c := by
 obtain ⟨a, c, rfl, _⟩ := h
 exact ⟨_, _, rfl⟩
theorem map_take {α β : Type} {f : α -> β} {C : List α} {j : Nat} (hj : j < C.length) : (C.take (j + 1)).map f = (C.take j).map f ++ [f C[j]] := by
 rw [List.take_succ_eq_append_getElem hj, List.map_append]; rfl
theorem afC_first {p : Int} {st : List Int} {ims : List (List Int)} : ∃ ds, afC p st ims = oneL (sz st.length) 0 :: ds := afI_head
theorem basL_get {p : Int} {st : List Int} {i k : Nat} (hi : i < sz st.length) (hk : k < sz st.length) : ((basL p st).getD i []).getD k 0 = basF p st i k := bas_get hi hk
set_option maxHeartbeats 16000000 in
set_option maxRecDepth 100000 in
theorem saf_c {p : Int} {s l : Value} {st : List Int} {ims : List (List Int)} {w : World} (hs : El w s st) (hm : st.length <= 1048576) (hl : Re w l ims) (hil : ims.length <= 1000) (hiw : ∀ xs ∈ ims, xs.length <= 1048576) :
  Calls Tryz.prog 41 #[.agg #[.int .i64 p, s], l] w fun e w' => OutM w (RAf0 p st ims) (RAf1 p st ims) e w' := by
 obtain ⟨a0, c0, rfl, _⟩ := id hs.op
 obtain ⟨a1, c1, rfl, _⟩ := id hl
 have hchk := fun W (h1 : El W (.slice a0 st.length c0) st) (h2 : Re W (.slice a1 ims.length c1) ims) => sl14e_c (w := W) (p := p) h1 h2 hm (by omega) hiw
 obtain ⟨K, hK⟩ : ∃ K, K = chk3 p st ims := ⟨_, rfl⟩
 simp only [<- hK] at hchk
 have HK := Lib.hid hK; clear hK hiw
 by_cases hk0 : K = 0
 case neg =>
  have hkb : (K != 0) = true := by simpa using hk0
  have E := Lib.hid (show RAf1 p st ims = K by unfold RAf1; rw [<- HK.out, if_neg hk0])
  have E2 := Lib.hid (show RAf0 p st ims = [] by unfold RAf0; rw [E.out, if_neg hk0])
  rw [E.out, E2.out]
  go_enter Tryz.func41, Tryz.ntmps41
  have hb0 : Below w.heap.size w (w.alloc (.cells #[.int .i64 p, .slice a0 st.length c0] 26)) := bwT
  have hs := hs.below hb0; have hl := hl.below hb0
  have d0 : (w.alloc (.cells #[.int .i64 p, .slice a0 st.length c0] 26)).cell? ⟨w.heap.size, 0, none⟩ = some (.int .i64 p) := by simp [go_sem]
  have d1 : (w.alloc (.cells #[.int .i64 p, .slice a0 st.length c0] 26)).cell? ⟨w.heap.size, 1, none⟩ = some (.slice a0 st.length c0) := by simp [go_sem]
  go_wp2_with fail
  refine (hchk _ hs hl).mono ?_; rintro e w1 ⟨rfl, hb1⟩
  have hs := hs.below hb1; have hl := hl.below hb1; have d0 := kept hb1 d0; have d1 := kept hb1 d1
  go_wp2_with fail
  go_ret2
  exact ⟨_, rfl, ReR.nilA (by decide), bwT⟩
 subst hk0
 obtain ⟨hd, hev⟩ := chk3_posA HK.out.symm
 have hsz := sz_le hd
 have hl3 := hd.hl
 have hp1 := hd.hp.lo; have hp2 := hd.hp.hi
 by_cases hlen : ims.length = st.length
 case neg =>
  have hlb : ((ims.length : Int) != (st.length : Int)) = true := by simp; omega
  have E := Lib.hid (show RAf1 p st ims = 2 by unfold RAf1; rw [<- HK.out, if_pos rfl, if_neg hlen])
  have E2 := Lib.hid (show RAf0 p st ims = [] by unfold RAf0; rw [E.out, if_neg (by decide)])
  rw [E.out, E2.out]
  go_enter Tryz.func41, Tryz.ntmps41
  have hb0 : Below w.heap.size w (w.alloc (.cells #[.int .i64 p, .slice a0 st.length c0] 26)) := bwT
  have hs := hs.below hb0; have hl := hl.below hb0
  have d0 : (w.alloc (.cells #[.int .i64 p, .slice a0 st.length c0] 26)).cell? ⟨w.heap.size, 0, none⟩ = some (.int .i64 p) := by simp [go_sem]
  have d1 : (w.alloc (.cells #[.int .i64 p, .slice a0 st.length c0] 26)).cell? ⟨w.heap.size, 1, none⟩ = some (.slice a0 st.length c0) := by simp [go_sem]
  go_wp2_with fail
  refine (hchk _ hs hl).mono ?_; rintro e w1 ⟨rfl, hb1⟩
  have hs := hs.below hb1; have hl := hl.below hb1; have d0 := kept hb1 d0; have d1 := kept hb1 d1
  go_wp2_with fail
  go_ret2
  exact ⟨_, rfl, ReR.nilA (by decide), bwT⟩
 have hlb : ((ims.length : Int) != (st.length : Int)) = false := by simp [hlen]
 have HL := Lib.hid hlen; have HEV := Lib.hid hev; clear hlen hev
 have hil3 : ims.length <= 3 := by have := HL.out; omega
 have h1f : RAf1 p st ims = if autK p st (afM p st ims) = true then 0 else 5 := by unfold RAf1; rw [<- HK.out, if_pos rfl, if_pos HL.out]
 have hMat : matB p (sz st.length) (afM p st ims) = true := trL_mat (by omega) (by rw [afC_len, HL.out]; rfl) (afC_ev (by omega) HEV.out)
 have haut := fun W s m (h1 : El W s st) (h2 : Re W m (afM p st ims)) => saut_c (w := W) hd h1 h2 hMat
 rw [<- aut_eq hd hMat] at haut
 have hCl : (afC p st ims).length = sz st.length := by rw [afC_len, HL.out]; rfl
 have htr := fun W m (h : Re W m (afC p st ims)) => scols_c (w := W) h (fun r hr => ((afC_ev (by omega) HEV.out r hr).1).trans hCl.symm) (by omega) (by omega)
 have hM0 : trL (afC p st ims) (afC p st ims).length = afM p st ims := by rw [hCl]; rfl
 rw [hM0] at htr
 have hR0 : RAf0 p st ims = if (if autK p st (afM p st ims) = true then (0 : Int) else 5) = 0 then afM p st ims else [] := by unfold RAf0; rw [h1f]
 rw [h1f, hR0]
 obtain ⟨M, hM⟩ : ∃ M, M = afM p st ims := ⟨_, rfl⟩
 obtain ⟨B, hB⟩ : ∃ B, B = autK p st M := ⟨_, rfl⟩
 obtain ⟨C, hC⟩ : ∃ C, C = afC p st ims := ⟨_, rfl⟩
 rw [<- hM] at haut htr ⊢
 rw [<- hC] at htr hCl
 simp only [<- hB] at haut ⊢
 have HC := Lib.hid (And.intro hC hCl)
 clear hM hB hC hCl hMat h1f hR0 hM0
 have h0c : ∀ W s, El W s st -> Calls Tryz.prog 82 #[.agg #[.int .i64 p, s], .int .i64 0] W _ := fun W s h => sone_c (p := p) (i := 0) (w := W) hd h hsz.1
 go_enter Tryz.func41, Tryz.ntmps41
 have hb0 : Below w.heap.size w (w.alloc (.cells #[.int .i64 p, .slice a0 st.length c0] 26)) := bwT
 have hs := hs.below hb0; have hl := hl.below hb0
 have d0 : (w.alloc (.cells #[.int .i64 p, .slice a0 st.length c0] 26)).cell? ⟨w.heap.size, 0, none⟩ = some (.int .i64 p) := by simp [go_sem]
 have d1 : (w.alloc (.cells #[.int .i64 p, .slice a0 st.length c0] 26)).cell? ⟨w.heap.size, 1, none⟩ = some (.slice a0 st.length c0) := by simp [go_sem]
 go_wp2_with fail
 refine (hchk _ hs hl).mono ?_; rintro e w1 ⟨rfl, hb1⟩
 have hs := hs.below hb1; have hl := hl.below hb1; have d0 := kept hb1 d0; have d1 := kept hb1 d1
 have hbx : Below w.heap.size w w1 := bwT
 go_upto_region 6 with fail
 go_wp2_with fail
 refine region_flow [(false, [(0, 1), (2, 1), (1, 5)]), (false, [(3, 4), (5, 0), (4, 4), (6, 0)])] (by kernel_rfl) ?_
 refine norm_K fun K hK => ?_
 change wpList _ _ _ [_, _, _] _ _
 have hb2 : Below w1.heap.size w1 w1.drew := bwT
 have hs := hs.below hb2; have hl := hl.below hb2; have d0 := kept hb2 d0; have d1 := kept hb2 d1
 generalize w1.drew = wq at *
 have hbq : Below w1.heap.size w1 wq := hb2
 go_wp2_with fail
 refine (sbas_c hd hs).mono ?_; rintro e w3 ⟨vb, rfl, hbt, hb3⟩
 have hs := hs.below hb3; have hl := hl.below hb3; have d0 := kept hb3 d0; have d1 := kept hb3 d1
 go_wp2_with fail
 have hz0 : Below wq.heap.size wq w3 := bwT
 first | (refine hK _ _ ⟨hz0, ?_⟩; clear hK K) | refine ⟨hz0, ?_⟩
 clear hz0
 refine norm_K fun K hK => ?_
 change wpList _ _ _ [_, _, _, _] _ _
 have hbq3 := hbq.trans (hb3.mono hbq.size)
 go_wp2_with fail
 refine (h0c _ _ hs).mono ?_; rintro e w5 ⟨z0, rfl, hz0, hb5⟩
 have hbq5 := hbq3.trans (hb5.mono hbq3.size)
 have hls := LsR.one (hz0.elr.more hbq3.size) hbq5.size
 have hbl : Below w1.heap.size w1 (w5.alloc (.cells #[z0] 24)) := hbq5.trans ((show Below w5.heap.size w5 (w5.alloc (.cells #[z0] 24)) from bwT).mono hbq5.size)
 have hbt5 := hbt.below hb5
 obtain ⟨az, cz, rfl, _⟩ := id hz0.el.op
 obtain ⟨bt, ot, ct, rfl, hTb⟩ := hbt5.tb (n := sz st.length) (by simp [basL]) (by omega) (fun r hr => by unfold basL at hr; obtain ⟨i, _, rfl⟩ := List.mem_map.1 hr; simp)
 have hTb := hTb.congr (G := basF p st) (fun i hi k hk => basL_get hi hk)
 go_wp2_with fail
 first | (refine hK _ _ ⟨rfl, ?_⟩; clear hK K) | refine ⟨rfl, ?_⟩
 go_wp2_with fail
 have hs5 := hs.below hb5; have hl5 := hl.below hb5; have d05 := kept hb5 d0; have d15 := kept hb5 d1
 have hw15 := hbq5.size
 have ho0 : OwV (w5.alloc (.cells #[.slice az (oneL (sz st.length) 0).length cz] 24)) w5.heap.size (.slice (some ⟨w5.heap.size, 0, none⟩) 1 1) [.slice az (oneL (sz st.length) 0).length cz] := World.ownsRow_lit (base := w5.heap.size) (e := 24) (size := 1) w5 #[_] 1 (Nat.le_refl _) (by decide) rfl
 have hb6 : Below w5.heap.size w5 (w5.alloc (.cells #[.slice az (oneL (sz st.length) 0).length cz] 24)) := bwT
 have hinv : ∀ W : World, Calls Tryz.prog 83 #[.int .i64 p, .int .i64 1] W fun e w' => e = .returned (.int .i64 1) /\ W = w' := fun W => by
  have h := sinv_c (w := W) hd.hp (show (1 : Int) <= 1 by decide) (show 1 < p by omega)
  rwa [inv_one hd.hp] at h
 clear hz0 hchk h0c hbt hb2 hb3 hb5 hbq hbq3 d0 d1 hs hl hbl
 obtain ⟨W6, hW6⟩ : ∃ x, x = (w5.alloc (.cells #[.slice az (oneL (sz st.length) 0).length cz] 24)) := ⟨_, rfl⟩
 rw [<- hW6] at hls ho0 hb6 ⊢
 clear hW6
 go_loopw [8, 9] (fun o q wr => ∃ (k : Nat) (vs : List Value), k <= ims.length /\ q = .int .i64 k /\ LsR wr w1.heap.size o vs (afC p st (ims.take k)) /\ OwV wr w5.heap.size o vs /\ Below w5.heap.size w5 wr) (fun _ q _ => ims.length - (intOf q).toNat)
 case atStart => exact ⟨0, _, Nat.zero_le _, rfl, hls, ho0, hb6⟩
 case round =>
  clear hls ho0 hb6
  obtain ⟨k, vs, hk, rfl, hls, ho, hbr⟩ := hrel
  obtain ⟨al, cl, rfl⟩ := hls.form
  by_cases hlt : k < ims.length
  ·have hlti : (k : Int) < ims.length := by omega
   obtain ⟨_, _, e_, _, _, hR⟩ := id hl5
   cases e_
   obtain ⟨b1, o1, rfl, hcell⟩ := hR.resolve_left (fun e => by rw [e] at hlt; simp at hlt)
   clear hR
   obtain ⟨a3, c3, im, him, hci5, hE5, htk⟩ := Re.get hcell hlt
   have HTK := Lib.hid (afC_take (p := p) (st := st) htk); clear htk
   have hlenC : (afC p st (ims.take k)).length = 2 ^ k := by rw [afC_len, List.length_take, Nat.min_eq_left (by omega)]
   have hevC := afC_ev (p := p) (st := st) (ims := ims.take k) (by omega) (fun c hc => HEV.out c (List.mem_of_mem_take hc))
   have hevI := HEV.out im him
   have hi0 : 0 < im.length := by rw [hevI.1]; exact hsz.1
   have hi6 : im.length <= 1000000 := by rw [hevI.1]; omega
   obtain ⟨ds, hds⟩ := afC_first (p := p) (st := st) (ims := ims.take k)
   obtain ⟨D, hD⟩ : ∃ D, D = afC p st (ims.take k) := ⟨_, rfl⟩
   rw [<- hD] at hls hlenC hevC HTK hds
   have hf1 : (D ++ (D.take 1).map fun x => mulL p st x im) = D ++ [im] := by rw [hds]; simp [one_mul hd hevI]
   have HF := Lib.hid hf1; have HEVC := Lib.hid hevC; have HEVI := Lib.hid hevI
   clear hevC hevI hD him hf1 hds hcell
   generalize wr = wo at *
   have hci := kept hbr hci5
   have hE3W := hE5.below hbr
   rcases (show k = 0 \/ k = 1 \/ k = 2 by omega) with rfl | rfl | rfl
   ·have HD := Lib.hid (show D.length = 1 from hlenC); clear hlenC
    have hkn : 0 < st.length := by have := HL.out; omega
    (try rw [Nat.add_zero] at hci5 hci)
    have hbo := fun i (hi : i < 1) => bas_one (p := p) (k := 0) hd hkn (i := i) hi
    have HBO := Lib.hid hbo; clear hbo
    have hH8 : 1 < sz st.length := (show 2 ^ 0 < 2 ^ st.length from Nat.pow_lt_pow_right (by decide) hkn)
    go_wp2_with fail
    refine (own_c hE3W.sl hi0 hi6).mono ?_; rintro e w7 ⟨z, rfl, hz, hb7⟩
    have hzn := hls.fresh hz.elr
    have hls7 := hls.below hb7; have ho7 := ho.below hb7; have hbr7 := hbr.trans (hb7.mono hbr.size)
    have hz7 := hz.elr.more (show w1.heap.size <= wo.heap.size by have := hbr.size; omega)
    obtain ⟨az, cz, rfl, _⟩ := id hz.el.op
    have HVL := Lib.hid (show vs.length = 1 from hls.len.trans HD.out)
    clear hls ho hbr hz hb7 hci hE3W
    go_wp2_with (at_builtin; refine appr_one rfl _ _ rfl w7 w5.heap.size _ rfl (.slice al vs.length cl) vs rfl (.slice az im.length cz) 1 rfl rfl ho7 hbr7.size (by have := HVL.out; omega) ?_; intro g' cap' w8 hown' hgb' hg' hge)
    have hls8 := hls7.snoc hz7 hzn (nv := .slice (some ⟨g', 0, none⟩) (vs.length + 1) cap') rfl (hown'.more_ hw15) (hgb'.mono hw15) hg' hge
    rw [<- HF.out] at hls8
    have hvl2 : vs.length + 1 = (vs ++ [Value.slice az im.length cz]).length := by rw [List.length_append]; rfl
    rw [hvl2] at hls8 hown' ⊢
    clear hvl2
    have hbr8 := hbr7.trans hgb'
    generalize vs ++ [Value.slice az im.length cz] = vs2 at *
    clear hls7 ho7 hbr7 hgb' hg' hge hzn hz7
    go_wp2_with fail
    go_loopw [8, 11] (fun o q wr => ∃ (i : Nat) (vs : List Value), 1 <= i /\ i <= 1 /\ q = .int .i64 i /\ LsR wr w1.heap.size o vs (D ++ (D.take i).map fun x => mulL p st x im) /\ OwV wr w5.heap.size o vs /\ Below w5.heap.size w5 wr) (fun _ q _ => 1 - (intOf q).toNat)
    case atStart => exact ⟨1, vs2, by omega, by omega, rfl, hls8, hown', hbr8⟩
    case round =>
     clear hls8 hown' hbr8
     obtain ⟨i, vs, hi1, hiH, rfl, hls, ho, hbr⟩ := hrel
     obtain ⟨al, cl, rfl⟩ := hls.form
     by_cases hlt2 : i < 1
     ·omega
     ·obtain rfl : i = 1 := by omega
      have hlf : ¬ ((1 : Nat) : Int) < 1 := by omega
      rw [List.take_of_length_le (by have := HD.out; omega), <- HTK.out] at hls
      go_wp2_with fail
      go_roundw
      case rel => exact ⟨1, vs, by omega, by go_num, hls, ho, hbr⟩
      case measure => simp [intOf]; omega
   ·have HD := Lib.hid (show D.length = 2 from hlenC); clear hlenC
    have hkn : 1 < st.length := by have := HL.out; omega
    (try rw [Nat.add_zero] at hci5 hci)
    have hbo := fun i (hi : i < 2) => bas_one (p := p) (k := 1) hd hkn (i := i) hi
    have HBO := Lib.hid hbo; clear hbo
    have hH8 : 2 < sz st.length := (show 2 ^ 1 < 2 ^ st.length from Nat.pow_lt_pow_right (by decide) hkn)
    go_wp2_with fail
    refine (own_c hE3W.sl hi0 hi6).mono ?_; rintro e w7 ⟨z, rfl, hz, hb7⟩
    have hzn := hls.fresh hz.elr
    have hls7 := hls.below hb7; have ho7 := ho.below hb7; have hbr7 := hbr.trans (hb7.mono hbr.size)
    have hz7 := hz.elr.more (show w1.heap.size <= wo.heap.size by have := hbr.size; omega)
    obtain ⟨az, cz, rfl, _⟩ := id hz.el.op
    have HVL := Lib.hid (show vs.length = 2 from hls.len.trans HD.out)
    clear hls ho hbr hz hb7 hci hE3W
    go_wp2_with (at_builtin; refine appr_one rfl _ _ rfl w7 w5.heap.size _ rfl (.slice al vs.length cl) vs rfl (.slice az im.length cz) 1 rfl rfl ho7 hbr7.size (by have := HVL.out; omega) ?_; intro g' cap' w8 hown' hgb' hg' hge)
    have hls8 := hls7.snoc hz7 hzn (nv := .slice (some ⟨g', 0, none⟩) (vs.length + 1) cap') rfl (hown'.more_ hw15) (hgb'.mono hw15) hg' hge
    rw [<- HF.out] at hls8
    have hvl2 : vs.length + 1 = (vs ++ [Value.slice az im.length cz]).length := by rw [List.length_append]; rfl
    rw [hvl2] at hls8 hown' ⊢
    clear hvl2
    have hbr8 := hbr7.trans hgb'
    generalize vs ++ [Value.slice az im.length cz] = vs2 at *
    clear hls7 ho7 hbr7 hgb' hg' hge hzn hz7
    go_wp2_with fail
    go_loopw [8, 11] (fun o q wr => ∃ (i : Nat) (vs : List Value), 1 <= i /\ i <= 2 /\ q = .int .i64 i /\ LsR wr w1.heap.size o vs (D ++ (D.take i).map fun x => mulL p st x im) /\ OwV wr w5.heap.size o vs /\ Below w5.heap.size w5 wr) (fun _ q _ => 2 - (intOf q).toNat)
    case atStart => exact ⟨1, vs2, by omega, by omega, rfl, hls8, hown', hbr8⟩
    case round =>
     clear hls8 hown' hbr8
     obtain ⟨i, vs, hi1, hiH, rfl, hls, ho, hbr⟩ := hrel
     obtain ⟨al, cl, rfl⟩ := hls.form
     by_cases hlt2 : i < 2
     ·have hlt2i : (i : Int) < 2 := by omega
      have HVL := Lib.hid (show vs.length = 2 + i by have h := hls.len; rw [List.length_append, List.length_map, List.length_take, HD.out, Nat.min_eq_left hiH] at h; exact h)
      have hiD : i < D.length := by have := HD.out; omega
      obtain ⟨gc, capc, u, ev_, _, _, _, hcu, hu⟩ := hls.get (j := i) (by rw [List.length_append]; omega)
      rw [List.getElem_append_left hiD] at hu
      cases ev_
      obtain ⟨au, cu, hau⟩ : ∃ a c, u = .slice a D[i].length c := by obtain ⟨a, c, e, _⟩ := hu.1.op; exact ⟨a, c, e⟩
      subst hau
      obtain ⟨b2, o2, c2, hrow, hnum⟩ := hTb i (by omega)
      have hnum := hnum 2 hH8
      rw [HBO.out i hlt2] at hnum
      have hrow := kept hbr hrow; have hnum := kept hbr hnum
      have hs := hs5.below hbr; have d0 := kept hbr d05; have d1 := kept hbr d15; have hci := kept hbr hci5; have hE3 := hE5.below hbr; have hu := hu.1
      have hvi : (i : Int) < vs.length := by have := HVL.out; omega
      have hin : (i : Int) < sz st.length := by omega
      have hHn : (2 : Int) < sz st.length := by omega
      generalize wr = wi at *
      have hbs : Below wi.heap.size wi wi := Below.refl _ _
      go_upto_region 15 with fail
      go_wp2_with fail
      refine region_flowP [(12, 4, []), (12, 8, [11, 10]), (12, 11, []), (22, 4, [12]), (22, 8, [12, 11, 10]), (22, 11, [12]), (22, 13, []), (22, 17, []), (22, 21, []), (23, 2, []), (23, 4, [12]), (23, 8, [12, 11, 10]), (23, 11, [12]), (23, 13, [22]), (23, 17, [22]), (23, 21, [22]), (24, 2, [23]), (24, 4, [23, 12]), (24, 8, [23, 12, 11, 10]), (24, 11, [23, 12]), (24, 13, [23, 22]), (24, 17, [23, 22]), (24, 21, [23, 22]), (25, 2, [23]), (25, 4, [23, 12]), (25, 8, [23, 12, 11, 10]), (25, 11, [23, 12]), (25, 13, [23, 22]), (25, 17, [23, 22]), (25, 21, [23, 22])] [(false, [(0, 0), (1, 0), (2, 1), (3, 0), (4, 1), (5, 0), (6, 0), (7, 0), (8, 1), (9, 0), (10, 0), (11, 1), (13, 1), (14, 0), (15, 0), (16, 0), (17, 1), (18, 0), (19, 0), (20, 0), (21, 1), (12, 5)]), (false, [(22, 5)]), (false, [(23, 4), (24, 4), (25, 4), (26, 0)])] (by kernel_rfl) ?_
      refine norm_K fun K hK => ?_
      change wpList _ _ _ [_, _, _, _, _, _, _, _, _, _, _, _, _, _, _, _, _, _, _, _, _, _] _ _
      have hb21 : Below wi.heap.size wi wi.drew := bwT
      have hs := hs.below hb21; have hu := hu.below hb21; have hE3 := hE3.below hb21; have d0 := kept hb21 d0; have d1 := kept hb21 d1; have hci := kept hb21 hci; have hcu := kept hb21 hcu; have hrow := kept hb21 hrow; have hnum := kept hb21 hnum; have hls := hls.below hb21; have ho := ho.below hb21
      generalize wi.drew = wq at *
      have hbq : Below wi.heap.size wi wq := by assumption
      go_wp2_with fail
      refine (hinv _).mono ?_; rintro e w22 ⟨rfl, rfl⟩
      go_wp2_with fail
      have hz0 : Below wq.heap.size wq wq := bwT
      first | (refine hK _ _ ⟨hz0, ?_⟩; clear hK K) | refine ⟨hz0, ?_⟩
      clear hz0
      refine norm_K fun K hK => ?_
      change wpList _ _ _ [_] _ _
      go_wp2_with fail
      refine (stimes_c hd hs hu hE3 (HEVC.out _ (List.getElem_mem hiD)) HEVI.out).mono ?_; rintro e w23 ⟨v9, rfl, h9, hb23⟩
      have hs := hs.below hb23; have hu := hu.below hb23; have hE3 := hE3.below hb23; have d0 := kept hb23 d0; have d1 := kept hb23 d1; have hci := kept hb23 hci; have hcu := kept hb23 hcu; have hrow := kept hb23 hrow; have hnum := kept hb23 hnum; have hls := hls.below hb23; have ho := ho.below hb23
      go_wp2_with fail
      have hz1 : Below wq.heap.size wq w23 := bwT
      first | (refine hK _ _ ⟨hz1, ?_⟩; clear hK K) | refine ⟨hz1, ?_⟩
      clear hz1
      refine norm_K fun K hK => ?_
      change wpList _ _ _ [_, _, _, _] _ _
      have hev9 := mulL_ev (p := p) (st := st) (by omega) (HEVC.out _ (List.getElem_mem hiD)) HEVI.out
      obtain ⟨a9, c9, rfl, _⟩ := id h9.el.op
      have hsc := Lib.hid (sscale_c (p := p) (k := 1) (by omega) (by omega) (by decide) (by decide) h9.sl (fun x hx => by have := hev9.2 x hx; omega) (by rw [hev9.1]; omega))
      have HS9 := Lib.hid (scaleL_id hev9.2)
      clear hev9
      go_wp2_with fail
      refine (hsc.out).mono ?_; rintro e w40 ⟨v10, rfl, h10, hb40⟩
      rw [HS9.out] at h10
      clear hsc
      have hzn := hls.fresh h10.elr
      have s1 := hbr.size; have s2 := hbq.size; have s3 := hb23.size
      have hz10 := h10.elr.more (show w1.heap.size <= _ by omega)
      have hbz := hbq.trans ((hb23.trans (hb40.mono s3)).mono s2)
      have hbr40 := hbr.trans (hbz.mono s1)
      have hs := hs.below hb40; have hu := hu.below hb40; have hE3 := hE3.below hb40; have d0 := kept hb40 d0; have d1 := kept hb40 d1; have hci := kept hb40 hci; have hcu := kept hb40 hcu; have hrow := kept hb40 hrow; have hnum := kept hb40 hnum; have hls := hls.below hb40; have ho := ho.below hb40; have h9 := h9.below hb40
      obtain ⟨a10, c10, rfl, _⟩ := id h10.el.op
      clear s1 s2 s3
      go_wp2_with (at_builtin; refine appr_one rfl _ _ rfl w40 w5.heap.size _ rfl (.slice (some ⟨gc, 0, none⟩) vs.length cl) vs rfl (.slice a10 (mulL p st D[i] im).length c10) 1 rfl rfl ho hbr40.size (by have := HVL.out; omega) ?_; intro g' cap' w8 hown' hgb' hg' hge)
      have hls8 := hls.snoc hz10 hzn (nv := .slice (some ⟨g', 0, none⟩) (vs.length + 1) cap') rfl (hown'.more_ hw15) (hgb'.mono hw15) hg' hge
      first | (refine hK _ _ ⟨rfl, ?_⟩; clear hK K) | refine ⟨rfl, ?_⟩
      go_wp2_with fail
      go_roundw
      case rel => exact ⟨i + 1, _, by omega, by omega, by go_num, by rw [map_take hiD, <- List.append_assoc]; exact hls8, hown', hbr40.trans hgb'⟩
      case measure => simp [intOf]; omega
     ·obtain rfl : i = 2 := by omega
      have hlf : ¬ ((2 : Nat) : Int) < 2 := by omega
      rw [List.take_of_length_le (by have := HD.out; omega), <- HTK.out] at hls
      go_wp2_with fail
      go_roundw
      case rel => exact ⟨2, vs, by omega, by go_num, hls, ho, hbr⟩
      case measure => simp [intOf]; omega
   ·have HD := Lib.hid (show D.length = 4 from hlenC); clear hlenC
    have hkn : 2 < st.length := by have := HL.out; omega
    (try rw [Nat.add_zero] at hci5 hci)
    have hbo := fun i (hi : i < 4) => bas_one (p := p) (k := 2) hd hkn (i := i) hi
    have HBO := Lib.hid hbo; clear hbo
    have hH8 : 4 < sz st.length := (show 2 ^ 2 < 2 ^ st.length from Nat.pow_lt_pow_right (by decide) hkn)
    go_wp2_with fail
    refine (own_c hE3W.sl hi0 hi6).mono ?_; rintro e w7 ⟨z, rfl, hz, hb7⟩
    have hzn := hls.fresh hz.elr
    have hls7 := hls.below hb7; have ho7 := ho.below hb7; have hbr7 := hbr.trans (hb7.mono hbr.size)
    have hz7 := hz.elr.more (show w1.heap.size <= wo.heap.size by have := hbr.size; omega)
    obtain ⟨az, cz, rfl, _⟩ := id hz.el.op
    have HVL := Lib.hid (show vs.length = 4 from hls.len.trans HD.out)
    clear hls ho hbr hz hb7 hci hE3W
    go_wp2_with (at_builtin; refine appr_one rfl _ _ rfl w7 w5.heap.size _ rfl (.slice al vs.length cl) vs rfl (.slice az im.length cz) 1 rfl rfl ho7 hbr7.size (by have := HVL.out; omega) ?_; intro g' cap' w8 hown' hgb' hg' hge)
    have hls8 := hls7.snoc hz7 hzn (nv := .slice (some ⟨g', 0, none⟩) (vs.length + 1) cap') rfl (hown'.more_ hw15) (hgb'.mono hw15) hg' hge
    rw [<- HF.out] at hls8
    have hvl2 : vs.length + 1 = (vs ++ [Value.slice az im.length cz]).length := by rw [List.length_append]; rfl
    rw [hvl2] at hls8 hown' ⊢
    clear hvl2
    have hbr8 := hbr7.trans hgb'
    generalize vs ++ [Value.slice az im.length cz] = vs2 at *
    clear hls7 ho7 hbr7 hgb' hg' hge hzn hz7
    go_wp2_with fail
    go_loopw [8, 11] (fun o q wr => ∃ (i : Nat) (vs : List Value), 1 <= i /\ i <= 4 /\ q = .int .i64 i /\ LsR wr w1.heap.size o vs (D ++ (D.take i).map fun x => mulL p st x im) /\ OwV wr w5.heap.size o vs /\ Below w5.heap.size w5 wr) (fun _ q _ => 4 - (intOf q).toNat)
    case atStart => exact ⟨1, vs2, by omega, by omega, rfl, hls8, hown', hbr8⟩
    case round =>
     clear hls8 hown' hbr8
     obtain ⟨i, vs, hi1, hiH, rfl, hls, ho, hbr⟩ := hrel
     obtain ⟨al, cl, rfl⟩ := hls.form
     by_cases hlt2 : i < 4
     ·have hlt2i : (i : Int) < 4 := by omega
      have HVL := Lib.hid (show vs.length = 4 + i by have h := hls.len; rw [List.length_append, List.length_map, List.length_take, HD.out, Nat.min_eq_left hiH] at h; exact h)
      have hiD : i < D.length := by have := HD.out; omega
      obtain ⟨gc, capc, u, ev_, _, _, _, hcu, hu⟩ := hls.get (j := i) (by rw [List.length_append]; omega)
      rw [List.getElem_append_left hiD] at hu
      cases ev_
      obtain ⟨au, cu, hau⟩ : ∃ a c, u = .slice a D[i].length c := by obtain ⟨a, c, e, _⟩ := hu.1.op; exact ⟨a, c, e⟩
      subst hau
      obtain ⟨b2, o2, c2, hrow, hnum⟩ := hTb i (by omega)
      have hnum := hnum 4 hH8
      rw [HBO.out i hlt2] at hnum
      have hrow := kept hbr hrow; have hnum := kept hbr hnum
      have hs := hs5.below hbr; have d0 := kept hbr d05; have d1 := kept hbr d15; have hci := kept hbr hci5; have hE3 := hE5.below hbr; have hu := hu.1
      have hvi : (i : Int) < vs.length := by have := HVL.out; omega
      have hin : (i : Int) < sz st.length := by omega
      have hHn : (4 : Int) < sz st.length := by omega
      generalize wr = wi at *
      have hbs : Below wi.heap.size wi wi := Below.refl _ _
      go_upto_region 15 with fail
      go_wp2_with fail
      refine region_flowP [(12, 4, []), (12, 8, [11, 10]), (12, 11, []), (22, 4, [12]), (22, 8, [12, 11, 10]), (22, 11, [12]), (22, 13, []), (22, 17, []), (22, 21, []), (23, 2, []), (23, 4, [12]), (23, 8, [12, 11, 10]), (23, 11, [12]), (23, 13, [22]), (23, 17, [22]), (23, 21, [22]), (24, 2, [23]), (24, 4, [23, 12]), (24, 8, [23, 12, 11, 10]), (24, 11, [23, 12]), (24, 13, [23, 22]), (24, 17, [23, 22]), (24, 21, [23, 22]), (25, 2, [23]), (25, 4, [23, 12]), (25, 8, [23, 12, 11, 10]), (25, 11, [23, 12]), (25, 13, [23, 22]), (25, 17, [23, 22]), (25, 21, [23, 22])] [(false, [(0, 0), (1, 0), (2, 1), (3, 0), (4, 1), (5, 0), (6, 0), (7, 0), (8, 1), (9, 0), (10, 0), (11, 1), (13, 1), (14, 0), (15, 0), (16, 0), (17, 1), (18, 0), (19, 0), (20, 0), (21, 1), (12, 5)]), (false, [(22, 5)]), (false, [(23, 4), (24, 4), (25, 4), (26, 0)])] (by kernel_rfl) ?_
      refine norm_K fun K hK => ?_
      change wpList _ _ _ [_, _, _, _, _, _, _, _, _, _, _, _, _, _, _, _, _, _, _, _, _, _] _ _
      have hb21 : Below wi.heap.size wi wi.drew := bwT
      have hs := hs.below hb21; have hu := hu.below hb21; have hE3 := hE3.below hb21; have d0 := kept hb21 d0; have d1 := kept hb21 d1; have hci := kept hb21 hci; have hcu := kept hb21 hcu; have hrow := kept hb21 hrow; have hnum := kept hb21 hnum; have hls := hls.below hb21; have ho := ho.below hb21
      generalize wi.drew = wq at *
      have hbq : Below wi.heap.size wi wq := by assumption
      go_wp2_with fail
      refine (hinv _).mono ?_; rintro e w22 ⟨rfl, rfl⟩
      go_wp2_with fail
      have hz0 : Below wq.heap.size wq wq := bwT
      first | (refine hK _ _ ⟨hz0, ?_⟩; clear hK K) | refine ⟨hz0, ?_⟩
      clear hz0
      refine norm_K fun K hK => ?_
      change wpList _ _ _ [_] _ _
      go_wp2_with fail
      refine (stimes_c hd hs hu hE3 (HEVC.out _ (List.getElem_mem hiD)) HEVI.out).mono ?_; rintro e w23 ⟨v9, rfl, h9, hb23⟩
      have hs := hs.below hb23; have hu := hu.below hb23; have hE3 := hE3.below hb23; have d0 := kept hb23 d0; have d1 := kept hb23 d1; have hci := kept hb23 hci; have hcu := kept hb23 hcu; have hrow := kept hb23 hrow; have hnum := kept hb23 hnum; have hls := hls.below hb23; have ho := ho.below hb23
      go_wp2_with fail
      have hz1 : Below wq.heap.size wq w23 := bwT
      first | (refine hK _ _ ⟨hz1, ?_⟩; clear hK K) | refine ⟨hz1, ?_⟩
      clear hz1
      refine norm_K fun K hK => ?_
      change wpList _ _ _ [_, _, _, _] _ _
      have hev9 := mulL_ev (p := p) (st := st) (by omega) (HEVC.out _ (List.getElem_mem hiD)) HEVI.out
      obtain ⟨a9, c9, rfl, _⟩ := id h9.el.op
      have hsc := Lib.hid (sscale_c (p := p) (k := 1) (by omega) (by omega) (by decide) (by decide) h9.sl (fun x hx => by have := hev9.2 x hx; omega) (by rw [hev9.1]; omega))
      have HS9 := Lib.hid (scaleL_id hev9.2)
      clear hev9
      go_wp2_with fail
      refine (hsc.out).mono ?_; rintro e w40 ⟨v10, rfl, h10, hb40⟩
      rw [HS9.out] at h10
      clear hsc
      have hzn := hls.fresh h10.elr
      have s1 := hbr.size; have s2 := hbq.size; have s3 := hb23.size
      have hz10 := h10.elr.more (show w1.heap.size <= _ by omega)
      have hbz := hbq.trans ((hb23.trans (hb40.mono s3)).mono s2)
      have hbr40 := hbr.trans (hbz.mono s1)
      have hs := hs.below hb40; have hu := hu.below hb40; have hE3 := hE3.below hb40; have d0 := kept hb40 d0; have d1 := kept hb40 d1; have hci := kept hb40 hci; have hcu := kept hb40 hcu; have hrow := kept hb40 hrow; have hnum := kept hb40 hnum; have hls := hls.below hb40; have ho := ho.below hb40; have h9 := h9.below hb40
      obtain ⟨a10, c10, rfl, _⟩ := id h10.el.op
      clear s1 s2 s3
      go_wp2_with (at_builtin; refine appr_one rfl _ _ rfl w40 w5.heap.size _ rfl (.slice (some ⟨gc, 0, none⟩) vs.length cl) vs rfl (.slice a10 (mulL p st D[i] im).length c10) 1 rfl rfl ho hbr40.size (by have := HVL.out; omega) ?_; intro g' cap' w8 hown' hgb' hg' hge)
      have hls8 := hls.snoc hz10 hzn (nv := .slice (some ⟨g', 0, none⟩) (vs.length + 1) cap') rfl (hown'.more_ hw15) (hgb'.mono hw15) hg' hge
      first | (refine hK _ _ ⟨rfl, ?_⟩; clear hK K) | refine ⟨rfl, ?_⟩
      go_wp2_with fail
      go_roundw
      case rel => exact ⟨i + 1, _, by omega, by omega, by go_num, by rw [map_take hiD, <- List.append_assoc]; exact hls8, hown', hbr40.trans hgb'⟩
      case measure => simp [intOf]; omega
     ·obtain rfl : i = 4 := by omega
      have hlf : ¬ ((4 : Nat) : Int) < 4 := by omega
      rw [List.take_of_length_le (by have := HD.out; omega), <- HTK.out] at hls
      go_wp2_with fail
      go_roundw
      case rel => exact ⟨3, vs, by omega, by go_num, hls, ho, hbr⟩
      case measure => simp [intOf]; omega
  ·obtain rfl : k = ims.length := by omega
   have hlf : ¬ (ims.length : Int) < ims.length := by omega
   rw [take_all (Nat.le_refl _), <- HC.out.1] at hls
   have hs := hs5.below hbr; have d0 := kept hbr d05; have d1 := kept hbr d15
   have hbw : Below w.heap.size w wr := hbx.trans ((hbq5.trans (hbr.mono hbq5.size)).mono hbx.size)
   go_wp2_with fail
   refine (htr _ _ hls.rer.re).mono ?_; rintro e w6 ⟨v6, rfl, hv6, hb6⟩
   have hs := hs.below hb6; have d0 := kept hb6 d0; have d1 := kept hb6 d1
   have hbw6 := hbw.trans (hb6.mono hbw.size)
   obtain ⟨a6, c6, rfl⟩ := hv6.shapeA
   go_wp2_with fail
   refine (haut _ _ _ hs hv6.re).mono ?_; rintro e w7 ⟨rfl, hb7⟩
   have hbw7 := hbw6.trans (hb7.mono hbw6.size)
   have hv7 : ReR w7 w.heap.size _ M := (hv6.keep hb7.size fun b _ h2 => hb7.block b h2).more hbw.size
   cases B
   ·go_wp2_with fail
    go_ret2
    exact ⟨_, rfl, ReR.nilA (by decide), hbw7⟩
   ·go_wp2_with fail
    go_ret2
    exact ⟨_, rfl, hv7, hbw7⟩
end Go.Proofs.YtilgbekffbphgaaGreat
