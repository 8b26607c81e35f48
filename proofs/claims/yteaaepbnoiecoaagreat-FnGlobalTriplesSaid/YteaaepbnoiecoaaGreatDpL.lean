import Derived.Deep.CutBlock
import Derived.Test.YteaaepbnoiecoaaGreatDpK
import Derived.Test.YteaaepbnoiecoaaGreatJbl
namespace Go.Proofs.YteaaepbnoiecoaaGreat
open Go.RowKit
def DrM (w : World) (q : Nat) (e : Ending) (w' : World) : Prop := ∃ (v : Value) (xss : List (List Int)), e = .returned v /\ xss.length <= 16 /\ (∀ xs ∈ xss, xs.length <= 16) /\ ReR w' w.heap.size v xss /\ Src w' q /\ Chg q (q + 1) w w'
theorem trL_row {L : List (List Int)} {n : Nat} {r : List Int} (h : r ∈ trL L n) : r.length = L.length := by
 obtain ⟨i, _, rfl⟩ := List.mem_map.1 h
 simp [colL]
theorem OwN.formL {w : World} {B : Nat} {v : Value} {xs : List Int} (h : OwN w B v xs) : ∃ a c, v = .slice a xs.length c := by
 obtain ⟨a, n, c, rfl⟩ := h.form
 exact ⟨a, c, by rw [h.len]⟩
theorem OwN.new_ {w : World} : OwN (w.alloc (.cells #[] 2)) w.heap.size (.slice (some ⟨w.heap.size, 0, none⟩) 0 0) [] := by
 have h := World.ownsRow_made w #[] 0 (base := w.heap.size) (e := 2) (size := 1) (by simp) (by decide) rfl
 simpa [OwN] using h
set_option maxHeartbeats 16000000 in
set_option maxRecDepth 100000 in
theorem sdrawmx0_c {q c : Nat} {p : Int} {a : Option Addr} {st : List Int} {w : World} (hs : Src w q) (hE : ElR w (q + 1) (.slice a 0 c) st) (hst : st.length = 0) (hp0 : 0 <= p) (hp1 : p <= 17) :
  Calls Tryz.prog 92 #[.pointer (some ⟨q, 0, none⟩), .agg #[.int .i64 p, .slice a 0 c]] w fun e w' => DrM w q e w' := by
 have hq := hs.lt
 have HST := Lib.hid hst; clear hst
 go_enter Tryz.func92, Tryz.ntmps92
 go_upto_region 2 with fail
 obtain ⟨W1, hW1⟩ : ∃ x, x = (w.alloc (.cells #[.int .i64 p, .slice a 0 c] 26)) := ⟨_, rfl⟩
 have hb1 : Below w.heap.size w W1 := by rw [hW1]; exact bwT
 have hzz : w.heap.size + 1 <= W1.heap.size := by rw [hW1]; simp
 have hd : Bd W1 w.heap.size (.int .i64 p) (.slice a 0 c) := by rw [hW1]; exact heap_alloc_new w _
 rw [<- hW1]; clear hW1
 have hs := hs.bl hb1 hq; have hE := hE.below hb1; have hcw : Chg q (q + 1) w W1 := Chg.refl.bl hb1
 clear hb1
 have e0 := hd.c0; have e1 := hd.c1
 go_cut [30] (fun t_ wx => ∃ b : Bool, t_ = .bool b /\ (b = true -> isD p st = true) /\ ElR wx (q + 1) (.slice a 0 c) st /\ Bd wx w.heap.size (.int .i64 p) (.slice a 0 c) /\ Src wx q /\ Chg q (q + 1) w wx /\ w.heap.size + 1 <= wx.heap.size)
 case first =>
  go_wp2_with fail
  refine (sisd_c hE.1.sl (by have := HST.out; omega)).mono ?_; rintro e w2 ⟨rfl, hb2⟩
  have hs := hs.below hb2; have hE := hE.below hb2; have hd := hd.below hb2; have hzz := Nat.le_trans hzz hb2.size; have hcw := hcw.bl (hb2.mono hcw.size)
  clear hb2 e0 e1
  have e0 := hd.c0; have e1 := hd.c1
  by_cases hD : isD p st = true
  case neg =>
   have hDf : isD p st = false := by simpa using hD
   rw [hDf]
   go_wp2_with fail
   go_meet
   case rel => exact ⟨false, rfl, fun h => (Bool.noConfusion h), hE, hd, hs, hcw, hzz⟩
  rw [hD]
  go_wp2_with fail
  refine (snext_c hs (by decide) (by decide)).mono ?_; rintro e w3 ⟨y, rfl, hy0_, hy1_, hs, hc3, hz3_⟩
  have hE := hE.chg hc3 (by omega); have hd := hd.chg hc3 (.inr (by omega)); have hzz := Nat.le_trans hzz hc3.size; have hcw := hcw.trans hc3
  clear hc3 hz3_ e0 e1 hy0_ hy1_
  go_wp2_with fail
  go_meet
  case rel => exact ⟨decide (0 < y), rfl, fun _ => hD, hE, hd, hs, hcw, hzz⟩
 case' rest => skip
 clear hd hs hE hcw hzz e0 e1
 obtain ⟨bb, rfl, hDb, hE, hd, hs, hcw, hzz⟩ := hcut
 generalize wc = w3 at *
 go_upto_if 30 with fail
 go_cut [] (fun wx => Bd wx w.heap.size (.int .i64 p) (.slice a 0 c) /\ Src wx q /\ Chg q (q + 1) w wx /\ w.heap.size + 1 <= wx.heap.size)
 case first =>
  cases bb
  case false =>
   go_wp2_with fail
   go_meet
   case rel => exact ⟨hd, hs, hcw, hzz⟩
  have hD := hDb rfl
  have e0 := hd.c0; have e1 := hd.c1
  go_upto_region 3 with fail
  have hbq_ : Below w3.heap.size w3 w3.drew := bwT
  have hs := hs.below hbq_; have hd := hd.below hbq_; have hE := hE.below hbq_; have hzz := Nat.le_trans hzz hbq_.size; have hcw := hcw.bl (hbq_.mono hcw.size)
  clear hbq_ e0 e1
  refine @region_flowR ⟨q, q + 1⟩ _ [(false, [(0, 0), (1, 1), (3, 0), (4, 1), (2, 5)]), (false, [(5, 4), (6, 0), (7, 0)])] _ _ _ _ _ (by kernel_rfl) ?_
  refine norm_K fun K hK => ?_
  change wpList _ _ _ [_, _, _, _, _] _ _
  generalize w3.drew = wq at *
  have hld := hd; have e0 := hd.c0; have e1 := hd.c1
  have hqz : q + 1 <= wq.heap.size := by have := hcw.size; omega
  go_wp2_with fail
  refine (sdrawel_c hs hp0 hp1 (by decide)).mono ?_; rintro e w41 ⟨vx, X, rfl, hX16, hx, hs, hc41⟩
  have hx := hx.more (B' := q + 1) hqz
  have hqz := Nat.le_trans hqz hc41.size
  obtain ⟨ax, cx, rfl⟩ := hx.shape_
  have hE := hE.chg hc41 (by omega); have hd := hd.chg hc41 (.inr (by omega)); have hzz := Nat.le_trans hzz hc41.size; have hcw := hcw.trans hc41
  clear e0 e1
  have e0 := hd.c0; have e1 := hd.c1
  go_wp2_with fail
  first | (refine hK _ _ ⟨hc41, ?_⟩; clear hK K) | refine ⟨hc41, ?_⟩
  refine norm_K fun K hK => ?_
  change wpList _ _ _ [_, _, _] _ _
  go_wp2_with fail
  refine (sdrawel_c hs hp0 hp1 (by decide)).mono ?_; rintro e w42 ⟨vy, Y, rfl, hY16, hy, hs, hc42⟩
  have hy := hy.more (B' := q + 1) hqz
  obtain ⟨ay, cy, rfl⟩ := hy.shape_
  have hx := hx.chg hc42 (by omega)
  have hE := hE.chg hc42 (by omega); have hd := hd.chg hc42 (.inr (by omega)); have hzz := Nat.le_trans hzz hc42.size; have hcw := hcw.trans hc42
  go_wp2_with fail
  first | (refine hK _ _ ⟨⟨rfl, ?_⟩, ?_⟩; clear hK K) | refine ⟨⟨rfl, ?_⟩, ?_⟩
  ·repeat' (first | exact trivial | exact ⟨_, rfl, (show w.heap.size < q \/ q + 1 <= w.heap.size by omega), _, _, _, hld⟩ | refine And.intro ?_ ?_)
  clear e0 e1 hld hc41 hc42 hqz hq
  have e0 := hd.c0; have e1 := hd.c1
  go_wp2_with fail
  refine (selem_c hE.1 hx.1 (by have := HST.out; omega) (by omega) hp0 (by omega)).mono ?_; rintro e w43 ⟨rfl, hb43⟩
  have hs := hs.below hb43; have hE := hE.below hb43; have hd := hd.below hb43; have hx := hx.below hb43; have hy := hy.below hb43; have hzz := Nat.le_trans hzz hb43.size; have hcw := hcw.bl (hb43.mono hcw.size)
  clear hb43 e0 e1
  have e0 := hd.c0; have e1 := hd.c1
  by_cases hX : isE p (sz st.length) X = true
  case neg =>
   have hXf : isE p (sz st.length) X = false := by simpa using hX
   rw [hXf]
   go_wp2_with fail
   go_meet
   case rel => exact ⟨hd, hs, hcw, hzz⟩
  rw [hX]
  go_wp2_with fail
  refine (selem_c hE.1 hy.1 (by have := HST.out; omega) (by omega) hp0 (by omega)).mono ?_; rintro e w44 ⟨rfl, hb44⟩
  have hs := hs.below hb44; have hE := hE.below hb44; have hd := hd.below hb44; have hx := hx.below hb44; have hy := hy.below hb44; have hzz := Nat.le_trans hzz hb44.size; have hcw := hcw.bl (hb44.mono hcw.size)
  clear hb44 e0 e1
  have e0 := hd.c0; have e1 := hd.c1
  by_cases hY : isE p (sz st.length) Y = true
  case neg =>
   have hYf : isE p (sz st.length) Y = false := by simpa using hY
   rw [hYf]
   go_wp2_with fail
   go_meet
   case rel => exact ⟨hd, hs, hcw, hzz⟩
  rw [hY]
  go_wp2_with fail
  refine (sinner_c (Dok.of hD (by have := HST.out; omega)) hE.1 hx.1 hy.1 (isE_iff.1 hX) (isE_iff.1 hY)).mono ?_; rintro e w45 ⟨v, rfl, hv, hb45⟩
  have hs := hs.below hb45; have hcw5 := hcw.bl (hb45.mono hcw.size)
  have h8 : sz st.length <= 16 := by rw [HST.out]; decide
  go_wp2_with fail
  go_ret
  exact ⟨_, _, rfl, by rw [trL_len]; exact h8, fun r hr => by rw [trL_row hr, inL_len]; exact h8, hv.more hcw.size, hs, hcw5⟩
 case' rest => skip
 clear hd hs hE hcw hzz HST hDb
 obtain ⟨hd, hs, hcw, hzz⟩ := hcut
 have hl := LsR.new hzz
 have hbL : Below wc.heap.size wc (wc.alloc (.cells #[] 24)) := bwT
 have hs := hs.below hbL; have hd := hd.below hbL; have hcw := hcw.bl (hbL.mono hcw.size); have hzz := Nat.le_trans hzz hbL.size
 clear hbL
 go_wp2_with fail
 go_loopw [8, 9] (fun ov iv wr => ∃ (k : Nat) (us : List Value) (xss : List (List Int)), k <= 1 /\ iv = .int .i64 k /\ xss.length = k /\ (∀ xs ∈ xss, xs.length <= 16) /\ LsR wr (w.heap.size + 1) ov us xss /\ Bd wr w.heap.size (.int .i64 p) (.slice a 0 c) /\ Src wr q /\ Chg q (q + 1) w wr /\ w.heap.size + 1 <= wr.heap.size) (fun _ iv _ => 1 - (intOf iv).toNat)
 case atStart => exact ⟨0, _, [], by omega, rfl, rfl, by simp, hl, hd, hs, hcw, hzz⟩
 case round =>
  clear hs hl hd hcw hzz
  obtain ⟨k, us, xss, hk, rfl, hXl, h16, hl, hd, hs, hcw, hzz⟩ := hrel
  obtain ⟨ab, cb, rfl⟩ := hl.form
  have HXL := Lib.hid (And.intro hXl hl.len); clear hXl
  by_cases hlt : k < 1
  ·generalize wr = wo at *
   have hltb : decide ((k : Int) < 1) = true := decide_eq_true (by omega)
   have ho := OwN.new_ (w := wo)
   have hbN : Below wo.heap.size wo (wo.alloc (.cells #[] 2)) := bwT
   have hs := hs.below hbN; have hcq : Chg q (q + 1) wo (wo.alloc (.cells #[] 2)) := Chg.refl.bl hbN
   have hqo : q + 1 <= wo.heap.size := by have := hcw.size; omega
   clear hbN
   go_wp2_with fail
   go_loopw [10, 11] (fun rv jv wr => ∃ (j : Nat) (xs : List Int), j <= 1 /\ jv = .int .i64 j /\ xs.length = j /\ OwN wr wo.heap.size rv xs /\ Src wr q /\ Chg q (q + 1) wo wr) (fun _ jv _ => 1 - (intOf jv).toNat)
   case atStart => exact ⟨0, [], by omega, rfl, rfl, ho, hs, hcq⟩
   case round =>
    clear hs ho hcq
    obtain ⟨j, xs, hj, rfl, hxl, ho, hs, hcq⟩ := hrel
    obtain ⟨ad, cd, rfl⟩ := ho.formL
    have HJL := Lib.hid hxl; clear hxl
    have hd := hd.chg hcq (.inr (by omega))
    have e0 := hd.c0; have e1 := hd.c1
    by_cases hlj : j < 1
    ·go_wp2_with fail
     all_goals
      refine (snext_c hs (by omega) (by omega)).mono ?_; rintro e w3 ⟨x, rfl, hx0_, hx1_, hs, hc3, hz3_⟩
      have ho := ho.chg hc3 (by omega); have hcq := hcq.trans hc3
      clear hc3 hz3_ hx0_ hx1_ e0 e1 hd
      have hws := hcq.size
      go_wp2_with (at_builtin; refine appn_one rfl _ _ rfl w3 wo.heap.size _ rfl (.slice ad xs.length cd) xs rfl x 1 rfl ho hws (by have := HJL.out; omega) ?_; intro g' cap' w' hown' hgb' hg' hge)
      go_roundw
      case rel => exact ⟨j + 1, xs ++ [x], by omega, by go_num, by rw [List.length_append, HJL.out]; rfl, hown', hs.bl hgb' (by omega), hcq.bl hgb'⟩
      case measure => simp [intOf]; omega
    ·obtain rfl : j = 1 := by omega
     have hl_ := hl
     have hl := hl.chg hcq (by omega)
     have hzn := (show LsR wo (w.heap.size + 1) _ us xss from hl_).fresh ho.elr
     have hcw := hcw.trans hcq
     have hwz := Nat.le_trans hzz hcq.size
     go_wp2_with (at_builtin; refine appr_one rfl _ _ rfl wr (w.heap.size + 1) _ rfl (.slice ab us.length cb) us rfl (.slice ad xs.length cd) 1 rfl rfl hl.own hwz (by have := HXL.out; omega) ?_; intro g' cap' w8 hown' hgb' hg' hge)
     have hl8 := hl.snoc (ho.elr.more hzz) hzn (nv := .slice (some ⟨g', 0, none⟩) (us.length + 1) cap') rfl hown' hgb' hg' hge
     go_roundw
     case rel => exact ⟨k + 1, _, _, by omega, by go_num, by rw [List.length_append, HXL.out.1]; rfl, leN_snoc h16 (by rw [HJL.out]; decide), hl8, hd.bl hgb' (by omega), hs.bl hgb' (by omega), hcw.bl (hgb'.mono (by omega)), by have := hgb'.size; omega⟩
     case measure => simp [intOf]; omega
  ·obtain rfl : k = 1 := by omega
   go_wp2_with fail
   refine (snext_c hs (by decide) (by decide)).mono ?_; rintro e w7 ⟨y, rfl, hy0_, hy1_, hs, hc7, hz7_⟩
   have hl := hl.chg hc7 (by omega); have hcw := hcw.trans hc7; have hwz := Nat.le_trans hzz hc7.size
   clear hc7 hz7_ hy0_ hy1_ hd hzz
   have hR := hl.rer
   by_cases hy : y = 0
   case neg =>
    have hyb : (y == 0) = false := by simpa using hy
    go_wp2_with fail
    go_ret
    exact ⟨_, xss, rfl, by have := HXL.out.1; omega, h16, hR.more (by omega), hs, hcw⟩
   subst hy
   obtain ⟨x, yss, rfl⟩ : ∃ x yss, xss = x :: yss := by
    have := HXL.out.1
    cases xss with
    | nil => rw [List.length_nil] at this; omega
    | cons x r => exact ⟨x, r, rfl⟩
   have hY : yss.length <= 16 := by have := HXL.out.1; rw [List.length_cons] at this; omega
   have h16y : ∀ xs ∈ yss, xs.length <= 16 := fun xs h => h16 xs (List.mem_cons_of_mem _ h)
   obtain ⟨gl, cl, _, hv, _, hgl, _⟩ := hl.get (j := 0) (by simp)
   cases hv
   have hk1 : us.length <= cb := by have := hR.cap; omega
   have hk2 : cb <= 9223372036854775807 := hR.cap.2.2
   have HT := Lib.hid (hR.tail)
   have hk3 : 1 <= us.length := by have := HXL.out; omega
   have HN := Lib.hid (fun (h : us.length = 1) => (by have := HXL.out.2; cases yss with | nil => rfl | cons _ _ => simp at this; omega : yss = []))
   by_cases hcz : cb - 1 = 0
   case neg =>
    go_wp2_with fail
    go_ret
    exact ⟨_, yss, rfl, hY, h16y, HT.out.more (by omega), hs, hcw⟩
   go_wp2_with fail
   go_ret
   have hu1 : us.length - 1 = 0 := by omega
   rw [hu1]
   exact ⟨_, [], rfl, by simp, by simp, ReR.nil_ (by decide), hs, hcw⟩
set_option maxHeartbeats 16000000 in
set_option maxRecDepth 100000 in
theorem sdrawmx1_c {q c : Nat} {p : Int} {a : Option Addr} {st : List Int} {w : World} (hs : Src w q) (hE : ElR w (q + 1) (.slice a 1 c) st) (hst : st.length = 1) (hp0 : 0 <= p) (hp1 : p <= 17) :
  Calls Tryz.prog 92 #[.pointer (some ⟨q, 0, none⟩), .agg #[.int .i64 p, .slice a 1 c]] w fun e w' => DrM w q e w' := by
 have hq := hs.lt
 have HST := Lib.hid hst; clear hst
 go_enter Tryz.func92, Tryz.ntmps92
 go_upto_region 2 with fail
 obtain ⟨W1, hW1⟩ : ∃ x, x = (w.alloc (.cells #[.int .i64 p, .slice a 1 c] 26)) := ⟨_, rfl⟩
 have hb1 : Below w.heap.size w W1 := by rw [hW1]; exact bwT
 have hzz : w.heap.size + 1 <= W1.heap.size := by rw [hW1]; simp
 have hd : Bd W1 w.heap.size (.int .i64 p) (.slice a 1 c) := by rw [hW1]; exact heap_alloc_new w _
 rw [<- hW1]; clear hW1
 have hs := hs.bl hb1 hq; have hE := hE.below hb1; have hcw : Chg q (q + 1) w W1 := Chg.refl.bl hb1
 clear hb1
 have e0 := hd.c0; have e1 := hd.c1
 go_cut [30] (fun t_ wx => ∃ b : Bool, t_ = .bool b /\ (b = true -> isD p st = true) /\ ElR wx (q + 1) (.slice a 1 c) st /\ Bd wx w.heap.size (.int .i64 p) (.slice a 1 c) /\ Src wx q /\ Chg q (q + 1) w wx /\ w.heap.size + 1 <= wx.heap.size)
 case first =>
  go_wp2_with fail
  refine (sisd_c hE.1.sl (by have := HST.out; omega)).mono ?_; rintro e w2 ⟨rfl, hb2⟩
  have hs := hs.below hb2; have hE := hE.below hb2; have hd := hd.below hb2; have hzz := Nat.le_trans hzz hb2.size; have hcw := hcw.bl (hb2.mono hcw.size)
  clear hb2 e0 e1
  have e0 := hd.c0; have e1 := hd.c1
  by_cases hD : isD p st = true
  case neg =>
   have hDf : isD p st = false := by simpa using hD
   rw [hDf]
   go_wp2_with fail
   go_meet
   case rel => exact ⟨false, rfl, fun h => (Bool.noConfusion h), hE, hd, hs, hcw, hzz⟩
  rw [hD]
  go_wp2_with fail
  refine (snext_c hs (by decide) (by decide)).mono ?_; rintro e w3 ⟨y, rfl, hy0_, hy1_, hs, hc3, hz3_⟩
  have hE := hE.chg hc3 (by omega); have hd := hd.chg hc3 (.inr (by omega)); have hzz := Nat.le_trans hzz hc3.size; have hcw := hcw.trans hc3
  clear hc3 hz3_ e0 e1 hy0_ hy1_
  go_wp2_with fail
  go_meet
  case rel => exact ⟨decide (0 < y), rfl, fun _ => hD, hE, hd, hs, hcw, hzz⟩
 case' rest => skip
 clear hd hs hE hcw hzz e0 e1
 obtain ⟨bb, rfl, hDb, hE, hd, hs, hcw, hzz⟩ := hcut
 generalize wc = w3 at *
 go_upto_if 30 with fail
 go_cut [] (fun wx => Bd wx w.heap.size (.int .i64 p) (.slice a 1 c) /\ Src wx q /\ Chg q (q + 1) w wx /\ w.heap.size + 1 <= wx.heap.size)
 case first =>
  cases bb
  case false =>
   go_wp2_with fail
   go_meet
   case rel => exact ⟨hd, hs, hcw, hzz⟩
  have hD := hDb rfl
  have e0 := hd.c0; have e1 := hd.c1
  go_upto_region 3 with fail
  have hbq_ : Below w3.heap.size w3 w3.drew := bwT
  have hs := hs.below hbq_; have hd := hd.below hbq_; have hE := hE.below hbq_; have hzz := Nat.le_trans hzz hbq_.size; have hcw := hcw.bl (hbq_.mono hcw.size)
  clear hbq_ e0 e1
  refine @region_flowR ⟨q, q + 1⟩ _ [(false, [(0, 0), (1, 1), (3, 0), (4, 1), (2, 5)]), (false, [(5, 4), (6, 0), (7, 0)])] _ _ _ _ _ (by kernel_rfl) ?_
  refine norm_K fun K hK => ?_
  change wpList _ _ _ [_, _, _, _, _] _ _
  generalize w3.drew = wq at *
  have hld := hd; have e0 := hd.c0; have e1 := hd.c1
  have hqz : q + 1 <= wq.heap.size := by have := hcw.size; omega
  go_wp2_with fail
  refine (sdrawel_c hs hp0 hp1 (by decide)).mono ?_; rintro e w41 ⟨vx, X, rfl, hX16, hx, hs, hc41⟩
  have hx := hx.more (B' := q + 1) hqz
  have hqz := Nat.le_trans hqz hc41.size
  obtain ⟨ax, cx, rfl⟩ := hx.shape_
  have hE := hE.chg hc41 (by omega); have hd := hd.chg hc41 (.inr (by omega)); have hzz := Nat.le_trans hzz hc41.size; have hcw := hcw.trans hc41
  clear e0 e1
  have e0 := hd.c0; have e1 := hd.c1
  go_wp2_with fail
  first | (refine hK _ _ ⟨hc41, ?_⟩; clear hK K) | refine ⟨hc41, ?_⟩
  refine norm_K fun K hK => ?_
  change wpList _ _ _ [_, _, _] _ _
  go_wp2_with fail
  refine (sdrawel_c hs hp0 hp1 (by decide)).mono ?_; rintro e w42 ⟨vy, Y, rfl, hY16, hy, hs, hc42⟩
  have hy := hy.more (B' := q + 1) hqz
  obtain ⟨ay, cy, rfl⟩ := hy.shape_
  have hx := hx.chg hc42 (by omega)
  have hE := hE.chg hc42 (by omega); have hd := hd.chg hc42 (.inr (by omega)); have hzz := Nat.le_trans hzz hc42.size; have hcw := hcw.trans hc42
  go_wp2_with fail
  first | (refine hK _ _ ⟨⟨rfl, ?_⟩, ?_⟩; clear hK K) | refine ⟨⟨rfl, ?_⟩, ?_⟩
  ·repeat' (first | exact trivial | exact ⟨_, rfl, (show w.heap.size < q \/ q + 1 <= w.heap.size by omega), _, _, _, hld⟩ | refine And.intro ?_ ?_)
  clear e0 e1 hld hc41 hc42 hqz hq
  have e0 := hd.c0; have e1 := hd.c1
  go_wp2_with fail
  refine (selem_c hE.1 hx.1 (by have := HST.out; omega) (by omega) hp0 (by omega)).mono ?_; rintro e w43 ⟨rfl, hb43⟩
  have hs := hs.below hb43; have hE := hE.below hb43; have hd := hd.below hb43; have hx := hx.below hb43; have hy := hy.below hb43; have hzz := Nat.le_trans hzz hb43.size; have hcw := hcw.bl (hb43.mono hcw.size)
  clear hb43 e0 e1
  have e0 := hd.c0; have e1 := hd.c1
  by_cases hX : isE p (sz st.length) X = true
  case neg =>
   have hXf : isE p (sz st.length) X = false := by simpa using hX
   rw [hXf]
   go_wp2_with fail
   go_meet
   case rel => exact ⟨hd, hs, hcw, hzz⟩
  rw [hX]
  go_wp2_with fail
  refine (selem_c hE.1 hy.1 (by have := HST.out; omega) (by omega) hp0 (by omega)).mono ?_; rintro e w44 ⟨rfl, hb44⟩
  have hs := hs.below hb44; have hE := hE.below hb44; have hd := hd.below hb44; have hx := hx.below hb44; have hy := hy.below hb44; have hzz := Nat.le_trans hzz hb44.size; have hcw := hcw.bl (hb44.mono hcw.size)
  clear hb44 e0 e1
  have e0 := hd.c0; have e1 := hd.c1
  by_cases hY : isE p (sz st.length) Y = true
  case neg =>
   have hYf : isE p (sz st.length) Y = false := by simpa using hY
   rw [hYf]
   go_wp2_with fail
   go_meet
   case rel => exact ⟨hd, hs, hcw, hzz⟩
  rw [hY]
  go_wp2_with fail
  refine (sinner_c (Dok.of hD (by have := HST.out; omega)) hE.1 hx.1 hy.1 (isE_iff.1 hX) (isE_iff.1 hY)).mono ?_; rintro e w45 ⟨v, rfl, hv, hb45⟩
  have hs := hs.below hb45; have hcw5 := hcw.bl (hb45.mono hcw.size)
  have h8 : sz st.length <= 16 := by rw [HST.out]; decide
  go_wp2_with fail
  go_ret
  exact ⟨_, _, rfl, by rw [trL_len]; exact h8, fun r hr => by rw [trL_row hr, inL_len]; exact h8, hv.more hcw.size, hs, hcw5⟩
 case' rest => skip
 clear hd hs hE hcw hzz HST hDb
 obtain ⟨hd, hs, hcw, hzz⟩ := hcut
 have hl := LsR.new hzz
 have hbL : Below wc.heap.size wc (wc.alloc (.cells #[] 24)) := bwT
 have hs := hs.below hbL; have hd := hd.below hbL; have hcw := hcw.bl (hbL.mono hcw.size); have hzz := Nat.le_trans hzz hbL.size
 clear hbL
 go_wp2_with fail
 go_loopw [8, 9] (fun ov iv wr => ∃ (k : Nat) (us : List Value) (xss : List (List Int)), k <= 2 /\ iv = .int .i64 k /\ xss.length = k /\ (∀ xs ∈ xss, xs.length <= 16) /\ LsR wr (w.heap.size + 1) ov us xss /\ Bd wr w.heap.size (.int .i64 p) (.slice a 1 c) /\ Src wr q /\ Chg q (q + 1) w wr /\ w.heap.size + 1 <= wr.heap.size) (fun _ iv _ => 2 - (intOf iv).toNat)
 case atStart => exact ⟨0, _, [], by omega, rfl, rfl, by simp, hl, hd, hs, hcw, hzz⟩
 case round =>
  clear hs hl hd hcw hzz
  obtain ⟨k, us, xss, hk, rfl, hXl, h16, hl, hd, hs, hcw, hzz⟩ := hrel
  obtain ⟨ab, cb, rfl⟩ := hl.form
  have HXL := Lib.hid (And.intro hXl hl.len); clear hXl
  by_cases hlt : k < 2
  ·generalize wr = wo at *
   have hltb : decide ((k : Int) < 2) = true := decide_eq_true (by omega)
   have ho := OwN.new_ (w := wo)
   have hbN : Below wo.heap.size wo (wo.alloc (.cells #[] 2)) := bwT
   have hs := hs.below hbN; have hcq : Chg q (q + 1) wo (wo.alloc (.cells #[] 2)) := Chg.refl.bl hbN
   have hqo : q + 1 <= wo.heap.size := by have := hcw.size; omega
   clear hbN
   go_wp2_with fail
   go_loopw [10, 11] (fun rv jv wr => ∃ (j : Nat) (xs : List Int), j <= 2 /\ jv = .int .i64 j /\ xs.length = j /\ OwN wr wo.heap.size rv xs /\ Src wr q /\ Chg q (q + 1) wo wr) (fun _ jv _ => 2 - (intOf jv).toNat)
   case atStart => exact ⟨0, [], by omega, rfl, rfl, ho, hs, hcq⟩
   case round =>
    clear hs ho hcq
    obtain ⟨j, xs, hj, rfl, hxl, ho, hs, hcq⟩ := hrel
    obtain ⟨ad, cd, rfl⟩ := ho.formL
    have HJL := Lib.hid hxl; clear hxl
    have hd := hd.chg hcq (.inr (by omega))
    have e0 := hd.c0; have e1 := hd.c1
    by_cases hlj : j < 2
    ·go_wp2_with fail
     all_goals
      refine (snext_c hs (by omega) (by omega)).mono ?_; rintro e w3 ⟨x, rfl, hx0_, hx1_, hs, hc3, hz3_⟩
      have ho := ho.chg hc3 (by omega); have hcq := hcq.trans hc3
      clear hc3 hz3_ hx0_ hx1_ e0 e1 hd
      have hws := hcq.size
      go_wp2_with (at_builtin; refine appn_one rfl _ _ rfl w3 wo.heap.size _ rfl (.slice ad xs.length cd) xs rfl x 1 rfl ho hws (by have := HJL.out; omega) ?_; intro g' cap' w' hown' hgb' hg' hge)
      go_roundw
      case rel => exact ⟨j + 1, xs ++ [x], by omega, by go_num, by rw [List.length_append, HJL.out]; rfl, hown', hs.bl hgb' (by omega), hcq.bl hgb'⟩
      case measure => simp [intOf]; omega
    ·obtain rfl : j = 2 := by omega
     have hl_ := hl
     have hl := hl.chg hcq (by omega)
     have hzn := (show LsR wo (w.heap.size + 1) _ us xss from hl_).fresh ho.elr
     have hcw := hcw.trans hcq
     have hwz := Nat.le_trans hzz hcq.size
     go_wp2_with (at_builtin; refine appr_one rfl _ _ rfl wr (w.heap.size + 1) _ rfl (.slice ab us.length cb) us rfl (.slice ad xs.length cd) 1 rfl rfl hl.own hwz (by have := HXL.out; omega) ?_; intro g' cap' w8 hown' hgb' hg' hge)
     have hl8 := hl.snoc (ho.elr.more hzz) hzn (nv := .slice (some ⟨g', 0, none⟩) (us.length + 1) cap') rfl hown' hgb' hg' hge
     go_roundw
     case rel => exact ⟨k + 1, _, _, by omega, by go_num, by rw [List.length_append, HXL.out.1]; rfl, leN_snoc h16 (by rw [HJL.out]; decide), hl8, hd.bl hgb' (by omega), hs.bl hgb' (by omega), hcw.bl (hgb'.mono (by omega)), by have := hgb'.size; omega⟩
     case measure => simp [intOf]; omega
  ·obtain rfl : k = 2 := by omega
   go_wp2_with fail
   refine (snext_c hs (by decide) (by decide)).mono ?_; rintro e w7 ⟨y, rfl, hy0_, hy1_, hs, hc7, hz7_⟩
   have hl := hl.chg hc7 (by omega); have hcw := hcw.trans hc7; have hwz := Nat.le_trans hzz hc7.size
   clear hc7 hz7_ hy0_ hy1_ hd hzz
   have hR := hl.rer
   by_cases hy : y = 0
   case neg =>
    have hyb : (y == 0) = false := by simpa using hy
    go_wp2_with fail
    go_ret
    exact ⟨_, xss, rfl, by have := HXL.out.1; omega, h16, hR.more (by omega), hs, hcw⟩
   subst hy
   obtain ⟨x, yss, rfl⟩ : ∃ x yss, xss = x :: yss := by
    have := HXL.out.1
    cases xss with
    | nil => rw [List.length_nil] at this; omega
    | cons x r => exact ⟨x, r, rfl⟩
   have hY : yss.length <= 16 := by have := HXL.out.1; rw [List.length_cons] at this; omega
   have h16y : ∀ xs ∈ yss, xs.length <= 16 := fun xs h => h16 xs (List.mem_cons_of_mem _ h)
   obtain ⟨gl, cl, _, hv, _, hgl, _⟩ := hl.get (j := 0) (by simp)
   cases hv
   have hk1 : us.length <= cb := by have := hR.cap; omega
   have hk2 : cb <= 9223372036854775807 := hR.cap.2.2
   have HT := Lib.hid (hR.tail)
   have hk3 : 1 <= us.length := by have := HXL.out; omega
   have HN := Lib.hid (fun (h : us.length = 1) => (by have := HXL.out.2; cases yss with | nil => rfl | cons _ _ => simp at this; omega : yss = []))
   by_cases hcz : cb - 1 = 0
   case neg =>
    go_wp2_with fail
    go_ret
    exact ⟨_, yss, rfl, hY, h16y, HT.out.more (by omega), hs, hcw⟩
   go_wp2_with fail
   go_ret
   have hu1 : us.length - 1 = 0 := by omega
   rw [hu1]
   exact ⟨_, [], rfl, by simp, by simp, ReR.nil_ (by decide), hs, hcw⟩
set_option maxHeartbeats 16000000 in
set_option maxRecDepth 100000 in
theorem sdrawmx2_c {q c : Nat} {p : Int} {a : Option Addr} {st : List Int} {w : World} (hs : Src w q) (hE : ElR w (q + 1) (.slice a 2 c) st) (hst : st.length = 2) (hp0 : 0 <= p) (hp1 : p <= 17) :
  Calls Tryz.prog 92 #[.pointer (some ⟨q, 0, none⟩), .agg #[.int .i64 p, .slice a 2 c]] w fun e w' => DrM w q e w' := by
 have hq := hs.lt
 have HST := Lib.hid hst; clear hst
 go_enter Tryz.func92, Tryz.ntmps92
 go_upto_region 2 with fail
 obtain ⟨W1, hW1⟩ : ∃ x, x = (w.alloc (.cells #[.int .i64 p, .slice a 2 c] 26)) := ⟨_, rfl⟩
 have hb1 : Below w.heap.size w W1 := by rw [hW1]; exact bwT
 have hzz : w.heap.size + 1 <= W1.heap.size := by rw [hW1]; simp
 have hd : Bd W1 w.heap.size (.int .i64 p) (.slice a 2 c) := by rw [hW1]; exact heap_alloc_new w _
 rw [<- hW1]; clear hW1
 have hs := hs.bl hb1 hq; have hE := hE.below hb1; have hcw : Chg q (q + 1) w W1 := Chg.refl.bl hb1
 clear hb1
 have e0 := hd.c0; have e1 := hd.c1
 go_cut [30] (fun t_ wx => ∃ b : Bool, t_ = .bool b /\ (b = true -> isD p st = true) /\ ElR wx (q + 1) (.slice a 2 c) st /\ Bd wx w.heap.size (.int .i64 p) (.slice a 2 c) /\ Src wx q /\ Chg q (q + 1) w wx /\ w.heap.size + 1 <= wx.heap.size)
 case first =>
  go_wp2_with fail
  refine (sisd_c hE.1.sl (by have := HST.out; omega)).mono ?_; rintro e w2 ⟨rfl, hb2⟩
  have hs := hs.below hb2; have hE := hE.below hb2; have hd := hd.below hb2; have hzz := Nat.le_trans hzz hb2.size; have hcw := hcw.bl (hb2.mono hcw.size)
  clear hb2 e0 e1
  have e0 := hd.c0; have e1 := hd.c1
  by_cases hD : isD p st = true
  case neg =>
   have hDf : isD p st = false := by simpa using hD
   rw [hDf]
   go_wp2_with fail
   go_meet
   case rel => exact ⟨false, rfl, fun h => (Bool.noConfusion h), hE, hd, hs, hcw, hzz⟩
  rw [hD]
  go_wp2_with fail
  refine (snext_c hs (by decide) (by decide)).mono ?_; rintro e w3 ⟨y, rfl, hy0_, hy1_, hs, hc3, hz3_⟩
  have hE := hE.chg hc3 (by omega); have hd := hd.chg hc3 (.inr (by omega)); have hzz := Nat.le_trans hzz hc3.size; have hcw := hcw.trans hc3
  clear hc3 hz3_ e0 e1 hy0_ hy1_
  go_wp2_with fail
  go_meet
  case rel => exact ⟨decide (0 < y), rfl, fun _ => hD, hE, hd, hs, hcw, hzz⟩
 case' rest => skip
 clear hd hs hE hcw hzz e0 e1
 obtain ⟨bb, rfl, hDb, hE, hd, hs, hcw, hzz⟩ := hcut
 generalize wc = w3 at *
 go_upto_if 30 with fail
 go_cut [] (fun wx => Bd wx w.heap.size (.int .i64 p) (.slice a 2 c) /\ Src wx q /\ Chg q (q + 1) w wx /\ w.heap.size + 1 <= wx.heap.size)
 case first =>
  cases bb
  case false =>
   go_wp2_with fail
   go_meet
   case rel => exact ⟨hd, hs, hcw, hzz⟩
  have hD := hDb rfl
  have e0 := hd.c0; have e1 := hd.c1
  go_upto_region 3 with fail
  have hbq_ : Below w3.heap.size w3 w3.drew := bwT
  have hs := hs.below hbq_; have hd := hd.below hbq_; have hE := hE.below hbq_; have hzz := Nat.le_trans hzz hbq_.size; have hcw := hcw.bl (hbq_.mono hcw.size)
  clear hbq_ e0 e1
  refine @region_flowR ⟨q, q + 1⟩ _ [(false, [(0, 0), (1, 1), (3, 0), (4, 1), (2, 5)]), (false, [(5, 4), (6, 0), (7, 0)])] _ _ _ _ _ (by kernel_rfl) ?_
  refine norm_K fun K hK => ?_
  change wpList _ _ _ [_, _, _, _, _] _ _
  generalize w3.drew = wq at *
  have hld := hd; have e0 := hd.c0; have e1 := hd.c1
  have hqz : q + 1 <= wq.heap.size := by have := hcw.size; omega
  go_wp2_with fail
  refine (sdrawel_c hs hp0 hp1 (by decide)).mono ?_; rintro e w41 ⟨vx, X, rfl, hX16, hx, hs, hc41⟩
  have hx := hx.more (B' := q + 1) hqz
  have hqz := Nat.le_trans hqz hc41.size
  obtain ⟨ax, cx, rfl⟩ := hx.shape_
  have hE := hE.chg hc41 (by omega); have hd := hd.chg hc41 (.inr (by omega)); have hzz := Nat.le_trans hzz hc41.size; have hcw := hcw.trans hc41
  clear e0 e1
  have e0 := hd.c0; have e1 := hd.c1
  go_wp2_with fail
  first | (refine hK _ _ ⟨hc41, ?_⟩; clear hK K) | refine ⟨hc41, ?_⟩
  refine norm_K fun K hK => ?_
  change wpList _ _ _ [_, _, _] _ _
  go_wp2_with fail
  refine (sdrawel_c hs hp0 hp1 (by decide)).mono ?_; rintro e w42 ⟨vy, Y, rfl, hY16, hy, hs, hc42⟩
  have hy := hy.more (B' := q + 1) hqz
  obtain ⟨ay, cy, rfl⟩ := hy.shape_
  have hx := hx.chg hc42 (by omega)
  have hE := hE.chg hc42 (by omega); have hd := hd.chg hc42 (.inr (by omega)); have hzz := Nat.le_trans hzz hc42.size; have hcw := hcw.trans hc42
  go_wp2_with fail
  first | (refine hK _ _ ⟨⟨rfl, ?_⟩, ?_⟩; clear hK K) | refine ⟨⟨rfl, ?_⟩, ?_⟩
  ·repeat' (first | exact trivial | exact ⟨_, rfl, (show w.heap.size < q \/ q + 1 <= w.heap.size by omega), _, _, _, hld⟩ | refine And.intro ?_ ?_)
  clear e0 e1 hld hc41 hc42 hqz hq
  have e0 := hd.c0; have e1 := hd.c1
  go_wp2_with fail
  refine (selem_c hE.1 hx.1 (by have := HST.out; omega) (by omega) hp0 (by omega)).mono ?_; rintro e w43 ⟨rfl, hb43⟩
  have hs := hs.below hb43; have hE := hE.below hb43; have hd := hd.below hb43; have hx := hx.below hb43; have hy := hy.below hb43; have hzz := Nat.le_trans hzz hb43.size; have hcw := hcw.bl (hb43.mono hcw.size)
  clear hb43 e0 e1
  have e0 := hd.c0; have e1 := hd.c1
  by_cases hX : isE p (sz st.length) X = true
  case neg =>
   have hXf : isE p (sz st.length) X = false := by simpa using hX
   rw [hXf]
   go_wp2_with fail
   go_meet
   case rel => exact ⟨hd, hs, hcw, hzz⟩
  rw [hX]
  go_wp2_with fail
  refine (selem_c hE.1 hy.1 (by have := HST.out; omega) (by omega) hp0 (by omega)).mono ?_; rintro e w44 ⟨rfl, hb44⟩
  have hs := hs.below hb44; have hE := hE.below hb44; have hd := hd.below hb44; have hx := hx.below hb44; have hy := hy.below hb44; have hzz := Nat.le_trans hzz hb44.size; have hcw := hcw.bl (hb44.mono hcw.size)
  clear hb44 e0 e1
  have e0 := hd.c0; have e1 := hd.c1
  by_cases hY : isE p (sz st.length) Y = true
  case neg =>
   have hYf : isE p (sz st.length) Y = false := by simpa using hY
   rw [hYf]
   go_wp2_with fail
   go_meet
   case rel => exact ⟨hd, hs, hcw, hzz⟩
  rw [hY]
  go_wp2_with fail
  refine (sinner_c (Dok.of hD (by have := HST.out; omega)) hE.1 hx.1 hy.1 (isE_iff.1 hX) (isE_iff.1 hY)).mono ?_; rintro e w45 ⟨v, rfl, hv, hb45⟩
  have hs := hs.below hb45; have hcw5 := hcw.bl (hb45.mono hcw.size)
  have h8 : sz st.length <= 16 := by rw [HST.out]; decide
  go_wp2_with fail
  go_ret
  exact ⟨_, _, rfl, by rw [trL_len]; exact h8, fun r hr => by rw [trL_row hr, inL_len]; exact h8, hv.more hcw.size, hs, hcw5⟩
 case' rest => skip
 clear hd hs hE hcw hzz HST hDb
 obtain ⟨hd, hs, hcw, hzz⟩ := hcut
 have hl := LsR.new hzz
 have hbL : Below wc.heap.size wc (wc.alloc (.cells #[] 24)) := bwT
 have hs := hs.below hbL; have hd := hd.below hbL; have hcw := hcw.bl (hbL.mono hcw.size); have hzz := Nat.le_trans hzz hbL.size
 clear hbL
 go_wp2_with fail
 go_loopw [8, 9] (fun ov iv wr => ∃ (k : Nat) (us : List Value) (xss : List (List Int)), k <= 4 /\ iv = .int .i64 k /\ xss.length = k /\ (∀ xs ∈ xss, xs.length <= 16) /\ LsR wr (w.heap.size + 1) ov us xss /\ Bd wr w.heap.size (.int .i64 p) (.slice a 2 c) /\ Src wr q /\ Chg q (q + 1) w wr /\ w.heap.size + 1 <= wr.heap.size) (fun _ iv _ => 4 - (intOf iv).toNat)
 case atStart => exact ⟨0, _, [], by omega, rfl, rfl, by simp, hl, hd, hs, hcw, hzz⟩
 case round =>
  clear hs hl hd hcw hzz
  obtain ⟨k, us, xss, hk, rfl, hXl, h16, hl, hd, hs, hcw, hzz⟩ := hrel
  obtain ⟨ab, cb, rfl⟩ := hl.form
  have HXL := Lib.hid (And.intro hXl hl.len); clear hXl
  by_cases hlt : k < 4
  ·generalize wr = wo at *
   have hltb : decide ((k : Int) < 4) = true := decide_eq_true (by omega)
   have ho := OwN.new_ (w := wo)
   have hbN : Below wo.heap.size wo (wo.alloc (.cells #[] 2)) := bwT
   have hs := hs.below hbN; have hcq : Chg q (q + 1) wo (wo.alloc (.cells #[] 2)) := Chg.refl.bl hbN
   have hqo : q + 1 <= wo.heap.size := by have := hcw.size; omega
   clear hbN
   go_wp2_with fail
   go_loopw [10, 11] (fun rv jv wr => ∃ (j : Nat) (xs : List Int), j <= 4 /\ jv = .int .i64 j /\ xs.length = j /\ OwN wr wo.heap.size rv xs /\ Src wr q /\ Chg q (q + 1) wo wr) (fun _ jv _ => 4 - (intOf jv).toNat)
   case atStart => exact ⟨0, [], by omega, rfl, rfl, ho, hs, hcq⟩
   case round =>
    clear hs ho hcq
    obtain ⟨j, xs, hj, rfl, hxl, ho, hs, hcq⟩ := hrel
    obtain ⟨ad, cd, rfl⟩ := ho.formL
    have HJL := Lib.hid hxl; clear hxl
    have hd := hd.chg hcq (.inr (by omega))
    have e0 := hd.c0; have e1 := hd.c1
    by_cases hlj : j < 4
    ·go_wp2_with fail
     all_goals
      refine (snext_c hs (by omega) (by omega)).mono ?_; rintro e w3 ⟨x, rfl, hx0_, hx1_, hs, hc3, hz3_⟩
      have ho := ho.chg hc3 (by omega); have hcq := hcq.trans hc3
      clear hc3 hz3_ hx0_ hx1_ e0 e1 hd
      have hws := hcq.size
      go_wp2_with (at_builtin; refine appn_one rfl _ _ rfl w3 wo.heap.size _ rfl (.slice ad xs.length cd) xs rfl x 1 rfl ho hws (by have := HJL.out; omega) ?_; intro g' cap' w' hown' hgb' hg' hge)
      go_roundw
      case rel => exact ⟨j + 1, xs ++ [x], by omega, by go_num, by rw [List.length_append, HJL.out]; rfl, hown', hs.bl hgb' (by omega), hcq.bl hgb'⟩
      case measure => simp [intOf]; omega
    ·obtain rfl : j = 4 := by omega
     have hl_ := hl
     have hl := hl.chg hcq (by omega)
     have hzn := (show LsR wo (w.heap.size + 1) _ us xss from hl_).fresh ho.elr
     have hcw := hcw.trans hcq
     have hwz := Nat.le_trans hzz hcq.size
     go_wp2_with (at_builtin; refine appr_one rfl _ _ rfl wr (w.heap.size + 1) _ rfl (.slice ab us.length cb) us rfl (.slice ad xs.length cd) 1 rfl rfl hl.own hwz (by have := HXL.out; omega) ?_; intro g' cap' w8 hown' hgb' hg' hge)
     have hl8 := hl.snoc (ho.elr.more hzz) hzn (nv := .slice (some ⟨g', 0, none⟩) (us.length + 1) cap') rfl hown' hgb' hg' hge
     go_roundw
     case rel => exact ⟨k + 1, _, _, by omega, by go_num, by rw [List.length_append, HXL.out.1]; rfl, leN_snoc h16 (by rw [HJL.out]; decide), hl8, hd.bl hgb' (by omega), hs.bl hgb' (by omega), hcw.bl (hgb'.mono (by omega)), by have := hgb'.size; omega⟩
     case measure => simp [intOf]; omega
  ·obtain rfl : k = 4 := by omega
   go_wp2_with fail
   refine (snext_c hs (by decide) (by decide)).mono ?_; rintro e w7 ⟨y, rfl, hy0_, hy1_, hs, hc7, hz7_⟩
   have hl := hl.chg hc7 (by omega); have hcw := hcw.trans hc7; have hwz := Nat.le_trans hzz hc7.size
   clear hc7 hz7_ hy0_ hy1_ hd hzz
   have hR := hl.rer
   by_cases hy : y = 0
   case neg =>
    have hyb : (y == 0) = false := by simpa using hy
    go_wp2_with fail
    go_ret
    exact ⟨_, xss, rfl, by have := HXL.out.1; omega, h16, hR.more (by omega), hs, hcw⟩
   subst hy
   obtain ⟨x, yss, rfl⟩ : ∃ x yss, xss = x :: yss := by
    have := HXL.out.1
    cases xss with
    | nil => rw [List.length_nil] at this; omega
    | cons x r => exact ⟨x, r, rfl⟩
   have hY : yss.length <= 16 := by have := HXL.out.1; rw [List.length_cons] at this; omega
   have h16y : ∀ xs ∈ yss, xs.length <= 16 := fun xs h => h16 xs (List.mem_cons_of_mem _ h)
   obtain ⟨gl, cl, _, hv, _, hgl, _⟩ := hl.get (j := 0) (by simp)
   cases hv
   have hk1 : us.length <= cb := by have := hR.cap; omega
   have hk2 : cb <= 9223372036854775807 := hR.cap.2.2
   have HT := Lib.hid (hR.tail)
   have hk3 : 1 <= us.length := by have := HXL.out; omega
   have HN := Lib.hid (fun (h : us.length = 1) => (by have := HXL.out.2; cases yss with | nil => rfl | cons _ _ => simp at this; omega : yss = []))
   by_cases hcz : cb - 1 = 0
   case neg =>
    go_wp2_with fail
    go_ret
    exact ⟨_, yss, rfl, hY, h16y, HT.out.more (by omega), hs, hcw⟩
   go_wp2_with fail
   go_ret
   have hu1 : us.length - 1 = 0 := by omega
   rw [hu1]
   exact ⟨_, [], rfl, by simp, by simp, ReR.nil_ (by decide), hs, hcw⟩
set_option maxHeartbeats 16000000 in
set_option maxRecDepth 100000 in
theorem sdrawmx3_c {q c : Nat} {p : Int} {a : Option Addr} {st : List Int} {w : World} (hs : Src w q) (hE : ElR w (q + 1) (.slice a 3 c) st) (hst : st.length = 3) (hp0 : 0 <= p) (hp1 : p <= 17) :
  Calls Tryz.prog 92 #[.pointer (some ⟨q, 0, none⟩), .agg #[.int .i64 p, .slice a 3 c]] w fun e w' => DrM w q e w' := by
 have hq := hs.lt
 have HST := Lib.hid hst; clear hst
 go_enter Tryz.func92, Tryz.ntmps92
 go_upto_region 2 with fail
 obtain ⟨W1, hW1⟩ : ∃ x, x = (w.alloc (.cells #[.int .i64 p, .slice a 3 c] 26)) := ⟨_, rfl⟩
 have hb1 : Below w.heap.size w W1 := by rw [hW1]; exact bwT
 have hzz : w.heap.size + 1 <= W1.heap.size := by rw [hW1]; simp
 have hd : Bd W1 w.heap.size (.int .i64 p) (.slice a 3 c) := by rw [hW1]; exact heap_alloc_new w _
 rw [<- hW1]; clear hW1
 have hs := hs.bl hb1 hq; have hE := hE.below hb1; have hcw : Chg q (q + 1) w W1 := Chg.refl.bl hb1
 clear hb1
 have e0 := hd.c0; have e1 := hd.c1
 go_cut [30] (fun t_ wx => ∃ b : Bool, t_ = .bool b /\ (b = true -> isD p st = true) /\ ElR wx (q + 1) (.slice a 3 c) st /\ Bd wx w.heap.size (.int .i64 p) (.slice a 3 c) /\ Src wx q /\ Chg q (q + 1) w wx /\ w.heap.size + 1 <= wx.heap.size)
 case first =>
  go_wp2_with fail
  refine (sisd_c hE.1.sl (by have := HST.out; omega)).mono ?_; rintro e w2 ⟨rfl, hb2⟩
  have hs := hs.below hb2; have hE := hE.below hb2; have hd := hd.below hb2; have hzz := Nat.le_trans hzz hb2.size; have hcw := hcw.bl (hb2.mono hcw.size)
  clear hb2 e0 e1
  have e0 := hd.c0; have e1 := hd.c1
  by_cases hD : isD p st = true
  case neg =>
   have hDf : isD p st = false := by simpa using hD
   rw [hDf]
   go_wp2_with fail
   go_meet
   case rel => exact ⟨false, rfl, fun h => (Bool.noConfusion h), hE, hd, hs, hcw, hzz⟩
  rw [hD]
  go_wp2_with fail
  refine (snext_c hs (by decide) (by decide)).mono ?_; rintro e w3 ⟨y, rfl, hy0_, hy1_, hs, hc3, hz3_⟩
  have hE := hE.chg hc3 (by omega); have hd := hd.chg hc3 (.inr (by omega)); have hzz := Nat.le_trans hzz hc3.size; have hcw := hcw.trans hc3
  clear hc3 hz3_ e0 e1 hy0_ hy1_
  go_wp2_with fail
  go_meet
  case rel => exact ⟨decide (0 < y), rfl, fun _ => hD, hE, hd, hs, hcw, hzz⟩
 case' rest => skip
 clear hd hs hE hcw hzz e0 e1
 obtain ⟨bb, rfl, hDb, hE, hd, hs, hcw, hzz⟩ := hcut
 generalize wc = w3 at *
 go_upto_if 30 with fail
 go_cut [] (fun wx => Bd wx w.heap.size (.int .i64 p) (.slice a 3 c) /\ Src wx q /\ Chg q (q + 1) w wx /\ w.heap.size + 1 <= wx.heap.size)
 case first =>
  cases bb
  case false =>
   go_wp2_with fail
   go_meet
   case rel => exact ⟨hd, hs, hcw, hzz⟩
  have hD := hDb rfl
  have e0 := hd.c0; have e1 := hd.c1
  go_upto_region 3 with fail
  have hbq_ : Below w3.heap.size w3 w3.drew := bwT
  have hs := hs.below hbq_; have hd := hd.below hbq_; have hE := hE.below hbq_; have hzz := Nat.le_trans hzz hbq_.size; have hcw := hcw.bl (hbq_.mono hcw.size)
  clear hbq_ e0 e1
  refine @region_flowR ⟨q, q + 1⟩ _ [(false, [(0, 0), (1, 1), (3, 0), (4, 1), (2, 5)]), (false, [(5, 4), (6, 0), (7, 0)])] _ _ _ _ _ (by kernel_rfl) ?_
  refine norm_K fun K hK => ?_
  change wpList _ _ _ [_, _, _, _, _] _ _
  generalize w3.drew = wq at *
  have hld := hd; have e0 := hd.c0; have e1 := hd.c1
  have hqz : q + 1 <= wq.heap.size := by have := hcw.size; omega
  go_wp2_with fail
  refine (sdrawel_c hs hp0 hp1 (by decide)).mono ?_; rintro e w41 ⟨vx, X, rfl, hX16, hx, hs, hc41⟩
  have hx := hx.more (B' := q + 1) hqz
  have hqz := Nat.le_trans hqz hc41.size
  obtain ⟨ax, cx, rfl⟩ := hx.shape_
  have hE := hE.chg hc41 (by omega); have hd := hd.chg hc41 (.inr (by omega)); have hzz := Nat.le_trans hzz hc41.size; have hcw := hcw.trans hc41
  clear e0 e1
  have e0 := hd.c0; have e1 := hd.c1
  go_wp2_with fail
  first | (refine hK _ _ ⟨hc41, ?_⟩; clear hK K) | refine ⟨hc41, ?_⟩
  refine norm_K fun K hK => ?_
  change wpList _ _ _ [_, _, _] _ _
  go_wp2_with fail
  refine (sdrawel_c hs hp0 hp1 (by decide)).mono ?_; rintro e w42 ⟨vy, Y, rfl, hY16, hy, hs, hc42⟩
  have hy := hy.more (B' := q + 1) hqz
  obtain ⟨ay, cy, rfl⟩ := hy.shape_
  have hx := hx.chg hc42 (by omega)
  have hE := hE.chg hc42 (by omega); have hd := hd.chg hc42 (.inr (by omega)); have hzz := Nat.le_trans hzz hc42.size; have hcw := hcw.trans hc42
  go_wp2_with fail
  first | (refine hK _ _ ⟨⟨rfl, ?_⟩, ?_⟩; clear hK K) | refine ⟨⟨rfl, ?_⟩, ?_⟩
  ·repeat' (first | exact trivial | exact ⟨_, rfl, (show w.heap.size < q \/ q + 1 <= w.heap.size by omega), _, _, _, hld⟩ | refine And.intro ?_ ?_)
  clear e0 e1 hld hc41 hc42 hqz hq
  have e0 := hd.c0; have e1 := hd.c1
  go_wp2_with fail
  refine (selem_c hE.1 hx.1 (by have := HST.out; omega) (by omega) hp0 (by omega)).mono ?_; rintro e w43 ⟨rfl, hb43⟩
  have hs := hs.below hb43; have hE := hE.below hb43; have hd := hd.below hb43; have hx := hx.below hb43; have hy := hy.below hb43; have hzz := Nat.le_trans hzz hb43.size; have hcw := hcw.bl (hb43.mono hcw.size)
  clear hb43 e0 e1
  have e0 := hd.c0; have e1 := hd.c1
  by_cases hX : isE p (sz st.length) X = true
  case neg =>
   have hXf : isE p (sz st.length) X = false := by simpa using hX
   rw [hXf]
   go_wp2_with fail
   go_meet
   case rel => exact ⟨hd, hs, hcw, hzz⟩
  rw [hX]
  go_wp2_with fail
  refine (selem_c hE.1 hy.1 (by have := HST.out; omega) (by omega) hp0 (by omega)).mono ?_; rintro e w44 ⟨rfl, hb44⟩
  have hs := hs.below hb44; have hE := hE.below hb44; have hd := hd.below hb44; have hx := hx.below hb44; have hy := hy.below hb44; have hzz := Nat.le_trans hzz hb44.size; have hcw := hcw.bl (hb44.mono hcw.size)
  clear hb44 e0 e1
  have e0 := hd.c0; have e1 := hd.c1
  by_cases hY : isE p (sz st.length) Y = true
  case neg =>
   have hYf : isE p (sz st.length) Y = false := by simpa using hY
   rw [hYf]
   go_wp2_with fail
   go_meet
   case rel => exact ⟨hd, hs, hcw, hzz⟩
  rw [hY]
  go_wp2_with fail
  refine (sinner_c (Dok.of hD (by have := HST.out; omega)) hE.1 hx.1 hy.1 (isE_iff.1 hX) (isE_iff.1 hY)).mono ?_; rintro e w45 ⟨v, rfl, hv, hb45⟩
  have hs := hs.below hb45; have hcw5 := hcw.bl (hb45.mono hcw.size)
  have h8 : sz st.length <= 16 := by rw [HST.out]; decide
  go_wp2_with fail
  go_ret
  exact ⟨_, _, rfl, by rw [trL_len]; exact h8, fun r hr => by rw [trL_row hr, inL_len]; exact h8, hv.more hcw.size, hs, hcw5⟩
 case' rest => skip
 clear hd hs hE hcw hzz HST hDb
 obtain ⟨hd, hs, hcw, hzz⟩ := hcut
 have hl := LsR.new hzz
 have hbL : Below wc.heap.size wc (wc.alloc (.cells #[] 24)) := bwT
 have hs := hs.below hbL; have hd := hd.below hbL; have hcw := hcw.bl (hbL.mono hcw.size); have hzz := Nat.le_trans hzz hbL.size
 clear hbL
 go_wp2_with fail
 go_loopw [8, 9] (fun ov iv wr => ∃ (k : Nat) (us : List Value) (xss : List (List Int)), k <= 8 /\ iv = .int .i64 k /\ xss.length = k /\ (∀ xs ∈ xss, xs.length <= 16) /\ LsR wr (w.heap.size + 1) ov us xss /\ Bd wr w.heap.size (.int .i64 p) (.slice a 3 c) /\ Src wr q /\ Chg q (q + 1) w wr /\ w.heap.size + 1 <= wr.heap.size) (fun _ iv _ => 8 - (intOf iv).toNat)
 case atStart => exact ⟨0, _, [], by omega, rfl, rfl, by simp, hl, hd, hs, hcw, hzz⟩
 case round =>
  clear hs hl hd hcw hzz
  obtain ⟨k, us, xss, hk, rfl, hXl, h16, hl, hd, hs, hcw, hzz⟩ := hrel
  obtain ⟨ab, cb, rfl⟩ := hl.form
  have HXL := Lib.hid (And.intro hXl hl.len); clear hXl
  by_cases hlt : k < 8
  ·generalize wr = wo at *
   have hltb : decide ((k : Int) < 8) = true := decide_eq_true (by omega)
   have ho := OwN.new_ (w := wo)
   have hbN : Below wo.heap.size wo (wo.alloc (.cells #[] 2)) := bwT
   have hs := hs.below hbN; have hcq : Chg q (q + 1) wo (wo.alloc (.cells #[] 2)) := Chg.refl.bl hbN
   have hqo : q + 1 <= wo.heap.size := by have := hcw.size; omega
   clear hbN
   go_wp2_with fail
   go_loopw [10, 11] (fun rv jv wr => ∃ (j : Nat) (xs : List Int), j <= 8 /\ jv = .int .i64 j /\ xs.length = j /\ OwN wr wo.heap.size rv xs /\ Src wr q /\ Chg q (q + 1) wo wr) (fun _ jv _ => 8 - (intOf jv).toNat)
   case atStart => exact ⟨0, [], by omega, rfl, rfl, ho, hs, hcq⟩
   case round =>
    clear hs ho hcq
    obtain ⟨j, xs, hj, rfl, hxl, ho, hs, hcq⟩ := hrel
    obtain ⟨ad, cd, rfl⟩ := ho.formL
    have HJL := Lib.hid hxl; clear hxl
    have hd := hd.chg hcq (.inr (by omega))
    have e0 := hd.c0; have e1 := hd.c1
    by_cases hlj : j < 8
    ·go_wp2_with fail
     all_goals
      refine (snext_c hs (by omega) (by omega)).mono ?_; rintro e w3 ⟨x, rfl, hx0_, hx1_, hs, hc3, hz3_⟩
      have ho := ho.chg hc3 (by omega); have hcq := hcq.trans hc3
      clear hc3 hz3_ hx0_ hx1_ e0 e1 hd
      have hws := hcq.size
      go_wp2_with (at_builtin; refine appn_one rfl _ _ rfl w3 wo.heap.size _ rfl (.slice ad xs.length cd) xs rfl x 1 rfl ho hws (by have := HJL.out; omega) ?_; intro g' cap' w' hown' hgb' hg' hge)
      go_roundw
      case rel => exact ⟨j + 1, xs ++ [x], by omega, by go_num, by rw [List.length_append, HJL.out]; rfl, hown', hs.bl hgb' (by omega), hcq.bl hgb'⟩
      case measure => simp [intOf]; omega
    ·obtain rfl : j = 8 := by omega
     have hl_ := hl
     have hl := hl.chg hcq (by omega)
     have hzn := (show LsR wo (w.heap.size + 1) _ us xss from hl_).fresh ho.elr
     have hcw := hcw.trans hcq
     have hwz := Nat.le_trans hzz hcq.size
     go_wp2_with (at_builtin; refine appr_one rfl _ _ rfl wr (w.heap.size + 1) _ rfl (.slice ab us.length cb) us rfl (.slice ad xs.length cd) 1 rfl rfl hl.own hwz (by have := HXL.out; omega) ?_; intro g' cap' w8 hown' hgb' hg' hge)
     have hl8 := hl.snoc (ho.elr.more hzz) hzn (nv := .slice (some ⟨g', 0, none⟩) (us.length + 1) cap') rfl hown' hgb' hg' hge
     go_roundw
     case rel => exact ⟨k + 1, _, _, by omega, by go_num, by rw [List.length_append, HXL.out.1]; rfl, leN_snoc h16 (by rw [HJL.out]; decide), hl8, hd.bl hgb' (by omega), hs.bl hgb' (by omega), hcw.bl (hgb'.mono (by omega)), by have := hgb'.size; omega⟩
     case measure => simp [intOf]; omega
  ·obtain rfl : k = 8 := by omega
   go_wp2_with fail
   refine (snext_c hs (by decide) (by decide)).mono ?_; rintro e w7 ⟨y, rfl, hy0_, hy1_, hs, hc7, hz7_⟩
   have hl := hl.chg hc7 (by omega); have hcw := hcw.trans hc7; have hwz := Nat.le_trans hzz hc7.size
   clear hc7 hz7_ hy0_ hy1_ hd hzz
   have hR := hl.rer
   by_cases hy : y = 0
   case neg =>
    have hyb : (y == 0) = false := by simpa using hy
    go_wp2_with fail
    go_ret
    exact ⟨_, xss, rfl, by have := HXL.out.1; omega, h16, hR.more (by omega), hs, hcw⟩
   subst hy
   obtain ⟨x, yss, rfl⟩ : ∃ x yss, xss = x :: yss := by
    have := HXL.out.1
    cases xss with
    | nil => rw [List.length_nil] at this; omega
    | cons x r => exact ⟨x, r, rfl⟩
   have hY : yss.length <= 16 := by have := HXL.out.1; rw [List.length_cons] at this; omega
   have h16y : ∀ xs ∈ yss, xs.length <= 16 := fun xs h => h16 xs (List.mem_cons_of_mem _ h)
   obtain ⟨gl, cl, _, hv, _, hgl, _⟩ := hl.get (j := 0) (by simp)
   cases hv
   have hk1 : us.length <= cb := by have := hR.cap; omega
   have hk2 : cb <= 9223372036854775807 := hR.cap.2.2
   have HT := Lib.hid (hR.tail)
   have hk3 : 1 <= us.length := by have := HXL.out; omega
   have HN := Lib.hid (fun (h : us.length = 1) => (by have := HXL.out.2; cases yss with | nil => rfl | cons _ _ => simp at this; omega : yss = []))
   by_cases hcz : cb - 1 = 0
   case neg =>
    go_wp2_with fail
    go_ret
    exact ⟨_, yss, rfl, hY, h16y, HT.out.more (by omega), hs, hcw⟩
   go_wp2_with fail
   go_ret
   have hu1 : us.length - 1 = 0 := by omega
   rw [hu1]
   exact ⟨_, [], rfl, by simp, by simp, ReR.nil_ (by decide), hs, hcw⟩
set_option maxHeartbeats 16000000 in
set_option maxRecDepth 100000 in
theorem sdrawmx4_c {q c : Nat} {p : Int} {a : Option Addr} {st : List Int} {w : World} (hs : Src w q) (hE : ElR w (q + 1) (.slice a 4 c) st) (hst : st.length = 4) (hp0 : 0 <= p) (hp1 : p <= 17) :
  Calls Tryz.prog 92 #[.pointer (some ⟨q, 0, none⟩), .agg #[.int .i64 p, .slice a 4 c]] w fun e w' => DrM w q e w' := by
 have hq := hs.lt
 have HST := Lib.hid hst; clear hst
 go_enter Tryz.func92, Tryz.ntmps92
 go_upto_region 2 with fail
 obtain ⟨W1, hW1⟩ : ∃ x, x = (w.alloc (.cells #[.int .i64 p, .slice a 4 c] 26)) := ⟨_, rfl⟩
 have hb1 : Below w.heap.size w W1 := by rw [hW1]; exact bwT
 have hzz : w.heap.size + 1 <= W1.heap.size := by rw [hW1]; simp
 have hd : Bd W1 w.heap.size (.int .i64 p) (.slice a 4 c) := by rw [hW1]; exact heap_alloc_new w _
 rw [<- hW1]; clear hW1
 have hs := hs.bl hb1 hq; have hE := hE.below hb1; have hcw : Chg q (q + 1) w W1 := Chg.refl.bl hb1
 clear hb1
 have e0 := hd.c0; have e1 := hd.c1
 go_cut [30] (fun t_ wx => ∃ b : Bool, t_ = .bool b /\ (b = true -> False) /\ ElR wx (q + 1) (.slice a 4 c) st /\ Bd wx w.heap.size (.int .i64 p) (.slice a 4 c) /\ Src wx q /\ Chg q (q + 1) w wx /\ w.heap.size + 1 <= wx.heap.size)
 case first =>
  go_wp2_with fail
  refine (sisd_c hE.1.sl (by have := HST.out; omega)).mono ?_; rintro e w2 ⟨rfl, hb2⟩
  have hs := hs.below hb2; have hE := hE.below hb2; have hd := hd.below hb2; have hzz := Nat.le_trans hzz hb2.size; have hcw := hcw.bl (hb2.mono hcw.size)
  clear hb2 e0 e1
  have e0 := hd.c0; have e1 := hd.c1
  by_cases hD : isD p st = true
  case neg =>
   have hDf : isD p st = false := by simpa using hD
   rw [hDf]
   go_wp2_with fail
   go_meet
   case rel => exact ⟨false, rfl, fun h => (Bool.noConfusion h), hE, hd, hs, hcw, hzz⟩
  rw [hD]
  go_wp2_with fail
  go_meet
  case rel => exact ⟨false, rfl, fun h => (Bool.noConfusion h), hE, hd, hs, hcw, hzz⟩
 case' rest => skip
 clear hd hs hE hcw hzz e0 e1
 obtain ⟨bb, rfl, hDb, hE, hd, hs, hcw, hzz⟩ := hcut
 generalize wc = w3 at *
 go_upto_if 30 with fail
 go_cut [] (fun wx => Bd wx w.heap.size (.int .i64 p) (.slice a 4 c) /\ Src wx q /\ Chg q (q + 1) w wx /\ w.heap.size + 1 <= wx.heap.size)
 case first =>
  cases bb
  case false =>
   go_wp2_with fail
   go_meet
   case rel => exact ⟨hd, hs, hcw, hzz⟩
  have hD := hDb rfl
  have e0 := hd.c0; have e1 := hd.c1
  exact hD.elim
 case' rest => skip
 clear hd hs hE hcw hzz HST hDb
 obtain ⟨hd, hs, hcw, hzz⟩ := hcut
 have hl := LsR.new hzz
 have hbL : Below wc.heap.size wc (wc.alloc (.cells #[] 24)) := bwT
 have hs := hs.below hbL; have hd := hd.below hbL; have hcw := hcw.bl (hbL.mono hcw.size); have hzz := Nat.le_trans hzz hbL.size
 clear hbL
 go_wp2_with fail
 go_loopw [8, 9] (fun ov iv wr => ∃ (k : Nat) (us : List Value) (xss : List (List Int)), k <= 16 /\ iv = .int .i64 k /\ xss.length = k /\ (∀ xs ∈ xss, xs.length <= 16) /\ LsR wr (w.heap.size + 1) ov us xss /\ Bd wr w.heap.size (.int .i64 p) (.slice a 4 c) /\ Src wr q /\ Chg q (q + 1) w wr /\ w.heap.size + 1 <= wr.heap.size) (fun _ iv _ => 16 - (intOf iv).toNat)
 case atStart => exact ⟨0, _, [], by omega, rfl, rfl, by simp, hl, hd, hs, hcw, hzz⟩
 case round =>
  clear hs hl hd hcw hzz
  obtain ⟨k, us, xss, hk, rfl, hXl, h16, hl, hd, hs, hcw, hzz⟩ := hrel
  obtain ⟨ab, cb, rfl⟩ := hl.form
  have HXL := Lib.hid (And.intro hXl hl.len); clear hXl
  by_cases hlt : k < 16
  ·generalize wr = wo at *
   have hltb : decide ((k : Int) < 16) = true := decide_eq_true (by omega)
   have ho := OwN.new_ (w := wo)
   have hbN : Below wo.heap.size wo (wo.alloc (.cells #[] 2)) := bwT
   have hs := hs.below hbN; have hcq : Chg q (q + 1) wo (wo.alloc (.cells #[] 2)) := Chg.refl.bl hbN
   have hqo : q + 1 <= wo.heap.size := by have := hcw.size; omega
   clear hbN
   go_wp2_with fail
   go_loopw [10, 11] (fun rv jv wr => ∃ (j : Nat) (xs : List Int), j <= 16 /\ jv = .int .i64 j /\ xs.length = j /\ OwN wr wo.heap.size rv xs /\ Src wr q /\ Chg q (q + 1) wo wr) (fun _ jv _ => 16 - (intOf jv).toNat)
   case atStart => exact ⟨0, [], by omega, rfl, rfl, ho, hs, hcq⟩
   case round =>
    clear hs ho hcq
    obtain ⟨j, xs, hj, rfl, hxl, ho, hs, hcq⟩ := hrel
    obtain ⟨ad, cd, rfl⟩ := ho.formL
    have HJL := Lib.hid hxl; clear hxl
    have hd := hd.chg hcq (.inr (by omega))
    have e0 := hd.c0; have e1 := hd.c1
    by_cases hlj : j < 16
    ·go_wp2_with fail
     all_goals
      refine (snext_c hs (by omega) (by omega)).mono ?_; rintro e w3 ⟨x, rfl, hx0_, hx1_, hs, hc3, hz3_⟩
      have ho := ho.chg hc3 (by omega); have hcq := hcq.trans hc3
      clear hc3 hz3_ hx0_ hx1_ e0 e1 hd
      have hws := hcq.size
      go_wp2_with (at_builtin; refine appn_one rfl _ _ rfl w3 wo.heap.size _ rfl (.slice ad xs.length cd) xs rfl x 1 rfl ho hws (by have := HJL.out; omega) ?_; intro g' cap' w' hown' hgb' hg' hge)
      go_roundw
      case rel => exact ⟨j + 1, xs ++ [x], by omega, by go_num, by rw [List.length_append, HJL.out]; rfl, hown', hs.bl hgb' (by omega), hcq.bl hgb'⟩
      case measure => simp [intOf]; omega
    ·obtain rfl : j = 16 := by omega
     have hl_ := hl
     have hl := hl.chg hcq (by omega)
     have hzn := (show LsR wo (w.heap.size + 1) _ us xss from hl_).fresh ho.elr
     have hcw := hcw.trans hcq
     have hwz := Nat.le_trans hzz hcq.size
     go_wp2_with (at_builtin; refine appr_one rfl _ _ rfl wr (w.heap.size + 1) _ rfl (.slice ab us.length cb) us rfl (.slice ad xs.length cd) 1 rfl rfl hl.own hwz (by have := HXL.out; omega) ?_; intro g' cap' w8 hown' hgb' hg' hge)
     have hl8 := hl.snoc (ho.elr.more hzz) hzn (nv := .slice (some ⟨g', 0, none⟩) (us.length + 1) cap') rfl hown' hgb' hg' hge
     go_roundw
     case rel => exact ⟨k + 1, _, _, by omega, by go_num, by rw [List.length_append, HXL.out.1]; rfl, leN_snoc h16 (by rw [HJL.out]; decide), hl8, hd.bl hgb' (by omega), hs.bl hgb' (by omega), hcw.bl (hgb'.mono (by omega)), by have := hgb'.size; omega⟩
     case measure => simp [intOf]; omega
  ·obtain rfl : k = 16 := by omega
   go_wp2_with fail
   refine (snext_c hs (by decide) (by decide)).mono ?_; rintro e w7 ⟨y, rfl, hy0_, hy1_, hs, hc7, hz7_⟩
   have hl := hl.chg hc7 (by omega); have hcw := hcw.trans hc7; have hwz := Nat.le_trans hzz hc7.size
   clear hc7 hz7_ hy0_ hy1_ hd hzz
   have hR := hl.rer
   by_cases hy : y = 0
   case neg =>
    have hyb : (y == 0) = false := by simpa using hy
    go_wp2_with fail
    go_ret
    exact ⟨_, xss, rfl, by have := HXL.out.1; omega, h16, hR.more (by omega), hs, hcw⟩
   subst hy
   obtain ⟨x, yss, rfl⟩ : ∃ x yss, xss = x :: yss := by
    have := HXL.out.1
    cases xss with
    | nil => rw [List.length_nil] at this; omega
    | cons x r => exact ⟨x, r, rfl⟩
   have hY : yss.length <= 16 := by have := HXL.out.1; rw [List.length_cons] at this; omega
   have h16y : ∀ xs ∈ yss, xs.length <= 16 := fun xs h => h16 xs (List.mem_cons_of_mem _ h)
   obtain ⟨gl, cl, _, hv, _, hgl, _⟩ := hl.get (j := 0) (by simp)
   cases hv
   have hk1 : us.length <= cb := by have := hR.cap; omega
   have hk2 : cb <= 9223372036854775807 := hR.cap.2.2
   have HT := Lib.hid (hR.tail)
   have hk3 : 1 <= us.length := by have := HXL.out; omega
   have HN := Lib.hid (fun (h : us.length = 1) => (by have := HXL.out.2; cases yss with | nil => rfl | cons _ _ => simp at this; omega : yss = []))
   by_cases hcz : cb - 1 = 0
   case neg =>
    go_wp2_with fail
    go_ret
    exact ⟨_, yss, rfl, hY, h16y, HT.out.more (by omega), hs, hcw⟩
   go_wp2_with fail
   go_ret
   have hu1 : us.length - 1 = 0 := by omega
   rw [hu1]
   exact ⟨_, [], rfl, by simp, by simp, ReR.nil_ (by decide), hs, hcw⟩
set_option maxHeartbeats 16000000 in
set_option maxRecDepth 100000 in
theorem sdrawmx5_c {q c : Nat} {p : Int} {a : Option Addr} {st : List Int} {w : World} (hs : Src w q) (hE : ElR w (q + 1) (.slice a 5 c) st) (hst : st.length = 5) (hp0 : 0 <= p) (hp1 : p <= 17) :
  Calls Tryz.prog 92 #[.pointer (some ⟨q, 0, none⟩), .agg #[.int .i64 p, .slice a 5 c]] w fun e w' => DrM w q e w' := by
 have hq := hs.lt
 have HST := Lib.hid hst; clear hst
 go_enter Tryz.func92, Tryz.ntmps92
 go_upto_region 2 with fail
 obtain ⟨W1, hW1⟩ : ∃ x, x = (w.alloc (.cells #[.int .i64 p, .slice a 5 c] 26)) := ⟨_, rfl⟩
 have hb1 : Below w.heap.size w W1 := by rw [hW1]; exact bwT
 have hzz : w.heap.size + 1 <= W1.heap.size := by rw [hW1]; simp
 have hd : Bd W1 w.heap.size (.int .i64 p) (.slice a 5 c) := by rw [hW1]; exact heap_alloc_new w _
 rw [<- hW1]; clear hW1
 have hs := hs.bl hb1 hq; have hE := hE.below hb1; have hcw : Chg q (q + 1) w W1 := Chg.refl.bl hb1
 clear hb1
 have e0 := hd.c0; have e1 := hd.c1
 go_cut [30] (fun t_ wx => ∃ b : Bool, t_ = .bool b /\ (b = true -> False) /\ ElR wx (q + 1) (.slice a 5 c) st /\ Bd wx w.heap.size (.int .i64 p) (.slice a 5 c) /\ Src wx q /\ Chg q (q + 1) w wx /\ w.heap.size + 1 <= wx.heap.size)
 case first =>
  go_wp2_with fail
  refine (sisd_c hE.1.sl (by have := HST.out; omega)).mono ?_; rintro e w2 ⟨rfl, hb2⟩
  have hs := hs.below hb2; have hE := hE.below hb2; have hd := hd.below hb2; have hzz := Nat.le_trans hzz hb2.size; have hcw := hcw.bl (hb2.mono hcw.size)
  clear hb2 e0 e1
  have e0 := hd.c0; have e1 := hd.c1
  by_cases hD : isD p st = true
  case neg =>
   have hDf : isD p st = false := by simpa using hD
   rw [hDf]
   go_wp2_with fail
   go_meet
   case rel => exact ⟨false, rfl, fun h => (Bool.noConfusion h), hE, hd, hs, hcw, hzz⟩
  rw [hD]
  go_wp2_with fail
  go_meet
  case rel => exact ⟨false, rfl, fun h => (Bool.noConfusion h), hE, hd, hs, hcw, hzz⟩
 case' rest => skip
 clear hd hs hE hcw hzz e0 e1
 obtain ⟨bb, rfl, hDb, hE, hd, hs, hcw, hzz⟩ := hcut
 generalize wc = w3 at *
 go_upto_if 30 with fail
 go_cut [] (fun wx => Bd wx w.heap.size (.int .i64 p) (.slice a 5 c) /\ Src wx q /\ Chg q (q + 1) w wx /\ w.heap.size + 1 <= wx.heap.size)
 case first =>
  cases bb
  case false =>
   go_wp2_with fail
   go_meet
   case rel => exact ⟨hd, hs, hcw, hzz⟩
  have hD := hDb rfl
  have e0 := hd.c0; have e1 := hd.c1
  exact hD.elim
 case' rest => skip
 clear hd hs hE hcw hzz HST hDb
 obtain ⟨hd, hs, hcw, hzz⟩ := hcut
 have hl := LsR.new hzz
 have hbL : Below wc.heap.size wc (wc.alloc (.cells #[] 24)) := bwT
 have hs := hs.below hbL; have hd := hd.below hbL; have hcw := hcw.bl (hbL.mono hcw.size); have hzz := Nat.le_trans hzz hbL.size
 clear hbL
 go_wp2_with fail
 go_loopw [8, 9] (fun ov iv wr => ∃ (k : Nat) (us : List Value) (xss : List (List Int)), k <= 16 /\ iv = .int .i64 k /\ xss.length = k /\ (∀ xs ∈ xss, xs.length <= 16) /\ LsR wr (w.heap.size + 1) ov us xss /\ Bd wr w.heap.size (.int .i64 p) (.slice a 5 c) /\ Src wr q /\ Chg q (q + 1) w wr /\ w.heap.size + 1 <= wr.heap.size) (fun _ iv _ => 16 - (intOf iv).toNat)
 case atStart => exact ⟨0, _, [], by omega, rfl, rfl, by simp, hl, hd, hs, hcw, hzz⟩
 case round =>
  clear hs hl hd hcw hzz
  obtain ⟨k, us, xss, hk, rfl, hXl, h16, hl, hd, hs, hcw, hzz⟩ := hrel
  obtain ⟨ab, cb, rfl⟩ := hl.form
  have HXL := Lib.hid (And.intro hXl hl.len); clear hXl
  by_cases hlt : k < 16
  ·generalize wr = wo at *
   have hltb : decide ((k : Int) < 16) = true := decide_eq_true (by omega)
   have ho := OwN.new_ (w := wo)
   have hbN : Below wo.heap.size wo (wo.alloc (.cells #[] 2)) := bwT
   have hs := hs.below hbN; have hcq : Chg q (q + 1) wo (wo.alloc (.cells #[] 2)) := Chg.refl.bl hbN
   have hqo : q + 1 <= wo.heap.size := by have := hcw.size; omega
   clear hbN
   go_wp2_with fail
   go_loopw [10, 11] (fun rv jv wr => ∃ (j : Nat) (xs : List Int), j <= 16 /\ jv = .int .i64 j /\ xs.length = j /\ OwN wr wo.heap.size rv xs /\ Src wr q /\ Chg q (q + 1) wo wr) (fun _ jv _ => 16 - (intOf jv).toNat)
   case atStart => exact ⟨0, [], by omega, rfl, rfl, ho, hs, hcq⟩
   case round =>
    clear hs ho hcq
    obtain ⟨j, xs, hj, rfl, hxl, ho, hs, hcq⟩ := hrel
    obtain ⟨ad, cd, rfl⟩ := ho.formL
    have HJL := Lib.hid hxl; clear hxl
    have hd := hd.chg hcq (.inr (by omega))
    have e0 := hd.c0; have e1 := hd.c1
    by_cases hlj : j < 16
    ·go_wp2_with fail
     all_goals
      refine (snext_c hs (by omega) (by omega)).mono ?_; rintro e w3 ⟨x, rfl, hx0_, hx1_, hs, hc3, hz3_⟩
      have ho := ho.chg hc3 (by omega); have hcq := hcq.trans hc3
      clear hc3 hz3_ hx0_ hx1_ e0 e1 hd
      have hws := hcq.size
      go_wp2_with (at_builtin; refine appn_one rfl _ _ rfl w3 wo.heap.size _ rfl (.slice ad xs.length cd) xs rfl x 1 rfl ho hws (by have := HJL.out; omega) ?_; intro g' cap' w' hown' hgb' hg' hge)
      go_roundw
      case rel => exact ⟨j + 1, xs ++ [x], by omega, by go_num, by rw [List.length_append, HJL.out]; rfl, hown', hs.bl hgb' (by omega), hcq.bl hgb'⟩
      case measure => simp [intOf]; omega
    ·obtain rfl : j = 16 := by omega
     have hl_ := hl
     have hl := hl.chg hcq (by omega)
     have hzn := (show LsR wo (w.heap.size + 1) _ us xss from hl_).fresh ho.elr
     have hcw := hcw.trans hcq
     have hwz := Nat.le_trans hzz hcq.size
     go_wp2_with (at_builtin; refine appr_one rfl _ _ rfl wr (w.heap.size + 1) _ rfl (.slice ab us.length cb) us rfl (.slice ad xs.length cd) 1 rfl rfl hl.own hwz (by have := HXL.out; omega) ?_; intro g' cap' w8 hown' hgb' hg' hge)
     have hl8 := hl.snoc (ho.elr.more hzz) hzn (nv := .slice (some ⟨g', 0, none⟩) (us.length + 1) cap') rfl hown' hgb' hg' hge
     go_roundw
     case rel => exact ⟨k + 1, _, _, by omega, by go_num, by rw [List.length_append, HXL.out.1]; rfl, leN_snoc h16 (by rw [HJL.out]; decide), hl8, hd.bl hgb' (by omega), hs.bl hgb' (by omega), hcw.bl (hgb'.mono (by omega)), by have := hgb'.size; omega⟩
     case measure => simp [intOf]; omega
  ·obtain rfl : k = 16 := by omega
   go_wp2_with fail
   refine (snext_c hs (by decide) (by decide)).mono ?_; rintro e w7 ⟨y, rfl, hy0_, hy1_, hs, hc7, hz7_⟩
   have hl := hl.chg hc7 (by omega); have hcw := hcw.trans hc7; have hwz := Nat.le_trans hzz hc7.size
   clear hc7 hz7_ hy0_ hy1_ hd hzz
   have hR := hl.rer
   by_cases hy : y = 0
   case neg =>
    have hyb : (y == 0) = false := by simpa using hy
    go_wp2_with fail
    go_ret
    exact ⟨_, xss, rfl, by have := HXL.out.1; omega, h16, hR.more (by omega), hs, hcw⟩
   subst hy
   obtain ⟨x, yss, rfl⟩ : ∃ x yss, xss = x :: yss := by
    have := HXL.out.1
    cases xss with
    | nil => rw [List.length_nil] at this; omega
    | cons x r => exact ⟨x, r, rfl⟩
   have hY : yss.length <= 16 := by have := HXL.out.1; rw [List.length_cons] at this; omega
   have h16y : ∀ xs ∈ yss, xs.length <= 16 := fun xs h => h16 xs (List.mem_cons_of_mem _ h)
   obtain ⟨gl, cl, _, hv, _, hgl, _⟩ := hl.get (j := 0) (by simp)
   cases hv
   have hk1 : us.length <= cb := by have := hR.cap; omega
   have hk2 : cb <= 9223372036854775807 := hR.cap.2.2
   have HT := Lib.hid (hR.tail)
   have hk3 : 1 <= us.length := by have := HXL.out; omega
   have HN := Lib.hid (fun (h : us.length = 1) => (by have := HXL.out.2; cases yss with | nil => rfl | cons _ _ => simp at this; omega : yss = []))
   by_cases hcz : cb - 1 = 0
   case neg =>
    go_wp2_with fail
    go_ret
    exact ⟨_, yss, rfl, hY, h16y, HT.out.more (by omega), hs, hcw⟩
   go_wp2_with fail
   go_ret
   have hu1 : us.length - 1 = 0 := by omega
   rw [hu1]
   exact ⟨_, [], rfl, by simp, by simp, ReR.nil_ (by decide), hs, hcw⟩
theorem sdrawmx_c {q : Nat} {p : Int} {x : Value} {st : List Int} {w : World} (hs : Src w q) (hx : ElR w (q + 1) x st) (hp0 : 0 <= p) (hp1 : p <= 17) (hn : st.length <= 5) :
  Calls Tryz.prog 92 #[.pointer (some ⟨q, 0, none⟩), .agg #[.int .i64 p, x]] w fun e w' => DrM w q e w' := by
 obtain ⟨a, c, rfl⟩ := hx.shape_
 obtain ⟨n, hn_⟩ : ∃ n, st.length = n := ⟨_, rfl⟩
 rw [hn_] at hx hn ⊢
 rcases (show n = 0 \/ n = 1 \/ n = 2 \/ n = 3 \/ n = 4 \/ n = 5 by omega) with rfl | rfl | rfl | rfl | rfl | rfl
 ·exact sdrawmx0_c hs hx hn_ hp0 hp1
 ·exact sdrawmx1_c hs hx hn_ hp0 hp1
 ·exact sdrawmx2_c hs hx hn_ hp0 hp1
 ·exact sdrawmx3_c hs hx hn_ hp0 hp1
 ·exact sdrawmx4_c hs hx hn_ hp0 hp1
 ·exact sdrawmx5_c hs hx hn_ hp0 hp1
end Go.Proofs.YteaaepbnoiecoaaGreat
