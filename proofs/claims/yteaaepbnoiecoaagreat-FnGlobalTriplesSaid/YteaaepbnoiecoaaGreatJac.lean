/- Texts joined for a claim: Num, Row. -/
import Derived.Test.YteaaepbnoiecoaaGreatBase
namespace Go.Proofs.YteaaepbnoiecoaaGreat
open Go.RowKit
/-! ### impl: numbers -/
theorem inRange_c {n l h : Int} {w : World} :
  Calls Tryz.prog 115 #[.int .i64 n, .int .i64 l, .int .i64 h] w fun e w' => e = .returned (.bool (inR n l h)) /\ w = w' := by
 by_cases h1 : l <= n
 ·go_enter Tryz.func115, Tryz.ntmps115
  go_wp2
  go_ret
  exact ⟨by simp [inR, *], rfl⟩
 ·go_enter Tryz.func115, Tryz.ntmps115
  go_wp2
  go_ret
  exact ⟨by simp [inR]; omega, rfl⟩
theorem isPrime_c {p : Int} {w : World} : Calls Tryz.prog 102 #[.int .i64 p] w fun e w' => e = .returned (.bool (prB p)) /\ w = w' := by
 by_cases h3 : p = 3
 ·subst h3; go_enter Tryz.func102, Tryz.ntmps102; go_wp2; go_ret; exact ⟨rfl, rfl⟩
 by_cases h5 : p = 5
 ·subst h5; go_enter Tryz.func102, Tryz.ntmps102; go_wp2; go_ret; exact ⟨rfl, rfl⟩
 by_cases h7 : p = 7
 ·subst h7; go_enter Tryz.func102, Tryz.ntmps102; go_wp2; go_ret; exact ⟨rfl, rfl⟩
 by_cases h11 : p = 11
 ·subst h11; go_enter Tryz.func102, Tryz.ntmps102; go_wp2; go_ret; exact ⟨rfl, rfl⟩
 by_cases h13 : p = 13
 ·subst h13; go_enter Tryz.func102, Tryz.ntmps102; go_wp2; go_ret; exact ⟨rfl, rfl⟩
 have e : prB p = false := by simp [prB, IsP, *]
 have E := Lib.hid e; clear e
 have g3 : (p == 3) = false := by simpa using h3
 have g5 : (p == 5) = false := by simpa using h5
 have g7 : (p == 7) = false := by simpa using h7
 have g11 : (p == 11) = false := by simpa using h11
 have g13 : (p == 13) = false := by simpa using h13
 go_enter Tryz.func102, Tryz.ntmps102; go_wp2; go_ret; exact ⟨by rw [E.out]; rfl, rfl⟩
theorem num_c {p n : Int} {w : World} (hp : 1 <= p) (hp2 : p <= 1000) :
  Calls Tryz.prog 54 #[.int .i64 p, .int .i64 n] w fun e w' => e = .returned (.int .i64 (n % p)) /\ w = w' := by
 obtain ⟨t1, t2, t3⟩ := tmodb (n := n) hp
 have T3 := Lib.hid t3; clear t3
 go_enter Tryz.func54, Tryz.ntmps54
 go_wp2
 go_ret
 exact ⟨by simp [T3.out], rfl⟩
theorem is_c {p : Int} {x : Value} {xs : List Int} {w : World} (hp : 0 <= p) (hp2 : p <= 1000) (hx : Sl w x xs) (hm : xs.length <= 1048576) :
  Calls Tryz.prog 103 #[.int .i64 p, x] w fun e w' => e = .returned (.bool (isL p xs)) /\ w = w' := by
 obtain ⟨a, c, rfl, rfl | ⟨b, off, rfl, hx⟩⟩ := hx
 ·go_enter Tryz.func103, Tryz.ntmps103
  go_wp2
  refine wp_loop_rounds 1 ?_; rw [rounds_succ]
  go_wp2; go_ret; exact ⟨rfl, rfl⟩
 go_enter Tryz.func103, Tryz.ntmps103
 go_wp2
 go_loop [9] (fun i => ∃ k : Nat, k <= xs.length /\ i = .int .i64 k /\ isL p (xs.take k) = true) (fun i => xs.length - (intOf i).toNat)
 case atStart => exact ⟨0, Nat.zero_le _, rfl, rfl⟩
 case round =>
  obtain ⟨k, hk, rfl, hr⟩ := hrel
  by_cases hlt : k < xs.length
  ·obtain ⟨z, hz, hc, ht⟩ := hx.get hlt
   have hs := isL_snoc (p := p) (x := z) (xs := xs.take k)
   have H := Lib.hid (And.intro hr (And.intro ht hs)); clear hr ht hs
   cases hb : inR z 0 (p - 1)
   ·have hall : isL p xs = false := by
     have h1 : isL p (xs.take (k + 1)) = false := by rw [H.out.2.1, H.out.2.2, hb, Bool.and_false]
     cases h2 : isL p xs with
     | false => rfl
     | true =>
      have h3 : isL p (xs.take (k + 1)) = true := isL_fp.2 fun y hy => isL_fp.1 h2 y (List.mem_of_mem_take hy)
      rw [h1] at h3; cases h3
    have HA := Lib.hid hall; clear hall
    go_wp2_with (go_at_call 115; refine inRange_c.mono ?_; rintro e w' ⟨rfl, rfl⟩)
    go_ret
    exact ⟨by rw [HA.out]; rfl, rfl⟩
   ·go_wp2_with (go_at_call 115; refine inRange_c.mono ?_; rintro e w' ⟨rfl, rfl⟩)
    go_round
    case rel => exact ⟨k + 1, by omega, by go_num, by rw [H.out.2.1, H.out.2.2, H.out.1, hb]; rfl⟩
    case measure => simp [intOf]; omega
  ·have e : xs.take k = xs := take_all (by omega)
   rw [e] at hr
   have H := Lib.hid hr; clear hr e
   go_wp2
   go_ret
   exact ⟨by rw [H.out]; rfl, rfl⟩
theorem dot_c {p : Int} {x y : Value} {xs ys : List Int} {w : World} (hp : 1 <= p) (hp2 : p <= 1000) (hx : Sl w x xs) (hy : Sl w y ys) (sx : Sm 1000 xs) (sy : Sm 1000 ys) (hl : ys.length = xs.length) (hm : xs.length <= 100000) :
  Calls Tryz.prog 31 #[.int .i64 p, x, y] w fun e w' => e = .returned (.int .i64 (dotL p xs ys)) /\ w = w' := by
 obtain ⟨a, c, rfl, hx⟩ := hx
 obtain ⟨a2, c2, rfl, hy⟩ := hy
 have key : (xs = [] \/ ∃ b off b2 off2, a = some ⟨b, off, none⟩ /\ a2 = some ⟨b2, off2, none⟩ /\ At w b off xs /\ At w b2 off2 ys) := by
  rcases hx with h | ⟨b, off, h1, h2⟩
  ·exact .inl h
  ·rcases hy with h | ⟨b2, off2, h3, h4⟩
   ·exact .inl (List.eq_nil_of_length_eq_zero (by rw [<- hl, h]; rfl))
   ·exact .inr ⟨b, off, b2, off2, h1, h3, h2, h4⟩
 clear hx hy
 rcases key with rfl | ⟨b, off, b2, off2, rfl, rfl, hx, hy⟩
 ·have e : dotL p [] ys = 0 := by simp [dotL, dotS]
  have E := Lib.hid e; clear e
  go_enter Tryz.func31, Tryz.ntmps31
  go_wp2
  refine wp_loop_rounds 1 ?_; rw [rounds_succ]
  go_wp2_with (go_at_call 54; refine (num_c hp hp2).mono ?_; rintro e w' ⟨rfl, rfl⟩)
  go_ret
  exact ⟨by rw [E.out]; simp, rfl⟩
 have hl2 := Lib.hid hl; clear hl
 go_enter Tryz.func31, Tryz.ntmps31
 go_wp2
 go_loop [7, 12] (fun s i => ∃ k : Nat, k <= xs.length /\ i = .int .i64 k /\ s = .int .i64 (dotS (xs.take k) (ys.take k))) (fun _ i => xs.length - (intOf i).toNat)
 case atStart => exact ⟨0, Nat.zero_le _, rfl, rfl⟩
 case round =>
  obtain ⟨k, hk, rfl, rfl⟩ := hrel
  have hb := dotS_bd (by omega) (by omega) (sm_take sx k) (sm_take sy k)
  rw [List.length_take, Nat.min_eq_left hk] at hb
  obtain ⟨q, hq⟩ : ∃ q, q = dotS (xs.take k) (ys.take k) := ⟨_, rfl⟩
  rw [<- hq] at hb ⊢
  by_cases hlt : k < xs.length
  ·obtain ⟨z, hz, hc, ht⟩ := hx.get hlt
   obtain ⟨u, hu, hc2, ht2⟩ := hy.get (m := k) (by rw [hl2.out]; exact hlt)
   have hs := dotS_snoc (x := z) (y := u) (xs := xs.take k) (ys := ys.take k) (by have := hl2.out; simp; omega)
   have H := Lib.hid (And.intro hq (And.intro ht (And.intro ht2 hs))); clear hq ht ht2 hs
   have s1 := sx z hz
   have s2 := sy u hu
   have s3 := mulb s1.1 s1.2 s2.1 s2.2
   have hlt2 := hl2.out ▸ hlt
   go_wp2
   go_round
   case rel => exact ⟨k + 1, by omega, by go_num, by rw [H.out.2.1, H.out.2.2.1, H.out.2.2.2, <- H.out.1]⟩
   case measure => simp [intOf]; omega
  ·rw [take_all (by omega), take_all (by have := hl2.out; omega)] at hq
   have H := Lib.hid hq; clear hq
   go_wp2_with (go_at_call 54; refine (num_c hp hp2).mono ?_; rintro e w' ⟨rfl, rfl⟩)
   go_ret
   exact ⟨by rw [H.out]; rfl, rfl⟩
theorem two_rows {w : World} {x y : Value} {xs ys : List Int} (hx : Sl w x xs) (hy : Sl w y ys) (hl : ys.length = xs.length) :
  (xs = [] /\ ys = [] /\ ∃ a c a2 c2, x = .slice a 0 c /\ y = .slice a2 0 c2) \/ ∃ b off c b2 off2 c2, x = .slice (some ⟨b, off, none⟩) xs.length c /\ y = .slice (some ⟨b2, off2, none⟩) xs.length c2 /\ At w b off xs /\ At w b2 off2 ys := by
 obtain ⟨a, c, rfl, hx⟩ := hx
 obtain ⟨a2, c2, rfl, hy⟩ := hy
 rcases hx with rfl | ⟨b, off, rfl, hx⟩
 ·obtain rfl : ys = [] := List.eq_nil_of_length_eq_zero hl
  exact .inl ⟨rfl, rfl, a, c, a2, c2, rfl, rfl⟩
 ·rcases hy with rfl | ⟨b2, off2, rfl, hy⟩
  ·obtain rfl : xs = [] := List.eq_nil_of_length_eq_zero hl.symm
   exact .inl ⟨rfl, rfl, _, c, a2, c2, rfl, rfl⟩
  ·exact .inr ⟨b, off, c, b2, off2, c2, rfl, by rw [hl], hx, hy⟩
theorem plus_c {p k : Int} {x y : Value} {xs ys : List Int} {w : World} (hp : 1 <= p) (hp2 : p <= 1000) (hk1 : -1000000 <= k) (hk2 : k <= 1000000)
    (hx : Sl w x xs) (hy : Sl w y ys) (sx : Sm 1000000 xs) (sy : Sm 1000000 ys) (hl : ys.length = xs.length) (hm : xs.length <= 1000000) :
    Calls Tryz.prog 96 #[.int .i64 p, x, y, .int .i64 k] w fun e w' => ∃ v, e = .returned v /\ FrI w' w.heap.size v (plusL p xs ys k) /\ Below w.heap.size w w' := by
  rcases two_rows hx hy hl with ⟨rfl, rfl, a, c, a2, c2, rfl, rfl⟩ | ⟨b, off, c, b2, off2, c2, rfl, rfl, hx, hy⟩
  · go_enter Tryz.func96, Tryz.ntmps96
    go_wp2
    refine wp_loop_rounds 1 ?_; rw [rounds_succ]
    go_wp2
    go_ret
    exact ⟨_, rfl, (OwnI.new (Nat.le_refl _)).fr, bwT⟩
  have HL := Lib.hid hl; clear hl
  go_enter Tryz.func96, Tryz.ntmps96
  go_wp2
  go_loopw [9, 15] (fun v i wr => ∃ m g cap : Nat, m <= xs.length /\ i = .int .i64 m /\ v = .slice (some ⟨g, 0, none⟩) m cap /\ OwnI wr w.heap.size g m cap (plusL p (xs.take m) (ys.take m) k) /\ Below w.heap.size w wr)
    (fun _ i _ => xs.length - (intOf i).toNat)
  case atStart => exact ⟨0, w.heap.size, 0, Nat.zero_le _, rfl, rfl, OwnI.new (Nat.le_refl _), bwT⟩
  case round =>
    obtain ⟨m, g, cap, hm', rfl, rfl, hown, hb⟩ := hrel
    by_cases hlt : m < xs.length
    · obtain ⟨u, hxm, hcx, htx⟩ := (hx.below hb).get hlt
      obtain ⟨z, hym, hcy, hty⟩ := (hy.below hb).get (m := m) (by rw [HL.out]; exact hlt)
      have s1 := sx u hxm
      have s2 := sy z hym
      have s3 := mulb hk1 hk2 s2.1 s2.2
      have H := Lib.hid (And.intro htx hty); clear htx hty
      go_wp2_with (first
       | (go_at_call 54; refine (num_c hp hp2).mono ?_; rintro e w' ⟨rfl, rfl⟩)
       | (at_builtin; refine app_one rfl _ _ rfl wr w.heap.size g m cap _ rfl ((u + k * z) % p) _ rfl hown hb.size (by omega) ?_; intro g' cap' w' hown' hb' hg' hgg))
      go_roundw
      case rel => exact ⟨m + 1, g', cap', by omega, by go_num, rfl, by rw [H.out.1, H.out.2, plusL_snoc (by have := HL.out; simp; omega)]; exact hown', hb.trans hb'⟩
      case measure => simp [intOf]; omega
    · obtain rfl : m = xs.length := by omega
      rw [take_all (Nat.le_refl _), take_all (by rw [HL.out]; exact Nat.le_refl _)] at hown
      go_wp2
      go_ret
      exact ⟨_, rfl, hown.fr, hb⟩
theorem scaled_c {p k : Int} {x : Value} {xs : List Int} {w : World} (hp : 1 <= p) (hp2 : p <= 1000) (hk1 : -1000000 <= k) (hk2 : k <= 1000000)
    (hx : Sl w x xs) (sx : Sm 1000000 xs) (hm : xs.length <= 1000000) :
    Calls Tryz.prog 81 #[.int .i64 p, x, .int .i64 k] w fun e w' => ∃ v, e = .returned v /\ FrI w' w.heap.size v (scaleL p xs k) /\ Below w.heap.size w w' := by
  obtain ⟨a, c, rfl, rfl | ⟨b, off, rfl, hx⟩⟩ := hx
  · go_enter Tryz.func81, Tryz.ntmps81
    go_wp2
    refine wp_loop_rounds 1 ?_; rw [rounds_succ]
    go_wp2
    go_ret
    exact ⟨_, rfl, (OwnI.new (Nat.le_refl _)).fr, bwT⟩
  go_enter Tryz.func81, Tryz.ntmps81
  go_wp2
  go_loopw [7, 13] (fun v i wr => ∃ m g cap : Nat, m <= xs.length /\ i = .int .i64 m /\ v = .slice (some ⟨g, 0, none⟩) m cap /\ OwnI wr w.heap.size g m cap (scaleL p (xs.take m) k) /\ Below w.heap.size w wr)
    (fun _ i _ => xs.length - (intOf i).toNat)
  case atStart => exact ⟨0, w.heap.size, 0, Nat.zero_le _, rfl, rfl, OwnI.new (Nat.le_refl _), bwT⟩
  case round =>
    obtain ⟨m, g, cap, hm', rfl, rfl, hown, hb⟩ := hrel
    by_cases hlt : m < xs.length
    · obtain ⟨u, hxm, hcx, htx⟩ := (hx.below hb).get hlt
      have s1 := sx u hxm
      have s3 := mulb s1.1 s1.2 hk1 hk2
      have H := Lib.hid htx; clear htx
      go_wp2_with (first
       | (go_at_call 54; refine (num_c hp hp2).mono ?_; rintro e w' ⟨rfl, rfl⟩)
       | (at_builtin; refine app_one rfl _ _ rfl wr w.heap.size g m cap _ rfl (u * k % p) _ rfl hown hb.size (by omega) ?_; intro g' cap' w' hown' hb' hg' hgg))
      go_roundw
      case rel => exact ⟨m + 1, g', cap', by omega, by go_num, rfl, by rw [H.out, scaleL_snoc]; exact hown', hb.trans hb'⟩
      case measure => simp [intOf]; omega
    · obtain rfl : m = xs.length := by omega
      rw [take_all (Nat.le_refl _)] at hown
      go_wp2
      go_ret
      exact ⟨_, rfl, hown.fr, hb⟩
theorem clone_c {x : Value} {xs : List Int} {w : World} (hx : Sl w x xs) (hne : 0 < xs.length) (hm : xs.length <= 1000000) :
  Calls Tryz.prog 90 #[x] w fun e w' => ∃ v, e = .returned v /\ FrI w' w.heap.size v xs /\ Below w.heap.size w w' := by
 obtain ⟨a, c, rfl, rfl | ⟨b, off, rfl, hx⟩⟩ := hx
 ·simp at hne
 have hc := hx.below (w' := w.alloc (.cells #[] 2)) bwT
 have hnil := fun w => Lib.run_eql_slice_nil (P := Tryz.prog) w 24 2 (some ⟨b, off, none⟩) xs.length c 0 0 Tryz.underlying24
 go_enter Tryz.func90, Tryz.ntmps90
 go_wp2_with (at_builtin; refine app_int rfl _ _ rfl (w.alloc (.cells #[] 2)) w.heap.size w.heap.size 0 0 [] rfl b off xs.length c xs rfl (OwnI.new (Nat.le_refl _)) (by simp) hc rfl hne (by omega) ?_; intro g' cap' w' hown' hg' hgg)
 go_ret
 simp only [Nat.zero_add, List.nil_append] at hown' ⊢
 exact ⟨_, rfl, hown'.fr, blw_grown (bwA (Below.refl _ _) _) hg' (Nat.le_refl _)⟩
theorem own_c {x : Value} {xs : List Int} {w : World} (hx : Sl w x xs) (hne : 0 < xs.length) (hm : xs.length <= 1000000) :
  Calls Tryz.prog 122 #[x] w fun e w' => ∃ v, e = .returned v /\ FrI w' w.heap.size v xs /\ Below w.heap.size w w' := by
 obtain ⟨a, c, rfl, rfl | ⟨b, off, rfl, hx⟩⟩ := hx
 ·simp at hne
 have hc := hx.below (w' := w.alloc (.cells #[] 2)) bwT
 go_enter Tryz.func122, Tryz.ntmps122
 go_wp2_with (at_builtin; refine app_int rfl _ _ rfl (w.alloc (.cells #[] 2)) w.heap.size w.heap.size 0 0 [] rfl b off xs.length c xs rfl (OwnI.new (Nat.le_refl _)) (by simp) hc rfl hne (by omega) ?_; intro g' cap' w' hown' hg' hgg)
 go_ret
 simp only [Nat.zero_add, List.nil_append] at hown' ⊢
 exact ⟨_, rfl, hown'.fr, blw_grown (bwA (Below.refl _ _) _) hg' (Nat.le_refl _)⟩
theorem smod_c {p n : Int} {w : World} (hp : 1 <= p) (hp2 : p <= 1000) :
  Calls Tryz.prog 65 #[.int .i64 p, .int .i64 n] w fun e w' => e = .returned (.int .i64 (n % p)) /\ w = w' := by
 obtain ⟨t1, t2, t3⟩ := tmodb (n := n) hp
 have T3 := Lib.hid t3; clear t3
 go_enter Tryz.func65, Tryz.ntmps65
 go_wp2
 go_ret
 exact ⟨by simp [T3.out], rfl⟩
theorem sadd_c {p : Int} {x y : Value} {xs ys : List Int} {w : World} (hp : 1 <= p) (hp2 : p <= 1000)
    (hx : Sl w x xs) (hy : Sl w y ys) (sx : Sm 1000000 xs) (sy : Sm 1000000 ys) (hl : ys.length = xs.length) (hm : xs.length <= 1000000) :
    Calls Tryz.prog 114 #[.int .i64 p, x, y] w fun e w' => ∃ v, e = .returned v /\ FrI w' w.heap.size v (plusL p xs ys 1) /\ Below w.heap.size w w' := by
  rcases two_rows hx hy hl with ⟨rfl, rfl, a, c, a2, c2, rfl, rfl⟩ | ⟨b, off, c, b2, off2, c2, rfl, rfl, hx, hy⟩
  · go_enter Tryz.func114, Tryz.ntmps114
    go_wp2
    refine wp_loop_rounds 1 ?_; rw [rounds_succ]
    go_wp2
    go_ret
    exact ⟨_, rfl, (OwnI.new (Nat.le_refl _)).fr, bwT⟩
  have HL := Lib.hid hl; clear hl
  go_enter Tryz.func114, Tryz.ntmps114
  go_wp2
  go_loopw [7, 8] (fun v i wr => ∃ m g cap : Nat, m <= xs.length /\ i = .int .i64 m /\ v = .slice (some ⟨g, 0, none⟩) m cap /\ OwnI wr w.heap.size g m cap (plusL p (xs.take m) (ys.take m) 1) /\ Below w.heap.size w wr)
    (fun _ i _ => xs.length - (intOf i).toNat)
  case atStart => exact ⟨0, w.heap.size, 0, Nat.zero_le _, rfl, rfl, OwnI.new (Nat.le_refl _), bwT⟩
  case round =>
    obtain ⟨m, g, cap, hm', rfl, rfl, hown, hb⟩ := hrel
    by_cases hlt : m < xs.length
    · obtain ⟨u, hxm, hcx, htx⟩ := (hx.below hb).get hlt
      obtain ⟨z, hym, hcy, hty⟩ := (hy.below hb).get (m := m) (by rw [HL.out]; exact hlt)
      have s1 := sx u hxm
      have s2 := sy z hym
      have H := Lib.hid (And.intro htx hty); clear htx hty
      go_wp2
      refine region_flow [(false, [(0, 0), (1, 0), (2, 0), (3, 0), (4, 0), (5, 1), (6, 0), (7, 0), (8, 0), (9, 1), (10, 0), (11, 4), (12, 4), (13, 4), (14, 0)])] (by kernel_rfl) ?_
      refine norm_K fun K hK => ?_
      change wpList _ _ _ [_, _, _, _, _, _, _, _, _, _, _, _, _, _, _] _ _
      go_wp2_with (first
       | (go_at_call 65; refine (smod_c hp hp2).mono ?_; rintro e w' ⟨rfl, rfl⟩)
       | (at_builtin; refine app_one rfl _ _ rfl wr.drew w.heap.size g m cap _ rfl ((u + z) % p) _ rfl hown hb.size (by omega) ?_; intro g' cap' w' hown' hb' hg' hgg))
      first | (refine hK _ _ ⟨rfl, ?_⟩; clear hK K) | refine ⟨rfl, ?_⟩
      go_wp2
      go_roundw
      case rel => exact ⟨m + 1, g', cap', by omega, by go_num, rfl, by rw [H.out.1, H.out.2, plusL_snoc (by have := HL.out; simp; omega), Int.one_mul]; exact hown', hb.drew.trans hb'⟩
      case measure => simp [intOf]; omega
    · obtain rfl : m = xs.length := by omega
      rw [take_all (Nat.le_refl _), take_all (by rw [HL.out]; exact Nat.le_refl _)] at hown
      go_wp2
      go_ret
      exact ⟨_, rfl, hown.fr, hb⟩
theorem sscale_c {p k : Int} {x : Value} {xs : List Int} {w : World} (hp : 1 <= p) (hp2 : p <= 1000) (hk1 : -1000000 <= k) (hk2 : k <= 1000000)
    (hx : Sl w x xs) (sx : Sm 1000000 xs) (hm : xs.length <= 1000000) :
    Calls Tryz.prog 108 #[.int .i64 p, .int .i64 k, x] w fun e w' => ∃ v, e = .returned v /\ FrI w' w.heap.size v (scaleL p xs k) /\ Below w.heap.size w w' := by
  obtain ⟨a, c, rfl, rfl | ⟨b, off, rfl, hx⟩⟩ := hx
  · go_enter Tryz.func108, Tryz.ntmps108
    go_wp2
    refine wp_loop_rounds 1 ?_; rw [rounds_succ]
    go_wp2
    go_ret
    exact ⟨_, rfl, (OwnI.new (Nat.le_refl _)).fr, bwT⟩
  go_enter Tryz.func108, Tryz.ntmps108
  go_wp2
  go_loopw [7, 8] (fun v i wr => ∃ m g cap : Nat, m <= xs.length /\ i = .int .i64 m /\ v = .slice (some ⟨g, 0, none⟩) m cap /\ OwnI wr w.heap.size g m cap (scaleL p (xs.take m) k) /\ Below w.heap.size w wr)
    (fun _ i _ => xs.length - (intOf i).toNat)
  case atStart => exact ⟨0, w.heap.size, 0, Nat.zero_le _, rfl, rfl, OwnI.new (Nat.le_refl _), bwT⟩
  case round =>
    obtain ⟨m, g, cap, hm', rfl, rfl, hown, hb⟩ := hrel
    by_cases hlt : m < xs.length
    · obtain ⟨u, hxm, hcx, htx⟩ := (hx.below hb).get hlt
      have s1 := sx u hxm
      have s3 := mulb hk1 hk2 s1.1 s1.2
      have H := Lib.hid htx; clear htx
      go_wp2_with (first
       | (go_at_call 65; refine (smod_c hp hp2).mono ?_; rintro e w' ⟨rfl, rfl⟩)
       | (at_builtin; refine app_one rfl _ _ rfl wr w.heap.size g m cap _ rfl (k * u % p) _ rfl hown hb.size (by omega) ?_; intro g' cap' w' hown' hb' hg' hgg))
      go_roundw
      case rel => exact ⟨m + 1, g', cap', by omega, by go_num, rfl, by rw [H.out, scaleL_snoc, Int.mul_comm u k]; exact hown', hb.trans hb'⟩
      case measure => simp [intOf]; omega
    · obtain rfl : m = xs.length := by omega
      rw [take_all (Nat.le_refl _)] at hown
      go_wp2
      go_ret
      exact ⟨_, rfl, hown.fr, hb⟩
end Go.Proofs.YteaaepbnoiecoaaGreat
