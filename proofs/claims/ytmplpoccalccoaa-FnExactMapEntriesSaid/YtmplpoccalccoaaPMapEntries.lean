/-
  For all arguments that can be read as data: the law FnExactMapEntries returns true, and the arguments read as they did. No condition.
-/
import Derived.Test.YtmplpoccalccoaaLMapEntries
import Derived.Test.YtmplpoccalccoaaRowKitH
namespace Go.Proofs.Ytmplpoccalccoaa.lawMapEntries
open Go.ChangeShapes Go.WideShapes Go.ChangeAt Go.RowKit Go.Joins
set_option maxRecDepth 100000 in
theorem lifted (os : Os) (started : os.Started) (H : Type) (enc : TypeId × Value → H) :
    ReturnsInHanded {} Try.checked os 5 .any (Rows.fnExactMapEntriesSpec.pre6 enc Try.prog Try.f5 Rows.fnExactMapEntriesRow.domain false) (Rows.fnExactMapEntriesSpec.post enc Try.prog Try.f5 false true false false) := by
  refine returnsInHanded_of_change (C := Try.checked) own started (by kernel_rfl) Try.func5
    (ChangeSpec.witness6 (enc := enc) (C := Try.checked) false ⟨#[], #[.agg #[.int .i64 0, .slice none 0 0], .slice none 0 0, .agg #[.slice none 0 0, .slice none 0 0]], []⟩ 8 (by kernel_rfl) (by kernel_rfl) (by kernel_rfl) (by kernel_rfl)) ?_
  intro W base args ds gs before hval0 hW hcnd _
  have hval : ∀ (j : Nat) t v, Try.f5.params[j]? = some t → args[j]? = some v → Value.okWide Try.prog W .any base t v := hval0
  have hW' := hW
  obtain ⟨p, q, hA0, hV, rfl, hfz, hnd⟩ := hW
  have hA : DataW.TrodAll enc Try.prog W 0 (fun _ => true) true Try.f5.params.toList args.toList ds p := hA0
  rw [Try.params5] at hA hval
  obtain ⟨v0, vs0, d0, ds0, pp0, q0, hargs, rfl, rfl, h0, r0⟩ := trodAll_cons hA
  obtain ⟨v1, vs1, d1, ds1, pp1, q1, rfl, rfl, rfl, h1, r1⟩ := trodAll_cons r0
  obtain ⟨v2, vs2, d2, ds2, pp2, q2, rfl, rfl, rfl, h2, r2⟩ := trodAll_cons r1
  obtain ⟨rfl, rfl, rfl⟩ := trodAll_nil r2
  obtain rfl : args = #[v0, v1, v2] := by cases args; simp_all
  obtain ⟨rfl, rfl⟩ := trodVars_none hV
  have k0 := h0
  have lt0 : ∀ x ∈ pp0, x.block < W.heap.size := by obtain ⟨m, hm⟩ := k0; exact DataW.trod_lt m _ _ _ hm
  obtain ⟨c00, c01, y00, y01, m0, rfl, rfl, rfl, hy00, hy01⟩ := open_agg2 Try.underlying24 (by kernel_rfl) cellsD (hval 0 24 v0 rfl rfl) h0
  obtain ⟨n0, e0, rfl, wn0⟩ := DataW.trod_int Try.underlying2 hy00
  simp at e0
  subst e0
  obtain ⟨xs0, hx0, hm0⟩ := row_of_trod (c := c01) ⟨m0, _, hy01⟩
  have k1 := h1
  have lt1 : ∀ x ∈ pp1, x.block < W.heap.size := by obtain ⟨m, hm⟩ := k1; exact DataW.trod_lt m _ _ _ hm
  obtain ⟨a1, len1, cap1, rfl⟩ := okWide_slice Try.underlying25 (hval 1 25 v1 rfl rfl)
  obtain ⟨M1, hx1, mu1, mr1⟩ := rows_of_trod (c := .slice a1 len1 cap1) (by obtain ⟨m, hm⟩ := h1; exact ⟨m, _, hm⟩)
  have hm1 : Mbig M1 := ⟨mu1, mr1⟩
  have k2 := h2
  have lt2 : ∀ x ∈ pp2, x.block < W.heap.size := by obtain ⟨m, hm⟩ := k2; exact DataW.trod_lt m _ _ _ hm
  obtain ⟨c20, c21, y20, y21, m2, rfl, rfl, rfl, hy20, hy21⟩ := open_agg2 Try.underlying40 (by kernel_rfl) cellsH (hval 2 40 v2 rfl rfl) h2
  obtain ⟨dg2, hdg2, md2⟩ := row_of_trod (c := c20) ⟨m2, _, hy20⟩
  obtain ⟨up2, hup2, mu2, mr2⟩ := rows_of_trod (c := c21) ⟨m2, _, hy21⟩
  have hx2 : Hr W (.agg #[c20, c21]) ⟨dg2, up2⟩ := ⟨_, _, rfl, hdg2, hup2⟩
  have hm2 : Hbig ⟨dg2, up2⟩ := ⟨md2, mu2, mr2⟩
  clear hA0 hval0
  refine (law_MapEntries hx0 hm0 hx1 hm1 hx2 hm2).mono fun e W' ⟨he, bel⟩ => ?_
  subst he
  exact ⟨_, rfl, _, _, _, [], _, [], hW', trodAll_mk1 (shut_bool Try.underlying4 _), (trodAll_cons_mk (Below.trod laidOut (by kernel_rfl) (of_decide_eq_true (by kernel_rfl)) k0 bel lt0) (trodAll_cons_mk (Below.trod laidOut (by kernel_rfl) (of_decide_eq_true (by kernel_rfl)) k1 bel lt1) (trodAll_cons_mk (Below.trod laidOut (by kernel_rfl) (of_decide_eq_true (by kernel_rfl)) k2 bel lt2) trodAll_mk0))), rfl, bel.frame _, fun h => by cases h⟩
theorem over : Rows.fnExactMapEntriesRow.holds Try.pinned (OpenSpec.ofChange Rows.fnExactMapEntriesSpec) :=
  OpenClaim.holds_of_wide 5 Try.f5 rfl rfl rfl rfl rfl rfl rfl ⟨rfl, rfl, rfl, rfl, rfl⟩ rfl rfl rfl rfl rfl (by kernel_rfl) Try.func5 (by kernel_rfl)
    (of_decide_eq_true (by kernel_rfl)) (by unfold Func.isWrapper; first | (rw [if_pos (by decide +kernel)]; kernel_rfl) | (rw [if_neg (by decide +kernel)]; exact ⟨rfl, rfl⟩))
    (fun os started H enc _ => lifted os started H enc)
theorem proved : Rows.FnExactMapEntriesSaid := over
#print axioms proved
end Go.Proofs.Ytmplpoccalccoaa.lawMapEntries
