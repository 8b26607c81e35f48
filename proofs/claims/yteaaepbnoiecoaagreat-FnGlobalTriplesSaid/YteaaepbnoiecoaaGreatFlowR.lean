import Derived.Test.YteaaepbnoiecoaaGreatJan
namespace Go.Proofs.YteaaepbnoiecoaaGreat
open Go.RowKit
class Hole where
 q : Nat
 r : Nat
section
variable [Hole]
def Rl (w w' : World) : Prop := Chg Hole.q Hole.r w w'
def ldOk (w0 : World) (ρ : Operand -> Value) (o : Oper) : Prop := match o.op with
 | .load _ x => ∃ ad : Addr, ρ x = .pointer (some ad) /\ (ad.block < Hole.q \/ Hole.r <= ad.block) /\ ∃ cs T fr, w0.heap[ad.block]? = some (.cells cs T fr)
 | _ => True
def ldsL (w0 : World) : List Oper -> (Operand -> Value) -> Prop
 | [], _ => True
 | o :: r, ρ => ldOk w0 ρ o /\ ldsL w0 r ρ
theorem ldsL_all {w0 : World} {ρ : Operand -> Value} : ∀ {l : List Oper}, ldsL w0 l ρ -> ∀ o ∈ l, ldOk w0 ρ o
 | [], _, o, ho => by cases ho
 | _ :: _, h, o, ho => by
  rcases List.mem_cons.1 ho with rfl | ho
  ·exact h.1
  ·exact ldsL_all h.2 o ho
end
def isLd (o : Oper) : Bool := match o.op with
 | .load .. => true
 | _ => false
def shapedR (o : Oper) : Bool := shaped o || isLd o
theorem shapedR_no {o : Oper} (h : shapedR o = false) : shaped o = false /\ isLd o = false := by
 unfold shapedR at h
 simpa using h
def ldFirst : List (Nat × Nat) -> Bool
 | [] => true
 | p :: c => if p.2 < 2 then ldFirst c else c.all (fun p => p.2 != 1)
theorem ldFirst_app : ∀ {c d : List (Nat × Nat)}, ldFirst (c ++ d) = true -> ldFirst c = true
 | [], _, _ => rfl
 | p :: c, d, h => by
  rw [List.cons_append] at h
  unfold ldFirst at h ⊢
  split
  ·rename_i hp
   rw [if_pos hp] at h
   exact ldFirst_app h
  ·rename_i hp
   rw [if_neg hp, List.all_append, Bool.and_eq_true] at h
   exact h.1
theorem ldFirst_rest : ∀ {c d : List (Nat × Nat)} {k : Nat}, segEnd k c = true -> 2 <= k -> ldFirst (c ++ d) = true -> d.all (fun p => p.2 != 1) = true
 | [], _, _, h, _, _ => by cases h
 | [p], d, k, h, hk, hl => by
  have e : p.2 = k := by simpa [segEnd] using h
  unfold ldFirst at hl
  rw [List.singleton_append] at hl
  simp only at hl
  rw [if_neg (by omega)] at hl
  exact hl
 | p :: q :: c, d, k, h, hk, hl => by
  unfold segEnd at h
  rw [Bool.and_eq_true, decide_eq_true_eq] at h
  rw [List.cons_append] at hl
  unfold ldFirst at hl
  rw [if_pos h.1] at hl
  exact ldFirst_rest (c := q :: c) h.2 hk hl
theorem ld_head {c d : List (Nat × Nat)} {w w0 : World} (h : (c ++ d).all (fun p => p.2 != 1) = true \/ (w = w0 /\ ldFirst (c ++ d) = true)) : c.all (fun p => p.2 != 1) = true \/ (w = w0 /\ ldFirst c = true) := by
 rcases h with h | h
 ·rw [List.all_append, Bool.and_eq_true] at h
  exact .inl h.1
 ·exact .inr ⟨h.1, ldFirst_app h.2⟩
theorem ld_rest {c d : List (Nat × Nat)} {k : Nat} {w w0 : World} (hs : segEnd k c = true) (hk : 2 <= k) (h : (c ++ d).all (fun p => p.2 != 1) = true \/ (w = w0 /\ ldFirst (c ++ d) = true)) : d.all (fun p => p.2 != 1) = true := by
 rcases h with h | h
 ·rw [List.all_append, Bool.and_eq_true] at h
  exact h.2
 ·exact ldFirst_rest hs hk h.2
def stableR (ops : Array Oper) : List Oper -> Bool
 | [] => true
 | o :: rest => (!shapedR o || (o :: rest).all (fun q => match q.dst with | some d => !(o.looksAt ops).contains d | none => true)) && stableR ops rest
theorem stable_memR {ops : Array Oper} {l : List Oper} {o : Oper} (h : stableR ops (o :: l) = true) (hs : shapedR o = true) {t : Tmp} (ht : t ∈ o.looksAt ops) : ∀ q ∈ o :: l, q.dst ≠ some t := by
 unfold stableR at h
 rw [Bool.and_eq_true, hs, Bool.not_true, Bool.false_or] at h
 intro q hq hd
 have := List.all_eq_true.1 h.1 q hq
 rw [hd] at this
 simp at this
 exact this ht
theorem stable_tailR {ops : Array Oper} {l : List Oper} {o : Oper} (h : stableR ops (o :: l) = true) : stableR ops l = true := by
 unfold stableR at h
 rw [Bool.and_eq_true] at h
 exact h.2
theorem stable_appR {ops : Array Oper} : ∀ (l1 l2 : List Oper), stableR ops (l1 ++ l2) = true -> stableR ops l2 = true
 | [], _, h => h
 | _ :: l1, l2, h => stable_appR l1 l2 (stable_tailR h)
theorem add_block {a : Addr} {i : Nat} : (a.add i).block = a.block := by unfold Addr.add; split <;> rfl
section
variable [Hole] {P : Program} {α β : Type} {w : World}
theorem ldOk_no {w0 : World} {ρ : Operand -> Value} {o : Oper} (h : isLd o = false) : ldOk w0 ρ o := by
 unfold ldOk
 unfold isLd at h
 split
 ·rename_i he
  rw [he] at h
  cases h
 ·trivial
theorem looks_ld {ops : Array Oper} {w0 : World} {o : Oper} {a a' : Act} (h : ∀ t ∈ o.looksAt ops, a'.tmps.getD t undef = a.tmps.getD t undef) (hl : ldOk w0 a'.eval o) : ldOk w0 a.eval o := by
 have hop : ∀ x ∈ o.op.operands, a'.eval x = a.eval x := fun x hx => by
  cases x with
  | tmp t =>
   refine h t (List.mem_append.2 (.inl (List.mem_filterMap.2 ⟨.tmp t, ?_, rfl⟩)))
   simpa using hx
  | _ => rfl
 unfold ldOk at hl ⊢
 split
 ·rename_i t x he
  rw [he] at hl
  dsimp only at hl
  rw [hop x (by rw [he]; simp [Op.operands])] at hl
  exact hl
 ·trivial
def PersAt (P : Program) (w : World) (m : Sem α) : Prop := ∀ v w1, m.run P w = .ok v w1 -> w1 = w /\ ∀ w', Rl w w' -> m.run P w' = .ok v w'
theorem PersAt.free {m : Sem α} (h : Free P m) : PersAt P w m := fun v w1 hr => ⟨(h w v w1 hr).1, fun w' _ => (h w v w1 hr).2 w'⟩
theorem PersAt.bind {m : Sem α} {f : α -> Sem β} (hm : PersAt P w m) (hf : ∀ a, PersAt P w (f a)) : PersAt P w (m >>= f) := fun v w1 hr => by
 rw [Sem.run_bind] at hr
 cases hx : m.run P w with
 | halt h wx => rw [hx] at hr; simp at hr
 | ok x wx =>
  rw [hx, Result.andThen_ok] at hr
  obtain ⟨rfl, h1⟩ := hm x wx hx
  obtain ⟨rfl, h2⟩ := hf x v w1 hr
  exact ⟨rfl, fun w' hw => by rw [Sem.run_bind, h1 w' hw, Result.andThen_ok]; exact h2 w' hw⟩
theorem PersAt.load {a : Addr} (hq : a.block < Hole.q \/ Hole.r <= a.block) (hc : ∃ cs T fr, w.heap[a.block]? = some (.cells cs T fr)) : PersAt P w (Go.load a) := by
 intro v w1 hr
 obtain ⟨cs, T, fr, hcs⟩ := hc
 have hlt : a.block < w.heap.size := by
  rcases Nat.lt_or_ge a.block w.heap.size with h | h
  ·exact h
  ·rw [Array.getElem?_eq_none h] at hcs; cases hcs
 unfold Go.load at hr ⊢
 simp only [Sem.run] at hr ⊢
 cases hc : w.cell? a with
 | some u =>
  simp only [hc, Result.ok.injEq] at hr
  obtain ⟨rfl, rfl⟩ := hr
  refine ⟨rfl, fun w' hw => ?_⟩
  have hb : w'.heap[a.block]? = w.heap[a.block]? := hw.block _ hlt (by omega)
  have : w'.cell? a = some u := by rw [<- hc]; unfold World.cell?; rw [hb]
  simp [this]
 | none =>
  exfalso
  simp only [hc] at hr
  have hf : ∃ e, w.farLoad P a (Mode.plain == Mode.atomic) = .error e := by
   unfold World.farLoad
   rw [hcs]
   exact ⟨_, rfl⟩
  obtain ⟨e, hf⟩ := hf
  simp [hf] at hr
theorem PersAt.loadCellsFrom {a : Addr} (hq : a.block < Hole.q \/ Hole.r <= a.block) (hc : ∃ cs T fr, w.heap[a.block]? = some (.cells cs T fr)) : ∀ (n i : Nat) (u : Array Value), PersAt P w (Go.loadCellsFrom a i n u)
 | 0, _, _ => PersAt.free (Free.pure _)
 | n + 1, i, _ => PersAt.bind (PersAt.load (a := a.add i) (by rw [add_block]; exact hq) (by rw [add_block]; exact hc)) fun _ => PersAt.loadCellsFrom hq hc n (i + 1) _
theorem PersAt.loadAt (t : TypeId) {a : Addr} (hq : a.block < Hole.q \/ Hole.r <= a.block) (hc : ∃ cs T fr, w.heap[a.block]? = some (.cells cs T fr)) : PersAt P w (Instr.loadAt t (.pointer (some a))) := by
 unfold Instr.loadAt
 change PersAt P w (loadVar t a)
 unfold loadVar
 refine PersAt.bind (PersAt.free (Free.isAgg t)) fun b => ?_
 split
 ·exact PersAt.bind (PersAt.free (Free.sizeOf t)) fun _ => PersAt.bind (PersAt.loadCellsFrom hq hc _ _ _) fun _ => PersAt.free (Free.pure _)
 ·exact PersAt.load hq hc
theorem op_loadR (o : Oper) (ρ : Operand -> Value) (hk : opKind P o = 1) (hl : ldOk w ρ o) : PersAt P w (execOp ρ o) /\ ValOnly P (execOp ρ o) := by
 refine ⟨?_, (op_load o ρ hk).2⟩
 obtain ⟨dst, op, type, pos, after, guard⟩ := o
 unfold opKind at hk
 unfold ldOk at hl
 unfold execOp
 cases op <;> dsimp only at hk hl ⊢ <;> try (cases hk; done)
 case load t x =>
  obtain ⟨ad, he, hq, hc⟩ := hl
  rw [he]
  exact PersAt.bind (PersAt.loadAt t hq hc) fun _ => PersAt.free (Free.pure _)
 all_goals (split at hk <;> first | (cases hk; done) | (split at hk <;> (cases hk; done)))
end
def regionOkR (P : Program) (ops : Array Oper) (segs : List (Bool × List (Nat × Nat))) : Bool :=
 P.follows .mixedOrders && Region.noSelect ops && (flat segs).length == ops.size && kindsOk P ops (flat segs) && stableR ops (segL ops (flat segs)) && ldFirst (flat segs) && segsOk segs &&
  flowOk P ops ops.size (fun j => (flat segs).any fun p => p.1 == j && decide (2 <= p.2)) (flat segs) (Array.replicate ops.size false) [] false
theorem wpList_monoR {P : Program} {ops : Array Oper} {Q R : Act -> World -> Prop} (h : ∀ a w, Q a w -> R a w) : ∀ {l : List Oper} {a : Act} {w : World}, wpList P ops (NormQ Q) l a w -> wpList P ops (NormQ R) l a w
 | [], _, _, hq => h _ _ hq
 | o :: rest, a, w, hq => by
  have hq := wpList_norm hq
  unfold wpList
  split at hq
  ·rw [if_pos (by assumption)]
   exact .inl (Oper.wp_mono (fun a w h1 => wpList_monoR h h1) (wp_noQ (wp_normQ hq)))
  ·rw [if_neg (by assumption)]
   exact wpList_monoR h hq
section
variable [Hole] {P : Program} {ops : Array Oper}
theorem Rl.refl {w : World} : Rl w w := Chg.refl
theorem Rl.trans {a b c : World} (h : Rl a b) (k : Rl b c) : Rl a c := Chg.trans h k
def clsR (m : Nat) (w : World) : World -> Prop := if m = 0 then fun _ => True else (fun w' => Rl w w')
def oblR (m : Nat) (w0 w w' : World) : Prop := if m = 3 then Rl w w' else if m = 5 then Rl w0 w' else True
def wpFlowR (P : Program) (ops : Array Oper) (Q : Act -> World -> Prop) (w0 : World) : List (Nat × Nat) -> Act -> World -> Prop
 | [], a, w => Q a w
 | (i, m) :: rest, a, w => match ops[i]? with
  | none => False
  | some o => if m < 2 then ∃ v, YieldsIf P ops (clsR m w) o v a /\ wpFlowR P ops Q w0 rest (a.put o.dst v) w
   else if Region.wanted o (yielded ops a.tmps) = true then o.wp P a w (fun a' w' => oblR m w0 w w' /\ wpFlowR P ops Q w0 rest a' w') NoQ
   else oblR m w0 w w /\ wpFlowR P ops Q w0 rest (a.put o.dst undef) w
def needNR (ops : Array Oper) (F : Nat) (L : List (Nat × Nat × World)) (j : Nat) (w' : World) : Prop := ∀ l ∈ L, waitsIn .any ops F j l.1 = false -> Rl l.2.2 w'
def InvR (w0 : World) (L : List (Nat × Nat × World)) (w : World) : Prop := ∀ l ∈ L, (l.2.1 = 2 -> l.2.2 = w0) /\ (l.2.1 ≠ 0 -> Rl l.2.2 w)
theorem act_needR {F i m : Nat} {w0 w w' : World} {L : List (Nat × Nat × World)} (hok : actOk ops F i m (bare L) = true) (hinv : InvR w0 L w) (hm : 2 <= m) (ho : oblR m w0 w w') :
  needNR ops F L i w' /\ InvR w0 (L.map fun l => (l.1, actNext m l.2.1, l.2.2)) w' := by
 have hw : ∀ (ok : Nat -> Bool), waitsB ops F i (bare L) ok = true -> ∀ l ∈ L, ok l.2.1 = true \/ waitsIn .any ops F i l.1 = true := by
  intro ok h l hl
  have := List.all_eq_true.1 h (l.1, l.2.1) (List.mem_map.2 ⟨l, hl, rfl⟩)
  simpa using this
 unfold actOk at hok
 unfold oblR at ho
 split at hok
 ·rw [if_pos rfl] at ho
  refine ⟨fun l hl hn => ?_, fun l hl => ?_⟩
  ·rcases hw _ hok l hl with h | h
   ·exact Rl.trans ((hinv l hl).2 (by simpa using h)) ho
   ·rw [hn] at h; cases h
  ·obtain ⟨q, hq, rfl⟩ := List.mem_map.1 hl
   exact ⟨(hinv q hq).1, fun h => Rl.trans ((hinv q hq).2 h) ho⟩
 ·rw [if_neg (by decide), if_pos rfl] at ho
  refine ⟨fun l hl hn => ?_, fun l hl => ?_⟩
  ·rcases hw _ hok l hl with h | h
   ·rw [(hinv l hl).1 (by simpa using h)]; exact ho
   ·rw [hn] at h; cases h
  ·obtain ⟨q, hq, rfl⟩ := List.mem_map.1 hl
   dsimp only [actNext]
   by_cases h2 : q.2.1 = 2
   ·have := (hinv q hq).1 h2
    exact ⟨fun _ => this, fun _ => by rw [this]; exact ho⟩
   ·have e : (if (q.2.1 == 2) = true then 2 else 0) = 0 := if_neg (by simpa using h2)
    rw [e]
    exact ⟨fun h => (by cases h), fun h => absurd rfl h⟩
 ·rename_i h3 h5
  refine ⟨fun l hl hn => ?_, fun l hl => ?_⟩
  ·rcases hw _ hok l hl with h | h
   ·cases h
   ·rw [hn] at h; cases h
  ·obtain ⟨q, hq, rfl⟩ := List.mem_map.1 hl
   have : actNext m q.2.1 = 0 := by
    unfold actNext
    split
    ·exact absurd rfl h3
    ·exact absurd rfl h5
    ·rfl
   dsimp only
   rw [this]
   exact ⟨fun h => (by cases h), fun h => absurd rfl h⟩
theorem act_stepR {F i m : Nat} {act : Nat -> Bool} {Q : Act -> World -> Prop} {w0 : World} {L : List (Nat × Nat × World)} {fuel : Nat} {listed : Array Bool} {a : Act} {w : World} {o : Oper} {rest : List (Nat × Nat)}
  (ho : ops[i]? = some o) (ha : act i = true) (hok : actOk ops F i m (bare L) = true) (hinv : InvR w0 L w) (hm : ¬ m < 2)
  (h : if Region.wanted o (yielded ops a.tmps) = true then o.wp P a w (fun a' w' => oblR m w0 w w' /\ wpFlowR P ops Q w0 rest a' w') NoQ else oblR m w0 w w /\ wpFlowR P ops Q w0 rest (a.put o.dst undef) w)
  (next : ∀ a' w', InvR w0 (L.map fun l => (l.1, actNext m l.2.1, l.2.2)) w' -> wpFlowR P ops Q w0 rest a' w' ->
   wpAnyN P .any ops (NormQ Q) act (needNR ops F (L.map fun l => (l.1, actNext m l.2.1, l.2.2))) fuel (listed.setIfInBounds i true) a' w') :
  wpOp P ops (NormQ Q) i (fun a' w' => (if act i = true then needNR ops F L i w' else w' = w) /\ wpAnyN P .any ops (NormQ Q) act (needNR ops F L) fuel (listed.setIfInBounds i true) a' w') a w := by
 have same : ∀ (fuel : Nat) (listed : Array Bool) (a : Act) (w : World), wpAnyN P .any ops (NormQ Q) act (needNR ops F (L.map fun l => (l.1, actNext m l.2.1, l.2.2))) fuel listed a w -> wpAnyN P .any ops (NormQ Q) act (needNR ops F L) fuel listed a w := by
  have e : needNR ops F (L.map fun l => (l.1, actNext m l.2.1, l.2.2)) = needNR ops F L := by
   funext j w'
   refine propext ⟨fun h l hl hn => h (l.1, actNext m l.2.1, l.2.2) (List.mem_map.2 ⟨l, hl, rfl⟩) hn, fun h l hl hn => ?_⟩
   obtain ⟨q, hq, rfl⟩ := List.mem_map.1 hl
   exact h q hq hn
  rw [e]
  exact fun _ _ _ _ h => h
 have step : ∀ a' w', oblR m w0 w w' /\ wpFlowR P ops Q w0 rest a' w' -> (if act i = true then needNR ops F L i w' else w' = w) /\ wpAnyN P .any ops (NormQ Q) act (needNR ops F L) fuel (listed.setIfInBounds i true) a' w' := fun a' w' h' => by
  obtain ⟨h1, h2⟩ := act_needR hok hinv (by omega) h'.1
  rw [if_pos ha]
  exact ⟨h1, same _ _ _ _ (next a' w' h2 h'.2)⟩
 unfold wpOp
 simp only [ho]
 split at h
 ·rw [if_pos (by assumption)]
  exact .inl (Oper.wp_mono step (wp_noQ h))
 ·rename_i hnw
  rw [if_neg hnw]
  have h2 := step _ _ h
  simpa using h2
theorem flow_soundR {F : Nat} {act : Nat -> Bool} {Q : Act -> World -> Prop} {w0 : World} (hs : Region.noSelect ops = true) :
  ∀ (c : List (Nat × Nat)) (listed : Array Bool) (L : List (Nat × Nat × World)) (st : Bool) (a : Act) (w : World), Closed .any ops listed -> flowOk P ops F act c listed (bare L) st = true ->
   InvR w0 L w -> (st = false -> w = w0) -> wpFlowR P ops Q w0 c a w -> wpAnyN P .any ops (NormQ Q) act (needNR ops F L) c.length listed a w
 | [], listed, L, st, a, w, _, hok, _, _, h => ⟨by simpa [flowOk] using hok, h⟩
 | (i, m) :: rest, listed, L, st, a, w, hcl, hok, hinv, hst, h => by
  unfold flowOk at hok
  unfold wpFlowR at h
  split at hok
  ·cases hok
  rename_i o ho
  rw [ho] at h
  dsimp only at h
  rw [Bool.and_eq_true] at hok
  obtain ⟨hr, hok⟩ := hok
  have hr : i ∈ Region.ready .any ops listed := by simpa using hr
  have hQ : ∀ (v : Value) (c : List PanicEntry) (a : Act) (w : World), NormQ Q (.panic c) (a.put o.dst v) w -> NormQ Q (.panic c) a w := fun _ _ _ _ h => h
  split at hok
  ·simp only [Bool.and_eq_true, Bool.not_eq_true', beq_iff_eq] at hok
   obtain ⟨⟨⟨_, hf⟩, ha⟩, hrest⟩ := hok
   rw [if_pos (by decide)] at h
   obtain ⟨v, hy, h⟩ := h
   exact wpAnyN_first (N' := needNR ops F L) (F := F) ho (Region.noSelect_spec hs) (hQ v) ha (fun _ _ h => h) _ listed a w hcl (fun _ _ _ _ _ _ _ => trivial) (Region.free_spec ho hf) hr hy trivial
    (flow_soundR hs rest _ L st _ w (hcl.set hr) hrest hinv hst h)
  ·simp only [Bool.and_eq_true, Bool.not_eq_true', beq_iff_eq] at hok
   obtain ⟨⟨⟨_, hf⟩, ha⟩, hrest⟩ := hok
   rw [if_pos (by decide)] at h
   obtain ⟨v, hy, h⟩ := h
   refine wpAnyN_first (N' := needNR ops F ((i, (if st then 1 else 2), w) :: L)) (S := fun w' => Rl w w') (F := F) ho (Region.noSelect_spec hs) (hQ v) ha (fun j w' h l hl => h l (List.mem_cons_of_mem _ hl)) _ listed a w hcl
    (fun j w' _ _ _ hw h => h _ List.mem_cons_self hw) (Region.free_spec ho hf) hr hy (Rl.refl) (flow_soundR hs rest _ _ st _ w (hcl.set hr) hrest ?_ hst h)
   intro l hl
   rcases List.mem_cons.1 hl with rfl | hl
   ·refine ⟨fun h2 => ?_, fun _ => Rl.refl⟩
    cases st with
    | true => cases h2
    | false => exact hst rfl
   ·exact hinv l hl
  ·rename_i h0 h1
   simp only [Bool.and_eq_true, beq_iff_eq] at hok
   obtain ⟨⟨⟨ha, hr1⟩, hok⟩, hrest⟩ := hok
   have hm2 : ¬ m < 2 := fun hlt => by
    match m, hlt with
    | 0, _ => exact h0 rfl
    | 1, _ => exact h1 rfl
   rw [if_neg hm2] at h
   refine ⟨fun h0 => (by rw [h0] at hr; cases hr), fun j hj => ?_⟩
   rw [hr1] at hj
   obtain rfl : j = i := by simpa using hj
   exact act_stepR ho ha hok hinv hm2 h (fun a' w' hi hf => flow_soundR hs rest _ _ true a' w' (hcl.set hr) (by rw [bare_act]; exact hrest) hi (fun h => by cases h) hf)
theorem seg_flowR {Q R : Act -> World -> Prop} {w0 ws : World} {c' : List (Nat × Nat)} {k : Nat} {G : Oper -> Prop} {D : List Oper}
    (hB : ∀ a w, R a w -> oblR k w0 ws w)
    (hG : ∀ a w, R a w -> ∃ aE, (∀ o, G o -> (!Region.wanted o (yielded ops aE.tmps) || opShape aE.eval o) = true /\ (Region.wanted o (yielded ops aE.tmps) = true -> ldOk w0 aE.eval o)) /\ agree D a aE)
    (hR : ∀ a w, R a w -> wpFlowR P ops Q w0 c' a w) :
    ∀ (s : List (Nat × Nat)) (a : Act) (w : World), kindsOk P ops s = true -> stableR ops (segL ops s ++ D) = true -> (k = 4 \/ s = [] \/ segEnd k s = true) -> (k = 4 -> segLast s = true) ->
      (∀ o ∈ segL ops s, G o) -> (k ≠ 4 -> s ≠ [] -> w = ws) -> (s.all (fun p => p.2 != 1) = true \/ (w = w0 /\ ldFirst s = true)) -> wpList P ops (NormQ R) (segL ops s) a w -> wpFlowR P ops Q w0 (s ++ c') a w
  | [], a, w, _, _, _, _, _, _, _, h => hR a w h
  | (i, m) :: s, a, w, hk, hsb, hm, hm4, hg, hw, hL, h => by
    rw [List.cons_append]
    unfold kindsOk at hk
    unfold wpFlowR
    split at hk
    · cases hk
    rename_i o ho
    rw [ho]
    dsimp only
    rw [Bool.and_eq_true] at hk
    obtain ⟨hk, hks⟩ := hk
    rw [segL_cons ho] at hsb h hg
    rw [List.cons_append] at hsb
    obtain ⟨a', w', hRa, hag⟩ := wpList_ex _ _ _ h
    obtain ⟨aE, hsh, hagE⟩ := hG a' w' hRa
    obtain ⟨hgo, hld⟩ := hsh o (hg o List.mem_cons_self)
    have hboth : (!Region.wanted o (yielded ops a.tmps) || opShape a.eval o) = true /\ (Region.wanted o (yielded ops a.tmps) = true -> ldOk w0 a.eval o) := by
     cases hshd : shapedR o with
     | false => exact ⟨by rw [shape_un (shapedR_no hshd).1, Bool.or_true], fun _ => ldOk_no (shapedR_no hshd).2⟩
     | true =>
      have hlk : ∀ t ∈ o.looksAt ops, aE.tmps.getD t undef = a.tmps.getD t undef := fun t ht => by
        have hn := stable_memR hsb hshd ht
        refine (hagE t fun q hq => hn q (List.mem_cons_of_mem _ (List.mem_append.2 (.inr hq)))).trans (hag t fun q hq => ?_)
        rcases List.mem_cons.1 hq with rfl | hq
        · exact hn _ List.mem_cons_self
        · exact hn q (List.mem_cons_of_mem _ (List.mem_append.2 (.inl hq)))
      have hsame := looks_same (ops := ops) (o := o) (a := a) (a' := aE) hlk
      rw [hsame.1, hsame.2] at hgo
      rw [hsame.1] at hld
      exact ⟨hgo, fun h => looks_ld hlk (hld h)⟩
    have hgo := hboth.1
    have hLt : s.all (fun p => p.2 != 1) = true \/ (w = w0 /\ ldFirst s = true) := by
      rcases hL with h1 | ⟨h1, h2⟩
      · rw [List.all_cons, Bool.and_eq_true] at h1
        exact .inl h1.2
      · unfold ldFirst at h2
        split at h2
        · exact .inr ⟨h1, h2⟩
        · exact .inl h2
    have hLa : ¬ m < 2 -> s.all (fun p => p.2 != 1) = true := fun hm => by
      rcases hL with h1 | ⟨_, h2⟩
      · rw [List.all_cons, Bool.and_eq_true] at h1
        exact h1.2
      · unfold ldFirst at h2
        rw [if_neg hm] at h2
        exact h2
    have hsb' := stable_tailR hsb
    have hg' : ∀ o ∈ segL ops s, G o := fun q hq => hg q (List.mem_cons_of_mem _ hq)
    have hm4' : k = 4 -> segLast s = true := fun h4 => by
      have := hm4 h4
      unfold segLast at this ⊢
      rw [List.all_cons, Bool.and_eq_true] at this
      exact this.2
    have hm' : k = 4 \/ s = [] \/ segEnd k s = true := by
      rcases hm with h4 | h4 | h4
      · exact .inl h4
      · cases h4
      · cases s with
        | nil => exact .inr (.inl rfl)
        | cons p s =>
          unfold segEnd at h4
          rw [Bool.and_eq_true] at h4
          exact .inr (.inr h4.2)
    have h := wpList_norm h
    have pure_ : ∀ (C : World -> Prop), (Region.wanted o (yielded ops a.tmps) = true -> (∀ v w1, (execOp a.eval o).run P w = .ok (.value v) w1 -> w1 = w /\ ∀ w', C w' -> (execOp a.eval o).run P w' = .ok (.value v) w') /\ ValOnly P (execOp a.eval o)) ->
        ∃ v, YieldsIf P ops C o v a /\ wpFlowR P ops Q w0 (s ++ c') (a.put o.dst v) w := by
      intro C hC
      have hw' : k ≠ 4 -> s ≠ [] -> w = ws := fun h4 _ => hw h4 (by simp)
      split at h
      · rename_i hwant
        obtain ⟨hper, hval⟩ := hC hwant
        obtain ⟨v, w1, hrun, hrest⟩ := wp_val hval h
        obtain ⟨rfl, hper2⟩ := hper v w1 hrun
        exact ⟨v, .inl ⟨hwant, hper2⟩, seg_flowR hB hG hR s _ _ hks hsb' hm' hm4' hg' hw' hLt hrest⟩
      · rename_i hwant
        exact ⟨undef, .inr ⟨by simpa using hwant, rfl⟩, seg_flowR hB hG hR s _ _ hks hsb' hm' hm4' hg' hw' hLt h⟩
    split at hk
    · simp only [beq_iff_eq] at hk
      rw [if_pos (by decide)]
      refine pure_ _ (fun hwant => ?_)
      rw [hwant] at hgo
      obtain ⟨hf, hv⟩ := op_free (P := P) o a.eval hk (by simpa using hgo)
      exact ⟨fun v w1 hrun => ⟨(hf _ _ _ hrun).1, fun w' _ => (hf _ _ _ hrun).2 w'⟩, hv⟩
    · simp only [beq_iff_eq] at hk
      rw [if_pos (by decide)]
      refine pure_ _ (fun hwant => ?_)
      have hw0 : w = w0 := by
        rcases hL with h1 | ⟨h1, _⟩
        · simp at h1
        · exact h1
      obtain ⟨hf, hv⟩ := op_loadR (P := P) (w := w) o a.eval hk (by rw [hw0]; exact hboth.2 hwant)
      exact ⟨fun v w1 hrun => ⟨(hf _ _ hrun).1, fun w' hw' => (hf _ _ hrun).2 w' hw'⟩, hv⟩
    · rename_i h0 h1
      have hm2 : ¬ m < 2 := fun hlt => by
        match m, hlt with
        | 0, _ => exact h0 rfl
        | 1, _ => exact h1 rfl
      rw [if_neg hm2]
      have last : k ≠ 4 -> s = [] /\ m = k := fun hk4 => by
        rcases hm with h4 | h4 | h4
        · exact absurd h4 hk4
        · cases h4
        · cases s with
          | nil => exact ⟨rfl, by simpa [segEnd] using h4⟩
          | cons p s => simp [segEnd, hm2] at h4
      have hob : ∀ a1 w1, wpList P ops (NormQ R) (segL ops s) a1 w1 -> oblR m w0 w w1 := fun a1 w1 h1 => by
        by_cases hk4 : k = 4
        · have h5 := hm4 hk4
          unfold segLast at h5
          rw [List.all_cons, Bool.and_eq_true] at h5
          have : m = 4 := by simpa [hm2] using h5.1
          subst this
          exact trivial
        · obtain ⟨rfl, rfl⟩ := last hk4
          rw [hw hk4 (by simp)]
          exact hB _ _ h1
      have hw' : k ≠ 4 -> s ≠ [] -> ∀ w1 : World, w1 = ws := fun hk4 hne => absurd (last hk4).1 hne
      split at h
      · rename_i hwant
        rw [if_pos hwant]
        exact Oper.wp_mono (fun a1 w1 h1 => ⟨hob a1 w1 h1, seg_flowR hB hG hR s _ _ hks hsb' hm' hm4' hg' (fun h4 hne => hw' h4 hne w1) (.inl (hLa hm2)) h1⟩) (wp_normQ h)
      · rename_i hwant
        rw [if_neg hwant]
        exact ⟨hob _ _ h, seg_flowR hB hG hR s _ _ hks hsb' hm' hm4' hg' (fun h4 hne => hw' h4 hne w) (.inl (hLa hm2)) h⟩
def oblBR (b : Bool) (w0 w w' : World) : Prop := match b with
 | true => Rl w w'
 | false => Rl w0 w'
def wpSegsR (P : Program) (ops : Array Oper) (Q : Act -> World -> Prop) (w0 : World) : List (Bool × List (Nat × Nat)) -> Act -> World -> Prop
 | [], a, w => Q a w
 | [s], a, w => wpList P ops (NormQ Q) (segL ops s.2) a w
 | s :: t :: rest, a, w => wpList P ops (NormQ fun a' w' => oblBR s.1 w0 w w' /\ wpSegsR P ops Q w0 (t :: rest) a' w') (segL ops s.2) a w
theorem segs_exR {Q : Act -> World -> Prop} {w0 : World} : ∀ (segs : List (Bool × List (Nat × Nat))) (a : Act) (w : World), wpSegsR P ops Q w0 segs a w -> ∃ aE wE, Q aE wE /\ agree (segL ops (flat segs)) a aE
 | [], a, w, h => ⟨a, w, h, fun _ _ => rfl⟩
 | [s], a, w, h => by
  obtain ⟨aE, wE, hQ, ha⟩ := wpList_ex _ _ _ h
  exact ⟨aE, wE, hQ, by simpa [flat] using ha⟩
 | s :: t :: rest, a, w, h => by
  obtain ⟨a1, w1, ⟨_, h1⟩, ha⟩ := wpList_ex _ _ _ h
  obtain ⟨aE, wE, hQ, ha2⟩ := segs_exR (t :: rest) a1 w1 h1
  refine ⟨aE, wE, hQ, ?_⟩
  rw [show flat (s :: t :: rest) = s.2 ++ flat (t :: rest) by simp [flat], segL_append]
  exact agree_trans ha ha2 (fun o ho => List.mem_append.2 (.inl ho)) (fun o ho => List.mem_append.2 (.inr ho))
theorem segsR_mono {Q R : Act -> World -> Prop} (h : ∀ a w, Q a w -> R a w) {w0 : World} : ∀ (segs : List (Bool × List (Nat × Nat))) (a : Act) (w : World), wpSegsR P ops Q w0 segs a w -> wpSegsR P ops R w0 segs a w
 | [], a, w, hq => h a w hq
 | [s], a, w, hq => wpList_monoR (fun a w hq => h a w hq) hq
 | s :: t :: rest, a, w, hq => wpList_monoR (fun a w hq => ⟨hq.1, segsR_mono h (t :: rest) a w hq.2⟩) hq
theorem segs_flowR {Q : Act -> World -> Prop} {w0 : World} {G : List Oper} :
  ∀ (segs : List (Bool × List (Nat × Nat))) (a : Act) (w : World), kindsOk P ops (flat segs) = true -> stableR ops (segL ops (flat segs)) = true -> segsOk segs = true ->
   (∀ o ∈ segL ops (flat segs), o ∈ G) -> ((flat segs).all (fun p => p.2 != 1) = true \/ (w = w0 /\ ldFirst (flat segs) = true)) -> wpSegsR P ops (fun a w => ((G.all fun o => !Region.wanted o (yielded ops a.tmps) || opShape a.eval o) = true /\ ∀ o ∈ G, ldOk w0 a.eval o) /\ Q a w) w0 segs a w -> wpFlowR P ops Q w0 (flat segs) a w
 | [], _, a, _, _, _, _, _, h => h.2
 | [s], a, w, hk, hs, hm, hc, hL, h => by
  have e : flat [s] = s.2 ++ [] := by simp [flat]
  rw [e] at hs hc ⊢
  rw [e, List.append_nil] at hk hL
  rw [segL_append] at hs
  exact seg_flowR (P := P) (Q := Q) (w0 := w0) (ws := w) (c' := []) (D := segL ops []) (R := fun a w => ((G.all fun o => !Region.wanted o (yielded ops a.tmps) || opShape a.eval o) = true /\ ∀ o ∈ G, ldOk w0 a.eval o) /\ Q a w) (k := 4) (G := fun o => o ∈ G) (fun _ _ _ => trivial)
   (fun a w hR => ⟨a, fun o ho => ⟨List.all_eq_true.1 hR.1.1 o ho, fun _ => hR.1.2 o ho⟩, fun _ _ => rfl⟩) (fun a w hR => hR.2) s.2 a w hk hs (.inl rfl) (fun _ => hm) (fun o ho => hc o (by simpa using ho)) (fun h => absurd rfl h) hL h
 | s :: t :: rest, a, w, hk, hs, hm, hc, hL, h => by
  have e : flat (s :: t :: rest) = s.2 ++ flat (t :: rest) := by simp [flat]
  rw [e] at hk hs hc hL ⊢
  unfold segsOk at hm
  rw [Bool.and_eq_true] at hm
  obtain ⟨hk1, hk2⟩ := kinds_app _ _ hk
  rw [segL_append] at hc hs
  have hs2 : stableR ops (segL ops (flat (t :: rest))) = true := stable_appR _ _ hs
  refine seg_flowR (P := P) (Q := Q) (w0 := w0) (ws := w) (c' := flat (t :: rest)) (D := segL ops (flat (t :: rest))) (R := fun a' w' => oblBR s.1 w0 w w' /\ wpSegsR P ops (fun a w => ((G.all fun o => !Region.wanted o (yielded ops a.tmps) || opShape a.eval o) = true /\ ∀ o ∈ G, ldOk w0 a.eval o) /\ Q a w) w0 (t :: rest) a' w')
   (k := if s.1 then 3 else 5) (G := fun o => o ∈ G) (fun a w' hR => ?_) (fun a w hR => ?_) (fun a w hR => segs_flowR (t :: rest) a w hk2 hs2 hm.2 (fun o ho => hc o (List.mem_append.2 (.inr ho))) (.inl (ld_rest hm.1 (by cases s.1 <;> decide) hL)) hR.2) s.2 a w hk1 hs (.inr (.inr hm.1))
   (fun h4 => ?_) (fun o ho => hc o (List.mem_append.2 (.inl ho))) (fun _ _ => rfl) (ld_head hL) h
  ·have h1 := hR.1
   unfold oblBR at h1
   cases hb : s.1 <;> rw [hb] at h1 <;> exact h1
  ·obtain ⟨aE, wE, hQ, ha⟩ := segs_exR _ _ _ hR.2
   exact ⟨aE, fun o ho => ⟨List.all_eq_true.1 hQ.1.1 o ho, fun _ => hQ.1.2 o ho⟩, ha⟩
  ·cases hb : s.1 <;> simp [hb] at h4
theorem region_flowR (segs : List (Bool × List (Nat × Nat))) {id : Nat} {l : List Oper} {Q : Exit -> Act -> World -> Prop} {a : Act} {w : World} (hok : regionOkR P l.toArray segs = true)
  (h : wpSegsR P l.toArray (fun a' w' => (shapesB l.toArray (flat segs) a' = true /\ ldsL w.drew (segL l.toArray (flat segs)) a'.eval) /\ Q .normal a' w') w.drew segs a w.drew) : (Code.region id l.toArray true).wp P Q a w := by
 generalize l.toArray = ops at *
 unfold regionOkR at hok
 simp only [Bool.and_eq_true, beq_iff_eq] at hok
 obtain ⟨⟨⟨⟨⟨⟨⟨hm, hs⟩, hlen⟩, hk⟩, hst⟩, hld⟩, hmo⟩, hf⟩ := hok
 have h := segsR_mono (fun a' w' (h : (shapesB ops (flat segs) a' = true /\ ldsL w.drew (segL ops (flat segs)) a'.eval) /\ Q .normal a' w') => (⟨⟨h.1.1, ldsL_all h.1.2⟩, h.2⟩ : ((segL ops (flat segs)).all (fun o => !Region.wanted o (yielded ops a'.tmps) || opShape a'.eval o) = true /\ ∀ o ∈ segL ops (flat segs), ldOk w.drew a'.eval o) /\ Q .normal a' w')) _ _ _ h
 have hflow := segs_flowR (P := P) (Q := fun a' w' => Q .normal a' w') (w0 := w.drew) (G := segL ops (flat segs)) segs a w.drew hk hst hmo (fun o ho => ho) (.inr ⟨rfl, hld⟩) h
 have hN := flow_soundR (P := P) hs (flat segs) (Array.replicate ops.size false) [] false a w.drew closed_none hf (fun _ h => by cases h) (fun _ => rfl) hflow
 rw [hlen] at hN
 refine Code.wp_mono (Q := NormQ fun a' w' => Q .normal a' w') (fun e a w he => ?_) (wp_region_any hm (wpAny_of_N _ _ _ _ hN))
 cases e <;> first | exact he | exact (he : False).elim
end
end Go.Proofs.YteaaepbnoiecoaaGreat
