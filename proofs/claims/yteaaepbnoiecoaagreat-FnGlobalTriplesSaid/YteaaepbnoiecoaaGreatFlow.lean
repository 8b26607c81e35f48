import Derived.OrdersHeld
import Derived.Tactics
import Derived.Below
namespace Go.Proofs.YteaaepbnoiecoaaGreat
open Go.RowKit
/-! ### Computations that look at no memory, and computations that only read it -/
section
variable {P : Program} {α β : Type}
def Free (P : Program) (m : Sem α) : Prop := ∀ w v w1, m.run P w = .ok v w1 -> w1 = w /\ ∀ w', m.run P w' = .ok v w'
def Pers (P : Program) (m : Sem α) : Prop := ∀ w v w1, m.run P w = .ok v w1 -> w1 = w /\ ∀ w', Below w.heap.size w w' -> m.run P w' = .ok v w'
theorem Free.pers {m : Sem α} (h : Free P m) : Pers P m := fun w v w1 hr => ⟨(h w v w1 hr).1, fun w' _ => (h w v w1 hr).2 w'⟩
theorem Free.pure (a : α) : Free P (Pure.pure a : Sem α) := fun w v w1 hr => by
 simp only [Sem.run_pure, Result.ok.injEq] at hr
 obtain ⟨rfl, rfl⟩ := hr
 exact ⟨rfl, fun w' => rfl⟩
theorem Free.halt (h : Halt) : Free P (Sem.halt h : Sem α) := fun w v w1 hr => by simp [Sem.run] at hr
theorem Free.stuck (s : String) : Free P (stuck s : Sem α) := Free.halt _
theorem Free.unsupported (u : Unsupported) : Free P (Go.unsupported u : Sem α) := Free.halt _
theorem Free.goPanic (u : Value) : Free P (Go.goPanic u : Sem α) := Free.halt _
theorem Free.bind {m : Sem α} {f : α -> Sem β} (hm : Free P m) (hf : ∀ a, Free P (f a)) : Free P (m >>= f) := fun w v w1 hr => by
 rw [Sem.run_bind] at hr
 cases hx : m.run P w with
 | halt h wx => rw [hx] at hr; simp at hr
 | ok x wx =>
  rw [hx, Result.andThen_ok] at hr
  obtain ⟨rfl, h1⟩ := hm w x wx hx
  obtain ⟨rfl, h2⟩ := hf x _ v w1 hr
  exact ⟨rfl, fun w' => by rw [Sem.run_bind, h1 w', Result.andThen_ok]; exact h2 w'⟩
theorem Pers.bind {m : Sem α} {f : α -> Sem β} (hm : Pers P m) (hf : ∀ a, Pers P (f a)) : Pers P (m >>= f) := fun w v w1 hr => by
 rw [Sem.run_bind] at hr
 cases hx : m.run P w with
 | halt h wx => rw [hx] at hr; simp at hr
 | ok x wx =>
  rw [hx, Result.andThen_ok] at hr
  obtain ⟨rfl, h1⟩ := hm w x wx hx
  obtain ⟨rfl, h2⟩ := hf x _ v w1 hr
  exact ⟨rfl, fun w' hw => by rw [Sem.run_bind, h1 w' hw, Result.andThen_ok]; exact h2 w' hw⟩
theorem Free.program : Free P Go.program := fun w v w1 hr => by
 simp only [Go.program, Sem.run, Result.ok.injEq] at hr
 obtain ⟨rfl, rfl⟩ := hr
 exact ⟨rfl, fun w' => rfl⟩
def Never (P : Program) (m : Sem α) : Prop := ∀ w v w1, m.run P w ≠ .ok v w1
theorem Never.free {m : Sem α} (h : Never P m) : Free P m := fun w v w1 hr => absurd hr (h w v w1)
theorem Never.bind {m : Sem α} {f : α -> Sem β} (hf : ∀ a, Never P (f a)) : Never P (m >>= f) := fun w v w1 hr => by
 rw [Sem.run_bind] at hr
 cases hx : m.run P w with
 | halt h wx => rw [hx] at hr; simp at hr
 | ok x wx => rw [hx, Result.andThen_ok] at hr; exact hf x _ v w1 hr
theorem Never.goPanic (u : Value) : Never P (Go.goPanic u : Sem α) := fun w v w1 hr => by simp [Go.goPanic] at hr
theorem Never.runtimePanic (e : RuntimeError) : Never P (Go.runtimePanic e : Sem α) := by
 unfold Go.runtimePanic
 refine Never.bind fun p => ?_
 cases e <;> first | exact Never.goPanic _ | (refine Never.bind fun _ => ?_; first | exact Never.goPanic _ | (refine Never.bind fun _ => ?_; exact Never.goPanic _))
theorem Free.runtimePanic (e : RuntimeError) : Free P (Go.runtimePanic e : Sem α) := (Never.runtimePanic e).free
theorem Free.boundsPanic (k : IntKind) (x y : Int) (c : BoundsCode) : Free P (Go.boundsPanic k x y c : Sem α) := by
 unfold Go.boundsPanic
 dsimp only
 split <;> exact (Never.bind fun _ => Never.runtimePanic _).free
theorem Free.underlying (t : TypeId) : Free P (Go.underlying t) := by
 unfold Go.underlying
 refine Free.bind Free.program fun p => ?_
 split
 ·exact Free.pure _
 ·exact Free.stuck _
theorem Free.typeInfo (t : TypeId) : Free P (Go.typeInfo t) := by
 unfold Go.typeInfo
 refine Free.bind Free.program fun p => ?_
 split
 ·exact Free.pure _
 ·exact Free.stuck _
theorem Free.sizeOf (t : TypeId) : Free P (Go.sizeOf t) := Free.bind (Free.typeInfo t) fun _ => Free.pure _
theorem Free.zeroValue (t : TypeId) : Free P (Go.zeroValue t) := by
 unfold Go.zeroValue
 refine Free.bind (Free.typeInfo t) fun p => ?_
 split
 ·exact Free.pure _
 ·exact Free.unsupported _
theorem Free.isAgg (t : TypeId) : Free P (Go.isAgg t) := by
 unfold Go.isAgg
 refine Free.bind (Free.underlying t) fun p => ?_
 split <;> exact Free.pure _
theorem Free.asBool (v : Value) : Free P (Go.asBool v) := by
 unfold Go.asBool; split
 ·exact Free.pure _
 ·exact Free.stuck _
theorem Free.asAgg (v : Value) : Free P (Go.asAgg v) := by
 unfold Go.asAgg; split
 ·exact Free.pure _
 ·exact Free.stuck _
theorem Free.asIntOf (v : Value) : Free P (Go.asIntOf v) := by
 unfold Go.asIntOf; split
 ·exact Free.pure _
 ·exact Free.unsupported _
 ·exact Free.stuck _
theorem Free.sureAddr (v : Value) : Free P (Instr.sureAddr v) := by
 unfold Instr.sureAddr; split
 ·exact Free.pure _
 ·exact Free.stuck _
theorem Free.part (t : TypeId) (cs : Array Value) (off : Nat) : Free P (Go.part t cs off) := by
 unfold Go.part
 refine Free.bind (Free.isAgg t) fun b => ?_
 split
 ·exact Free.bind (Free.sizeOf t) fun _ => Free.pure _
 ·split
  ·exact Free.pure _
  ·exact Free.stuck _
theorem Free.listMapM {γ δ : Type} (f : γ -> Sem δ) (hf : ∀ x, Free P (f x)) : ∀ l : List γ, Free P (l.mapM f)
 | [] => Free.pure _
 | x :: l => by
  rw [List.mapM_cons]
  exact Free.bind (hf x) fun _ => Free.bind (Free.listMapM f hf l) fun _ => Free.pure _
theorem Free.map {m : Sem α} (f : α -> β) (hm : Free P m) : Free P (f <$> m) := fun w v w1 hr => by
 rw [Sem.run_map] at hr
 cases hx : m.run P w with
 | halt h wx => rw [hx] at hr; simp at hr
 | ok x wx =>
  rw [hx, Result.andThen_ok] at hr
  obtain ⟨rfl, h1⟩ := hm w x wx hx
  cases hr
  exact ⟨rfl, fun w' => by rw [Sem.run_map, h1 w', Result.andThen_ok]⟩
theorem Free.build (t : TypeId) (parts : Array (Nat × Value)) : Free P (Instr.build t parts) := by
 unfold Instr.build
 refine Free.bind (Free.zeroValue t) fun z => Free.bind (Free.underlying t) fun d => ?_
 split
 ·refine Free.bind ?_ fun _ => ?_
  ·rw [Array.mapM_eq_mapM_toList]
   exact Free.map _ (Free.listMapM _ (fun f => Free.bind (Free.sizeOf _) fun _ => Free.pure _) _)
  ·split
   ·exact Free.pure _
   ·exact Free.stuck _
 ·refine Free.bind (Free.sizeOf _) fun _ => ?_
  split
  ·exact Free.pure _
  ·exact Free.stuck _
 ·exact Free.stuck _
theorem Free.field (t : TypeId) (x : Value) (k : Nat) : Free P (Instr.field t x k) := by
 unfold Instr.field
 refine Free.bind (Free.underlying t) fun d => ?_
 split
 ·split
  ·exact Free.bind (Free.asAgg _) fun _ => Free.part _ _ _
  ·exact Free.stuck _
 ·exact Free.stuck _
theorem Free.extract (x : Value) (k : Nat) : Free P (Instr.extract x k) := by
 unfold Instr.extract
 split
 ·split
  ·exact Free.pure _
  ·exact Free.stuck _
 ·exact Free.stuck _
theorem Free.indexAt (t : TypeId) (x i : Value) : Free P (Instr.indexAt t x i) := by
 unfold Instr.indexAt
 refine Free.bind (Free.asIntOf i) fun ki => ?_
 refine Free.bind (Free.underlying t) fun d => ?_
 dsimp only
 split
 ·refine Free.bind (Free.sureAddr _) fun _ => Free.bind (Free.pure _) fun q => Free.bind (Free.underlying t) fun _ => ?_
  split
  ·split
   ·exact Free.bind (Free.sizeOf _) fun _ => Free.pure _
   ·repeat' (first | exact Free.unsupported _ | exact Free.boundsPanic _ _ _ _ | split)
  ·exact Free.boundsPanic _ _ _ _
 ·refine Free.bind (Free.pure _) fun q => Free.bind (Free.underlying t) fun _ => ?_
  split
  ·split
   ·exact Free.bind (Free.sizeOf _) fun _ => Free.pure _
   ·repeat' (first | exact Free.unsupported _ | exact Free.boundsPanic _ _ _ _ | split)
  ·exact Free.boundsPanic _ _ _ _
 ·refine Free.bind (Free.stuck _) fun q => Free.bind (Free.underlying t) fun _ => ?_
  split
  ·split
   ·exact Free.bind (Free.sizeOf _) fun _ => Free.pure _
   ·repeat' (first | exact Free.unsupported _ | exact Free.boundsPanic _ _ _ _ | split)
  ·exact Free.boundsPanic _ _ _ _
theorem Free.intArith (op : BinOp) (k : IntKind) (x y : Int) : Free P (Op.intArith op k x y) := by
 unfold Op.intArith; split <;> first | exact Free.pure _ | exact Free.stuck _
theorem Free.intDiv (op : BinOp) (k : IntKind) (x y : Int) : Free P (Op.intDiv op k x y) := by
 unfold Op.intDiv; split
 ·exact Free.runtimePanic _
 ·split <;> first | exact Free.pure _ | exact Free.stuck _
theorem Free.intBits (op : BinOp) (k : IntKind) (x y : Int) : Free P (Op.intBits op k x y) := by
 unfold Op.intBits; dsimp only; split <;> first | exact Free.pure _ | exact Free.stuck _
theorem Free.intCmp (op : BinOp) (x y : Int) : Free P (Op.intCmp op x y) := by
 unfold Op.intCmp; split <;> first | exact Free.pure _ | exact Free.stuck _
theorem Free.shift (op : BinOp) (k : IntKind) (x : Int) (yk : IntKind) (y : Int) : Free P (Op.shift op k x yk y) := by
 unfold Op.shift; split
 ·exact Free.runtimePanic _
 ·dsimp only; split <;> first | exact Free.pure _ | exact Free.stuck _
theorem Free.binOp (op : BinOp) (t : TypeId) (k k' : IntKind) (x y : Int) : Free P (Go.binOp op t (.int k x) (.int k' y)) := by
 have h2 : Free P (if k ≠ k' then Go.stuck "BinOp: operands of different kinds" else
  match op with
  | .add | .sub | .mul => Op.intArith op k x y
  | .quo | .rem => Op.intDiv op k x y
  | .and | .or | .xor | .andNot => Op.intBits op k x y
  | _ => Op.intCmp op x y) := by
  split
  ·exact Free.stuck _
  ·split <;> first | exact Free.intArith _ _ _ _ | exact Free.intDiv _ _ _ _ | exact Free.intBits _ _ _ _ | exact Free.intCmp _ _ _
 cases op <;> first | exact h2 | exact Free.shift .shl k x k' y | exact Free.shift .shr k x k' y
theorem Free.eqGuard (op : BinOp) (t : TypeId) (u v : Operand) (k k' : IntKind) (x y : Int) : Free P (Go.eqGuard op t u v (.int k x) (.int k' y)) := by
 unfold Go.eqGuard
 dsimp only
 split <;> exact Free.pure _
theorem Free.unary (op : UnOp) (x : Value) : Free P (Op.unary op x) := by
 unfold Op.unary
 split <;> first | exact Free.intArith _ _ _ _ | exact Free.intBits _ _ _ _ | exact Free.pure _ | exact Free.stuck _ | exact Free.unsupported _
theorem Free.convert (s d : TypeId) (k0 : IntKind) (hd : P.underlying d = some (.int k0)) (k : IntKind) (x : Int) : Free P (Go.convert s d (.int k x)) := by
 intro w v w1 hr
 unfold Go.convert at hr
 rw [Sem.run_bind] at hr
 cases hx : (Go.underlying s).run P w with
 | halt h wx => rw [hx] at hr; simp at hr
 | ok ds wx =>
  obtain ⟨rfl, hs⟩ := Free.underlying s w ds wx hx
  have hdr : ∀ w, (Go.underlying d).run P w = .ok (.int k0) w := fun w => by simp [run_underlying hd]
  rw [hx, Result.andThen_ok, Sem.run_bind, hdr, Result.andThen_ok] at hr
  dsimp only at hr
  have hf : Free P (Conv.intToInt k0 x) := Free.pure _
  obtain ⟨rfl, h2⟩ := hf _ v w1 hr
  refine ⟨rfl, fun w' => ?_⟩
  unfold Go.convert
  rw [Sem.run_bind, hs w', Result.andThen_ok, Sem.run_bind, hdr, Result.andThen_ok]
  exact h2 w'
theorem Free.sliceBound (x : Value) (y : Nat) (c : BoundsCode) : Free P (Instr.sliceBound x y c) := by
 unfold Instr.sliceBound
 refine Free.bind (Free.asIntOf x) fun ki => ?_
 dsimp only
 split
 ·exact Free.pure _
 ·exact Free.boundsPanic _ _ _ _
theorem Free.sliceBounds (b : Bool) (len cap : Nat) (lo hi mx : Option Value) : Free P (Instr.sliceBounds b len cap lo hi mx) := by
 unfold Instr.sliceBounds
 cases mx <;> cases hi <;> cases lo <;> dsimp only <;>
  repeat (first | exact Free.pure _ | exact Free.stuck _ | exact Free.sliceBound _ _ _ | refine Free.bind ?_ fun _ => ?_)
theorem Free.asAddr (v : Value) : Free P (Go.asAddr v) := by
 unfold Go.asAddr; split
 ·exact Free.pure _
 ·exact Free.runtimePanic _
 ·exact Free.stuck _
theorem Free.slice (t : TypeId) (x : Value) (lo hi mx : Option Value) : Free P (Instr.slice t x lo hi mx) := by
 unfold Instr.slice
 refine Free.bind (Free.underlying t) fun d => ?_
 split
 ·dsimp only
  split
  ·exact Free.bind (Free.stuck _) fun _ => Free.bind (Free.sliceBounds _ _ _ _ _ _) fun _ => Free.pure _
  ·exact Free.bind (Free.sliceBounds _ _ _ _ _ _) fun _ => Free.pure _
 ·exact Free.bind (Free.sliceBounds _ _ _ _ _ _) fun _ => Free.bind (Free.sizeOf _) fun _ => Free.pure _
 ·refine Free.bind (Free.asAddr _) fun _ => Free.bind (Free.underlying _) fun _ => ?_
  split
  ·exact Free.bind (Free.sliceBounds _ _ _ _ _ _) fun _ => Free.bind (Free.sizeOf _) fun _ => Free.pure _
  ·exact Free.stuck _
 ·exact Free.stuck _
theorem Free.sliceAt (t : TypeId) (x : Value) (lo hi mx : Option Value) : Free P (Instr.sliceAt t x lo hi mx) := by
 unfold Instr.sliceAt
 refine Free.bind (Free.underlying t) fun d => ?_
 split
 ·exact Free.bind (Free.sureAddr _) fun _ => Free.bind (Free.sliceBounds _ _ _ _ _ _) fun _ => Free.bind (Free.sizeOf _) fun _ => Free.pure _
 ·exact Free.slice _ _ _ _ _
def Lens (P : Program) (t : TypeId) : Bool := match P.underlying t with | some (.slice _) => true | some .string => true | _ => false
theorem Free.len (t : TypeId) (ty : TypeId) (x : Value) (h : Lens P t = true) : Free P (Builtin.len_ #[t] ty #[x]) := by
 unfold Lens at h
 intro w v w1 hr
 have go : ∀ d, (d = TypeDesc.string \/ ∃ e, d = .slice e) -> P.underlying t = some d -> w1 = w /\ ∀ w', (Builtin.len_ #[t] ty #[x]).run P w' = .ok v w' := by
  intro d hd hu
  have hrun : ∀ w, (Go.underlying t).run P w = .ok d w := fun w => by simp [run_underlying hu]
  have e : ∀ w, (Builtin.len_ #[t] ty #[x]).run P w = ((match d, x with
   | .string, .string s => Pure.pure (goInt s.size)
   | .slice _, .slice _ n _ => Pure.pure (goInt n)
   | _, _ => Go.stuck "len: string, array, pointer to array, slice, map or channel expected" : Sem Value)).run P w := by
   intro w
   unfold Builtin.len_
   simp only [List.getElem?_toArray, List.getElem?_cons_zero]
   rw [Sem.run_bind, hrun, Result.andThen_ok]
   rcases hd with rfl | ⟨e, rfl⟩ <;> cases x <;> rfl
  rw [e] at hr
  rcases hd with rfl | ⟨el, rfl⟩ <;> cases x <;> simp only [Go.stuck, Sem.run, Sem.run_pure, Result.ok.injEq, reduceCtorEq] at hr <;>
   (obtain ⟨rfl, rfl⟩ := hr; exact ⟨rfl, fun w' => by rw [e]; rfl⟩)
 split at h
 ·exact go _ (.inr ⟨_, rfl⟩) (by assumption)
 ·exact go _ (.inl rfl) (by assumption)
 ·cases h
def FieldRoom (P : Program) (t : TypeId) (k : Nat) : Bool := match P.underlying t with
 | some (.struct fs) => match fs[k]? with | some f => (match P.info? f.type with | some i => i.size != 0 | none => false) | none => false
 | _ => false
theorem Free.fieldAt (t : TypeId) (x : Value) (k : Nat) (h : FieldRoom P t k = true) : Free P (Instr.fieldAt t x k) := by
 unfold FieldRoom at h
 split at h
 case h_2 => cases h
 rename_i fs hu
 split at h
 case h_2 => cases h
 rename_i fl hf
 split at h
 case h_2 => cases h
 rename_i i hi
 intro w v w1 hr
 have hrun : ∀ w, (Go.underlying t).run P w = .ok (.struct fs) w := fun w => by simp [run_underlying hu]
 have hsz : ∀ w, (Go.sizeOf fl.type).run P w = .ok i.size w := fun w => by simp [Go.sizeOf, Go.typeInfo, Go.program, Sem.run, hi]
 have e : ∀ w, (Instr.fieldAt t x k).run P w = (do let a <- Instr.sureAddr x; Pure.pure (Value.pointer (some (a.add fl.offset))) : Sem Value).run P w := by
  intro w
  unfold Instr.fieldAt fieldPlace
  rw [Sem.run_bind, hrun, Result.andThen_ok]
  simp only [hf]
  rw [Sem.run_bind, Sem.run_bind]
  cases hs : (Instr.sureAddr x).run P w with
  | halt h wx => simp
  | ok a wx =>
   simp only [Result.andThen_ok]
   rw [Sem.run_bind, Sem.run_bind, hsz, Result.andThen_ok, if_neg (by simpa using h)]
   rfl
 have hfree : Free P (do let a <- Instr.sureAddr x; Pure.pure (Value.pointer (some (a.add fl.offset))) : Sem Value) := Free.bind (Free.sureAddr x) fun _ => Free.pure _
 rw [e] at hr
 obtain ⟨rfl, h2⟩ := hfree w v w1 hr
 exact ⟨rfl, fun w' => by rw [e]; exact h2 w'⟩
/-! ### A load -/
theorem Pers.load (a : Addr) : Pers P (Go.load a) := by
 intro w v w1 hr
 unfold Go.load at hr ⊢
 simp only [Sem.run] at hr ⊢
 cases hc : w.cell? a with
 | some u =>
  simp only [hc, Result.ok.injEq] at hr
  obtain ⟨rfl, rfl⟩ := hr
  refine ⟨rfl, fun w' hw => ?_⟩
  have : w'.cell? a = some u := (hw.cell (World.block_lt_of_cell? w a hc)).trans hc
  simp [this]
 | none =>
  simp only [hc] at hr
  cases hf : w.farLoad P a (Mode.plain == Mode.atomic) with
  | error e => simp [hf] at hr
  | ok r =>
   simp only [hf, Result.ok.injEq] at hr
   obtain ⟨rfl, rfl⟩ := hr
   refine ⟨rfl, fun w' hw => ?_⟩
   unfold World.farLoad at hf
   split at hf
   case h_2 => cases hf
   rename_i at_ u hv
   have hlt : a.block < w.heap.size := by
    rcases Nat.lt_or_ge a.block w.heap.size with h | h
    ·exact h
    ·rw [Array.getElem?_eq_none h] at hv; cases hv
   have hv' : w'.heap[a.block]? = some (.view at_ u) := (hw.block _ hlt).trans hv
   have hc' : w'.cell? a = none := by simp [World.cell?, hv']
   have hview : w'.viewLoad P at_ u a (Mode.plain == Mode.atomic) = w.viewLoad P at_ u a (Mode.plain == Mode.atomic) := by
    rcases Nat.lt_or_ge at_.block w.heap.size with h | h
    ·unfold World.viewLoad World.seen
     rw [hw.block _ h]
    ·exfalso
     have hn : w.heap[at_.block]? = none := Array.getElem?_eq_none h
     unfold World.viewLoad World.seen at hf
     rw [hn] at hf
     split at hf
     ·rename_i rr hrr
      revert hrr
      dsimp only [bind, Except.bind, pure, Except.pure, throw, throwThe, MonadExceptOf.throw]
      repeat' (first | (intro hrr; cases hrr; done) | split)
     ·cases hf
   have : w'.farLoad P a (Mode.plain == Mode.atomic) = w.farLoad P a (Mode.plain == Mode.atomic) := by
    unfold World.farLoad
    rw [hv', hv]
    simp only [hview]
   rw [hc']
   simp only [this]
   have hf2 : w.farLoad P a (Mode.plain == Mode.atomic) = .ok r := by
    unfold World.farLoad
    rw [hv]
    exact hf
   rw [hf2]
theorem Pers.loadCellsFrom (a : Addr) : ∀ (n i : Nat) (u : Array Value), Pers P (Go.loadCellsFrom a i n u)
 | 0, _, _ => (Free.pure _).pers
 | n + 1, i, _ => Pers.bind (Pers.load _) fun _ => Pers.loadCellsFrom a n (i + 1) _
theorem Pers.loadAt (t : TypeId) (x : Value) : Pers P (Instr.loadAt t x) := by
 unfold Instr.loadAt
 refine Pers.bind (Free.sureAddr x).pers fun a => ?_
 unfold loadVar
 refine Pers.bind (Free.isAgg t).pers fun b => ?_
 split
 ·exact Pers.bind (Free.sizeOf t).pers fun _ => Pers.bind (Pers.loadCellsFrom _ _ _ _) fun _ => (Free.pure _).pers
 ·exact Pers.load _
end
/-! ### Operations -/
section
variable {P : Program}
def isInt : Value -> Bool | .int _ _ => true | _ => false
def lenKind (P : Program) (c : Call) : Bool := match c.callee with
 | .builtin .len => (match c.args.toList, c.argTypes.toList with | [_], [t] => Lens P t | _, _ => false)
 | _ => false
def maxKind (c : Call) : Bool := match c.callee with
 | .builtin .max => false && (match c.args.toList with | [_, _] => true | _ => false)
 | _ => false
def isPtr : Value -> Bool | .pointer (some _) => true | _ => false
def opKind (P : Program) (o : Oper) : Nat := match o.op with
 | .move _ | .assign _ | .pick .. | .field .. | .indexAddr .. | .extract .. | .build .. | .makeFunc .. | .unOp .. | .slice .. | .binOp .. | .nilCheck .. => 0
 | .fieldAddr t _ k => if FieldRoom P t k then 0 else 3
 | .convert _ d _ => match P.underlying d with | some (.int _) => 0 | _ => 3
 | .call c => if lenKind P c || maxKind c then 0 else 3
 | .load .. => 1
 | _ => 3
def opShape (ρ : Operand -> Value) (o : Oper) : Bool := match o.op with
 | .binOp _ _ x y _ => isInt (ρ x) && isInt (ρ y)
 | .convert _ _ x => isInt (ρ x)
 | .nilCheck x => isPtr (ρ x)
 | .call c => if maxKind c then c.args.toList.all (fun x => isInt (ρ x)) else true
 | _ => true
theorem Free.val {s : Sem Value} (h : Free P s) : Free P (do let x <- s; Pure.pure (Next.value x) : Sem Next) := Free.bind h fun _ => Free.pure _
theorem Pers.val {s : Sem Value} (h : Pers P s) : Pers P (do let x <- s; Pure.pure (Next.value x) : Sem Next) := Pers.bind h fun _ => (Free.pure _).pers
def ValOnly (P : Program) (m : Sem Next) : Prop := ∀ w n w1, m.run P w = .ok n w1 -> ∃ v, n = .value v
theorem ValOnly.val (s : Sem Value) : ValOnly P (do let x <- s; Pure.pure (Next.value x) : Sem Next) := fun w n w1 hr => by
 rw [Sem.run_bind] at hr
 cases hx : s.run P w with
 | halt h wx => rw [hx] at hr; simp at hr
 | ok x wx =>
  rw [hx, Result.andThen_ok] at hr
  cases hr
  exact ⟨_, rfl⟩
theorem isInt_spec {v : Value} (h : isInt v = true) : ∃ k n, v = .int k n := by
 cases v <;> simp [isInt] at h
 exact ⟨_, _, rfl⟩
theorem op_free (o : Oper) (ρ : Operand -> Value) (hk : opKind P o = 0) (hs : opShape ρ o = true) : Free P (execOp ρ o) /\ ValOnly P (execOp ρ o) := by
 obtain ⟨dst, op, type, pos, after, guard⟩ := o
 unfold opKind at hk
 unfold opShape at hs
 unfold execOp
 cases op <;> dsimp only at hk hs ⊢ <;> try (cases hk; done)
 case move x => exact ⟨Free.pure _, ValOnly.val (Pure.pure (ρ x))⟩
 case assign x => exact ⟨Free.pure _, ValOnly.val (Pure.pure (ρ x))⟩
 case pick c a b =>
  refine ⟨Free.bind (Free.asBool _) fun _ => Free.pure _, fun w n w1 hr => ?_⟩
  rw [Sem.run_bind] at hr
  cases hx : (Go.asBool (ρ c)).run P w with
  | halt h wx => rw [hx] at hr; simp at hr
  | ok x wx => rw [hx, Result.andThen_ok] at hr; cases hr; exact ⟨_, rfl⟩
 case field t x k => exact ⟨(Free.field _ _ _).val, ValOnly.val _⟩
 case indexAddr t x k => exact ⟨(Free.indexAt _ _ _).val, ValOnly.val _⟩
 case extract x k => exact ⟨(Free.extract _ _).val, ValOnly.val _⟩
 case build t ps => exact ⟨(Free.build _ _).val, ValOnly.val _⟩
 case makeFunc a b c => exact ⟨(Free.pure _ : Free P (Instr.makeFunc _ _ _)).val, ValOnly.val _⟩
 case unOp u t x => exact ⟨(Free.unary _ _).val, ValOnly.val _⟩
 case slice t x lo hi mx => exact ⟨(Free.sliceAt _ _ _ _ _).val, ValOnly.val _⟩
 case binOp u t x y t2 =>
  rw [Bool.and_eq_true] at hs
  obtain ⟨k, n, hx⟩ := isInt_spec hs.1
  obtain ⟨k', n', hy⟩ := isInt_spec hs.2
  rw [hx, hy]
  exact ⟨(Free.bind (Free.eqGuard _ _ _ _ _ _ _ _) fun _ => Free.binOp _ _ _ _ _ _).val, ValOnly.val _⟩
 case nilCheck x =>
  have : ∃ a, ρ x = .pointer (some a) := by
   revert hs
   cases ρ x <;> simp [isPtr]
   rename_i q
   cases q <;> simp
  obtain ⟨ad, he⟩ := this
  rw [he]
  exact ⟨Free.pure _, ValOnly.val (Pure.pure (Value.pointer (some ad)))⟩
 case fieldAddr t x k =>
  split at hk
  ·rename_i h; exact ⟨(Free.fieldAt _ _ _ h).val, ValOnly.val _⟩
  ·cases hk
 case convert a d x =>
  split at hk
  ·rename_i k0 h
   obtain ⟨k, n, hx⟩ := isInt_spec hs
   rw [hx]
   exact ⟨(Free.convert _ _ _ h _ _).val, ValOnly.val _⟩
  ·cases hk
 case call c =>
  split at hk
  case isFalse => cases hk
  rename_i hl
  rw [Bool.or_eq_true] at hl
  rcases hl with hl | hm
  ·skip
   obtain ⟨callee, args, argTypes⟩ := c
   unfold lenKind at hl
   split at hl
   case h_2 => cases hl
   rename_i hc
   dsimp only at hc hl
   subst hc
   split at hl
   case h_2 => cases hl
   rename_i arg t ha ht
   obtain rfl : args = #[arg] := by rw [<- Array.toArray_toList (xs := args), ha]
   obtain rfl : argTypes = #[t] := by rw [<- Array.toArray_toList (xs := argTypes), ht]
   have e : (do let d <- resolve ρ { callee := .builtin .len, args := #[arg], argTypes := #[t] } type; invoke d.target d.args : Sem Next) = (do let x <- Builtin.len_ #[t] type #[ρ arg]; Pure.pure (Next.value x)) := by
    simp only [resolve, List.map_toArray, List.map_cons, List.map_nil]; rfl
   rw [e]
   exact ⟨(Free.len _ _ _ hl).val, ValOnly.val _⟩
  ·rw [if_pos hm] at hs
   obtain ⟨callee, args, argTypes⟩ := c
   unfold maxKind at hm
   split at hm
   case h_2 => cases hm
   rename_i hc
   dsimp only at hc hm hs
   subst hc
   rw [Bool.and_eq_true] at hm
   obtain ⟨_, hm⟩ := hm
   split at hm
   case h_2 => cases hm
   rename_i x y ha
   obtain rfl : args = #[x, y] := by rw [<- Array.toArray_toList (xs := args), ha]
   simp only [List.all_cons, List.all_nil, Bool.and_true, Bool.and_eq_true] at hs
   obtain ⟨k, n, hx⟩ := isInt_spec hs.1
   obtain ⟨k2, n2, hy⟩ := isInt_spec hs.2
   have e : (do let d <- resolve ρ { callee := .builtin .max, args := #[x, y], argTypes := argTypes } type; invoke d.target d.args : Sem Next) = (do let z <- (Pure.pure (Value.int k (if n2 > n then n2 else n)) : Sem Value); Pure.pure (Next.value z)) := by
    simp only [resolve, List.map_toArray, List.map_cons, List.map_nil, hx, hy]; rfl
   rw [e]
   exact ⟨(Free.pure _).val, ValOnly.val _⟩
theorem op_load (o : Oper) (ρ : Operand -> Value) (hk : opKind P o = 1) : Pers P (execOp ρ o) /\ ValOnly P (execOp ρ o) := by
 obtain ⟨dst, op, type, pos, after, guard⟩ := o
 unfold opKind at hk
 unfold execOp
 cases op <;> dsimp only at hk ⊢ <;> try (cases hk; done)
 case load t x => exact ⟨(Pers.loadAt _ _).val, ValOnly.val _⟩
 all_goals (split at hk <;> first | (cases hk; done) | (split at hk <;> (cases hk; done)))
end
/-! ### Any order: a stable fact on the world is asked only behind operations that may come before its reader -/
section
variable {P : Program} {ops : Array Oper} {Q : Exit -> Act -> World -> Prop} {md : Region.Mode}
def waitsIn (md : Region.Mode) (ops : Array Oper) : Nat -> Nat -> Nat -> Bool
 | 0, _, _ => false
 | f + 1, j, i => match ops[j]? with
  | none => false
  | some o => o.after.any fun e => Region.binds md e && (e.on == i || waitsIn md ops f e.on i)
def Closed (md : Region.Mode) (ops : Array Oper) (listed : Array Bool) : Prop :=
 ∀ j oj, ops[j]? = some oj -> listed.getD j false = true -> ∀ e ∈ oj.after, Region.binds md e = true -> listed.getD e.on false = true
theorem getD_ff {listed : Array Bool} {i : Nat} (h : listed.getD i true = false) : listed.getD i false = false := by
 rcases Nat.lt_or_ge i listed.size with h' | h'
 ·simp [h'] at h ⊢; exact h
 ·simp [Array.getElem?_eq_none h'] at h
theorem Closed.set {listed : Array Bool} {i : Nat} (h : Closed md ops listed) (hi : i ∈ Region.ready md ops listed) : Closed md ops (listed.setIfInBounds i true) := by
 obtain ⟨_, oi, hoi, hall⟩ := mem_ready.1 hi
 intro j oj hj hl e he hb
 by_cases hij : i = j
 ·subst hij
  have : oj = oi := Option.some.inj (hj.symm.trans hoi)
  subst this
  exact getD_set_true (hall e he hb)
 ·rw [getD_set_ne false hij] at hl
  exact getD_set_true (h j oj hj hl e he hb)
theorem Closed.waits {listed : Array Bool} (h : Closed md ops listed) : ∀ (f j i : Nat), listed.getD j false = true -> waitsIn md ops f j i = true -> listed.getD i false = true
 | 0, _, _, _, hw => by cases hw
 | f + 1, j, i, hl, hw => by
  unfold waitsIn at hw
  split at hw
  ·cases hw
  ·rename_i o ho
   obtain ⟨e, he, hb⟩ := Array.any_eq_true'.1 hw
   simp only [Bool.and_eq_true, Bool.or_eq_true, beq_iff_eq] at hb
   have h1 := h j o ho hl e he hb.1
   rcases hb.2 with h2 | h2
   ·rw [<- h2]; exact h1
   ·exact h.waits f e.on i h1 h2
theorem ready_waits {listed : Array Bool} (h : Closed md ops listed) {f j i : Nat} (hj : j ∈ Region.ready md ops listed) (hi : listed.getD i true = false) : waitsIn md ops f j i = false := by
 cases hw : waitsIn md ops f j i with
 | false => rfl
 | true =>
  exfalso
  obtain ⟨_, o, ho, hall⟩ := mem_ready.1 hj
  cases f with
  | zero => cases hw
  | succ f =>
   unfold waitsIn at hw
   rw [ho] at hw
   obtain ⟨e, he, hb⟩ := Array.any_eq_true'.1 hw
   simp only [Bool.and_eq_true, Bool.or_eq_true, beq_iff_eq] at hb
   have h1 := hall e he hb.1
   have h0 := getD_ff hi
   rcases hb.2 with h2 | h2
   ·rw [h2, h0] at h1; cases h1
   ·have := h.waits f e.on i h1 h2
    rw [h0] at this; cases this
def wpAnyN (P : Program) (md : Region.Mode) (ops : Array Oper) (Q : Exit -> Act -> World -> Prop) (act : Nat -> Bool) (N : Nat -> World -> Prop) : Nat -> Array Bool -> Act -> World -> Prop
 | 0, listed, a, w => Region.ready md ops listed = [] /\ Q .normal a w
 | fuel + 1, listed, a, w =>
  (Region.ready md ops listed = [] -> Q .normal a w) /\
  ∀ i ∈ Region.ready md ops listed, wpOp P ops Q i (fun a' w' => (if act i = true then N i w' else w' = w) /\ wpAnyN P md ops Q act N fuel (listed.setIfInBounds i true) a' w') a w
theorem wpAny_of_N {act : Nat -> Bool} {N : Nat -> World -> Prop} : ∀ (fuel : Nat) (listed : Array Bool) (a : Act) (w : World), wpAnyN P md ops Q act N fuel listed a w -> wpAny P md ops Q fuel listed a w
 | 0, _, _, _, h => h
 | fuel + 1, _, _, _, h => ⟨h.1, fun i hi => wpOp_mono (fun a' w' h' => wpAny_of_N fuel _ a' w' h'.2) (h.2 i hi)⟩
theorem wpAnyN_first {act : Nat -> Bool} {N N' : Nat -> World -> Prop} {S : World -> Prop} {F : Nat} {i : Nat} {oi : Oper} {v : Value} (hi : ops[i]? = some oi)
  (hsel : ∀ (j : Nat) (o : Oper) cs b, ops[j]? = some o -> o.op ≠ .select cs b)
  (hQ : ∀ c a w, Q (.panic c) (a.put oi.dst v) w -> Q (.panic c) a w) (hact : act i = false) (hN : ∀ j w', N' j w' -> N j w') :
  ∀ (fuel : Nat) (listed : Array Bool) (a : Act) (w : World), Closed md ops listed ->
   (∀ j w', act j = true -> j < ops.size -> listed.getD j true = false -> waitsIn md ops F j i = false -> N' j w' -> S w') ->
   (∀ j oj, ops[j]? = some oj -> j ≠ i -> listed.getD j true = false -> (∀ e ∈ oj.after, Region.binds md e = true -> e.on ≠ i) -> oi.apart ops oj = true) ->
   i ∈ Region.ready md ops listed -> YieldsIf P ops S oi v a -> S w ->
   wpAnyN P md ops Q act N' fuel (listed.setIfInBounds i true) (a.put oi.dst v) w -> wpAnyN P md ops Q act N (fuel + 1) listed a w := by
 intro fuel
 induction fuel with
 | zero =>
  intro listed a w _ _ _ hr hy hS H
  refine ⟨fun h => (by rw [h] at hr; cases hr), fun j hj => ?_⟩
  by_cases hji : j = i
  ·subst hji; exact hy.wpOp hi hS ⟨by rw [if_neg (by rw [hact]; decide)], H⟩
  ·have := ready_mono hj hji
   rw [H.1] at this
   cases this
 | succ fuel ih =>
  intro listed a w hcl hNS hfree hr hy hS H
  have back : ∀ (fuel : Nat) (listed : Array Bool) (a : Act) (w : World), wpAnyN P md ops Q act N' fuel listed a w -> wpAnyN P md ops Q act N fuel listed a w := by
   intro fuel
   induction fuel with
   | zero => intro _ _ _ h; exact h
   | succ fuel ih2 =>
    intro listed a w h
    refine ⟨h.1, fun k hk => wpOp_mono (fun a' w' h' => ⟨?_, ih2 _ _ _ h'.2⟩) (h.2 k hk)⟩
    have h1 := h'.1
    split
    ·rw [if_pos (by assumption)] at h1; exact hN _ _ h1
    ·rw [if_neg (by assumption)] at h1; exact h1
  refine ⟨fun h => (by rw [h] at hr; cases hr), fun j hj => ?_⟩
  by_cases hji : j = i
  ·subst hji; exact hy.wpOp hi hS ⟨by rw [if_neg (by rw [hact]; decide)], back _ _ _ _ H⟩
  ·have h1 := H.2 j (ready_mono hj hji)
   obtain ⟨hjun, oj, hoj, hall⟩ := mem_ready.1 hj
   have hiun := (mem_ready.1 hr).1
   have hnot : ∀ e ∈ oj.after, Region.binds md e = true -> e.on ≠ i := fun e he hb heq => by
    have h1 := hall e he hb
    rw [heq, getD_ff hiun] at h1
    cases h1
   have h2 := wpOp_putIf hoj (hfree j oj hoj hji hjun hnot) (fun cs b => hsel i oi cs b hi) (fun cs b => hsel j oj cs b hoj) hQ hy h1
   have hun' : ∀ k, (listed.setIfInBounds j true).getD k true = false -> listed.getD k true = false := fun k hk => by
    by_cases hjk : j = k
    ·subst hjk; exact hjun
    ·rw [getD_set_ne true hjk] at hk; exact hk
   refine wpOp_mono (fun a' w' h3 => ?_) h2
   obtain ⟨hy', hw', H'⟩ := h3
   have hS' : S w' := by
    split at hw'
    ·rename_i ha
     exact hNS j w' ha (Array.getElem?_eq_some_iff.1 hoj).1 hjun (ready_waits hcl hj hiun) hw'
    ·subst hw'; exact hS
   refine ⟨?_, ih (listed.setIfInBounds j true) a' w' (hcl.set hj) (fun k w'' ha hlt hk => hNS k w'' ha hlt (hun' k hk)) (fun k ok hk hki hun hno => hfree k ok hk hki (hun' k hun) hno)
    (ready_mono hr (Ne.symm hji)) hy' hS' ?_⟩
   ·split
    ·rw [if_pos (by assumption)] at hw'; exact hN _ _ hw'
    ·rw [if_neg (by assumption)] at hw'; exact hw'
   ·rw [Array.setIfInBounds_comm _ _ hji]
    exact H'
end
/-! ### One canonical order. Modes: 0: looks at no memory; 1: a load; 3: a call or the like that leaves the memory that it found as it was; 5: one that leaves the region's first memory as it was; 4: any other, which waits for all loads -/
section
variable {P : Program} {ops : Array Oper}
def waitsB (ops : Array Oper) (F : Nat) (i : Nat) (L : List (Nat × Nat)) (ok : Nat -> Bool) : Bool := L.all fun l => ok l.2 || waitsIn .any ops F i l.1
def actOk (ops : Array Oper) (F : Nat) (i m : Nat) (L : List (Nat × Nat)) : Bool := match m with
 | 3 => waitsB ops F i L (fun s => s != 0)
 | 5 => waitsB ops F i L (fun s => s == 2)
 | _ => waitsB ops F i L (fun _ => false)
def actNext (m : Nat) (s : Nat) : Nat := match m with
 | 3 => s
 | 5 => if s == 2 then 2 else 0
 | _ => 0
def flowOk (P : Program) (ops : Array Oper) (F : Nat) (act : Nat -> Bool) : List (Nat × Nat) -> Array Bool -> List (Nat × Nat) -> Bool -> Bool
 | [], listed, _, _ => (Region.ready .any ops listed).isEmpty
 | (i, m) :: rest, listed, L, st => match ops[i]? with
  | none => false
  | some o => (Region.ready .any ops listed).contains i && (match m with
   | 0 => opKind P o == 0 && Region.free .any ops listed i && !act i && flowOk P ops F act rest (listed.setIfInBounds i true) L st
   | 1 => opKind P o == 1 && Region.free .any ops listed i && !act i && flowOk P ops F act rest (listed.setIfInBounds i true) ((i, if st then 1 else 2) :: L) st
   | _ => act i && Region.ready .any ops listed == [i] && actOk ops F i m L && flowOk P ops F act rest (listed.setIfInBounds i true) (L.map fun l => (l.1, actNext m l.2)) true)
def cls (m : Nat) (w : World) : World -> Prop := if m = 0 then fun _ => True else (fun w' => Below w.heap.size w w')
def obl (m : Nat) (w0 w w' : World) : Prop := if m = 3 then Below w.heap.size w w' else if m = 5 then Below w0.heap.size w0 w' else True
def NoQ : Exit -> Act -> World -> Prop := fun _ _ _ => False
def wpFlow (P : Program) (ops : Array Oper) (Q : Act -> World -> Prop) (w0 : World) : List (Nat × Nat) -> Act -> World -> Prop
 | [], a, w => Q a w
 | (i, m) :: rest, a, w => match ops[i]? with
  | none => False
  | some o => if m < 2 then ∃ v, YieldsIf P ops (cls m w) o v a /\ wpFlow P ops Q w0 rest (a.put o.dst v) w
   else if Region.wanted o (yielded ops a.tmps) = true then o.wp P a w (fun a' w' => obl m w0 w w' /\ wpFlow P ops Q w0 rest a' w') NoQ
   else obl m w0 w w /\ wpFlow P ops Q w0 rest (a.put o.dst undef) w
def NormQ (Q : Act -> World -> Prop) : Exit -> Act -> World -> Prop
 | .normal, a, w => Q a w
 | _, _, _ => False
@[simp] theorem NormQ_normal (Q : Act -> World -> Prop) (a : Act) (w : World) : NormQ Q .normal a w = Q a w := rfl
theorem norm_K {l : List Oper} {R : Act -> World -> Prop} {a : Act} {w : World} (h : ∀ K : Act -> World -> Prop, (∀ a w, R a w -> K a w) -> wpList P ops (NormQ K) l a w) : wpList P ops (NormQ R) l a w := h R fun _ _ h => h
def needN (ops : Array Oper) (F : Nat) (L : List (Nat × Nat × World)) (j : Nat) (w' : World) : Prop := ∀ l ∈ L, waitsIn .any ops F j l.1 = false -> Below l.2.2.heap.size l.2.2 w'
def Inv (w0 : World) (L : List (Nat × Nat × World)) (w : World) : Prop := ∀ l ∈ L, (l.2.1 = 2 -> l.2.2 = w0) /\ (l.2.1 ≠ 0 -> Below l.2.2.heap.size l.2.2 w)
def bare (L : List (Nat × Nat × World)) : List (Nat × Nat) := L.map fun l => (l.1, l.2.1)
theorem wp_noQ {o : Oper} {a : Act} {w : World} {K : Act -> World -> Prop} {Q : Exit -> Act -> World -> Prop} (h : o.wp P a w K NoQ) : o.wp P a w K Q := by
 unfold Oper.wp at *
 generalize (execOp a.eval o).run P w = r at *
 cases r with
 | ok n w' =>
  cases n <;> simp only [Oper.upon] at h ⊢ <;> first | exact h | skip
  refine Calls.mono h fun e w'' he => ?_
  cases e with
  | returned u => exact he
  | panicked c => exact (he : False).elim
  | outgrown =>
   obtain ⟨_, _, he⟩ := he
   exact (he : False).elim
 | halt x w' =>
  cases x <;> simp only [Oper.upon] at h ⊢
  exact (h : False).elim
theorem bwC {a b c : World} (h : Below a.heap.size a b) (k : Below b.heap.size b c) : Below a.heap.size a c := h.trans (k.mono h.size)
theorem act_need {F i m : Nat} {w0 w w' : World} {L : List (Nat × Nat × World)} (hok : actOk ops F i m (bare L) = true) (hinv : Inv w0 L w) (hm : 2 <= m) (ho : obl m w0 w w') :
  needN ops F L i w' /\ Inv w0 (L.map fun l => (l.1, actNext m l.2.1, l.2.2)) w' := by
 have hw : ∀ (ok : Nat -> Bool), waitsB ops F i (bare L) ok = true -> ∀ l ∈ L, ok l.2.1 = true \/ waitsIn .any ops F i l.1 = true := by
  intro ok h l hl
  have := List.all_eq_true.1 h (l.1, l.2.1) (List.mem_map.2 ⟨l, hl, rfl⟩)
  simpa using this
 unfold actOk at hok
 unfold obl at ho
 split at hok
 ·rw [if_pos rfl] at ho
  refine ⟨fun l hl hn => ?_, fun l hl => ?_⟩
  ·rcases hw _ hok l hl with h | h
   ·exact bwC ((hinv l hl).2 (by simpa using h)) ho
   ·rw [hn] at h; cases h
  ·obtain ⟨q, hq, rfl⟩ := List.mem_map.1 hl
   exact ⟨(hinv q hq).1, fun h => bwC ((hinv q hq).2 h) ho⟩
 ·rw [if_neg (by decide), if_pos rfl] at ho
  refine ⟨fun l hl hn => ?_, fun l hl => ?_⟩
  ·rcases hw _ hok l hl with h | h
   ·rw [(hinv l hl).1 (by simpa using h)]; exact ho
   ·rw [hn] at h; cases h
  ·obtain ⟨q, hq, rfl⟩ := List.mem_map.1 hl
   dsimp only [actNext]
   by_cases h2 : q.2.1 = 2
   ·have := (hinv q hq).1 h2
    exact ⟨fun _ => this, fun _ => by rw [this]; exact ho⟩
   ·have e : (if (q.2.1 == 2) = true then 2 else 0) = 0 := if_neg (by simpa using h2)
    rw [e]
    exact ⟨fun h => (by cases h), fun h => absurd rfl h⟩
 ·rename_i h3 h5
  refine ⟨fun l hl hn => ?_, fun l hl => ?_⟩
  ·rcases hw _ hok l hl with h | h
   ·cases h
   ·rw [hn] at h; cases h
  ·obtain ⟨q, hq, rfl⟩ := List.mem_map.1 hl
   have : actNext m q.2.1 = 0 := by
    unfold actNext
    split
    ·exact absurd rfl h3
    ·exact absurd rfl h5
    ·rfl
   dsimp only
   rw [this]
   exact ⟨fun h => (by cases h), fun h => absurd rfl h⟩
theorem act_step {F i m : Nat} {act : Nat -> Bool} {Q : Act -> World -> Prop} {w0 : World} {L : List (Nat × Nat × World)} {fuel : Nat} {listed : Array Bool} {a : Act} {w : World} {o : Oper} {rest : List (Nat × Nat)}
  (ho : ops[i]? = some o) (ha : act i = true) (hok : actOk ops F i m (bare L) = true) (hinv : Inv w0 L w) (hm : ¬ m < 2)
  (h : if Region.wanted o (yielded ops a.tmps) = true then o.wp P a w (fun a' w' => obl m w0 w w' /\ wpFlow P ops Q w0 rest a' w') NoQ else obl m w0 w w /\ wpFlow P ops Q w0 rest (a.put o.dst undef) w)
  (next : ∀ a' w', Inv w0 (L.map fun l => (l.1, actNext m l.2.1, l.2.2)) w' -> wpFlow P ops Q w0 rest a' w' ->
   wpAnyN P .any ops (NormQ Q) act (needN ops F (L.map fun l => (l.1, actNext m l.2.1, l.2.2))) fuel (listed.setIfInBounds i true) a' w') :
  wpOp P ops (NormQ Q) i (fun a' w' => (if act i = true then needN ops F L i w' else w' = w) /\ wpAnyN P .any ops (NormQ Q) act (needN ops F L) fuel (listed.setIfInBounds i true) a' w') a w := by
 have same : ∀ (fuel : Nat) (listed : Array Bool) (a : Act) (w : World), wpAnyN P .any ops (NormQ Q) act (needN ops F (L.map fun l => (l.1, actNext m l.2.1, l.2.2))) fuel listed a w -> wpAnyN P .any ops (NormQ Q) act (needN ops F L) fuel listed a w := by
  have e : needN ops F (L.map fun l => (l.1, actNext m l.2.1, l.2.2)) = needN ops F L := by
   funext j w'
   refine propext ⟨fun h l hl hn => h (l.1, actNext m l.2.1, l.2.2) (List.mem_map.2 ⟨l, hl, rfl⟩) hn, fun h l hl hn => ?_⟩
   obtain ⟨q, hq, rfl⟩ := List.mem_map.1 hl
   exact h q hq hn
  rw [e]
  exact fun _ _ _ _ h => h
 have step : ∀ a' w', obl m w0 w w' /\ wpFlow P ops Q w0 rest a' w' -> (if act i = true then needN ops F L i w' else w' = w) /\ wpAnyN P .any ops (NormQ Q) act (needN ops F L) fuel (listed.setIfInBounds i true) a' w' := fun a' w' h' => by
  obtain ⟨h1, h2⟩ := act_need hok hinv (by omega) h'.1
  rw [if_pos ha]
  exact ⟨h1, same _ _ _ _ (next a' w' h2 h'.2)⟩
 unfold wpOp
 simp only [ho]
 split at h
 ·rw [if_pos (by assumption)]
  exact .inl (Oper.wp_mono step (wp_noQ h))
 ·rename_i hnw
  rw [if_neg hnw]
  have h2 := step _ _ h
  simpa using h2
theorem bare_act (m : Nat) (L : List (Nat × Nat × World)) : bare (L.map fun l => (l.1, actNext m l.2.1, l.2.2)) = (bare L).map fun l => (l.1, actNext m l.2) := by
 unfold bare; simp
theorem flow_sound {F : Nat} {act : Nat -> Bool} {Q : Act -> World -> Prop} {w0 : World} (hs : Region.noSelect ops = true) :
  ∀ (c : List (Nat × Nat)) (listed : Array Bool) (L : List (Nat × Nat × World)) (st : Bool) (a : Act) (w : World), Closed .any ops listed -> flowOk P ops F act c listed (bare L) st = true ->
   Inv w0 L w -> (st = false -> w = w0) -> wpFlow P ops Q w0 c a w -> wpAnyN P .any ops (NormQ Q) act (needN ops F L) c.length listed a w
 | [], listed, L, st, a, w, _, hok, _, _, h => ⟨by simpa [flowOk] using hok, h⟩
 | (i, m) :: rest, listed, L, st, a, w, hcl, hok, hinv, hst, h => by
  unfold flowOk at hok
  unfold wpFlow at h
  split at hok
  ·cases hok
  rename_i o ho
  rw [ho] at h
  dsimp only at h
  rw [Bool.and_eq_true] at hok
  obtain ⟨hr, hok⟩ := hok
  have hr : i ∈ Region.ready .any ops listed := by simpa using hr
  have hQ : ∀ (v : Value) (c : List PanicEntry) (a : Act) (w : World), NormQ Q (.panic c) (a.put o.dst v) w -> NormQ Q (.panic c) a w := fun _ _ _ _ h => h
  split at hok
  ·simp only [Bool.and_eq_true, Bool.not_eq_true', beq_iff_eq] at hok
   obtain ⟨⟨⟨_, hf⟩, ha⟩, hrest⟩ := hok
   rw [if_pos (by decide)] at h
   obtain ⟨v, hy, h⟩ := h
   exact wpAnyN_first (N' := needN ops F L) (F := F) ho (Region.noSelect_spec hs) (hQ v) ha (fun _ _ h => h) _ listed a w hcl (fun _ _ _ _ _ _ _ => trivial) (Region.free_spec ho hf) hr hy trivial
    (flow_sound hs rest _ L st _ w (hcl.set hr) hrest hinv hst h)
  ·simp only [Bool.and_eq_true, Bool.not_eq_true', beq_iff_eq] at hok
   obtain ⟨⟨⟨_, hf⟩, ha⟩, hrest⟩ := hok
   rw [if_pos (by decide)] at h
   obtain ⟨v, hy, h⟩ := h
   refine wpAnyN_first (N' := needN ops F ((i, (if st then 1 else 2), w) :: L)) (S := fun w' => Below w.heap.size w w') (F := F) ho (Region.noSelect_spec hs) (hQ v) ha (fun j w' h l hl => h l (List.mem_cons_of_mem _ hl)) _ listed a w hcl
    (fun j w' _ _ _ hw h => h _ List.mem_cons_self hw) (Region.free_spec ho hf) hr hy (Below.refl _ _) (flow_sound hs rest _ _ st _ w (hcl.set hr) hrest ?_ hst h)
   intro l hl
   rcases List.mem_cons.1 hl with rfl | hl
   ·refine ⟨fun h2 => ?_, fun _ => Below.refl _ _⟩
    cases st with
    | true => cases h2
    | false => exact hst rfl
   ·exact hinv l hl
  ·rename_i h0 h1
   simp only [Bool.and_eq_true, beq_iff_eq] at hok
   obtain ⟨⟨⟨ha, hr1⟩, hok⟩, hrest⟩ := hok
   have hm2 : ¬ m < 2 := fun hlt => by
    match m, hlt with
    | 0, _ => exact h0 rfl
    | 1, _ => exact h1 rfl
   rw [if_neg hm2] at h
   refine ⟨fun h0 => (by rw [h0] at hr; cases hr), fun j hj => ?_⟩
   rw [hr1] at hj
   obtain rfl : j = i := by simpa using hj
   exact act_step ho ha hok hinv hm2 h (fun a' w' hi hf => flow_sound hs rest _ _ true a' w' (hcl.set hr) (by rw [bare_act]; exact hrest) hi (fun h => by cases h) hf)
end
/-! ### The canonical order walked as a plain list -/
section
variable {P : Program} {ops : Array Oper}
def nthO : List Oper -> Nat -> Option Oper
 | [], _ => none
 | o :: _, 0 => some o
 | _ :: l, i + 1 => nthO l i
theorem nthO_eq : ∀ (l : List Oper) (i : Nat), nthO l i = l[i]?
 | [], _ => rfl
 | _ :: _, 0 => rfl
 | _ :: l, i + 1 => by rw [nthO, nthO_eq l i]; rfl
def segL (ops : Array Oper) : List (Nat × Nat) -> List Oper
 | [] => []
 | p :: c => match nthO ops.toList p.1 with
  | some o => o :: segL ops c
  | none => segL ops c
def shaped (o : Oper) : Bool := match o.op with
 | .binOp .. | .convert .. | .nilCheck .. => true
 | .call c => maxKind c
 | _ => false
theorem shape_un {o : Oper} (h : shaped o = false) (ρ : Operand -> Value) : opShape ρ o = true := by
 obtain ⟨dst, op, type, pos, after, guard⟩ := o
 unfold shaped at h
 unfold opShape
 cases op <;> dsimp only at h ⊢ <;> first | rfl | (cases h; done) | (rw [h]; rfl)
def stableB (ops : Array Oper) : List Oper -> Bool
 | [] => true
 | o :: rest => (!shaped o || (o :: rest).all (fun q => match q.dst with | some d => !(o.looksAt ops).contains d | none => true)) && stableB ops rest
def kindsOk (P : Program) (ops : Array Oper) : List (Nat × Nat) -> Bool
 | [] => true
 | (i, m) :: rest => match ops[i]? with
  | none => false
  | some o => (match m with
   | 0 => opKind P o == 0
   | 1 => opKind P o == 1
   | _ => true) && kindsOk P ops rest
def segEnd (k : Nat) : List (Nat × Nat) -> Bool
 | [] => false
 | [(_, m)] => m == k
 | (_, m) :: rest => decide (m < 2) && segEnd k rest
def segLast (s : List (Nat × Nat)) : Bool := s.all fun p => decide (p.2 < 2) || p.2 == 4
def agree (l : List Oper) (a a' : Act) : Prop := ∀ t, (∀ o ∈ l, o.dst ≠ some t) -> a'.tmps.getD t undef = a.tmps.getD t undef
theorem agree_put {o : Oper} {a a1 : Act} {v : Value} {l : List Oper} (h : a1.tmps = (a.put o.dst v).tmps) (ho : o ∈ l) : agree l a a1 := fun t ht => by
 rw [h]
 have := ht o ho
 cases hd : o.dst with
 | none => rfl
 | some d =>
  have hne : d ≠ t := fun e => this (by rw [hd, e])
  simp only [Act.put, Array.getD_eq_getD_getElem?, Array.getElem?_setIfInBounds_ne hne]
theorem wp_ex {o : Oper} {a : Act} {w : World} {K R : Act -> World -> Prop} (h : o.wp P a w K (NormQ R)) : ∃ a1 w1 v, K a1 w1 /\ a1.tmps = (a.put o.dst v).tmps := by
 unfold Oper.wp at h
 generalize (execOp a.eval o).run P w = r at h
 cases r with
 | ok n w' =>
  cases n <;> simp only [Oper.upon] at h <;> first | exact ⟨_, _, _, h, rfl⟩ | skip
  ·obtain ⟨e, w1, fr, hR, _⟩ := h []
   cases e with
   | returned u => exact ⟨_, _, _, hR, rfl⟩
   | panicked c => exact (hR : False).elim
   | outgrown => obtain ⟨_, _, he⟩ := hR; exact (he : False).elim
  ·exact ⟨_, _, undef, h, by cases o.dst <;> rfl⟩
  ·obtain ⟨v, w1, hR, _⟩ := h default []
   exact ⟨_, _, _, hR, rfl⟩
 | halt x w' =>
  cases x <;> simp only [Oper.upon, NormQ] at h
theorem wpList_norm {Q : Act -> World -> Prop} {o : Oper} {rest : List Oper} {a : Act} {w : World} (h : wpList P ops (NormQ Q) (o :: rest) a w) :
  if Region.wanted o (yielded ops a.tmps) = true then o.wp P a w (wpList P ops (NormQ Q) rest) (NormQ Q) else wpList P ops (NormQ Q) rest (a.put o.dst undef) w := by
 unfold wpList at h
 split at h
 ·rw [if_pos (by assumption)]
  rcases h with h | ⟨_, _, _, h⟩
  ·exact h
  ·exact (h : False).elim
 ·rw [if_neg (by assumption)]; exact h
theorem wpList_ex {R : Act -> World -> Prop} : ∀ (l : List Oper) (a : Act) (w : World), wpList P ops (NormQ R) l a w -> ∃ a' w', R a' w' /\ agree l a a'
 | [], a, w, h => ⟨a, w, h, fun _ _ => rfl⟩
 | o :: rest, a, w, h => by
  have h := wpList_norm h
  split at h
  ·obtain ⟨a1, w1, v, h1, ht⟩ := wp_ex h
   obtain ⟨a', w', hR, ha⟩ := wpList_ex rest a1 w1 h1
   exact ⟨a', w', hR, fun t hn => (ha t fun q hq => hn q (List.mem_cons_of_mem _ hq)).trans (agree_put (l := o :: rest) ht List.mem_cons_self t hn)⟩
  ·obtain ⟨a', w', hR, ha⟩ := wpList_ex rest _ w h
   exact ⟨a', w', hR, fun t hn => (ha t fun q hq => hn q (List.mem_cons_of_mem _ hq)).trans (agree_put (l := o :: rest) rfl List.mem_cons_self t hn)⟩
theorem wp_normQ {o : Oper} {a : Act} {w : World} {K R : Act -> World -> Prop} (h : o.wp P a w K (NormQ R)) : o.wp P a w K NoQ := by
 unfold Oper.wp at *
 generalize (execOp a.eval o).run P w = r at *
 cases r with
 | ok n w' =>
  cases n <;> simp only [Oper.upon] at h ⊢ <;> exact h
 | halt x w' =>
  cases x <;> simp only [Oper.upon] at h ⊢
  exact (h : False).elim
theorem wp_val {o : Oper} {a : Act} {w : World} {K R : Act -> World -> Prop} (hv : ValOnly P (execOp a.eval o)) (h : o.wp P a w K (NormQ R)) :
  ∃ v w1, (execOp a.eval o).run P w = .ok (.value v) w1 /\ K (a.put o.dst v) w1 := by
 unfold Oper.wp at h
 cases hr : (execOp a.eval o).run P w with
 | ok n w' =>
  obtain ⟨v, rfl⟩ := hv w n w' hr
  rw [hr] at h
  exact ⟨v, w', rfl, h⟩
 | halt x w' =>
  rw [hr] at h
  cases x <;> simp only [Oper.upon] at h
  exact (h : False).elim
theorem yielded_eq (ops : Array Oper) (tmps : Array Value) (j : Nat) : yielded ops tmps j = match (ops[j]?).bind (·.dst) with
  | none => none
  | some t => match tmps.getD t undef with | .bool b => some b | _ => none := by
 unfold yielded
 cases (ops[j]?).bind (·.dst) with
 | none => rfl
 | some t =>
  simp only [Option.bind_some, Array.getD_eq_getD_getElem?]
  cases tmps[t]? with
  | none => rfl
  | some v => cases v <;> rfl
theorem looks_same {o : Oper} {a a' : Act} (h : ∀ t ∈ o.looksAt ops, a'.tmps.getD t undef = a.tmps.getD t undef) :
  Region.wanted o (yielded ops a'.tmps) = Region.wanted o (yielded ops a.tmps) /\ opShape a'.eval o = opShape a.eval o := by
 have hop : ∀ x ∈ o.op.operands, a'.eval x = a.eval x := fun x hx => by
  cases x with
  | tmp t =>
   refine h t (List.mem_append.2 (.inl (List.mem_filterMap.2 ⟨.tmp t, ?_, rfl⟩)))
   simpa using hx
  | _ => rfl
 refine ⟨?_, ?_⟩
 ·unfold Region.wanted
  cases hg : o.guard with
  | none => rfl
  | some g =>
   obtain ⟨j, want⟩ := g
   have : yielded ops a'.tmps j = yielded ops a.tmps j := by
    rw [yielded_eq, yielded_eq]
    cases hd : (ops[j]?).bind (·.dst) with
    | none => rfl
    | some t =>
     have := h t (List.mem_append.2 (.inr (by rw [hg]; simp [hd])))
     simp only [this]
   simp only [this]
 ·unfold opShape
  split
  ·rename_i x y t2 he
   rw [hop x (by rw [he]; simp [Op.operands]), hop y (by rw [he]; simp [Op.operands])]
  ·rename_i x he
   rw [hop x (by rw [he]; simp [Op.operands])]
  ·rename_i x he
   rw [hop x (by rw [he]; simp [Op.operands])]
  ·rename_i c he
   have hall : c.args.toList.all (fun x => isInt (a'.eval x)) = c.args.toList.all (fun x => isInt (a.eval x)) := by
    have hin : ∀ x ∈ c.args.toList, a'.eval x = a.eval x := fun x hx => hop x (by
     rw [he]
     simp only [Op.operands, Call.operands]
     have hx2 : x ∈ c.args := by simpa using hx
     split <;> simp [hx2])
    generalize c.args.toList = l at hin ⊢
    induction l with
    | nil => rfl
    | cons x r ih => rw [List.all_cons, List.all_cons, hin x (List.mem_cons_self ..), ih fun y hy => hin y (List.mem_cons_of_mem _ hy)]
   rw [hall]
  ·rfl
theorem stable_mem {l : List Oper} {o : Oper} (h : stableB ops (o :: l) = true) (hs : shaped o = true) {t : Tmp} (ht : t ∈ o.looksAt ops) : ∀ q ∈ o :: l, q.dst ≠ some t := by
 unfold stableB at h
 rw [Bool.and_eq_true, hs, Bool.not_true, Bool.false_or] at h
 intro q hq hd
 have := List.all_eq_true.1 h.1 q hq
 rw [hd] at this
 simp at this
 exact this ht
theorem stable_tail {l : List Oper} {o : Oper} (h : stableB ops (o :: l) = true) : stableB ops l = true := by
 unfold stableB at h
 rw [Bool.and_eq_true] at h
 exact h.2
theorem segL_cons {i m : Nat} {c : List (Nat × Nat)} {o : Oper} (h : ops[i]? = some o) : segL ops ((i, m) :: c) = o :: segL ops c := by
 have : nthO ops.toList i = some o := by rw [nthO_eq, Array.getElem?_toList, h]
 simp only [segL, this]
theorem segL_append (c d : List (Nat × Nat)) : segL ops (c ++ d) = segL ops c ++ segL ops d := by
 induction c with
 | nil => rfl
 | cons p c ih =>
  rw [List.cons_append]
  cases h : nthO ops.toList p.1 with
  | none => simp only [segL, h, ih]
  | some o => simp only [segL, h, ih, List.cons_append]
theorem seg_flow {Q R : Act -> World -> Prop} {w0 ws : World} {c' : List (Nat × Nat)} {k : Nat} {G : Oper -> Prop} {D : List Oper}
    (hB : ∀ a w, R a w -> obl k w0 ws w)
    (hG : ∀ a w, R a w -> ∃ aE, (∀ o, G o -> (!Region.wanted o (yielded ops aE.tmps) || opShape aE.eval o) = true) /\ agree D a aE)
    (hR : ∀ a w, R a w -> wpFlow P ops Q w0 c' a w) :
    ∀ (s : List (Nat × Nat)) (a : Act) (w : World), kindsOk P ops s = true -> stableB ops (segL ops s ++ D) = true -> (k = 4 \/ s = [] \/ segEnd k s = true) -> (k = 4 -> segLast s = true) ->
      (∀ o ∈ segL ops s, G o) -> (k ≠ 4 -> s ≠ [] -> w = ws) -> wpList P ops (NormQ R) (segL ops s) a w -> wpFlow P ops Q w0 (s ++ c') a w
  | [], a, w, _, _, _, _, _, _, h => hR a w h
  | (i, m) :: s, a, w, hk, hsb, hm, hm4, hg, hw, h => by
    rw [List.cons_append]
    unfold kindsOk at hk
    unfold wpFlow
    split at hk
    · cases hk
    rename_i o ho
    rw [Bool.and_eq_true] at hk
    obtain ⟨hk, hks⟩ := hk
    rw [segL_cons ho] at hsb h hg
    rw [List.cons_append] at hsb
    obtain ⟨a', w', hRa, hag⟩ := wpList_ex _ _ _ h
    obtain ⟨aE, hsh, hagE⟩ := hG a' w' hRa
    have hgo := hsh o (hg o List.mem_cons_self)
    have hgo : (!Region.wanted o (yielded ops a.tmps) || opShape a.eval o) = true := by
     cases hshd : shaped o with
     | false => rw [shape_un hshd, Bool.or_true]
     | true =>
      have hsame := looks_same (ops := ops) (o := o) (a := a) (a' := aE) (fun t ht => by
        have hn := stable_mem hsb hshd ht
        refine (hagE t fun q hq => hn q (List.mem_cons_of_mem _ (List.mem_append.2 (.inr hq)))).trans (hag t fun q hq => ?_)
        rcases List.mem_cons.1 hq with rfl | hq
        · exact hn _ List.mem_cons_self
        · exact hn q (List.mem_cons_of_mem _ (List.mem_append.2 (.inl hq))))
      rw [hsame.1, hsame.2] at hgo
      exact hgo
    have hsb' := stable_tail hsb
    have hg' : ∀ o ∈ segL ops s, G o := fun q hq => hg q (List.mem_cons_of_mem _ hq)
    have hm4' : k = 4 -> segLast s = true := fun h4 => by
      have := hm4 h4
      unfold segLast at this ⊢
      rw [List.all_cons, Bool.and_eq_true] at this
      exact this.2
    have hm' : k = 4 \/ s = [] \/ segEnd k s = true := by
      rcases hm with h4 | h4 | h4
      · exact .inl h4
      · cases h4
      · cases s with
        | nil => exact .inr (.inl rfl)
        | cons p s =>
          unfold segEnd at h4
          rw [Bool.and_eq_true] at h4
          exact .inr (.inr h4.2)
    have h := wpList_norm h
    have pure_ : ∀ (C : World -> Prop), (Region.wanted o (yielded ops a.tmps) = true -> (∀ v w1, (execOp a.eval o).run P w = .ok (.value v) w1 -> w1 = w /\ ∀ w', C w' -> (execOp a.eval o).run P w' = .ok (.value v) w') /\ ValOnly P (execOp a.eval o)) ->
        ∃ v, YieldsIf P ops C o v a /\ wpFlow P ops Q w0 (s ++ c') (a.put o.dst v) w := by
      intro C hC
      have hw' : k ≠ 4 -> s ≠ [] -> w = ws := fun h4 _ => hw h4 (by simp)
      split at h
      · rename_i hwant
        obtain ⟨hper, hval⟩ := hC hwant
        obtain ⟨v, w1, hrun, hrest⟩ := wp_val hval h
        obtain ⟨rfl, hper2⟩ := hper v w1 hrun
        exact ⟨v, .inl ⟨hwant, hper2⟩, seg_flow hB hG hR s _ _ hks hsb' hm' hm4' hg' hw' hrest⟩
      · rename_i hwant
        exact ⟨undef, .inr ⟨by simpa using hwant, rfl⟩, seg_flow hB hG hR s _ _ hks hsb' hm' hm4' hg' hw' h⟩
    split at hk
    · simp only [beq_iff_eq] at hk
      rw [if_pos (by decide)]
      refine pure_ _ (fun hwant => ?_)
      rw [hwant] at hgo
      obtain ⟨hf, hv⟩ := op_free (P := P) o a.eval hk (by simpa using hgo)
      exact ⟨fun v w1 hrun => ⟨(hf _ _ _ hrun).1, fun w' _ => (hf _ _ _ hrun).2 w'⟩, hv⟩
    · simp only [beq_iff_eq] at hk
      rw [if_pos (by decide)]
      refine pure_ _ (fun hwant => ?_)
      obtain ⟨hf, hv⟩ := op_load (P := P) o a.eval hk
      exact ⟨fun v w1 hrun => ⟨(hf _ _ _ hrun).1, fun w' hw' => (hf _ _ _ hrun).2 w' hw'⟩, hv⟩
    · rename_i h0 h1
      have hm2 : ¬ m < 2 := fun hlt => by
        match m, hlt with
        | 0, _ => exact h0 rfl
        | 1, _ => exact h1 rfl
      rw [if_neg hm2]
      have last : k ≠ 4 -> s = [] /\ m = k := fun hk4 => by
        rcases hm with h4 | h4 | h4
        · exact absurd h4 hk4
        · cases h4
        · cases s with
          | nil => exact ⟨rfl, by simpa [segEnd] using h4⟩
          | cons p s => simp [segEnd, hm2] at h4
      have hob : ∀ a1 w1, wpList P ops (NormQ R) (segL ops s) a1 w1 -> obl m w0 w w1 := fun a1 w1 h1 => by
        by_cases hk4 : k = 4
        · have h5 := hm4 hk4
          unfold segLast at h5
          rw [List.all_cons, Bool.and_eq_true] at h5
          have : m = 4 := by simpa [hm2] using h5.1
          subst this
          exact trivial
        · obtain ⟨rfl, rfl⟩ := last hk4
          rw [hw hk4 (by simp)]
          exact hB _ _ h1
      have hw' : k ≠ 4 -> s ≠ [] -> ∀ w1 : World, w1 = ws := fun hk4 hne => absurd (last hk4).1 hne
      split at h
      · rename_i hwant
        rw [if_pos hwant]
        exact Oper.wp_mono (fun a1 w1 h1 => ⟨hob a1 w1 h1, seg_flow hB hG hR s _ _ hks hsb' hm' hm4' hg' (fun h4 hne => hw' h4 hne w1) h1⟩) (wp_normQ h)
      · rename_i hwant
        rw [if_neg hwant]
        exact ⟨hob _ _ h, seg_flow hB hG hR s _ _ hks hsb' hm' hm4' hg' (fun h4 hne => hw' h4 hne w) h⟩
def oblB (b : Bool) (w0 w w' : World) : Prop := match b with
 | true => Below w.heap.size w w'
 | false => Below w0.heap.size w0 w'
def wpSegs (P : Program) (ops : Array Oper) (Q : Act -> World -> Prop) (w0 : World) : List (Bool × List (Nat × Nat)) -> Act -> World -> Prop
 | [], a, w => Q a w
 | [s], a, w => wpList P ops (NormQ Q) (segL ops s.2) a w
 | s :: t :: rest, a, w => wpList P ops (NormQ fun a' w' => oblB s.1 w0 w w' /\ wpSegs P ops Q w0 (t :: rest) a' w') (segL ops s.2) a w
def flat (segs : List (Bool × List (Nat × Nat))) : List (Nat × Nat) := (segs.map (·.2)).flatten
def segsOk : List (Bool × List (Nat × Nat)) -> Bool
 | [] => true
 | [s] => segLast s.2
 | s :: t :: rest => segEnd (if s.1 then 3 else 5) s.2 && segsOk (t :: rest)
theorem agree_trans {l l1 l2 : List Oper} {a b c : Act} (h1 : agree l1 a b) (h2 : agree l2 b c) (hl1 : ∀ o ∈ l1, o ∈ l) (hl2 : ∀ o ∈ l2, o ∈ l) : agree l a c := fun t ht =>
 (h2 t fun q hq => ht q (hl2 q hq)).trans (h1 t fun q hq => ht q (hl1 q hq))
theorem segs_ex {Q : Act -> World -> Prop} {w0 : World} : ∀ (segs : List (Bool × List (Nat × Nat))) (a : Act) (w : World), wpSegs P ops Q w0 segs a w -> ∃ aE wE, Q aE wE /\ agree (segL ops (flat segs)) a aE
 | [], a, w, h => ⟨a, w, h, fun _ _ => rfl⟩
 | [s], a, w, h => by
  obtain ⟨aE, wE, hQ, ha⟩ := wpList_ex _ _ _ h
  exact ⟨aE, wE, hQ, by simpa [flat] using ha⟩
 | s :: t :: rest, a, w, h => by
  obtain ⟨a1, w1, ⟨_, h1⟩, ha⟩ := wpList_ex _ _ _ h
  obtain ⟨aE, wE, hQ, ha2⟩ := segs_ex (t :: rest) a1 w1 h1
  refine ⟨aE, wE, hQ, ?_⟩
  rw [show flat (s :: t :: rest) = s.2 ++ flat (t :: rest) by simp [flat], segL_append]
  exact agree_trans ha ha2 (fun o ho => List.mem_append.2 (.inl ho)) (fun o ho => List.mem_append.2 (.inr ho))
theorem stable_app : ∀ (l1 l2 : List Oper), stableB ops (l1 ++ l2) = true -> stableB ops l2 = true
 | [], _, h => h
 | _ :: l1, l2, h => stable_app l1 l2 (stable_tail h)
theorem kinds_app : ∀ (c d : List (Nat × Nat)), kindsOk P ops (c ++ d) = true -> kindsOk P ops c = true /\ kindsOk P ops d = true
 | [], _, h => ⟨rfl, h⟩
 | (i, m) :: c, d, h => by
  rw [List.cons_append] at h
  cases ho : ops[i]? with
  | none => simp [kindsOk, ho] at h
  | some o =>
   simp only [kindsOk, ho, Bool.and_eq_true] at h
   obtain ⟨h1, h2⟩ := kinds_app c d h.2
   refine ⟨?_, h2⟩
   simp only [kindsOk, ho, Bool.and_eq_true]
   exact ⟨h.1, h1⟩
theorem segs_flow {Q : Act -> World -> Prop} {w0 : World} {G : List Oper} :
  ∀ (segs : List (Bool × List (Nat × Nat))) (a : Act) (w : World), kindsOk P ops (flat segs) = true -> stableB ops (segL ops (flat segs)) = true -> segsOk segs = true ->
   (∀ o ∈ segL ops (flat segs), o ∈ G) -> wpSegs P ops (fun a w => (G.all fun o => !Region.wanted o (yielded ops a.tmps) || opShape a.eval o) = true /\ Q a w) w0 segs a w -> wpFlow P ops Q w0 (flat segs) a w
 | [], _, a, _, _, _, _, h => h.2
 | [s], a, w, hk, hs, hm, hc, h => by
  have e : flat [s] = s.2 ++ [] := by simp [flat]
  rw [e] at hs hc ⊢
  rw [e, List.append_nil] at hk
  rw [segL_append] at hs
  exact seg_flow (P := P) (Q := Q) (w0 := w0) (ws := w) (c' := []) (D := segL ops []) (R := fun a w => (G.all fun o => !Region.wanted o (yielded ops a.tmps) || opShape a.eval o) = true /\ Q a w) (k := 4) (G := fun o => o ∈ G) (fun _ _ _ => trivial)
   (fun a w hR => ⟨a, fun o ho => List.all_eq_true.1 hR.1 o ho, fun _ _ => rfl⟩) (fun a w hR => hR.2) s.2 a w hk hs (.inl rfl) (fun _ => hm) (fun o ho => hc o (by simpa using ho)) (fun h => absurd rfl h) h
 | s :: t :: rest, a, w, hk, hs, hm, hc, h => by
  have e : flat (s :: t :: rest) = s.2 ++ flat (t :: rest) := by simp [flat]
  rw [e] at hk hs hc ⊢
  unfold segsOk at hm
  rw [Bool.and_eq_true] at hm
  obtain ⟨hk1, hk2⟩ := kinds_app _ _ hk
  rw [segL_append] at hc hs
  have hs2 : stableB ops (segL ops (flat (t :: rest))) = true := stable_app _ _ hs
  refine seg_flow (P := P) (Q := Q) (w0 := w0) (ws := w) (c' := flat (t :: rest)) (D := segL ops (flat (t :: rest))) (R := fun a' w' => oblB s.1 w0 w w' /\ wpSegs P ops (fun a w => (G.all fun o => !Region.wanted o (yielded ops a.tmps) || opShape a.eval o) = true /\ Q a w) w0 (t :: rest) a' w')
   (k := if s.1 then 3 else 5) (G := fun o => o ∈ G) (fun a w' hR => ?_) (fun a w hR => ?_) (fun a w hR => segs_flow (t :: rest) a w hk2 hs2 hm.2 (fun o ho => hc o (List.mem_append.2 (.inr ho))) hR.2) s.2 a w hk1 hs (.inr (.inr hm.1))
   (fun h4 => ?_) (fun o ho => hc o (List.mem_append.2 (.inl ho))) (fun _ _ => rfl) h
  ·have h1 := hR.1
   unfold oblB at h1
   cases hb : s.1 <;> rw [hb] at h1 <;> exact h1
  ·obtain ⟨aE, wE, hQ, ha⟩ := segs_ex _ _ _ hR.2
   exact ⟨aE, fun o ho => List.all_eq_true.1 hQ.1 o ho, ha⟩
  ·cases hb : s.1 <;> simp [hb] at h4
end
section
variable {P : Program} {ops : Array Oper}
def regionOk (P : Program) (ops : Array Oper) (segs : List (Bool × List (Nat × Nat))) : Bool :=
 P.follows .mixedOrders && Region.noSelect ops && (flat segs).length == ops.size && kindsOk P ops (flat segs) && stableB ops (segL ops (flat segs)) && segsOk segs &&
  flowOk P ops ops.size (fun j => (flat segs).any fun p => p.1 == j && decide (2 <= p.2)) (flat segs) (Array.replicate ops.size false) [] false
def shapesB (ops : Array Oper) (G : List (Nat × Nat)) (a : Act) : Bool := (segL ops G).all fun o => !Region.wanted o (yielded ops a.tmps) || opShape a.eval o
theorem closed_none : Closed .any ops (Array.replicate ops.size false) := fun j oj _ hl => by
 rw [show (Array.replicate ops.size false).getD j false = false by
  rcases Nat.lt_or_ge j ops.size with h | h
  ·simp [h]
  ·simp [h]] at hl
 cases hl
theorem region_flow (segs : List (Bool × List (Nat × Nat))) {id : Nat} {l : List Oper} {Q : Exit -> Act -> World -> Prop} {a : Act} {w : World} (hok : regionOk P l.toArray segs = true)
  (h : wpSegs P l.toArray (fun a' w' => shapesB l.toArray (flat segs) a' = true /\ Q .normal a' w') w.drew segs a w.drew) : (Code.region id l.toArray true).wp P Q a w := by
 generalize l.toArray = ops at *
 unfold regionOk at hok
 simp only [Bool.and_eq_true, beq_iff_eq] at hok
 obtain ⟨⟨⟨⟨⟨⟨hm, hs⟩, hlen⟩, hk⟩, hst⟩, hmo⟩, hf⟩ := hok
 have hflow := segs_flow (P := P) (Q := fun a' w' => Q .normal a' w') (w0 := w.drew) (G := segL ops (flat segs)) segs a w.drew hk hst hmo (fun o ho => ho) h
 have hN := flow_sound (P := P) hs (flat segs) (Array.replicate ops.size false) [] false a w.drew closed_none hf (fun _ h => by cases h) (fun _ => rfl) hflow
 rw [hlen] at hN
 refine Code.wp_mono (Q := NormQ fun a' w' => Q .normal a' w') (fun e a w he => ?_) (wp_region_any hm (wpAny_of_N _ _ _ _ hN))
 cases e <;> first | exact he | exact (he : False).elim
end
end Go.Proofs.YteaaepbnoiecoaaGreat
