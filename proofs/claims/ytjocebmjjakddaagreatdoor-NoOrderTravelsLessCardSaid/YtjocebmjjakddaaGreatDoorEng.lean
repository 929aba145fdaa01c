/- Part of a proof: the law NoOrderTravelsLess gives true for every list of integers and leaves its argument as it was; there are no conditions beyond those that the given row states. -/
import Derived.Tactics2
import Derived.Scope
import Derived.Orders
import Derived.Laws.Cells
import Derived.Laws.World
import Derived.OrdersHeld
set_option linter.unusedVariables false
set_option linter.unusedSimpArgs false
/-! The predicate transformer of one operation, and that it is sound. -/
namespace Go.Eng
open Go

abbrev Fr := List Value

def ev (fr : Fr) : Operand → Value
  | .tmp t => fr.getD t undef
  | .const v => v
  | .global g => .pointer (some ⟨g, 0, none⟩)
  | .func f => .func (.func f) #[] #[]

def putF (fr : Fr) : Option Tmp → Value → Fr
  | some d, v => fr.set d v
  | none, _ => fr

def actOf (fr : Fr) : Act := { tmps := fr.toArray, defers := [] }

theorem eval_actOf (fr : Fr) : (actOf fr).eval = ev fr := by
  funext x
  cases x <;> simp [Act.eval, actOf, ev]

theorem put_actOf (fr : Fr) (d : Option Tmp) (v : Value) : (actOf fr).put d v = actOf (putF fr d v) := by
  cases d <;> simp [Act.put, actOf, putF]

/-! ## Primitives -/

/-- the value of one cell -/
def one : Value → Bool
  | .agg _ | .tuple _ => false
  | _ => true

/-- A `Sem` runs to a value. -/
def semP {α : Type} (P : Program) (s : Sem α) (w : World) (k : α → World → Prop) : Prop :=
  ∃ v w', s.run P w = .ok v w' ∧ k v w'

/-- A `Sem` gives one value in every world and leaves it. -/
def pureP {α : Type} (P : Program) (s : Sem α) (k : α → Prop) : Prop :=
  ∃ v, (∀ w, s.run P w = .ok v w) ∧ k v

def pickP (c a b : Value) (k : Value → Prop) : Prop :=
  match c with | .bool true => k a | .bool false => k b | _ => False

def newP (e : TypeId) (cs : Array Value) (w : World) (k : Value → World → Prop) : Prop :=
  k (.pointer (some ⟨w.heap.size, 0, none⟩)) (w.alloc (.cells cs e))

def ld (a : Value) (w : World) (k : Value → Prop) : Prop :=
  match a with | .pointer (some ad) => ∃ v, w.cell? ad = some v ∧ k v | _ => False

def ldA (n : Nat) (a : Value) (w : World) (k : Value → Prop) : Prop :=
  match a with
  | .pointer (some ad) => ∃ cs : List Value, cs.length = n ∧ (∀ i v, cs[i]? = some v → w.cell? (ad.add i) = some v) ∧ k (.agg cs.toArray)
  | _ => False

def st (a v : Value) (w : World) (k : World → Prop) : Prop :=
  match a with
  | .pointer (some ad) => one v = true ∧ (∃ u, w.cell? ad = some u) ∧ w.frozen? ad = false ∧ k (w.setCell ad v)
  | _ => False

def storeAll (w : World) (ad : Addr) : List Value → Nat → World
  | [], _ => w
  | v :: r, i => storeAll (w.setCell (ad.add i) v) ad r (i + 1)

def stA (n : Nat) (a v : Value) (w : World) (k : World → Prop) : Prop :=
  match a, v with
  | .pointer (some ad), .agg cs => cs.size = n ∧ (∀ i v, cs[i]? = some v → one v = true ∧ (∃ u, w.cell? (ad.add i) = some u) ∧ w.frozen? (ad.add i) = false) ∧
      k (storeAll w ad cs.toList 0)
  | _, _ => False

def nilP (x : Value) (k : Value → Prop) : Prop :=
  match x with
  | .pointer (some a) => k (.pointer (some a))
  | .func (.func f) a b => k (.func (.func f) a b)
  | _ => False

def offP (off : Nat) (x : Value) (k : Value → Prop) : Prop :=
  match x with | .pointer (some a) => k (.pointer (some (a.add off))) | _ => False

def fld1 (off : Nat) (x : Value) (k : Value → Prop) : Prop :=
  match x with | .agg cs => ∃ v, cs[off]? = some v ∧ k v | _ => False

def fldA (off n : Nat) (x : Value) (k : Value → Prop) : Prop :=
  match x with | .agg cs => k (.agg (cs.extract off (off + n))) | _ => False

def idxP (sz : Nat) (x ix : Value) (k : Value → Prop) : Prop :=
  match x, ix with
  | .slice (some a) len _, .int _ i => (0 ≤ i ∧ i < len) ∧ k (.pointer (some (a.add (i.toNat * sz))))
  | _, _ => False

def strIx (x ix : Value) (k : Value → Prop) : Prop :=
  match x, ix with
  | .string s, .int _ i => ∃ b, (0 ≤ i ∧ s[i.toNat]? = some b) ∧ k (.int .u8 b.toNat)
  | _, _ => False

def binV (op : BinOp) (x y : Value) : Option Value :=
  match x, y with
  | .int k a, .int k' b =>
    if k = k' then
      match op with
      | .add => some (.int k (k.wrap (a + b)))
      | .sub => some (.int k (k.wrap (a - b)))
      | .mul => some (.int k (k.wrap (a * b)))
      | .quo => if b = 0 then none else some (.int k (k.wrap (a.tdiv b)))
      | .rem => if b = 0 then none else some (.int k (a.tmod b))
      | .eql => some (.bool (a == b))
      | .neq => some (.bool (a != b))
      | .lss => some (.bool (decide (a < b)))
      | .leq => some (.bool (decide (a ≤ b)))
      | .gtr => some (.bool (decide (a > b)))
      | .geq => some (.bool (decide (a ≥ b)))
      | _ => none
    else none
  | .string a, .string b =>
    match op with
    | .add => if ((a.size + b.size : Nat) : Int) > IntKind.i64.max then none else some (.string (a ++ b))
    | .eql => some (.bool (a.toList == b.toList))
    | .neq => some (.bool (!(a.toList == b.toList)))
    | .lss => some (.bool (Op.bytesLess a.toList b.toList))
    | .leq => some (.bool (Op.bytesLess a.toList b.toList || a.toList == b.toList))
    | .gtr => some (.bool (!(Op.bytesLess a.toList b.toList || a.toList == b.toList)))
    | .geq => some (.bool (!(Op.bytesLess a.toList b.toList)))
    | _ => none
  | _, _ => none

def binP (op : BinOp) (x y : Value) (k : Value → Prop) : Prop :=
  ∃ v, binV op x y = some v ∧ k v

def notP (x : Value) (k : Value → Prop) : Prop :=
  match x with | .bool b => k (.bool (!b)) | _ => False

def lenP (x : Value) (k : Value → Prop) : Prop :=
  match x with | .slice _ n _ => k (.int .i64 n) | _ => False

def lenStr (x : Value) (k : Value → Prop) : Prop :=
  match x with | .string s => k (.int .i64 s.size) | _ => False

def exP (ix : Nat) (x : Value) (k : Value → Prop) : Prop :=
  match x with | .tuple vs => ∃ v, vs[ix]? = some v ∧ k v | _ => False

def convI (kd : IntKind) (x : Value) (k : Value → Prop) : Prop :=
  match x with | .int _ n => k (.int kd (kd.wrap n)) | _ => False

/-- What a call comes to. -/
def retUpon (P : Program) (R : Value → World → Prop) : Result Next → Prop
  | .ok (.value v) w' => R v w'
  | .ok (.enter f args) w' => Calls P f args w' fun e w'' => ∃ v, e = .returned v ∧ R v w''
  | .ok (.row r args) w' => Rows P r args w' R
  | _ => False

/-- The call of function f returns a value with R. -/
def Ret (P : Program) (f : FuncId) (args : Array Value) (w : World) (R : Value → World → Prop) : Prop :=
  retUpon P R ((callFunc f args).run P w)

theorem retUpon_mono {P : Program} {R R' : Value → World → Prop} {r : Result Next} (h : retUpon P R r) (hr : ∀ v w', R v w' → R' v w') : retUpon P R' r := by
  unfold retUpon at *
  split at h
  · exact hr _ _ h
  · exact h.mono fun e w' ⟨v, he, hv⟩ => ⟨v, he, hr _ _ hv⟩
  · exact h.mono fun v w' hv => hr _ _ hv
  · exact h.elim

theorem Ret.mono {P : Program} {f : FuncId} {args : Array Value} {w : World} {R R' : Value → World → Prop} (h : Ret P f args w R)
    (hr : ∀ v w', R v w' → R' v w') : Ret P f args w R' := retUpon_mono h hr

def callV (P : Program) (f : Value) (args : Array Value) (w : World) (k : Value → World → Prop) : Prop :=
  match f with
  | .func (.func f) first captured => Ret P f (first ++ args ++ captured) w k
  | _ => False

def isA : TypeDesc → Bool
  | .struct _ | .array _ _ => true
  | _ => false

/-- How a type lies: none: unknown; some none: one cell; some (some n): n cells. -/
def lay (P : Program) (t : TypeId) : Option (Option Nat) :=
  match P.underlying t, P.info? t with
  | some (.struct _), some i => some (some i.size)
  | some (.array _ _), some i => some (some i.size)
  | some _, some i => if i.size = 1 then some none else none
  | _, _ => none

def fieldOf (P : Program) (s : TypeId) (i : Nat) : Option Field :=
  match P.underlying s with
  | some (.struct fs) => fs[i]?
  | _ => none

def zeroOf (P : Program) (t : TypeId) : Option Value := (P.info? t).bind (·.zero)

/-- kinds of types at which `binP` serves -/
def plainT (P : Program) (t : TypeId) : Bool :=
  match P.underlying t with
  | some (.int _) => true
  | some .string => true
  | _ => false

def plainB : BinOp → Bool
  | .shl | .shr | .and | .or | .xor | .andNot => false
  | _ => true

def intOfT (P : Program) (t : TypeId) : Option IntKind :=
  match P.underlying t with
  | some (.int k) => some k
  | _ => none

def elemSz (P : Program) (t : TypeId) : Option Nat :=
  match P.underlying t with
  | some (.slice e) => (P.info? e).map (·.size)
  | _ => none

def isStr (P : Program) (t : TypeId) : Bool :=
  match P.underlying t with
  | some .string => true
  | _ => false

def lenT (P : Program) (t : TypeId) : Option Bool :=
  match P.underlying t with
  | some .string => some true
  | some (.slice _) => some false
  | _ => none

def lenA (P : Program) (c : Call) : Option Bool := if c.args.size = 1 ∧ c.argTypes.size = 1 then lenT P (c.argTypes.getD 0 0) else none

/-- One operation. -/
def opW (P : Program) (ρ : Operand → Value) (ty : TypeId) (w : World) (k : Value → World → Prop) : Op → Prop
  | .move x => k (ρ x) w
  | .assign x => k (ρ x) w
  | .pick c a b => pickP (ρ c) (ρ a) (ρ b) fun v => k v w
  | .alloc e => match zeroOf P e with | some z => newP e z.cells w k | none => False
  | .box e x => newP e (ρ x).cells w k
  | .build t parts => pureP P (Instr.build t (parts.map fun (i, x) => (i, ρ x))) fun v => k v w
  | .buildSlice t n parts => semP P (Instr.buildSlice t n (parts.map fun (i, x) => (i, ρ x))) w k
  | .load t a => match lay P t with
    | some none => ld (ρ a) w fun v => k v w
    | some (some n) => ldA n (ρ a) w fun v => k v w
    | none => False
  | .store t a x => match lay P t with
    | some none => st (ρ a) (ρ x) w fun w' => k undef w'
    | some (some n) => stA n (ρ a) (ρ x) w fun w' => k undef w'
    | none => False
  | .nilCheck x => nilP (ρ x) fun v => k v w
  | .binOp op t x y _ =>
    if plainT P t && plainB op then binP op (ρ x) (ρ y) fun v => k v w
    else pureP P (do eqGuard op t x y (ρ x) (ρ y); binOp op t (ρ x) (ρ y)) fun v => k v w
  | .unOp .not _ x => notP (ρ x) fun v => k v w
  | .unOp op _ x => pureP P (Op.unary op (ρ x)) fun v => k v w
  | .convert s d x => match intOfT P s, intOfT P d with
    | some _, some kd => convI kd (ρ x) fun v => k v w
    | _, _ => semP P (convert s d (ρ x)) w k
  | .makeFunc fn first captured => k (.func fn (first.map ρ) (captured.map ρ)) w
  | .makeMap t r => semP P (Instr.makeMap t (r.map ρ)) w k
  | .makeSlice t l c => semP P (Instr.makeSlice t (ρ l) (ρ c)) w k
  | .slice t x lo hi mx => pureP P (Instr.sliceAt t (ρ x) (lo.map ρ) (hi.map ρ) (mx.map ρ)) fun v => k v w
  | .fieldAddr s x f => match fieldOf P s f with
    | some fd => if P.cellsOf fd.type = 0 then False else offP fd.offset (ρ x) fun v => k v w
    | none => False
  | .field s x f => match fieldOf P s f with
    | some fd => match lay P fd.type with
      | some none => fld1 fd.offset (ρ x) fun v => k v w
      | some (some n) => fldA fd.offset n (ρ x) fun v => k v w
      | none => False
    | none => False
  | .indexAddr t x ix => match elemSz P t with
    | some n => idxP n (ρ x) (ρ ix) fun v => k v w
    | none => semP P (Instr.indexAt t (ρ x) (ρ ix)) w k
  | .index t x ix => if isStr P t then strIx (ρ x) (ρ ix) fun v => k v w else semP P (Instr.index t (ρ x) (ρ ix)) w k
  | .lookup t x ix ok => semP P (Instr.lookup t (ρ x) (ρ ix) ok) w k
  | .mapUpdate t m x v => semP P (Instr.mapUpdate t (ρ m) (ρ x) (ρ v)) w fun _ w' => k undef w'
  | .insert t m x v => semP P (Instr.mapUpdate t (ρ m) (ρ x) (ρ v)) w fun _ w' => k undef w'
  | .mapEntry t m x => semP P (Instr.mapEntry t (ρ m) (ρ x)) w k
  | .entryStore t m s v => semP P (Instr.entryStore t (ρ m) (ρ s) (ρ v)) w fun _ w' => k undef w'
  | .range t x => semP P (Instr.range t (ρ x)) w k
  | .next it b => semP P (Instr.next (ρ it) b ty) w k
  | .entry it => semP P (Instr.entry (ρ it)) w k
  | .extract t ix => exP ix (ρ t) fun v => k v w
  | .call c => match c.callee with
    | .value f => callV P (ρ f) (c.args.map ρ) w k
    | .builtin .len => match lenA P c with
      | some true => lenStr (ρ (c.args.getD 0 (.const undef))) fun v => k v w
      | some false => lenP (ρ (c.args.getD 0 (.const undef))) fun v => k v w
      | none => semP P (Builtin.len_ c.argTypes ty (c.args.map ρ)) w k
    | .builtin .append => semP P (Builtin.append_ c.argTypes ty (c.args.map ρ)) w k
    | .builtin .cap => semP P (Builtin.cap_ c.argTypes ty (c.args.map ρ)) w k
    | .builtin .copy => semP P (Builtin.copy_ c.argTypes ty (c.args.map ρ)) w k
    | .builtin .delete => semP P (Builtin.delete_ c.argTypes ty (c.args.map ρ)) w k
    | .builtin .clear => semP P (Builtin.clear_ c.argTypes ty (c.args.map ρ)) w k
    | .builtin .min => pureP P (Builtin.min_ c.argTypes ty (c.args.map ρ)) fun v => k v w
    | .builtin .max => pureP P (Builtin.max_ c.argTypes ty (c.args.map ρ)) fun v => k v w
    | _ => False
  | .makeInterface t x => semP P (Instr.makeInterface t (ρ x)) w k
  | .ready g => semP P (Instr.ready g) w fun _ w' => k undef w'
  | .waits g => semP P (Instr.waits g) w k
  | _ => False

/-! ## Soundness of one operation -/

theorem Sem.run_bind' {α β : Type} (P : Program) (s : Sem α) (f : α → Sem β) (w : World) :
    (s >>= f).run P w = match s.run P w with | .ok a w' => (f a).run P w' | .halt h w' => .halt h w' := by
  rw [Sem.run_bind]
  cases s.run P w <;> rfl

section
variable {P : Program} {w : World}

theorem run_typeInfo {t : TypeId} {i : TypeInfo} (h : P.info? t = some i) : (typeInfo t).run P w = .ok i w := by
  simp [typeInfo, program, Sem.run, h, pure, bind, Sem.bind]

theorem run_und {t : TypeId} {d : TypeDesc} (h : P.underlying t = some d) : (underlying t).run P w = .ok d w := by
  simp [underlying, program, Sem.run, h, pure, bind, Sem.bind]

theorem run_size {t : TypeId} {i : TypeInfo} (h : P.info? t = some i) : (sizeOf t).run P w = .ok i.size w := by
  simp [sizeOf, run_typeInfo h, pure, Sem.run]

theorem run_pure' {α : Type} (a : α) : (pure a : Sem α).run P w = .ok a w := rfl

def uponK (P : Program) (k : Value → World → Prop) : Result Next → Prop
  | .ok (.value v) w' => k v w'
  | .ok .skip w' => k undef w'
  | .ok (.enter f args) w' => Calls P f args w' fun e w'' => ∃ v, e = .returned v ∧ k v w''
  | .ok (.row r args) w' => Rows P r args w' k
  | _ => False

theorem upon_of_K {o : Oper} {a : Act} {k : Value → World → Prop} {next : Act → World → Prop} {Q : Exit → Act → World → Prop} {r : Result Next}
    (h : uponK P k r) (hn : ∀ v w', k v w' → next (a.put o.dst v) w') : o.upon P a next Q r := by
  unfold uponK at h
  split at h
  · exact hn _ _ h
  · exact hn _ _ h
  · refine h.mono fun e w'' ⟨v, he, hv⟩ => ?_
    subst he
    exact hn _ _ hv
  · exact h.mono fun v w'' hv => hn _ _ hv
  · exact h.elim

theorem uponK_ret {k : Value → World → Prop} {r : Result Next} (h : retUpon P k r) : uponK P k r := by
  unfold retUpon at h
  split at h
  · exact h
  · exact h
  · exact h
  · exact h.elim

/-- a value operation -/
theorem K_v {s : Sem Value} {k : Value → World → Prop} {v : Value} {w' : World} (h : s.run P w = .ok v w') (hk : k v w') :
    uponK P k ((do let x ← s; pure (Next.value x) : Sem Next).run P w) := by
  rw [Sem.run_bind', h]; exact hk

theorem K_u {s : Sem Unit} {k : Value → World → Prop} {w' : World} (h : s.run P w = .ok () w') (hk : k undef w') :
    uponK P k ((do s; pure Next.skip : Sem Next).run P w) := by
  rw [Sem.run_bind', h]; exact hk

theorem K_sem {s : Sem Value} {k : Value → World → Prop} (h : semP P s w k) :
    uponK P k ((do let x ← s; pure (Next.value x) : Sem Next).run P w) := by
  obtain ⟨v, w', h1, h2⟩ := h
  exact K_v h1 h2

theorem K_semu {s : Sem Unit} {k : Value → World → Prop} (h : semP P s w fun _ w' => k undef w') :
    uponK P k ((do s; pure Next.skip : Sem Next).run P w) := by
  obtain ⟨v, w', h1, h2⟩ := h
  exact K_u h1 h2

theorem K_pure {s : Sem Value} {k : Value → World → Prop} (h : pureP P s fun v => k v w) :
    uponK P k ((do let x ← s; pure (Next.value x) : Sem Next).run P w) := by
  obtain ⟨v, h1, h2⟩ := h
  exact K_v (h1 w) h2

theorem und_info {t : TypeId} {d : TypeDesc} (h : P.underlying t = some d) : ∃ i, P.info? t = some i := by
  unfold Program.underlying at h
  split at h
  · exact ⟨_, by assumption⟩
  · exact ⟨_, by assumption⟩
  · cases h

theorem lay_one {t : TypeId} (h : lay P t = some none) : ∃ i d, P.info? t = some i ∧ i.size = 1 ∧ P.underlying t = some d ∧ isA d = false := by
  unfold lay at h
  split at h
  · cases h
  · cases h
  · rename_i d i h1 h2 hu hi
    split at h
    · refine ⟨i, d, hi, by assumption, hu, ?_⟩
      cases d <;> simp_all [isA]
    · cases h
  · cases h

theorem lay_many {t : TypeId} {n : Nat} (h : lay P t = some (some n)) : ∃ i d, P.info? t = some i ∧ i.size = n ∧ P.underlying t = some d ∧ isA d = true := by
  unfold lay at h
  split at h
  · rename_i i hu hi
    cases h
    exact ⟨i, _, hi, rfl, hu, rfl⟩
  · rename_i i hu hi
    cases h
    exact ⟨i, _, hi, rfl, hu, rfl⟩
  · split at h <;> cases h
  · cases h

theorem run_isAgg {t : TypeId} {d : TypeDesc} {b : Bool} (h : P.underlying t = some d) (hb : isA d = b) :
    (isAgg t).run P w = .ok b w := by
  rw [isAgg, Sem.run_bind', run_und h]
  cases d <;> simp_all [run_pure', isA]

theorem run_loadVar_one {t : TypeId} {ad : Addr} {v : Value} (h : lay P t = some none) (hc : w.cell? ad = some v) :
    (loadVar t ad).run P w = .ok v w := by
  obtain ⟨i, d, hi, hs, hd, hb⟩ := lay_one h
  rw [loadVar, Sem.run_bind', run_isAgg hd hb]
  simp [load, Sem.run, hc]

theorem run_loadVar_many {t : TypeId} {n : Nat} {ad : Addr} {cs : List Value} (h : lay P t = some (some n)) (hn : cs.length = n)
    (hc : ∀ i v, cs[i]? = some v → w.cell? (ad.add i) = some v) : (loadVar t ad).run P w = .ok (.agg cs.toArray) w := by
  obtain ⟨i, d, hi, hs, hd, hb⟩ := lay_many h
  rw [loadVar, Sem.run_bind', run_isAgg hd hb]
  simp only [if_true]
  rw [Sem.run_bind', run_size hi, hs, ← hn]
  simp only []
  rw [Sem.run_bind', run_loadCells_list w ad cs hc]
  rfl

theorem run_store_one {ad : Addr} {v : Value} (h1 : one v = true) (h2 : ∃ u, w.cell? ad = some u) (h3 : w.frozen? ad = false) :
    (store ad v).run P w = .ok () (w.setCell ad v) := by
  obtain ⟨u, hu⟩ := h2
  cases v <;> simp_all [store, Sem.run, one]

theorem oneCell_cells {v : Value} (h : one v = true) : v.cells = #[v] := by
  cases v <;> simp_all [one, Value.cells]

theorem addr_add_zero (a : Addr) : a.add 0 = a := rfl

theorem run_storeVar_one {t : TypeId} {ad : Addr} {v : Value} (h : lay P t = some none) (h1 : one v = true) (h2 : ∃ u, w.cell? ad = some u) (h3 : w.frozen? ad = false) :
    (storeVar t ad v).run P w = .ok () (w.setCell ad v) := by
  obtain ⟨i, d, hi, hs, hd, hb⟩ := lay_one h
  rw [storeVar, Sem.run_bind', run_size hi]
  simp only [oneCell_cells h1, hs]
  simp [storeCells, addr_add_zero, Sem.run_bind', run_store_one h1 h2 h3, run_pure']

theorem cell_setCell_isSome (w : World) (a b : Addr) (v : Value) (h : ∃ u, w.cell? b = some u) : ∃ u, (w.setCell a v).cell? b = some u := by
  obtain ⟨u, hu⟩ := h
  unfold World.cell? World.setCell at *
  simp only [Array.getElem?_modify]
  cases hb : w.heap[b.block]? with
  | none => simp [hb] at hu
  | some o =>
    cases o with
    | cells c e f =>
      simp only [hb] at hu
      by_cases hsp : b.spot.isSome = true
      · simp [hsp] at hu
      · simp only [hsp] at hu
        by_cases hab : a.block = b.block
        · simp only [hab, if_true, hb, Option.map_some, hsp]
          by_cases hasp : a.spot.isSome = true
          · exact ⟨u, by simpa [hasp] using hu⟩
          · simp only [hasp]
            by_cases ho : a.off = b.off
            · have : b.off < c.size := by
                rcases Nat.lt_or_ge b.off c.size with h | h
                · exact h
                · simp [Array.getElem?_eq_none h] at hu
              exact ⟨v, by simp [ho, this]⟩
            · exact ⟨u, by simpa [Array.getElem?_setIfInBounds, ho] using hu⟩
        · simp only [hab, if_false, hb, hsp]
          exact ⟨u, hu⟩
    | _ => simp [hb] at hu

theorem frozen_setCell (w : World) (a b : Addr) (v : Value) : (w.setCell a v).frozen? b = w.frozen? b := by
  unfold World.frozen? World.setCell
  simp only [Array.getElem?_modify]
  by_cases hab : a.block = b.block
  · simp only [hab, if_true]
    cases w.heap[b.block]? with
    | none => rfl
    | some o => cases o <;> rfl
  · simp only [hab, if_false]

theorem run_storeCells {ad : Addr} : ∀ (vs : List Value) (i : Nat) (w : World),
    (∀ j v, vs[j]? = some v → one v = true ∧ (∃ u, w.cell? (ad.add (i + j)) = some u) ∧ w.frozen? (ad.add (i + j)) = false) →
    (storeCells ad vs i).run P w = .ok () (storeAll w ad vs i)
  | [], _, _, _ => by simp [storeCells, storeAll, run_pure']
  | v :: r, i, w, h => by
    have h0 := h 0 v rfl
    rw [Nat.add_zero] at h0
    rw [storeCells, Sem.run_bind', run_store_one h0.1 h0.2.1 h0.2.2]
    simp only [storeAll]
    refine run_storeCells r (i + 1) _ fun j u hj => ?_
    have := h (j + 1) u hj
    rw [show i + 1 + j = i + (j + 1) from by omega]
    exact ⟨this.1, cell_setCell_isSome _ _ _ _ this.2.1, by rw [frozen_setCell]; exact this.2.2⟩

theorem run_storeVar_many {t : TypeId} {n : Nat} {ad : Addr} {cs : Array Value} (h : lay P t = some (some n)) (hn : cs.size = n)
    (hc : ∀ i v, cs[i]? = some v → one v = true ∧ (∃ u, w.cell? (ad.add i) = some u) ∧ w.frozen? (ad.add i) = false) :
    (storeVar t ad (.agg cs)).run P w = .ok () (storeAll w ad cs.toList 0) := by
  obtain ⟨i, d, hi, hs, hd, hb⟩ := lay_many h
  rw [storeVar, Sem.run_bind', run_size hi]
  simp only [Value.cells, hs, hn]
  simp only [ne_eq, not_true_eq_false, if_false]
  refine run_storeCells cs.toList 0 w fun j v hj => ?_
  rw [Nat.zero_add]
  exact hc j v (by simpa using hj)

theorem fieldOf_some {s : TypeId} {i : Nat} {fd : Field} (h : fieldOf P s i = some fd) : ∃ fs, P.underlying s = some (.struct fs) ∧ fs[i]? = some fd := by
  unfold fieldOf at h
  split at h
  · exact ⟨_, by assumption, h⟩
  · cases h

theorem run_part_one {t : TypeId} {cs : Array Value} {off : Nat} {v : Value} (h : lay P t = some none) (hc : cs[off]? = some v) :
    (part t cs off).run P w = .ok v w := by
  obtain ⟨i, d, hi, hs, hd, hb⟩ := lay_one h
  rw [part, Sem.run_bind', run_isAgg hd hb]
  simp [hc, run_pure']

theorem run_part_many {t : TypeId} {n : Nat} {cs : Array Value} {off : Nat} (h : lay P t = some (some n)) :
    (part t cs off).run P w = .ok (.agg (cs.extract off (off + n))) w := by
  obtain ⟨i, d, hi, hs, hd, hb⟩ := lay_many h
  rw [part, Sem.run_bind', run_isAgg hd hb]
  simp only [if_true]
  rw [Sem.run_bind', run_size hi, hs]
  rfl

theorem run_binOp_plain {t : TypeId} {op : BinOp} {xo yo : Operand} {x y v : Value} (ho : plainB op = true) (h : binV op x y = some v) :
    (do eqGuard op t xo yo x y; binOp op t x y : Sem Value).run P w = .ok v w := by
  unfold binV at h
  split at h
  · rename_i k a k' b
    split at h
    · rename_i hk
      subst hk
      have hg : (eqGuard op t xo yo (.int k a) (.int k b)).run P w = .ok () w := by
        cases op <;> rfl
      rw [Sem.run_bind', hg]
      cases op <;> simp_all [plainB, binOp, Op.intArith, Op.intDiv, Op.intCmp, run_pure'] <;> (try (obtain ⟨h1, rfl⟩ := h; simp_all [run_pure']))
    · cases h
  · rename_i a b
    have hg : (eqGuard op t xo yo (.string a) (.string b)).run P w = .ok () w := by
      cases op <;> rfl
    rw [Sem.run_bind', hg]
    cases op <;> simp_all [plainB, binOp, Op.stringOp, run_pure'] <;> (try (obtain ⟨h1, rfl⟩ := h; simp_all [run_pure']))
  · cases h
end

end Go.Eng

namespace Go.Eng
open Go
section
variable {P : Program} {w : World}

theorem run_newVar {e : TypeId} {v : Value} : (newVar e v).run P w = .ok ⟨w.heap.size, 0, none⟩ (w.alloc (.cells v.cells e)) := rfl

theorem opW_run {ρ : Operand → Value} {o : Oper} {k : Value → World → Prop} (h : opW P ρ o.type w k o.op) : uponK P k ((execOp ρ o).run P w) := by
  obtain ⟨dst, op, ty, pos, after, guard⟩ := o
  simp only at h
  cases op with
  | move x => exact h
  | assign x => exact h
  | pick c a b =>
    simp only [opW, pickP] at h
    simp only [execOp]
    rw [Sem.run_bind']
    split at h <;> rename_i hc
    · rw [hc]; exact h
    · rw [hc]; exact h
    · exact h.elim
  | alloc e =>
    simp only [opW] at h
    split at h
    · rename_i z hz
      refine K_v (v := .pointer (some ⟨w.heap.size, 0, none⟩)) (w' := w.alloc (.cells z.cells e)) ?_ h
      unfold zeroOf at hz
      cases hi : P.info? e with
      | none => simp [hi] at hz
      | some i =>
        simp only [hi, Option.bind_some] at hz
        simp only [Instr.alloc, zeroValue, Sem.run_bind', run_typeInfo hi, hz, run_pure', run_newVar]
    · exact h.elim
  | box e x =>
    refine K_v (v := .pointer (some ⟨w.heap.size, 0, none⟩)) (w' := w.alloc (.cells (ρ x).cells e)) ?_ h
    simp only [Instr.box, Sem.run_bind', run_newVar, run_pure']
  | build t parts => exact K_pure h
  | buildSlice t n parts => exact K_sem h
  | load t a =>
    simp only [opW] at h
    split at h
    · rename_i hl
      unfold ld at h
      split at h
      · rename_i ad ha
        obtain ⟨v, hv, hk⟩ := h
        refine K_v (v := v) (w' := w) ?_ hk
        simp [Instr.loadAt, Sem.run_bind', ha, Instr.sureAddr, run_pure', run_loadVar_one hl hv]
      · exact h.elim
    · rename_i n hl
      unfold ldA at h
      split at h
      · rename_i ad ha
        obtain ⟨cs, hn, hv, hk⟩ := h
        refine K_v (v := .agg cs.toArray) (w' := w) ?_ hk
        simp [Instr.loadAt, Sem.run_bind', ha, Instr.sureAddr, run_pure', run_loadVar_many hl hn hv]
      · exact h.elim
    · exact h.elim
  | store t a x =>
    simp only [opW] at h
    split at h
    · rename_i hl
      unfold st at h
      split at h
      · rename_i ad ha
        obtain ⟨h1, h2, h3, hk⟩ := h
        refine K_u (w' := w.setCell ad (ρ x)) ?_ hk
        simp [Instr.storeAt, Sem.run_bind', ha, Instr.sureAddr, run_pure', run_storeVar_one hl h1 h2 h3]
      · exact h.elim
    · rename_i n hl
      unfold stA at h
      split at h
      · rename_i ad cs ha hx
        obtain ⟨hn, hv, hk⟩ := h
        refine K_u (w' := storeAll w ad cs.toList 0) ?_ hk
        simp [Instr.storeAt, Sem.run_bind', ha, hx, Instr.sureAddr, run_pure', run_storeVar_many hl hn hv]
      · exact h.elim
    · exact h.elim
  | nilCheck x =>
    simp only [opW, nilP] at h
    simp only [execOp]
    split at h
    · rename_i a ha; rw [ha]; exact h
    · rename_i f a b ha; rw [ha]; exact h
    · exact h.elim
  | binOp op t x y t' =>
    simp only [opW] at h
    split at h
    · rename_i hp
      simp only [Bool.and_eq_true] at hp
      obtain ⟨v, hv, hk⟩ := h
      exact K_v (run_binOp_plain hp.2 hv) hk
    · exact K_pure h
  | unOp op t x =>
    cases op with
    | not =>
      simp only [opW, notP] at h
      split at h
      · rename_i b hb
        refine K_v (v := .bool (!b)) (w' := w) ?_ h
        rw [hb]; rfl
      · exact h.elim
    | _ => exact K_pure h
  | convert s d x =>
    simp only [opW] at h
    split at h
    · rename_i ks kd hs hd
      unfold convI at h
      split at h
      · rename_i k n hx
        have hs' : ∃ k, P.underlying s = some (.int k) := by
          unfold intOfT at hs; split at hs
          · exact ⟨_, by assumption⟩
          · cases hs
        have hd' : P.underlying d = some (.int kd) := by
          unfold intOfT at hd; split at hd
          · cases hd; assumption
          · cases hd
        obtain ⟨k', hs'⟩ := hs'
        refine K_v (v := .int kd (kd.wrap n)) (w' := w) ?_ h
        rw [hx, convert, Sem.run_bind', run_und hs']
        simp only []
        rw [Sem.run_bind', run_und hd']
        rfl
      · exact h.elim
    · exact K_sem h
  | makeFunc fn a b => exact K_v (v := .func fn (a.map ρ) (b.map ρ)) (w' := w) rfl h
  | makeMap t r => exact K_sem h
  | makeSlice t l c => exact K_sem h
  | slice t x lo hi mx => exact K_pure h
  | fieldAddr s x f =>
    simp only [opW] at h
    split at h
    · rename_i fd hf
      split at h
      · exact h.elim
      · rename_i h0
        unfold offP at h
        split at h
        · rename_i a ha
          obtain ⟨fs, hfs, hg⟩ := fieldOf_some hf
          refine K_v (v := .pointer (some (a.add fd.offset))) (w' := w) ?_ h
          have hsz : (sizeOf fd.type).run P w = .ok (P.cellsOf fd.type) w := by
            unfold Program.cellsOf at *
            cases hi : P.info? fd.type with
            | none => simp [hi] at h0
            | some i => simp [run_size hi]
          simp [Instr.fieldAt, Sem.run_bind', run_und hfs, hg, ha, Instr.sureAddr, run_pure', fieldPlace, hsz, h0]
        · exact h.elim
    · exact h.elim
  | field s x f =>
    simp only [opW] at h
    split at h
    · rename_i fd hf
      obtain ⟨fs, hfs, hg⟩ := fieldOf_some hf
      split at h
      · rename_i hl
        unfold fld1 at h
        split at h
        · rename_i cs hx
          obtain ⟨v, hv, hk⟩ := h
          refine K_v (v := v) (w' := w) ?_ hk
          simp [Instr.field, Sem.run_bind', run_und hfs, hg, hx, asAgg, run_pure', run_part_one hl hv]
        · exact h.elim
      · rename_i n hl
        unfold fldA at h
        split at h
        · rename_i cs hx
          refine K_v (w' := w) ?_ h
          simp [Instr.field, Sem.run_bind', run_und hfs, hg, hx, asAgg, run_pure', run_part_many hl]
        · exact h.elim
      · exact h.elim
    · exact h.elim
  | indexAddr t x ix =>
    simp only [opW] at h
    split at h
    · rename_i n he
      obtain ⟨e, i0, hu, hi0, hn⟩ : ∃ e i0, P.underlying t = some (.slice e) ∧ P.info? e = some i0 ∧ i0.size = n := by
        unfold elemSz at he; split at he
        · rename_i e hu
          cases hi : P.info? e with
          | none => simp [hi] at he
          | some i0 => exact ⟨e, i0, hu, hi, by simpa [hi] using he⟩
        · cases he
      unfold idxP at h
      split at h
      · rename_i a len cap k i hx hi
        obtain ⟨hb, hk⟩ := h
        refine K_v (w' := w) ?_ hk
        simp [Instr.indexAt, Sem.run_bind', hx, hi, asIntOf, run_pure', run_und hu, hb, run_size hi0, hn]
      · exact h.elim
    · exact K_sem h
  | index t x ix =>
    simp only [opW] at h
    split at h
    · rename_i hs
      have hu : P.underlying t = some .string := by
        unfold isStr at hs; split at hs
        · assumption
        · cases hs
      unfold strIx at h
      split at h
      · rename_i s k i hx hi
        obtain ⟨b, ⟨h0, hb⟩, hk⟩ := h
        refine K_v (w' := w) ?_ hk
        simp [Instr.index, Sem.run_bind', hx, hi, asIntOf, run_pure', run_und hu, h0, hb]
      · exact h.elim
    · exact K_sem h
  | lookup t x ix ok => exact K_sem h
  | mapUpdate t m x v => exact K_semu h
  | insert t m x v => exact K_semu h
  | mapEntry t m x => exact K_sem h
  | entryStore t m s v => exact K_semu h
  | range t x => exact K_sem h
  | next it b => exact K_sem h
  | entry it => exact K_sem h
  | extract t ix =>
    simp only [opW, exP] at h
    split at h
    · rename_i vs ht
      obtain ⟨v, hv, hk⟩ := h
      refine K_v (v := v) (w' := w) ?_ hk
      simp [Instr.extract, ht, hv, run_pure']
    · exact h.elim
  | call c =>
    obtain ⟨callee, args, tys⟩ := c
    cases callee with
    | value f =>
      simp only [opW, callV] at h
      split at h
      · rename_i fn first captured hf
        have : (execOp ρ { dst, op := .call { callee := .value f, args, argTypes := tys }, type := ty, pos, after, guard }).run P w =
            (callFunc fn (first ++ args.map ρ ++ captured)).run P w := by
          simp [execOp, resolve, hf, Deferred.ofValue, invoke, Sem.run_bind', run_pure']
        rw [this]
        exact uponK_ret h
      · exact h.elim
    | invoke r m => exact h.elim
    | builtin b =>
      cases b with
      | len =>
        simp only [opW] at h
        have hone : ∀ bb, lenA P { callee := .builtin .len, args, argTypes := tys } = some bb → ∃ x t, args = #[x] ∧ tys = #[t] ∧ lenT P t = some bb := by
          intro bb hl
          unfold lenA at hl
          split at hl
          · rename_i hc
            obtain ⟨h1, h2⟩ := hc
            simp only at h1 h2
            obtain ⟨x, rfl⟩ : ∃ x, args = #[x] := ⟨args[0], by apply Array.ext <;> simp_all⟩
            obtain ⟨t, rfl⟩ : ∃ t, tys = #[t] := ⟨tys[0], by apply Array.ext <;> simp_all⟩
            exact ⟨x, t, rfl, rfl, hl⟩
          · cases hl
        split at h
        · rename_i hl
          obtain ⟨x, t, rfl, rfl, hl'⟩ := hone _ hl
          have hu : P.underlying t = some .string := by
            unfold lenT at hl'; split at hl' <;> first | assumption | cases hl'
          unfold lenStr at h
          split at h
          · rename_i s hx
            refine K_v (s := Builtin.len_ #[t] ty (#[x].map ρ)) (w' := w) ?_ h
            have hx : ρ x = .string s := hx
            simp [Builtin.len_, Sem.run_bind', run_und hu, hx, run_pure', goInt]
          · exact h.elim
        · rename_i hl
          obtain ⟨x, t, rfl, rfl, hl'⟩ := hone _ hl
          have hu : ∃ e, P.underlying t = some (.slice e) := by
            unfold lenT at hl'; split at hl' <;> first | exact ⟨_, by assumption⟩ | cases hl'
          obtain ⟨e, hu⟩ := hu
          unfold lenP at h
          split at h
          · rename_i a n c hx
            refine K_v (s := Builtin.len_ #[t] ty (#[x].map ρ)) (w' := w) ?_ h
            have hx : ρ x = .slice a n c := hx
            simp [Builtin.len_, Sem.run_bind', run_und hu, hx, run_pure', goInt]
          · exact h.elim
        · exact K_sem (s := Builtin.len_ tys ty (args.map ρ)) h
      | append => exact K_sem (s := Builtin.append_ tys ty (args.map ρ)) h
      | cap => exact K_sem (s := Builtin.cap_ tys ty (args.map ρ)) h
      | copy => exact K_sem (s := Builtin.copy_ tys ty (args.map ρ)) h
      | delete => exact K_sem (s := Builtin.delete_ tys ty (args.map ρ)) h
      | clear => exact K_sem (s := Builtin.clear_ tys ty (args.map ρ)) h
      | min => exact K_pure (s := Builtin.min_ tys ty (args.map ρ)) h
      | max => exact K_pure (s := Builtin.max_ tys ty (args.map ρ)) h
      | _ => exact h.elim
  | makeInterface t x => exact K_sem h
  | ready g => exact K_semu h
  | waits g => exact K_sem h
  | _ => exact h.elim

end
end Go.Eng

/-! Regions that draw their order: first part (n operations: they float, or come alone) and suffix (each waits for the whole first part). -/
namespace Go.Eng
open Go
section
variable {P : Program} {ops : Array Oper} {Q : Exit → Act → World → Prop} {S : World → Prop} {n : Nat}

/-- no operation from n on is listed -/
def noX (n : Nat) (listed : Array Bool) : Prop := ∀ j, n ≤ j → listed.getD j false = false

/-- Whatever order is picked from here on; S holds behind every operation of the first part, as long as none of the suffix has come. -/
def wpAnyN (P : Program) (ops : Array Oper) (Q : Exit → Act → World → Prop) (S : World → Prop) (n : Nat) : Nat → Array Bool → Act → World → Prop
  | 0, listed, a, w => Region.ready .any ops listed = [] ∧ Q .normal a w
  | fuel + 1, listed, a, w =>
    (Region.ready .any ops listed = [] → Q .normal a w) ∧
    ∀ i ∈ Region.ready .any ops listed, wpOp P ops Q i (fun a' w' => (i < n → noX n listed → S w') ∧ wpAnyN P ops Q S n fuel (listed.setIfInBounds i true) a' w') a w

theorem wpAny_of_N : ∀ (fuel : Nat) (listed : Array Bool) (a : Act) (w : World), wpAnyN P ops Q S n fuel listed a w → wpAny P .any ops Q fuel listed a w
  | 0, _, _, _, h => h
  | fuel + 1, _, _, _, h => ⟨h.1, fun i hi => wpOp_mono (fun _ _ h' => wpAny_of_N fuel _ _ _ h'.2) (h.2 i hi)⟩

/-- each operation from n on waits for operation k -/
def waitB (ops : Array Oper) (n k : Nat) : Bool :=
  (List.range ops.size).all fun j => decide (j < n) || match ops[j]? with
    | some o => o.after.any fun e => Region.binds .any e && e.on == k
    | none => true

theorem waitB_spec {k : Nat} (h : waitB ops n k = true) {j : Nat} {oj : Oper} (hj : ops[j]? = some oj) (hjn : n ≤ j) :
    ∃ e ∈ oj.after, Region.binds .any e = true ∧ e.on = k := by
  have hjs : j < ops.size := by
    rcases Nat.lt_or_ge j ops.size with h | h
    · exact h
    · simp [Array.getElem?_eq_none h] at hj
  simp only [waitB, List.all_eq_true, List.mem_range, Bool.or_eq_true, decide_eq_true_eq] at h
  have h1 := (h j hjs).resolve_left (by omega)
  simp only [hj] at h1
  simp only [Array.any_eq_true, Bool.and_eq_true, beq_iff_eq] at h1
  obtain ⟨i, hi, h2, h3⟩ := h1
  exact ⟨_, Array.getElem_mem hi, h2, h3⟩

theorem noX_set {i : Nat} {listed : Array Bool} (h : noX n listed) (hi : i < n) : noX n (listed.setIfInBounds i true) := fun j hj => by
  rw [getD_set_ne false (by omega)]; exact h j hj

/-- An operation of the first part is taken first: it yields its value in every world of S', and S' is trivial, or the whole suffix waits for it. -/
theorem wpAnyN_first {S' : World → Prop} {i : Nat} {oi : Oper} {v : Value} (hi : ops[i]? = some oi) (hin : i < n)
    (hkind : (∀ w, S' w) ∨ (S' = S ∧ waitB ops n i = true))
    (hsel : ∀ (j : Nat) (o : Oper) cs b, ops[j]? = some o → o.op ≠ .select cs b)
    (hQ : ∀ c a w, Q (.panic c) (a.put oi.dst v) w → Q (.panic c) a w) :
    ∀ (fuel : Nat) (listed : Array Bool) (a : Act) (w : World),
      (∀ j oj, ops[j]? = some oj → j ≠ i → listed.getD j true = false → (∀ e ∈ oj.after, Region.binds .any e = true → e.on ≠ i) → oi.apart ops oj = true) →
      i ∈ Region.ready .any ops listed → YieldsIf P ops S' oi v a → S' w → (noX n listed → S w) → ((∀ w, S' w) ∨ noX n listed) →
      wpAnyN P ops Q S n fuel (listed.setIfInBounds i true) (a.put oi.dst v) w → wpAnyN P ops Q S n (fuel + 1) listed a w := by
  intro fuel
  induction fuel with
  | zero =>
    intro listed a w _ hr hy hS' hS hX H
    refine ⟨fun h => (by rw [h] at hr; cases hr), fun j hj => ?_⟩
    by_cases hji : j = i
    · subst hji; exact hy.wpOp hi hS' ⟨fun _ => hS, H⟩
    · have := ready_mono hj hji
      rw [H.1] at this
      cases this
  | succ fuel ih =>
    intro listed a w hfree hr hy hS' hS hX H
    refine ⟨fun h => (by rw [h] at hr; cases hr), fun j hj => ?_⟩
    by_cases hji : j = i
    · subst hji; exact hy.wpOp hi hS' ⟨fun _ => hS, H⟩
    · have h1 := H.2 j (ready_mono hj hji)
      obtain ⟨hjun, oj, hoj, hall⟩ := mem_ready.1 hj
      have hnot : ∀ e ∈ oj.after, Region.binds .any e = true → e.on ≠ i := fun e he hb heq => by
        have h1 := hall e he hb
        have h0 := (mem_ready.1 hr).1
        rw [heq] at h1
        rcases Nat.lt_or_ge i listed.size with h' | h'
        · simp [h'] at h0 h1; rw [h0] at h1; cases h1
        · simp [Array.getElem?_eq_none h'] at h1
      have hjs : j < listed.size := by
        rcases Nat.lt_or_ge j listed.size with h' | h'
        · exact h'
        · simp [Array.getElem?_eq_none h'] at hjun
      have h2 := wpOp_putIf hoj (hfree j oj hoj hji hjun hnot) (fun cs b => hsel i oi cs b hi) (fun cs b => hsel j oj cs b hoj) hQ hy h1
      have hfree' : ∀ k ok, ops[k]? = some ok → k ≠ i → (listed.setIfInBounds j true).getD k true = false →
          (∀ e ∈ ok.after, Region.binds .any e = true → e.on ≠ i) → oi.apart ops ok = true := fun k ok hk hki hun hno => by
        refine hfree k ok hk hki ?_ hno
        by_cases hjk : j = k
        · subst hjk; exact hjun
        · rw [getD_set_ne true hjk] at hun; exact hun
      have hSj : ∀ w', (j < n → noX n (listed.setIfInBounds i true) → S w') → noX n (listed.setIfInBounds j true) → S w' := fun w' hd hx => by
        rcases Nat.lt_or_ge j n with hjn | hjn
        · refine hd hjn (noX_set ?_ hin)
          intro k hk
          have := hx k hk
          rwa [getD_set_ne false (by omega)] at this
        · have := hx j hjn
          simp [hjs] at this
      refine wpOp_mono (fun a' w' h3 => ?_) h2
      have hS'w : S' w' := by
        rcases hkind with h | ⟨h, hwt⟩
        · exact h w'
        · rcases hX with h' | h'
          · exact h' w'
          · have hjn : j < n := by
              rcases Nat.lt_or_ge j n with h | h
              · exact h
              · obtain ⟨e, he, hb, ho⟩ := waitB_spec hwt hoj h
                exact absurd ho (hnot e he hb)
            rw [h]
            exact h3.2.1 hjn (noX_set h' hin)
      have hX' : (∀ w, S' w) ∨ noX n (listed.setIfInBounds j true) := by
        rcases hkind with h | ⟨h, hwt⟩
        · exact .inl h
        · rcases hX with h' | h'
          · exact .inl h'
          · have hjn : j < n := by
              rcases Nat.lt_or_ge j n with h | h
              · exact h
              · obtain ⟨e, he, hb, ho⟩ := waitB_spec hwt hoj h
                exact absurd ho (hnot e he hb)
            exact .inr (noX_set h' hjn)
      refine ⟨fun hjn hx => h3.2.1 hjn (noX_set hx hin), ih (listed.setIfInBounds j true) a' w' hfree' (ready_mono hr (Ne.symm hji)) h3.1 hS'w (hSj w' h3.2.1) hX' ?_⟩
      rw [Array.setIfInBounds_comm _ _ hji]
      exact h3.2.2

end
end Go.Eng

/-! Operations that only look: one value in every world of S. -/
namespace Go.Eng
open Go

/-- loads that hold in every world of S -/
def ldS (S : World → Prop) (a : Value) (k : Value → Prop) : Prop :=
  match a with | .pointer (some ad) => ∃ v, (∀ w, S w → w.cell? ad = some v) ∧ k v | _ => False

def ldAS (S : World → Prop) (n : Nat) (a : Value) (k : Value → Prop) : Prop :=
  match a with
  | .pointer (some ad) => ∃ cs : List Value, cs.length = n ∧ (∀ w, S w → ∀ i v, cs[i]? = some v → w.cell? (ad.add i) = some v) ∧ k (.agg cs.toArray)
  | _ => False

/-- One operation that only looks, its loads by `l1`, `lA`. -/
def opF (P : Program) (ρ : Operand → Value) (l1 : Value → (Value → Prop) → Prop) (lA : Nat → Value → (Value → Prop) → Prop) (ty : TypeId) (k : Value → Prop) : Op → Prop
  | .move x => k (ρ x)
  | .assign x => k (ρ x)
  | .pick c a b => pickP (ρ c) (ρ a) (ρ b) k
  | .build t parts => pureP P (Instr.build t (parts.map fun (i, x) => (i, ρ x))) k
  | .load t a => match lay P t with
    | some none => l1 (ρ a) k
    | some (some n) => lA n (ρ a) k
    | none => False
  | .nilCheck x => nilP (ρ x) k
  | .binOp op t x y _ =>
    if plainT P t && plainB op then binP op (ρ x) (ρ y) k
    else pureP P (do eqGuard op t x y (ρ x) (ρ y); binOp op t (ρ x) (ρ y)) k
  | .unOp .not _ x => notP (ρ x) k
  | .unOp op _ x => pureP P (Op.unary op (ρ x)) k
  | .convert s d x => match intOfT P s, intOfT P d with
    | some _, some kd => convI kd (ρ x) k
    | _, _ => False
  | .makeFunc fn first captured => k (.func fn (first.map ρ) (captured.map ρ))
  | .slice t x lo hi mx => pureP P (Instr.sliceAt t (ρ x) (lo.map ρ) (hi.map ρ) (mx.map ρ)) k
  | .fieldAddr s x f => match fieldOf P s f with
    | some fd => if P.cellsOf fd.type = 0 then False else offP fd.offset (ρ x) k
    | none => False
  | .field s x f => match fieldOf P s f with
    | some fd => match lay P fd.type with
      | some none => fld1 fd.offset (ρ x) k
      | some (some n) => fldA fd.offset n (ρ x) k
      | none => False
    | none => False
  | .indexAddr t x ix => match elemSz P t with
    | some n => idxP n (ρ x) (ρ ix) k
    | none => False
  | .index t x ix => if isStr P t then strIx (ρ x) (ρ ix) k else False
  | .extract t ix => exP ix (ρ t) k
  | .call c => match c.callee with
    | .builtin .len => match lenA P c with
      | some true => lenStr (ρ (c.args.getD 0 (.const undef))) k
      | some false => lenP (ρ (c.args.getD 0 (.const undef))) k
      | none => False
    | .builtin .min => pureP P (Builtin.min_ c.argTypes ty (c.args.map ρ)) k
    | .builtin .max => pureP P (Builtin.max_ c.argTypes ty (c.args.map ρ)) k
    | _ => False
  | _ => False

/-- operations that `opF` serves -/
def isQ : Op → Bool
  | .move _ | .assign _ | .pick .. | .build .. | .load .. | .nilCheck _ | .binOp .. | .unOp .. | .convert .. | .makeFunc .. | .slice .. | .fieldAddr .. | .field ..
  | .indexAddr .. | .index .. | .extract .. => true
  | .call { callee := .builtin .len, .. } | .call { callee := .builtin .min, .. } | .call { callee := .builtin .max, .. } => true
  | _ => false

/-- of them those that do not look at memory -/
def isNW : Op → Bool
  | .load .. => false
  | op => isQ op

section
variable {P : Program} {S : World → Prop}

theorem opF_nw {ρ : Operand → Value} {l1 l1' : Value → (Value → Prop) → Prop} {lA lA' : Nat → Value → (Value → Prop) → Prop} {ty : TypeId} {k : Value → Prop} {op : Op}
    (hn : isNW op = true) (h : opF P ρ l1 lA ty k op) : opF P ρ l1' lA' ty k op := by
  cases op with
  | load t a => simp [isNW] at hn
  | unOp u t x => cases u <;> exact h
  | call c => obtain ⟨callee, args, tys⟩ := c; cases callee <;> exact h
  | _ => exact h

theorem run_v {s : Sem Value} {v : Value} {w : World} (h : s.run P w = .ok v w) : (do let x ← s; pure (Next.value x) : Sem Next).run P w = .ok (.value v) w := by
  rw [Sem.run_bind', h]; rfl

theorem F_pure {s : Sem Value} {k : Value → Prop} (h : pureP P s k) : ∃ v, k v ∧ ∀ w, S w → (do let x ← s; pure (Next.value x) : Sem Next).run P w = .ok (.value v) w := by
  obtain ⟨v, h1, h2⟩ := h
  exact ⟨v, h2, fun w _ => run_v (h1 w)⟩

theorem opF_run {ρ : Operand → Value} {o : Oper} {k : Value → Prop} (h : opF P ρ (ldS S) (ldAS S) o.type k o.op) :
    ∃ v, k v ∧ ∀ w, S w → (execOp ρ o).run P w = .ok (.value v) w := by
  obtain ⟨dst, op, ty, pos, after, guard⟩ := o
  simp only at h
  cases op with
  | move x => exact ⟨_, h, fun _ _ => rfl⟩
  | assign x => exact ⟨_, h, fun _ _ => rfl⟩
  | pick c a b =>
    simp only [opF, pickP] at h
    split at h <;> rename_i hc
    · exact ⟨_, h, fun w _ => by simp only [execOp]; rw [hc]; rfl⟩
    · exact ⟨_, h, fun w _ => by simp only [execOp]; rw [hc]; rfl⟩
    · exact h.elim
  | build t parts => exact F_pure h
  | load t a =>
    simp only [opF] at h
    split at h
    · rename_i hl
      unfold ldS at h
      split at h
      · rename_i ad ha
        obtain ⟨v, hv, hk⟩ := h
        refine ⟨v, hk, fun w hS => run_v ?_⟩
        simp [Instr.loadAt, Sem.run_bind', ha, Instr.sureAddr, run_pure', run_loadVar_one hl (hv w hS)]
      · exact h.elim
    · rename_i n hl
      unfold ldAS at h
      split at h
      · rename_i ad ha
        obtain ⟨cs, hn, hv, hk⟩ := h
        refine ⟨_, hk, fun w hS => run_v ?_⟩
        simp [Instr.loadAt, Sem.run_bind', ha, Instr.sureAddr, run_pure', run_loadVar_many hl hn (hv w hS)]
      · exact h.elim
    · exact h.elim
  | nilCheck x =>
    simp only [opF, nilP] at h
    split at h
    · rename_i a ha; exact ⟨_, h, fun w _ => by simp only [execOp]; rw [ha]; rfl⟩
    · rename_i f a b ha; exact ⟨_, h, fun w _ => by simp only [execOp]; rw [ha]; rfl⟩
    · exact h.elim
  | binOp op t x y t' =>
    simp only [opF] at h
    split at h
    · rename_i hp
      simp only [Bool.and_eq_true] at hp
      obtain ⟨v, hv, hk⟩ := h
      exact ⟨v, hk, fun w _ => run_v (run_binOp_plain hp.2 hv)⟩
    · exact F_pure h
  | unOp op t x =>
    cases op with
    | not =>
      simp only [opF, notP] at h
      split at h
      · rename_i b hb
        exact ⟨_, h, fun w _ => run_v (by rw [hb]; rfl)⟩
      · exact h.elim
    | _ => exact F_pure h
  | convert s d x =>
    simp only [opF] at h
    split at h
    · rename_i ks kd hs hd
      unfold convI at h
      split at h
      · rename_i k n hx
        have hs' : ∃ k, P.underlying s = some (.int k) := by
          unfold intOfT at hs; split at hs
          · exact ⟨_, by assumption⟩
          · cases hs
        have hd' : P.underlying d = some (.int kd) := by
          unfold intOfT at hd; split at hd
          · cases hd; assumption
          · cases hd
        obtain ⟨k', hs'⟩ := hs'
        refine ⟨_, h, fun w _ => run_v ?_⟩
        rw [hx, convert, Sem.run_bind', run_und hs']
        simp only []
        rw [Sem.run_bind', run_und hd']
        rfl
      · exact h.elim
    · exact h.elim
  | makeFunc fn a b => exact ⟨_, h, fun w _ => rfl⟩
  | slice t x lo hi mx => exact F_pure h
  | fieldAddr s x f =>
    simp only [opF] at h
    split at h
    · rename_i fd hf
      split at h
      · exact h.elim
      · rename_i h0
        unfold offP at h
        split at h
        · rename_i a ha
          obtain ⟨fs, hfs, hg⟩ := fieldOf_some hf
          refine ⟨_, h, fun w _ => run_v ?_⟩
          have hsz : (sizeOf fd.type).run P w = .ok (P.cellsOf fd.type) w := by
            unfold Program.cellsOf at *
            cases hi : P.info? fd.type with
            | none => simp [hi] at h0
            | some i => simp [run_size hi]
          simp [Instr.fieldAt, Sem.run_bind', run_und hfs, hg, ha, Instr.sureAddr, run_pure', fieldPlace, hsz, h0]
        · exact h.elim
    · exact h.elim
  | field s x f =>
    simp only [opF] at h
    split at h
    · rename_i fd hf
      obtain ⟨fs, hfs, hg⟩ := fieldOf_some hf
      split at h
      · rename_i hl
        unfold fld1 at h
        split at h
        · rename_i cs hx
          obtain ⟨v, hv, hk⟩ := h
          refine ⟨_, hk, fun w _ => run_v ?_⟩
          simp [Instr.field, Sem.run_bind', run_und hfs, hg, hx, asAgg, run_pure', run_part_one hl hv]
        · exact h.elim
      · rename_i n hl
        unfold fldA at h
        split at h
        · rename_i cs hx
          refine ⟨_, h, fun w _ => run_v ?_⟩
          simp [Instr.field, Sem.run_bind', run_und hfs, hg, hx, asAgg, run_pure', run_part_many hl]
        · exact h.elim
      · exact h.elim
    · exact h.elim
  | indexAddr t x ix =>
    simp only [opF] at h
    split at h
    · rename_i n he
      obtain ⟨e, i0, hu, hi0, hn⟩ : ∃ e i0, P.underlying t = some (.slice e) ∧ P.info? e = some i0 ∧ i0.size = n := by
        unfold elemSz at he; split at he
        · rename_i e hu
          cases hi : P.info? e with
          | none => simp [hi] at he
          | some i0 => exact ⟨e, i0, hu, hi, by simpa [hi] using he⟩
        · cases he
      unfold idxP at h
      split at h
      · rename_i a len cap k i hx hi
        obtain ⟨hb, hk⟩ := h
        refine ⟨_, hk, fun w _ => run_v ?_⟩
        simp [Instr.indexAt, Sem.run_bind', hx, hi, asIntOf, run_pure', run_und hu, hb, run_size hi0, hn]
      · exact h.elim
    · exact h.elim
  | index t x ix =>
    simp only [opF] at h
    split at h
    · rename_i hs
      have hu : P.underlying t = some .string := by
        unfold isStr at hs; split at hs
        · assumption
        · cases hs
      unfold strIx at h
      split at h
      · rename_i s k i hx hi
        obtain ⟨b, ⟨h0, hb⟩, hk⟩ := h
        refine ⟨_, hk, fun w _ => run_v ?_⟩
        simp [Instr.index, Sem.run_bind', hx, hi, asIntOf, run_pure', run_und hu, h0, hb]
      · exact h.elim
    · exact h.elim
  | extract t ix =>
    simp only [opF, exP] at h
    split at h
    · rename_i vs ht
      obtain ⟨v, hv, hk⟩ := h
      refine ⟨_, hk, fun w _ => run_v ?_⟩
      simp [Instr.extract, ht, hv, run_pure']
    · exact h.elim
  | call c =>
    obtain ⟨callee, args, tys⟩ := c
    cases callee with
    | value f => exact h.elim
    | invoke r m => exact h.elim
    | builtin b =>
      cases b with
      | len =>
        simp only [opF] at h
        have hone : ∀ bb, lenA P { callee := .builtin .len, args, argTypes := tys } = some bb → ∃ x t, args = #[x] ∧ tys = #[t] ∧ lenT P t = some bb := by
          intro bb hl
          unfold lenA at hl
          split at hl
          · rename_i hc
            obtain ⟨h1, h2⟩ := hc
            simp only at h1 h2
            obtain ⟨x, rfl⟩ : ∃ x, args = #[x] := ⟨args[0], by apply Array.ext <;> simp_all⟩
            obtain ⟨t, rfl⟩ : ∃ t, tys = #[t] := ⟨tys[0], by apply Array.ext <;> simp_all⟩
            exact ⟨x, t, rfl, rfl, hl⟩
          · cases hl
        split at h
        · rename_i hl
          obtain ⟨x, t, rfl, rfl, hl'⟩ := hone _ hl
          have hu : P.underlying t = some .string := by
            unfold lenT at hl'; split at hl' <;> first | assumption | cases hl'
          unfold lenStr at h
          split at h
          · rename_i s hx
            have hx : ρ x = .string s := hx
            refine ⟨_, h, fun w _ => run_v (s := Builtin.len_ #[t] ty (#[x].map ρ)) ?_⟩
            simp [Builtin.len_, Sem.run_bind', run_und hu, hx, run_pure', goInt]
          · exact h.elim
        · rename_i hl
          obtain ⟨x, t, rfl, rfl, hl'⟩ := hone _ hl
          have hu : ∃ e, P.underlying t = some (.slice e) := by
            unfold lenT at hl'; split at hl' <;> first | exact ⟨_, by assumption⟩ | cases hl'
          obtain ⟨e, hu⟩ := hu
          unfold lenP at h
          split at h
          · rename_i a n c hx
            have hx : ρ x = .slice a n c := hx
            refine ⟨_, h, fun w _ => run_v (s := Builtin.len_ #[t] ty (#[x].map ρ)) ?_⟩
            simp [Builtin.len_, Sem.run_bind', run_und hu, hx, run_pure', goInt]
          · exact h.elim
        · exact h.elim
      | min => exact F_pure (s := Builtin.min_ tys ty (args.map ρ)) h
      | max => exact F_pure (s := Builtin.max_ tys ty (args.map ρ)) h
      | _ => exact h.elim
  | _ => exact h.elim

end
end Go.Eng

/-! Regions. -/
namespace Go.Eng
open Go

def dstOf (ops : Array Oper) (j : Nat) : Option Tmp := (ops[j]?).bind (·.dst)

def look (kn : List (Nat × Bool)) (j : Nat) : Option Bool := (kn.find? fun p => p.1 == j).map (·.2)

/-- the temporaries of guards that were passed over stay -/
def clearOf (ops : Array Oper) (sk : List Nat) (d : Option Tmp) : Bool :=
  match d with
  | none => true
  | some d => sk.all fun j => dstOf ops j != some d

/-- what is known of slots, behind a store into one -/
def delK (kn : List (Nat × Bool)) : Option Tmp → List (Nat × Bool)
  | none => kn
  | some d => kn.filter fun p => p.1 != d

def addK (kn : List (Nat × Bool)) (d : Option Tmp) (b : Bool) : List (Nat × Bool) :=
  match d with
  | none => kn
  | some d => (d, b) :: delK kn (some d)

def litO (kn : List (Nat × Bool)) : Operand → Option Bool
  | .const (.bool b) => some b
  | .tmp t => look kn t
  | _ => none

/-- an operation whose value is known by the text -/
def litOf (kn : List (Nat × Bool)) : Op → Option Bool
  | .move x => litO kn x
  | .pick c a b => match litO kn c with
    | some true => litO kn a
    | some false => litO kn b
    | none => none
  | _ => none

def guardP (gv : Value) (want : Bool) (A B : Prop) : Prop :=
  match gv with
  | .bool b => (b = want → A) ∧ (b = !want → B)
  | _ => False

/-- One operation is carried out. -/
def xStep (step : Fr → (Value → World → Prop) → Prop) (cont : List (Nat × Bool) → List Nat → Fr → World → Prop)
    (kn : List (Nat × Bool)) (sk : List Nat) (o : Oper) (fr : Fr) (w : World) : Prop :=
  match litOf kn o.op with
  | some b => cont (addK kn o.dst b) sk (putF fr o.dst (.bool b)) w
  | none => step fr fun v w' => cont (delK kn o.dst) sk (putF fr o.dst v) w'

/-- One operation with its guard; `step`: what it comes to in a frame; `cont`: what follows. -/
def gStep (ops : Array Oper) (step : Fr → (Value → World → Prop) → Prop) (cont : List (Nat × Bool) → List Nat → Fr → World → Prop)
    (kn : List (Nat × Bool)) (sk : List Nat) (i : Nat) (o : Oper) (fr : Fr) (w : World) : Prop :=
  if clearOf ops sk o.dst then
    match o.guard with
    | none => xStep step cont kn sk o fr w
    | some (j, want) =>
      if sk.contains j then cont (delK kn o.dst) (i :: sk) (putF fr o.dst undef) w
      else match dstOf ops j with
        | none => False
        | some d => match look kn d with
          | some b =>
            if b == want then xStep step cont kn sk o fr w
            else cont (delK kn o.dst) (i :: sk) (putF fr o.dst undef) w
          | none =>
            guardP (fr.getD d undef) want
              (xStep step cont ((d, want) :: kn) sk o (fr.set d (.bool want)) w)
              (cont (delK ((d, !want) :: kn) o.dst) (i :: sk) (putF (fr.set d (.bool !want)) o.dst undef) w)
  else False

/-- The operations of a region in the order of the text; `step`: what one comes to. -/
def runW (ops : Array Oper) (step : Oper → World → Fr → (Value → World → Prop) → Prop) (K : Fr → World → Prop) :
    Nat → List (Nat × Bool) → List Nat → List Oper → Fr → World → Prop
  | _, _, _, [], fr, w => K fr w
  | i, kn, sk, o :: r, fr, w => gStep ops (step o w) (fun kn' sk' fr' w' => runW ops step K (i + 1) kn' sk' r fr' w') kn sk i o fr w

/-- frames that agree outside of some slots -/
structure Agree (ms : List Nat) (fr fr' : Fr) : Prop where
  len : fr'.length = fr.length
  eq : ∀ i, i ∉ ms → fr'.getD i undef = fr.getD i undef

theorem Agree.refl (ms : List Nat) (fr : Fr) : Agree ms fr fr := ⟨rfl, fun _ _ => rfl⟩
theorem Agree.trans {ms : List Nat} {a b c : Fr} (h : Agree ms a b) (k : Agree ms b c) : Agree ms a c :=
  ⟨k.len.trans h.len, fun i hi => (k.eq i hi).trans (h.eq i hi)⟩
theorem Agree.mono {ms ms' : List Nat} {a b : Fr} (h : Agree ms a b) (hs : ∀ i, i ∈ ms → i ∈ ms') : Agree ms' a b :=
  ⟨h.len, fun i hi => h.eq i fun hm => hi (hs i hm)⟩

theorem getD_set_ne' {fr : Fr} {d i : Nat} {v : Value} (h : d ≠ i) : (fr.set d v).getD i undef = fr.getD i undef := by
  simp [List.getD, List.getElem?_set, h]

theorem Agree.put {ms : List Nat} (fr : Fr) (d : Option Tmp) (v : Value) (h : ∀ t, d = some t → t ∈ ms) : Agree ms fr (putF fr d v) := by
  cases d with
  | none => exact Agree.refl _ _
  | some t =>
    refine ⟨by simp [putF], fun i hi => ?_⟩
    exact getD_set_ne' fun e => hi (e ▸ h t rfl)

theorem set_same {fr : Fr} {d : Nat} {v : Value} (h : fr.getD d undef = v) : fr.set d v = fr := by
  apply List.ext_getElem?
  intro i
  rw [List.getElem?_set]
  split
  · rename_i hd
    subst hd
    split
    · rename_i hl
      simp [List.getD, List.getElem?_eq_getElem hl] at h
      simp [List.getElem?_eq_getElem hl, h]
    · rename_i hl
      simp [List.getElem?_eq_none (Nat.le_of_not_lt hl)]
  · rfl

def GInv (ops : Array Oper) (kn : List (Nat × Bool)) (sk : List Nat) (fr : Fr) : Prop :=
  (∀ p ∈ kn, fr.getD p.1 undef = .bool p.2) ∧ ∀ j ∈ sk, yielded ops fr.toArray j = none

theorem yielded_put {ops : Array Oper} {fr : Fr} {d : Option Tmp} {v : Value} {j : Nat} (h : ∀ t, d = some t → dstOf ops j ≠ some t) :
    yielded ops (putF fr d v).toArray j = yielded ops fr.toArray j := by
  cases d with
  | none => rfl
  | some t =>
    have := h t rfl
    unfold dstOf at this
    unfold yielded
    cases hj : (ops[j]?).bind (·.dst) with
    | none => rfl
    | some u =>
      rw [hj] at this
      have hne : t ≠ u := fun e => this (by rw [e])
      simp only [Option.bind_some, putF, List.getElem?_toArray, List.getElem?_set, hne, if_false]

theorem clearOf_spec {ops : Array Oper} {sk : List Nat} {d : Option Tmp} (h : clearOf ops sk d = true) :
    ∀ j ∈ sk, ∀ t, d = some t → dstOf ops j ≠ some t := by
  cases d with
  | none => exact fun _ _ _ h => by simp at h
  | some d =>
    simp only [clearOf, List.all_eq_true, bne_iff_ne] at h
    exact fun j hj t ht => by cases ht; exact h j hj

theorem getD_put_ne {fr : Fr} {d : Option Tmp} {t : Nat} {v : Value} (h : d ≠ some t) : (putF fr d v).getD t undef = fr.getD t undef := by
  cases d with
  | none => rfl
  | some u => exact getD_set_ne' fun e => h (by rw [e])

theorem delK_mem {kn : List (Nat × Bool)} {d : Option Tmp} {p : Nat × Bool} (h : p ∈ delK kn d) : p ∈ kn ∧ d ≠ some p.1 := by
  cases d with
  | none => exact ⟨h, by simp⟩
  | some d =>
    simp only [delK, List.mem_filter, bne_iff_ne, ne_eq] at h
    exact ⟨h.1, fun e => h.2 (by cases e; rfl)⟩

theorem GInv.put {ops : Array Oper} {kn : List (Nat × Bool)} {sk : List Nat} {fr : Fr} (h : GInv ops kn sk fr) {d : Option Tmp} (hc : clearOf ops sk d = true) (v : Value) :
    GInv ops (delK kn d) sk (putF fr d v) := by
  have h2 := clearOf_spec hc
  exact ⟨fun p hp => by rw [getD_put_ne (delK_mem hp).2]; exact h.1 p (delK_mem hp).1, fun j hj => by rw [yielded_put (h2 j hj)]; exact h.2 j hj⟩

theorem GInv.putLit {ops : Array Oper} {kn : List (Nat × Bool)} {sk : List Nat} {fr : Fr} (h : GInv ops kn sk fr) {d : Option Tmp} (hc : clearOf ops sk d = true) (b : Bool)
    (hl : ∀ t, d = some t → t < fr.length) : GInv ops (addK kn d b) sk (putF fr d (.bool b)) := by
  have h' := h.put hc (.bool b)
  cases d with
  | none => exact h'
  | some t =>
    refine ⟨fun p hp => ?_, h'.2⟩
    cases hp with
    | head => simp [putF, List.getD, hl t rfl]
    | tail _ hm => exact h'.1 p hm

theorem yielded_undef {ops : Array Oper} {i : Nat} {o : Oper} (ho : ops[i]? = some o) (fr : Fr) : yielded ops (putF fr o.dst undef).toArray i = none := by
  unfold yielded
  simp only [ho, Option.bind_some]
  cases hd : o.dst with
  | none => rfl
  | some t =>
    simp only [Option.bind_some, putF, List.getElem?_toArray, List.getElem?_set, if_true]
    split <;> simp_all [undef]

theorem GInv.skip {ops : Array Oper} {kn : List (Nat × Bool)} {sk : List Nat} {fr : Fr} (h : GInv ops kn sk fr) {i : Nat} {o : Oper} (ho : ops[i]? = some o)
    (hc : clearOf ops sk o.dst = true) : GInv ops (delK kn o.dst) (i :: sk) (putF fr o.dst undef) := by
  have h' := h.put hc undef
  refine ⟨h'.1, fun j hj => ?_⟩
  cases hj with
  | head => exact yielded_undef ho fr
  | tail _ hm => exact h'.2 j hm

theorem look_mem {kn : List (Nat × Bool)} {j : Nat} {b : Bool} (h : look kn j = some b) : (j, b) ∈ kn := by
  unfold look at h
  cases hf : kn.find? (fun p => p.1 == j) with
  | none => simp [hf] at h
  | some p =>
    simp only [hf, Option.map_some, Option.some.injEq] at h
    have h1 := List.mem_of_find?_eq_some hf
    have h2 := List.find?_some hf
    simp at h2
    rw [← h2, ← h]; exact h1

theorem yielded_of_slot {ops : Array Oper} {fr : Fr} {j d : Nat} {b : Bool} (hd : dstOf ops j = some d) (hv : fr.getD d undef = .bool b) :
    yielded ops fr.toArray j = some b := by
  unfold dstOf at hd
  unfold yielded
  simp only [hd, Option.bind_some, List.getElem?_toArray]
  simp only [List.getD] at hv
  cases hx : fr[d]? with
  | none => simp [hx, undef] at hv
  | some v => simp [hx] at hv; rw [hv]

theorem litO_spec {ops : Array Oper} {kn : List (Nat × Bool)} {sk : List Nat} {fr : Fr} (hg : GInv ops kn sk fr) {x : Operand} {b : Bool} (h : litO kn x = some b) : ev fr x = .bool b := by
  unfold litO at h
  split at h
  · cases h; rfl
  · exact hg.1 _ (look_mem h)
  · cases h

theorem litOf_spec {P : Program} {ops : Array Oper} {kn : List (Nat × Bool)} {sk : List Nat} {fr : Fr} (hg : GInv ops kn sk fr) {o : Oper} {b : Bool} (h : litOf kn o.op = some b) (w : World) :
    (execOp (ev fr) o).run P w = .ok (.value (.bool b)) w := by
  obtain ⟨dst, op, ty, pos, after, guard⟩ := o
  cases op with
  | move x =>
    have := litO_spec hg (x := x) h
    simp [execOp, this, run_pure']
  | pick c x y =>
    simp only [litOf] at h
    split at h
    · rename_i hc
      have h1 := litO_spec hg hc
      have h2 := litO_spec hg h
      simp [execOp, h1, h2, asBool, Sem.run_bind', run_pure']
    · rename_i hc
      have h1 := litO_spec hg hc
      have h2 := litO_spec hg h
      simp [execOp, h1, h2, asBool, Sem.run_bind', run_pure']
    · cases h
  | _ => cases h

section
variable {P : Program} {ops : Array Oper} {step : Fr → (Value → World → Prop) → Prop} {cont : List (Nat × Bool) → List Nat → Fr → World → Prop}
    {kn : List (Nat × Bool)} {sk : List Nat} {i : Nat} {o : Oper} {fr : Fr} {w : World} {N : Fr → World → Prop} {T : Prop}

theorem xStep_sound (hg : GInv ops kn sk fr) (hc : clearOf ops sk o.dst = true) (hlen : ∀ t, o.dst = some t → t < fr.length) (h : xStep step cont kn sk o fr w)
    (hcont : ∀ kn' sk' v w', GInv ops kn' sk' (putF fr o.dst v) → cont kn' sk' (putF fr o.dst v) w' → N (putF fr o.dst v) w')
    (hexec : ∀ k, step fr k → (∀ v w', k v w' → N (putF fr o.dst v) w') → T)
    (hlit : ∀ b, (∀ w', (execOp (ev fr) o).run P w' = .ok (.value (.bool b)) w') → N (putF fr o.dst (.bool b)) w → T) : T := by
  unfold xStep at h
  split at h
  · rename_i b hb
    exact hlit b (litOf_spec hg hb) (hcont _ _ _ _ (hg.putLit hc b hlen) h)
  · exact hexec _ h fun v w' hk => hcont _ _ _ _ (hg.put hc v) hk

theorem gStep_sound (ho : ops[i]? = some o) (hg : GInv ops kn sk fr) (hlen : ∀ t, o.dst = some t → t < fr.length) (h : gStep ops step cont kn sk i o fr w)
    (hcont : ∀ kn' sk' v w', GInv ops kn' sk' (putF fr o.dst v) → cont kn' sk' (putF fr o.dst v) w' → N (putF fr o.dst v) w')
    (hexec : Region.wanted o (yielded ops fr.toArray) = true → ∀ k, step fr k → (∀ v w', k v w' → N (putF fr o.dst v) w') → T)
    (hlit : Region.wanted o (yielded ops fr.toArray) = true → ∀ b, (∀ w', (execOp (ev fr) o).run P w' = .ok (.value (.bool b)) w') → N (putF fr o.dst (.bool b)) w → T)
    (hskip : Region.wanted o (yielded ops fr.toArray) = false → N (putF fr o.dst undef) w → T) : T := by
  unfold gStep at h
  split at h
  case isFalse => exact h.elim
  rename_i hc
  split at h
  · rename_i hgd
    have hw : Region.wanted o (yielded ops fr.toArray) = true := by simp [Region.wanted, hgd]
    exact xStep_sound hg hc hlen h hcont (hexec hw) (hlit hw)
  · rename_i j want hgd
    have hw : ∀ b, yielded ops fr.toArray j = b → Region.wanted o (yielded ops fr.toArray) = (b == some want) := fun b hb => by
      simp [Region.wanted, hgd, hb]
    split at h
    · rename_i hsk
      have hy := hg.2 j (by simpa using hsk)
      exact hskip (by rw [hw _ hy]; rfl) (hcont _ _ _ _ (hg.skip ho hc) h)
    · split at h
      · exact h.elim
      · rename_i d hd
        split at h
        · rename_i b hb
          have hy := yielded_of_slot hd (hg.1 _ (look_mem hb))
          simp only at hy
          split at h
          · rename_i hbw
            have hbw : b = want := by simpa using hbw
            have hw : Region.wanted o (yielded ops fr.toArray) = true := by rw [hw _ hy, hbw]; simp
            exact xStep_sound hg hc hlen h hcont (hexec hw) (hlit hw)
          · rename_i hbw
            have hbw : b ≠ want := by simpa using hbw
            exact hskip (by rw [hw _ hy]; simp [hbw]) (hcont _ _ _ _ (hg.skip ho hc) h)
        · unfold guardP at h
          split at h
          · rename_i b hgv
            have hy := yielded_of_slot hd hgv
            by_cases hbw : b = want
            · have h1 := h.1 hbw
              have hsame : fr.set d (.bool want) = fr := set_same (by rw [hgv, hbw])
              rw [hsame] at h1
              have hw : Region.wanted o (yielded ops fr.toArray) = true := by rw [hw _ hy, hbw]; simp
              have hg' : GInv ops ((d, want) :: kn) sk fr := ⟨fun p hp => by
                cases hp with
                | head => simpa [hbw] using hgv
                | tail _ hm => exact hg.1 p hm, hg.2⟩
              exact xStep_sound hg' hc hlen h1 hcont (hexec hw) (hlit hw)
            · have hbw' : b = !want := by cases b <;> cases want <;> simp_all
              have h1 := h.2 hbw'
              have hsame : fr.set d (.bool !want) = fr := set_same (by rw [hgv, hbw'])
              rw [hsame] at h1
              have hg' : GInv ops ((d, !want) :: kn) sk fr := ⟨fun p hp => by
                cases hp with
                | head => simpa [hbw'] using hgv
                | tail _ hm => exact hg.1 p hm, hg.2⟩
              exact hskip (by rw [hw _ hy]; simp [hbw]) (hcont _ _ _ _ (hg'.skip ho hc) h1)
          · exact h.elim

end

def dsts (ops : Array Oper) : List Nat := ops.toList.filterMap (·.dst)

theorem mem_dsts {ops : Array Oper} {i : Nat} {o : Oper} {t : Tmp} (ho : ops[i]? = some o) (ht : o.dst = some t) : t ∈ dsts ops := by
  unfold dsts
  rw [List.mem_filterMap]
  exact ⟨o, by simpa using Array.mem_of_getElem? ho, ht⟩

/-! ### in order -/
def stepS (P : Program) (o : Oper) (w : World) (fr : Fr) (k : Value → World → Prop) : Prop := opW P (ev fr) o.type w k o.op

section
variable {P : Program} {ops : Array Oper} {Q : Exit → Act → World → Prop}

theorem opW_sound {o : Oper} {fr : Fr} {w : World} {k : Value → World → Prop} {next : Act → World → Prop} {Q' : Exit → Act → World → Prop}
    (h : opW P (ev fr) o.type w k o.op) (hn : ∀ v w', k v w' → next (actOf (putF fr o.dst v)) w') : o.wp P (actOf fr) w next Q' := by
  unfold Oper.wp
  rw [eval_actOf]
  exact upon_of_K (opW_run h) fun v w' hk => by rw [put_actOf]; exact hn v w' hk

/-- the region's temporaries are slots of the frame -/
def fits (ops : Array Oper) (n : Nat) : Bool := (dsts ops).all fun t => decide (t < n)

theorem fits_spec {n : Nat} (h : fits ops n = true) {i : Nat} {o : Oper} (ho : ops[i]? = some o) {t : Tmp} (ht : o.dst = some t) : t < n := by
  simpa using (List.all_eq_true.1 h) t (mem_dsts ho ht)

theorem runW_sound {K : Fr → World → Prop} {fr0 : Fr} (hf : fits ops fr0.length = true) (hK : ∀ fr' w', Agree (dsts ops) fr0 fr' → K fr' w' → Q .normal (actOf fr') w') :
    ∀ (l : List Oper) (i : Nat) (kn : List (Nat × Bool)) (sk : List Nat) (fr : Fr) (w : World), (∀ t, l[t]? = ops[i + t]?) → Agree (dsts ops) fr0 fr → GInv ops kn sk fr →
      runW ops (stepS P) K i kn sk l fr w → wpOps P ops Q (List.range' i l.length) (actOf fr) w
  | [], i, kn, sk, fr, w, _, hag, _, h => hK fr w hag h
  | o :: r, i, kn, sk, fr, w, hl, hag, hg, h => by
    have ho : ops[i]? = some o := by simpa using (hl 0).symm
    have hl' : ∀ t, r[t]? = ops[i + 1 + t]? := fun t => by have := hl (t + 1); rw [show i + 1 + t = i + (t + 1) from by omega]; simpa using this
    have hput : ∀ v, Agree (dsts ops) fr0 (putF fr o.dst v) := fun v => hag.trans (Agree.put fr o.dst v fun t ht => mem_dsts ho ht)
    rw [List.length_cons, List.range'_succ]
    unfold runW at h
    refine gStep_sound (P := P) (N := fun fr' w' => wpOps P ops Q (List.range' (i + 1) r.length) (actOf fr') w') ho hg (fun t ht => by rw [hag.len]; exact fits_spec hf ho ht) h
      (fun kn' sk' v w' hg' hc => runW_sound hf hK r (i + 1) kn' sk' _ w' hl' (hput v) hg' hc) (fun hw k hs hn => ?_) (fun hw b hrun hn => ?_) (fun hw hn => ?_)
    · unfold wpOps
      simp only [ho]
      rw [if_pos (by exact hw)]
      exact .inl (opW_sound hs hn)
    · unfold wpOps
      simp only [ho]
      rw [if_pos (by exact hw)]
      refine .inl ?_
      unfold Oper.wp
      rw [eval_actOf, hrun w, Oper.upon_value, put_actOf]
      exact hn
    · unfold wpOps
      simp only [ho]
      rw [if_neg (by rw [show Region.wanted o (yielded ops (actOf fr).tmps) = false from hw]; simp), put_actOf]
      exact hn

theorem region_seq {id : Nat} {K : Fr → World → Prop} {fr : Fr} {w : World} (hf : fits ops fr.length = true) (h : runW ops (stepS P) K 0 [] [] ops.toList fr w)
    (hK : ∀ fr' w', Agree (dsts ops) fr fr' → K fr' w' → Q .normal (actOf fr') w') : (Code.region id ops false).wp P Q (actOf fr) w := by
  apply wp_region
  rw [List.range_eq_range']
  have := runW_sound hf hK ops.toList 0 [] [] fr w (fun t => by simp) (Agree.refl _ _) ⟨fun _ h => (by cases h), fun _ h => (by cases h)⟩ h
  simpa using this

end
end Go.Eng

/-! Regions that draw. -/
namespace Go.Eng
open Go

def qAt (ops : Array Oper) (i : Nat) : Bool := match ops[i]? with | some o => isQ o.op | none => false
def nwAt (ops : Array Oper) (i : Nat) : Bool := match ops[i]? with | some o => isNW o.op | none => false
def noXB (ops : Array Oper) (n : Nat) (listed : Array Bool) : Bool := (List.range ops.size).all fun j => decide (j < n) || !listed.getD j false

/-- may be taken first -/
def firstB (ops : Array Oper) (n : Nat) (listed : Array Bool) (i : Nat) : Bool :=
  decide (i < n) && qAt ops i && Region.free .any ops listed i && (nwAt ops i || (waitB ops n i && noXB ops n listed))

def conjL : List Nat → (Nat → Prop) → Prop
  | [], _ => True
  | [i], f => f i
  | i :: r, f => f i ∧ conjL r f

theorem conjL_spec : ∀ {l : List Nat} {f : Nat → Prop}, conjL l f → ∀ i ∈ l, f i
  | [i], f, h, j, hj => by simp at hj; subst hj; exact h
  | i :: k :: r, f, h, j, hj => by
    cases hj with
    | head => exact h.1
    | tail _ hm => exact conjL_spec h.2 j hm

/-- how a first part is gone through: alone looking (quiet), or with S held behind each operation -/
inductive PMode where
  | quiet
  | held (S : World → Prop)

def pLd (m : PMode) (w : World) (a : Value) (k : Value → Prop) : Prop := match m with | .quiet => ld a w k | .held S => ldS S a k
def pLdA (m : PMode) (w : World) (n : Nat) (a : Value) (k : Value → Prop) : Prop := match m with | .quiet => ldA n a w k | .held S => ldAS S n a k

/-- what an operation comes to that need not be taken first -/
def pOp (P : Program) (m : PMode) (n i : Nat) (o : Oper) (w : World) (fr : Fr) (k : Value → World → Prop) : Prop :=
  if i < n then
    match m with
    | .quiet => False
    | .held S => opW P (ev fr) o.type w (fun v w' => S w' ∧ k v w') o.op
  else opW P (ev fr) o.type w k o.op

/-- Whatever order is picked. -/
def drawW (P : Program) (ops : Array Oper) (m : PMode) (n : Nat) (K : Fr → World → Prop) : Nat → Array Bool → List (Nat × Bool) → List Nat → Fr → World → Prop
  | 0, listed, _, _, fr, w => if (Region.ready .any ops listed).isEmpty then K fr w else False
  | fuel + 1, listed, kn, sk, fr, w =>
    if (Region.ready .any ops listed).isEmpty then K fr w else
    match (Region.ready .any ops listed).find? (firstB ops n listed) with
    | some i => match ops[i]? with
      | some o => gStep ops (fun fr' k => opF P (ev fr') (pLd m w) (pLdA m w) o.type (fun v => k v w) o.op)
          (fun kn' sk' fr' w' => drawW P ops m n K fuel (listed.setIfInBounds i true) kn' sk' fr' w') kn sk i o fr w
      | none => False
    | none => conjL (Region.ready .any ops listed) fun i => match ops[i]? with
      | some o => gStep ops (pOp P m n i o w) (fun kn' sk' fr' w' => drawW P ops m n K fuel (listed.setIfInBounds i true) kn' sk' fr' w') kn sk i o fr w
      | none => False

section
variable {P : Program} {ops : Array Oper} {Q : Exit → Act → World → Prop}

theorem opF_mono {ρ : Operand → Value} {l1 l1' : Value → (Value → Prop) → Prop} {lA lA' : Nat → Value → (Value → Prop) → Prop} {ty : TypeId} {k : Value → Prop} {op : Op}
    (h1 : ∀ a, l1 a k → l1' a k) (hA : ∀ n a, lA n a k → lA' n a k) (h : opF P ρ l1 lA ty k op) : opF P ρ l1' lA' ty k op := by
  cases op with
  | load t a =>
    simp only [opF] at h ⊢
    split at h
    · exact h1 _ h
    · exact hA _ _ h
    · exact h.elim
  | unOp u t x => cases u <;> exact h
  | call c => obtain ⟨callee, args, tys⟩ := c; cases callee <;> exact h
  | _ => exact h

def NoPan (Q : Exit → Act → World → Prop) : Exit → Act → World → Prop
  | .normal, a, w => Q .normal a w
  | _, _, _ => False

theorem cell_of_heap {w w' : World} (h : w'.heap = w.heap) (a : Addr) : w'.cell? a = w.cell? a := by
  unfold World.cell?; rw [h]

theorem noXB_spec {n : Nat} {listed : Array Bool} (hl : listed.size = ops.size) (h : noXB ops n listed = true) : noX n listed := fun j hj => by
  rcases Nat.lt_or_ge j ops.size with h' | h'
  · have := (List.all_eq_true.1 h) j (List.mem_range.2 h')
    simp only [Bool.or_eq_true, decide_eq_true_eq] at this
    simpa using this.resolve_left (by omega)
  · simp [Array.getElem?_eq_none (show listed.size ≤ j by omega)]

theorem noX_back {n i : Nat} {listed : Array Bool} (h : noX n (listed.setIfInBounds i true)) : noX n listed := fun j hj => by
  have := h j hj
  by_cases hij : i = j
  · subst hij
    rcases Nat.lt_or_ge i listed.size with h' | h'
    · simp [h'] at this
    · simp [Array.getElem?_eq_none h']
  · rwa [getD_set_ne false hij] at this

theorem noX_lt {n i : Nat} {listed : Array Bool} (hi : i < listed.size) (h : noX n (listed.setIfInBounds i true)) : i < n := by
  rcases Nat.lt_or_ge i n with h' | h'
  · exact h'
  · have := h i h'
    simp [hi] at this

/-- S at the mode -/
def sOf (m : PMode) (w : World) : World → Prop := match m with | .quiet => fun w' => w'.heap = w.heap | .held S => S

theorem drawW_sound {m : PMode} {n : Nat} {K : Fr → World → Prop} {fr0 : Fr} {w0 : World} (hf : fits ops fr0.length = true) (hsel : Region.noSelect ops = true)
    (hK : ∀ fr' w', Agree (dsts ops) fr0 fr' → K fr' w' → Q .normal (actOf fr') w') :
    ∀ (fuel : Nat) (listed : Array Bool) (kn : List (Nat × Bool)) (sk : List Nat) (fr : Fr) (w : World), listed.size = ops.size → Agree (dsts ops) fr0 fr → GInv ops kn sk fr →
      (noX n listed → sOf m w0 w) → drawW P ops m n K fuel listed kn sk fr w → wpAnyN P ops (NoPan Q) (sOf m w0) n fuel listed (actOf fr) w := by
  have hsel' := Region.noSelect_spec hsel
  intro fuel
  induction fuel with
  | zero =>
    intro listed kn sk fr w _ hag _ _ h
    simp only [drawW] at h
    split at h
    · rename_i he
      exact ⟨by simpa using he, hK fr w hag h⟩
    · exact h.elim
  | succ fuel ih =>
    intro listed kn sk fr w hl hag hg hS h
    simp only [drawW] at h
    split at h
    · rename_i he
      have he : Region.ready .any ops listed = [] := by simpa using he
      exact ⟨fun _ => hK fr w hag h, fun i hi => (by rw [he] at hi; cases hi)⟩
    rename_i hne
    have hne : Region.ready .any ops listed ≠ [] := by simpa using hne
    have hput : ∀ (i : Nat) (o : Oper) (v : Value), ops[i]? = some o → Agree (dsts ops) fr0 (putF fr o.dst v) :=
      fun i o v ho => hag.trans (Agree.put fr o.dst v fun t ht => mem_dsts ho ht)
    split at h
    · rename_i i hfind
      have hrdy := List.mem_of_find?_eq_some hfind
      have hfb := List.find?_some hfind
      simp only [firstB, Bool.and_eq_true, decide_eq_true_eq] at hfb
      obtain ⟨⟨⟨hin, hq⟩, hfree⟩, hkind⟩ := hfb
      split at h
      · rename_i o ho
        have hrun : ∀ (S' : World → Prop) (v : Value), ((∀ w, S' w) ∨ (S' = sOf m w0 ∧ waitB ops n i = true)) → YieldsIf P ops S' o v (actOf fr) → S' w → ((∀ w, S' w) ∨ noX n listed) →
            wpAnyN P ops (NoPan Q) (sOf m w0) n fuel (listed.setIfInBounds i true) (actOf (putF fr o.dst v)) w → wpAnyN P ops (NoPan Q) (sOf m w0) n (fuel + 1) listed (actOf fr) w := by
          intro S' v hk hy hS' hX hT
          refine wpAnyN_first (S' := S') ho hin hk hsel' (fun c a w h => h.elim) _ _ _ _ (Region.free_spec ho hfree) hrdy hy hS' hS hX ?_
          rw [put_actOf]; exact hT
        have hkk : ∃ S' : World → Prop, S' w ∧ ((∀ w, S' w) ∨ (S' = sOf m w0 ∧ waitB ops n i = true)) ∧ ((∀ w, S' w) ∨ noX n listed) ∧
            (∀ k fr', opF P (ev fr') (pLd m w) (pLdA m w) o.type k o.op → opF P (ev fr') (ldS S') (ldAS S') o.type k o.op) := by
          rcases Bool.or_eq_true _ _ ▸ hkind with hnw | hb
          · have hnw : isNW o.op = true := by simpa [nwAt, ho] using hnw
            exact ⟨fun _ => True, trivial, .inl fun _ => trivial, .inl fun _ => trivial, fun k fr' h => opF_nw hnw h⟩
          · simp only [Bool.and_eq_true] at hb
            have hx := noXB_spec hl hb.2
            have hSw := hS hx
            refine ⟨sOf m w0, hSw, .inr ⟨rfl, hb.1⟩, .inr hx, fun k fr' h => ?_⟩
            cases m with
            | held S => exact h
            | quiet =>
              refine opF_mono (fun a ha => ?_) (fun m a ha => ?_) h
              · simp only [pLd, ld] at ha
                unfold ldS
                split at ha
                · obtain ⟨v, hv, hk⟩ := ha
                  exact ⟨v, fun w'' h'' => by rw [cell_of_heap (w := w) (by rw [show w''.heap = w0.heap from h'', show w.heap = w0.heap from hSw])]; exact hv, hk⟩
                · exact ha.elim
              · simp only [pLdA, ldA] at ha
                unfold ldAS
                split at ha
                · obtain ⟨cs, hl, hv, hk⟩ := ha
                  exact ⟨cs, hl, fun w'' h'' i v hi => by rw [cell_of_heap (w := w) (by rw [show w''.heap = w0.heap from h'', show w.heap = w0.heap from hSw])]; exact hv i v hi, hk⟩
                · exact ha.elim
        obtain ⟨S', hS'w, hk1, hk2, hk3⟩ := hkk
        refine gStep_sound (P := P) (N := fun fr' w' => w' = w → wpAnyN P ops (NoPan Q) (sOf m w0) n fuel (listed.setIfInBounds i true) (actOf fr') w') ho hg (fun t ht => by rw [hag.len]; exact fits_spec hf ho ht) h
          (fun kn' sk' v w' hg' hc hw' => ?_) (fun hw k hs hn => ?_) (fun hw b hrunb hn => ?_) (fun hw hn => ?_)
        · subst hw'
          exact ih _ kn' sk' _ _ (by simp [hl]) (hput i o v ho) hg' (fun hx => hS (noX_back hx)) hc
        · obtain ⟨v, hkv, hrunv⟩ := opF_run (S := S') (hk3 _ _ hs)
          refine hrun S' v hk1 (.inl ⟨hw, fun w'' h'' => ?_⟩) hS'w hk2 (hn v w hkv rfl)
          rw [eval_actOf]
          exact hrunv w'' h''
        · refine hrun S' (.bool b) hk1 (.inl ⟨hw, fun w'' h'' => ?_⟩) hS'w hk2 (hn rfl)
          rw [eval_actOf]
          exact hrunb w''
        · exact hrun S' undef hk1 (.inr ⟨hw, rfl⟩) hS'w hk2 (hn rfl)
      · exact h.elim
    · refine ⟨fun h0 => absurd h0 hne, fun i hi => ?_⟩
      have h1 := conjL_spec h i hi
      split at h1
      · rename_i o ho
        have his : i < listed.size := by
          rw [hl]
          rcases Nat.lt_or_ge i ops.size with h | h
          · exact h
          · simp [Array.getElem?_eq_none h] at ho
        unfold wpOp
        simp only [ho]
        refine gStep_sound (P := P) (N := fun fr' w' => (i < n → noX n listed → sOf m w0 w') → (i < n → noX n listed → sOf m w0 w') ∧ wpAnyN P ops (NoPan Q) (sOf m w0) n fuel (listed.setIfInBounds i true) (actOf fr') w') ho hg (fun t ht => by rw [hag.len]; exact fits_spec hf ho ht) h1
          (fun kn' sk' v w' hg' hc hSw => ⟨hSw, ?_⟩) (fun hw k hs hn => ?_) (fun hw b hrunb hn => ?_) (fun hw hn => ?_)
        · exact ih _ kn' sk' _ _ (by simp [hl]) (hput i o v ho) hg' (fun hx => hSw (noX_lt his hx) (noX_back hx)) hc
        · rw [if_pos (by exact hw)]
          unfold pOp at hs
          split at hs
          · rename_i hin
            split at hs
            · exact hs.elim
            · rename_i S
              exact .inl (opW_sound hs fun v w'' hk => hn v w'' hk.2 fun _ _ => hk.1)
          · rename_i hin
            exact .inl (opW_sound hs fun v w'' hk => hn v w'' hk fun h => absurd h hin)
        · rw [if_pos (by exact hw)]
          refine .inl ?_
          unfold Oper.wp
          rw [eval_actOf, hrunb w, Oper.upon_value, put_actOf]
          exact hn fun _ hx => hS hx
        · rw [if_neg (by rw [show Region.wanted o (yielded ops (actOf fr).tmps) = false from hw]; simp), put_actOf]
          exact hn fun _ hx => hS hx
      · exact h1.elim

theorem region_draw {m : PMode} {n : Nat} {id : Nat} {K : Fr → World → Prop} {fr : Fr} {w : World}
    (hm : P.follows .mixedOrders = true) (hf : fits ops fr.length = true) (hsel : Region.noSelect ops = true)
    (h : drawW P ops m n K ops.size (Array.replicate ops.size false) [] [] fr w.drew) (hS : sOf m w.drew w.drew)
    (hK : ∀ fr' w', Agree (dsts ops) fr fr' → K fr' w' → Q .normal (actOf fr') w') : (Code.region id ops true).wp P Q (actOf fr) w := by
  refine wp_mono (Q := NoPan Q) ?_ (fun e a w h => by cases e <;> first | exact h | exact h.elim)
  refine wp_region_any hm (wpAny_of_N (S := sOf m w.drew) (n := n) _ _ _ _ ?_)
  exact drawW_sound hf hsel hK _ _ [] [] fr _ (by simp) (Agree.refl _ _) ⟨fun _ h => (by cases h), fun _ h => (by cases h)⟩ (fun _ => hS) h

end
end Go.Eng

/-! Code, functions. -/
namespace Go.Eng
open Go

inductive RMode where
  | seq
  | quiet (n : Nat)
  | held (n : Nat)

/-- How a piece of code is gone through: where ways are joined (with the slots that live on), which slots a loop carries. -/
inductive Ann where
  | z
  | s (a b : Ann)
  | c (a b : Ann)
  | cj (L : List Nat) (a b : Ann)
  | i (a : Ann)
  | b (L : List Nat) (a : Ann)
  | l (L : List Nat) (a : Ann)
  | r (m : RMode) (L : Option (List Nat))

def mods : Code → List Nat
  | .region _ ops _ => dsts ops
  | .seq a b => mods a ++ mods b
  | .cond _ a b => mods a ++ mods b
  | .block _ a => mods a
  | .loop a => mods a
  | .scope a => mods a
  | _ => []

def pick (L : List Nat) (fr : Fr) : List Value := L.map fun t => fr.getD t undef

/-- the frame with the slots of ms anew: those of L by vs, the others by j -/
def updF (ms L : List Nat) (vs : List Value) (j : Nat → Value) : Nat → Fr → Fr
  | _, [] => []
  | i, v :: r => (if ms.contains i then (match L.idxOf? i with | some k => vs.getD k undef | none => j i) else v) :: updF ms L vs j (i + 1) r

def condP (v : Value) (A B : Prop) : Prop :=
  match v with
  | .bool b => (b = true → A) ∧ (b = false → B)
  | _ => False

def joinP (B : (List Value → World → Prop) → Prop) (K : List Value → (Nat → Value) → World → Prop) : Prop :=
  ∃ M : List Value → World → Prop, B M ∧ ∀ vs j w, M vs w → K vs j w

def loopP (body : (List Value → World → Prop) → List Value → (Nat → Value) → World → Prop) (init : List Value) (w : World) : Prop :=
  ∃ (I : List Value → World → Prop) (μ : List Value → World → Nat), I init w ∧ ∀ vs j w, I vs w → body (fun vs' w' => I vs' w' ∧ μ vs' w' < μ vs w) vs j w

def heldP (body : (World → Prop) → Prop) : Prop := ∃ S : World → Prop, body S

def seqK (N : Fr → World → Prop) (Q : Exit → Fr → World → Prop) : Exit → Fr → World → Prop
  | .normal, fr, w => N fr w
  | .exit id, fr, w => Q (.exit id) fr w
  | .goto l, fr, w => Q (.goto l) fr w
  | .ret, fr, w => Q .ret fr w
  | .panic c, fr, w => Q (.panic c) fr w
  | .outgrown, fr, w => Q .outgrown fr w

def blkK (id : Nat) (N : Fr → World → Prop) (Q : Exit → Fr → World → Prop) : Exit → Fr → World → Prop
  | .normal, fr, w => N fr w
  | .exit id', fr, w => if id' = id then N fr w else Q (.exit id') fr w
  | .goto l, fr, w => Q (.goto l) fr w
  | .ret, fr, w => Q .ret fr w
  | .panic c, fr, w => Q (.panic c) fr w
  | .outgrown, fr, w => Q .outgrown fr w

def noGo (Q : Exit → Fr → World → Prop) : Exit → Fr → World → Prop
  | .normal, fr, w => Q .normal fr w
  | .exit id, fr, w => Q (.exit id) fr w
  | .goto _, _, _ => False
  | .ret, fr, w => Q .ret fr w
  | .panic c, fr, w => Q (.panic c) fr w
  | .outgrown, fr, w => Q .outgrown fr w

def regW (P : Program) (ops : Array Oper) (draw : Bool) (m : RMode) (K : Fr → World → Prop) (fr : Fr) (w : World) : Prop :=
  if fits ops fr.length then
  match m, draw with
  | .seq, false => runW ops (stepS P) K 0 [] [] ops.toList fr w
  | .quiet n, true => if Region.noSelect ops then drawW P ops .quiet n K ops.size (Array.replicate ops.size false) [] [] fr w.drew else False
  | .held n, true => if Region.noSelect ops then heldP fun S => S w.drew ∧ drawW P ops (.held S) n K ops.size (Array.replicate ops.size false) [] [] fr w.drew else False
  | _, _ => False
  else False

def W (P : Program) : Code → Ann → (Exit → Fr → World → Prop) → Fr → World → Prop
  | .skip, _, Q, fr, w => Q .normal fr w
  | .label _, _, Q, fr, w => Q .normal fr w
  | .seq a b, .s x y, Q, fr, w => W P a x (seqK (W P b y Q) Q) fr w
  | .cond c t e, .c x y, Q, fr, w => condP (ev fr c) (W P t x Q fr w) (W P e y Q fr w)
  | .cond c t e, .cj L x y, Q, fr, w =>
    joinP (fun k => condP (ev fr c) (W P t x (seqK (fun fr' w' => k (pick L fr') w') Q) fr w) (W P e y (seqK (fun fr' w' => k (pick L fr') w') Q) fr w))
      fun vs j w' => Q .normal (updF (mods t ++ mods e) L vs j 0 fr) w'
  | .block id a, .i x, Q, fr, w => W P a x (blkK id (Q .normal) Q) fr w
  | .block id a, .b L x, Q, fr, w =>
    joinP (fun k => W P a x (blkK id (fun fr' w' => k (pick L fr') w') Q) fr w) fun vs j w' => Q .normal (updF (mods a) L vs j 0 fr) w'
  | .loop a, .l L x, Q, fr, w =>
    loopP (fun nx vs j w' => W P a x (seqK (fun fr' w'' => nx (pick L fr') w'') Q) (updF (mods a) L vs j 0 fr) w') (pick L fr) w
  | .scope a, x, Q, fr, w => W P a x (noGo Q) fr w
  | .exit id, _, Q, fr, w => Q (.exit id) fr w
  | .ret, _, Q, fr, w => Q .ret fr w
  | .region _ ops draw, .r m none, Q, fr, w => regW P ops draw m (Q .normal) fr w
  | .region _ ops draw, .r m (some L), Q, fr, w =>
    joinP (fun k => regW P ops draw m (fun fr' w' => k (pick L fr') w') fr w) fun vs j w' => Q .normal (updF (dsts ops) L vs j 0 fr) w'
  | _, _, _, _, _ => False

theorem updF_len (ms L : List Nat) (vs : List Value) (j : Nat → Value) : ∀ (fr : Fr) (i : Nat), (updF ms L vs j i fr).length = fr.length
  | [], _ => rfl
  | _ :: r, i => by simp [updF, updF_len ms L vs j r (i + 1)]

theorem updF_get (ms L : List Nat) (vs : List Value) (j : Nat → Value) : ∀ (fr : Fr) (i k : Nat), k < fr.length →
    (updF ms L vs j i fr).getD k undef = if ms.contains (i + k) then (match L.idxOf? (i + k) with | some k => vs.getD k undef | none => j (i + k)) else fr.getD k undef
  | [], _, _, h => by simp at h
  | v :: r, i, 0, _ => by simp [updF, List.getD]
  | v :: r, i, k + 1, h => by
    have := updF_get ms L vs j r (i + 1) k (by simpa using h)
    simp only [updF, List.getD_cons_succ]
    rw [this, show i + 1 + k = i + (k + 1) from by omega]

theorem ext_getD {a b : Fr} (hl : a.length = b.length) (h : ∀ k, k < a.length → a.getD k undef = b.getD k undef) : a = b := by
  apply List.ext_getElem hl
  intro k h1 h2
  have := h k h1
  simpa [List.getD, List.getElem?_eq_getElem h1, List.getElem?_eq_getElem h2] using this

theorem idxOf?_lt' {L : List Nat} {i k : Nat} (h : L.idxOf? i = some k) : L[k]? = some i := by
  unfold List.idxOf? at h
  rw [List.findIdx?_eq_some_iff_getElem] at h
  obtain ⟨hk, he, _⟩ := h
  rw [List.getElem?_eq_getElem hk]
  simpa using he

/-- A frame that agrees outside of ms is an `updF`. -/
theorem updF_of_agree {ms : List Nat} {fr fr' : Fr} (L : List Nat) (h : Agree ms fr fr') : updF ms L (pick L fr') (fun t => fr'.getD t undef) 0 fr = fr' := by
  apply ext_getD (by rw [updF_len, h.len])
  intro k hk
  rw [updF_len] at hk
  rw [updF_get _ _ _ _ _ _ _ hk, Nat.zero_add]
  split
  · split
    · rename_i m hm
      have := idxOf?_lt' hm
      simp [pick, List.getD, this]
    · rfl
  · rename_i hc
    exact (h.eq k (by simpa using hc)).symm

theorem updF_agree (ms L : List Nat) (vs : List Value) (j : Nat → Value) (fr : Fr) : Agree ms fr (updF ms L vs j 0 fr) := by
  refine ⟨updF_len _ _ _ _ _ _, fun i hi => ?_⟩
  rcases Nat.lt_or_ge i fr.length with h | h
  · rw [updF_get _ _ _ _ _ _ _ h, Nat.zero_add]
    simp [hi]
  · simp [List.getD, List.getElem?_eq_none h, List.getElem?_eq_none (show (updF ms L vs j 0 fr).length ≤ i by rw [updF_len]; exact h)]

section
variable {P : Program}

theorem regW_sound (hm : P.follows .mixedOrders = true) {id : Nat} {ops : Array Oper} {draw : Bool} {m : RMode} {K : Fr → World → Prop} {fr : Fr} {w : World} {Q : Exit → Act → World → Prop}
    (h : regW P ops draw m K fr w) (hK : ∀ fr' w', Agree (dsts ops) fr fr' → K fr' w' → Q .normal (actOf fr') w') : (Code.region id ops draw).wp P Q (actOf fr) w := by
  unfold regW at h
  split at h
  case isFalse => exact h.elim
  rename_i hf
  split at h
  · exact region_seq hf h hK
  · split at h
    · rename_i hc; exact region_draw (m := .quiet) hm hf hc h rfl hK
    · exact h.elim
  · split at h
    · rename_i hc
      obtain ⟨S, hS, h⟩ := h
      exact region_draw (m := .held S) hm hf hc h hS hK
    · exact h.elim
  · exact h.elim

/-- SOUND: every way that `W` follows is one of the program's. -/
theorem W_sound (hm : P.follows .mixedOrders = true) : ∀ (c : Code) (an : Ann) (Q : Exit → Fr → World → Prop) (fr : Fr) (w : World) (Q2 : Exit → Act → World → Prop),
    (∀ e fr' w', Agree (mods c) fr fr' → Q e fr' w' → Q2 e (actOf fr') w') → W P c an Q fr w → c.wp P Q2 (actOf fr) w := by
  intro c
  induction c with
  | skip => intro an Q fr w Q2 hq h; exact wp_skip (hq _ _ _ (Agree.refl _ _) h)
  | label l => intro an Q fr w Q2 hq h; exact wp_label (hq _ _ _ (Agree.refl _ _) h)
  | exit id => intro an Q fr w Q2 hq h; exact wp_exit (hq _ _ _ (Agree.refl _ _) h)
  | ret => intro an Q fr w Q2 hq h; exact wp_ret (hq _ _ _ (Agree.refl _ _) h)
  | goto l => intro an Q fr w Q2 hq h; exact h.elim
  | refuse s => intro an Q fr w Q2 hq h; exact h.elim
  | rangeFunc f ps a b iha ihb => intro an Q fr w Q2 hq h; exact h.elim
  | scope a ih =>
    intro an Q fr w Q2 hq h
    refine wp_scope_straight (ih an (noGo Q) fr w _ ?_ h)
    intro e fr' w' hag hQ
    cases e with
    | goto l => exact hQ.elim
    | _ => exact hq _ _ _ hag hQ
  | region id ops draw =>
    intro an Q fr w Q2 hq h
    cases an with
    | r m L =>
      cases L with
      | none => exact regW_sound hm h fun fr' w' hag hk => hq _ _ _ hag hk
      | some L =>
        obtain ⟨M, hB, hM⟩ := h
        refine regW_sound hm hB fun fr' w' hag hk => ?_
        have := hM _ (fun t => fr'.getD t undef) _ hk
        simp only [] at this
        rw [updF_of_agree L hag] at this
        exact hq _ _ _ hag this
    | _ => exact h.elim
  | seq a b iha ihb =>
    intro an Q fr w Q2 hq h
    cases an with
    | s x y =>
      refine wp_seq (iha x _ fr w _ ?_ h)
      intro e fr' w' hag hQ
      have hag' : Agree (mods (.seq a b)) fr fr' := hag.mono fun i hi => List.mem_append.2 (.inl hi)
      cases e with
      | normal =>
        refine ihb y Q fr' w' Q2 (fun e fr'' w'' hag2 hQ2 => hq _ _ _ (hag'.trans (hag2.mono fun i hi => List.mem_append.2 (.inr hi))) hQ2) hQ
      | _ => exact hq _ _ _ hag' hQ
    | _ => exact h.elim
  | cond c a b iha ihb =>
    intro an Q fr w Q2 hq h
    have hl : ∀ {i}, i ∈ mods a → i ∈ mods (.cond c a b) := fun hi => List.mem_append.2 (.inl hi)
    have hr : ∀ {i}, i ∈ mods b → i ∈ mods (.cond c a b) := fun hi => List.mem_append.2 (.inr hi)
    cases an with
    | c x y =>
      simp only [W, condP] at h
      split at h
      · rename_i t ht
        have ht : (actOf fr).eval c = .bool t := by rw [eval_actOf]; exact ht
        refine wp_cond_split ht (fun hb => ?_) (fun hb => ?_)
        · exact iha x Q fr w Q2 (fun e fr' w' hag hQ => hq _ _ _ (hag.mono fun _ => hl) hQ) (h.1 hb)
        · exact ihb y Q fr w Q2 (fun e fr' w' hag hQ => hq _ _ _ (hag.mono fun _ => hr) hQ) (h.2 hb)
      · exact h.elim
    | cj L x y =>
      obtain ⟨M, hB, hM⟩ := h
      have hjoin : ∀ e fr' w', Agree (mods (.cond c a b)) fr fr' → seqK (fun fr' w' => M (pick L fr') w') Q e fr' w' → Q2 e (actOf fr') w' := by
        intro e fr' w' hag hQ
        cases e with
        | normal =>
          have := hM _ (fun t => fr'.getD t undef) _ hQ
          simp only [] at this
          rw [updF_of_agree (ms := mods a ++ mods b) L hag] at this
          exact hq _ _ _ hag this
        | _ => exact hq _ _ _ hag hQ
      simp only [condP] at hB
      split at hB
      · rename_i t ht
        have ht : (actOf fr).eval c = .bool t := by rw [eval_actOf]; exact ht
        refine wp_cond_split ht (fun hb => ?_) (fun hb => ?_)
        · exact iha x _ fr w Q2 (fun e fr' w' hag hQ => hjoin _ _ _ (hag.mono fun _ => hl) hQ) (hB.1 hb)
        · exact ihb y _ fr w Q2 (fun e fr' w' hag hQ => hjoin _ _ _ (hag.mono fun _ => hr) hQ) (hB.2 hb)
      · exact hB.elim
    | _ => exact h.elim
  | block id a ih =>
    intro an Q fr w Q2 hq h
    cases an with
    | i x =>
      refine wp_block (ih x _ fr w _ ?_ h)
      intro e fr' w' hag hQ
      cases e with
      | exit id' =>
        simp only [Exit.inBlock]
        simp only [blkK] at hQ
        split
        · rename_i he; rw [if_pos he] at hQ; exact hq _ _ _ hag hQ
        · rename_i he; rw [if_neg he] at hQ; exact hq _ _ _ hag hQ
      | _ => exact hq _ _ _ hag hQ
    | b L x =>
      obtain ⟨M, hB, hM⟩ := h
      have hN : ∀ fr' w', Agree (mods a) fr fr' → M (pick L fr') w' → Q2 .normal (actOf fr') w' := by
        intro fr' w' hag hQ
        have := hM _ (fun t => fr'.getD t undef) _ hQ
        simp only [] at this
        rw [updF_of_agree L hag] at this
        exact hq _ _ _ hag this
      refine wp_block (ih x _ fr w _ ?_ hB)
      intro e fr' w' hag hQ
      cases e with
      | normal => exact hN _ _ hag hQ
      | exit id' =>
        simp only [Exit.inBlock]
        simp only [blkK] at hQ
        split
        · rename_i he; rw [if_pos he] at hQ; exact hN _ _ hag hQ
        · rename_i he; rw [if_neg he] at hQ; exact hq _ _ _ hag hQ
      | _ => exact hq _ _ _ hag hQ
    | _ => exact h.elim
  | loop a ih =>
    intro an Q fr w Q2 hq h
    cases an with
    | l L x =>
      obtain ⟨I, μ, h0, hround⟩ := h
      refine wp_loop (fun act w' => ∃ fr', act = actOf fr' ∧ Agree (mods a) fr fr' ∧ I (pick L fr') w') (fun act w' => μ (pick L act.tmps.toList) w') ⟨fr, rfl, Agree.refl _ _, h0⟩ ?_
      rintro act w' ⟨fr', rfl, hag, hI⟩
      have h1 := hround _ (fun t => fr'.getD t undef) w' hI
      simp only [] at h1
      rw [updF_of_agree L hag] at h1
      refine ih x _ fr' w' _ ?_ h1
      intro e fr'' w'' hag2 hQ
      cases e with
      | normal => exact ⟨⟨fr'', rfl, hag.trans hag2, hQ.1⟩, by simpa [actOf] using hQ.2⟩
      | _ => exact hq _ _ _ (hag.trans hag2) hQ
    | _ => exact h.elim

def finV : List Value → Value
  | [v] => v
  | vs => .tuple vs.toArray

/-- What a frame hands back. -/
def resL (P : Program) (fr : Fr) (w : World) (R : Value → World → Prop) : List ResultVar → List Value → Prop
  | [], acc => R (finV acc) w
  | .tmp t :: r, acc => resL P fr w R r (acc ++ [fr.getD t undef])
  | .cell a t :: r, acc => match lay P t with
    | some none => ld (fr.getD a undef) w fun v => resL P fr w R r (acc ++ [v])
    | some (some n) => ldA n (fr.getD a undef) w fun v => resL P fr w R r (acc ++ [v])
    | none => False

def resW (P : Program) (rs : Array ResultVar) (fr : Fr) (w : World) (R : Value → World → Prop) : Prop :=
  if rs.toList.length ≤ 4 then resL P fr w R rs.toList [] else False

/-- one result -/
def oneRes (tmps : Array Value) : ResultVar → Sem Value
  | .tmp t => pure (tmps.getD t undef)
  | .cell a t => do loadVar t (← asAddr (tmps.getD a undef))

theorem resL_spec {fr : Fr} {w : World} {R : Value → World → Prop} : ∀ (rs : List ResultVar) (acc : List Value), resL P fr w R rs acc →
    ∃ vs : List Value, vs.length = rs.length ∧ (∀ (i : Nat) (r : ResultVar), rs[i]? = some r → ∃ v, vs[i]? = some v ∧ (oneRes fr.toArray r).run P w = .ok v w) ∧ R (finV (acc ++ vs)) w
  | [], acc, h => ⟨[], rfl, fun i r hr => by simp at hr, by simpa [resL] using h⟩
  | .tmp t :: r, acc, h => by
    obtain ⟨vs, hl, hv, hR⟩ := resL_spec r _ h
    refine ⟨fr.getD t undef :: vs, by simp [hl], fun i x hx => ?_, by simpa using hR⟩
    cases i with
    | zero =>
      simp at hx; subst hx
      exact ⟨_, rfl, by simp [oneRes, run_pure']⟩
    | succ i => simpa using hv i x (by simpa using hx)
  | .cell a t :: r, acc, h => by
    simp only [resL] at h
    split at h
    · rename_i hl
      unfold ld at h
      split at h
      · rename_i ad ha
        obtain ⟨v, hc, h⟩ := h
        obtain ⟨vs, hlen, hv, hR⟩ := resL_spec r _ h
        refine ⟨v :: vs, by simp [hlen], fun i x hx => ?_, by simpa using hR⟩
        cases i with
        | zero =>
          simp at hx; subst hx
          refine ⟨_, rfl, ?_⟩
          have ha' : fr.toArray.getD a undef = .pointer (some ad) := by simpa using ha
          simp only [oneRes, ha', asAddr]
          rw [Sem.run_bind']
          simp only [run_pure', run_loadVar_one hl hc]
        | succ i => simpa using hv i x (by simpa using hx)
      · exact h.elim
    · rename_i n hl
      unfold ldA at h
      split at h
      · rename_i ad ha
        obtain ⟨cs, hn, hc, h⟩ := h
        obtain ⟨vs, hlen, hv, hR⟩ := resL_spec r _ h
        refine ⟨_ :: vs, by simp [hlen], fun i x hx => ?_, by simpa using hR⟩
        cases i with
        | zero =>
          simp at hx; subst hx
          refine ⟨_, rfl, ?_⟩
          have ha' : fr.toArray.getD a undef = .pointer (some ad) := by simpa using ha
          simp only [oneRes, ha', asAddr]
          rw [Sem.run_bind']
          simp only [run_pure', run_loadVar_many hl hn hc]
        | succ i => simpa using hv i x (by simpa using hx)
      · exact h.elim
    · exact h.elim

theorem resW_run {fn : Func} {fr : Fr} {w : World} {R : Value → World → Prop} (h : resW P fn.results fr w R) :
    ∃ v, (results fn fr.toArray).run P w = .ok v w ∧ R v w := by
  unfold resW at h
  split at h
  case isFalse => exact h.elim
  rename_i hlen
  obtain ⟨vs, hl, hv, hR⟩ := resL_spec _ _ h
  simp only [List.nil_append] at hR
  refine ⟨_, ?_, hR⟩
  have hdef : results fn fr.toArray = (do let vs ← fn.results.mapM (oneRes fr.toArray); pure (if h : vs.size = 1 then vs[0] else .tuple vs)) := by
    unfold results
    congr 1
  rw [hdef]
  generalize hrs : fn.results.toList = rs at *
  have hr : fn.results = rs.toArray := by rw [← hrs]
  rw [hr]
  match rs, vs, hlen, hl, hv with
  | [], [], _, _, _ => simp [run_pure', finV]
  | [r1], [v1], _, _, hv =>
    obtain ⟨_, h1, e1⟩ := hv 0 r1 rfl
    simp at h1; subst h1
    simp [Sem.run_bind', e1, run_pure', finV]
  | [r1, r2], [v1, v2], _, _, hv =>
    obtain ⟨_, h1, e1⟩ := hv 0 r1 rfl
    obtain ⟨_, h2, e2⟩ := hv 1 r2 rfl
    simp at h1 h2; subst h1 h2
    simp [Sem.run_bind', e1, e2, run_pure', finV]
  | [r1, r2, r3], [v1, v2, v3], _, _, hv =>
    obtain ⟨_, h1, e1⟩ := hv 0 r1 rfl
    obtain ⟨_, h2, e2⟩ := hv 1 r2 rfl
    obtain ⟨_, h3, e3⟩ := hv 2 r3 rfl
    simp at h1 h2 h3; subst h1 h2 h3
    simp [Sem.run_bind', e1, e2, e3, run_pure', finV]
  | [r1, r2, r3, r4], [v1, v2, v3, v4], _, _, hv =>
    obtain ⟨_, h1, e1⟩ := hv 0 r1 rfl
    obtain ⟨_, h2, e2⟩ := hv 1 r2 rfl
    obtain ⟨_, h3, e3⟩ := hv 2 r3 rfl
    obtain ⟨_, h4, e4⟩ := hv 3 r4 rfl
    simp at h1 h2 h3 h4; subst h1 h2 h3 h4
    simp [Sem.run_bind', e1, e2, e3, e4, run_pure', finV]
  | _ :: _ :: _ :: _ :: _ :: _, _, h, _, _ => simp at h

/-- The end of a function. -/
def postW (P : Program) (rs : Array ResultVar) (R : Value → World → Prop) : Exit → Fr → World → Prop
  | .normal, fr, w => resW P rs fr w R
  | .ret, fr, w => resW P rs fr w R
  | _, _, _ => False

/-- A call of a function with a body, by `W`. -/
theorem ret_of_W (hm : P.follows .mixedOrders = true) {f : FuncId} {fn : Func} {c : Code} {args : Array Value} {w : World} {R : Value → World → Prop} (an : Ann)
    (hf : P.funcs[f]? = some fn) (hb : fn.body = some c) (hn : (fn.name == "runtime.NumGoroutine") = false)
    (h : W P c an (postW P fn.results R) (args.toList ++ List.replicate (fn.ntmps - args.size) undef) w) : Ret P f args w R := by
  have hc : (callFunc f args).run P w = .ok (.enter f args) w := by
    have hn : ¬ fn.name = "runtime.NumGoroutine" := by simpa using hn
    simp [callFunc, program, Sem.run, hf, hn, hb, pure, bind, Sem.bind]
  unfold Ret
  rw [hc]
  refine calls_of_wp hf hb ?_
  have hact : ({ tmps := args ++ Array.replicate (fn.ntmps - args.size) undef, defers := [] } : Act) = actOf (args.toList ++ List.replicate (fn.ntmps - args.size) undef) := by
    simp [actOf]
  rw [hact]
  refine W_sound hm c an _ _ w _ ?_ h
  intro e fr' w' _ hQ
  cases e with
  | normal => obtain ⟨v, h1, h2⟩ := resW_run hQ; exact ⟨rfl, v, h1, v, rfl, h2⟩
  | ret => obtain ⟨v, h1, h2⟩ := resW_run hQ; exact ⟨rfl, v, h1, v, rfl, h2⟩
  | _ => exact hQ.elim

/-- the body of a function -/
def bodyOf (fn : Func) : Code := fn.body.getD .skip

theorem ret_of_fn (hm : P.follows .mixedOrders = true) {f : FuncId} {args : Array Value} {w : World} {R : Value → World → Prop} (fn : Func) (an : Ann)
    (hf : P.funcs[f]? = some fn) (hb : fn.body.isSome = true) (hn : (fn.name == "runtime.NumGoroutine") = false) {p : Prop} (hp : p)
    (h : p = W P (bodyOf fn) an (postW P fn.results R) (args.toList ++ List.replicate (fn.ntmps - args.size) undef) w) : Ret P f args w R := by
  subst h
  obtain ⟨c, hc⟩ := Option.isSome_iff_exists.1 hb
  refine ret_of_W hm an hf hc hn ?_
  rw [bodyOf, hc] at hp
  exact hp

/-- The other way: a contract of the kit's serves. -/
theorem ret_of_calls {f : FuncId} {fn : Func} {args : Array Value} {w : World} {R : Value → World → Prop}
    (hf : P.funcs[f]? = some fn) (hb : fn.body.isSome = true) (hn : (fn.name == "runtime.NumGoroutine") = false)
    (h : Calls P f args w fun e w' => ∃ v, e = .returned v ∧ R v w') : Ret P f args w R := by
  have hc : (callFunc f args).run P w = .ok (.enter f args) w := by
    cases hbd : fn.body <;> simp [hbd] at hb
    have hn : ¬ fn.name = "runtime.NumGoroutine" := by simpa using hn
    simp [callFunc, program, Sem.run, hf, hn, hbd, pure, bind, Sem.bind]
  unfold Ret
  rw [hc]
  exact h

theorem calls_of_ret {f : FuncId} {fn : Func} {args : Array Value} {w : World} {R : Value → World → Prop}
    (hf : P.funcs[f]? = some fn) (hb : fn.body.isSome = true) (hn : (fn.name == "runtime.NumGoroutine") = false)
    (h : Ret P f args w R) : Calls P f args w fun e w' => ∃ v, e = .returned v ∧ R v w' := by
  have hc : (callFunc f args).run P w = .ok (.enter f args) w := by
    cases hbd : fn.body <;> simp [hbd] at hb
    have hn : ¬ fn.name = "runtime.NumGoroutine" := by simpa using hn
    simp [callFunc, program, Sem.run, hf, hn, hbd, pure, bind, Sem.bind]
  unfold Ret at h
  rw [hc] at h
  exact h

end
end Go.Eng

