/- A part of the proofs' own ground: a small code with resolved types, and what it asks of the heap's chunks. -/
import Derived.Test.YtebcdnnfjcaofaaHeap
namespace Go.SL

inductive Opd where
  | s (n : Nat)
  | k (v : Value)
  deriving Inhabited

abbrev Env := Nat → Value
def upd (e : Env) (d : Nat) (v : Value) : Env := fun i => bif Nat.beq i d then v else e i
def ev (e : Env) : Opd → Value
  | .s n => e n
  | .k v => v

/-- The kinds of a map's keys: one integer, or so many of one kind side by side. -/
inductive KK where
  | one (k : IntKind)
  | flat (n : Nat) (k : IntKind)

/-- Kinds of what may be nil. -/
inductive NK where
  | ptr | slice | map | func

inductive SOp where
  | val (x : Opd)
  | pick (c a b : Opd)
  | bin (op : BinOp) (x y : Opd)
  | eqb (neg : Bool) (x y : Opd)
  | eqagg (neg : Bool) (n : Nat) (x y : Opd)
  | eqnil (kind : NK) (neg : Bool) (x : Opd)
  | un (op : UnOp) (x : Opd)
  | conv (k : IntKind) (x : Opd)
  | str (x : Opd)
  | eqs (neg : Bool) (x y : Opd)
  | aix (k : Nat) (n : Option Nat) (len : Nat) (x i : Opd)
  | ld (n : Option Nat) (a : Opd)
  | st (n : Nat) (a x : Opd)
  | new (z : List Value)
  | box (x : Opd)
  | fld (off : Nat) (p : Opd)
  | ixs (k : Nat) (s i : Opd)
  | part (off : Nat) (n : Option Nat) (x : Opd)
  | bld (z : List Value) (ps : List (Nat × Nat × Opd))
  | bldS (k n : Nat) (z : List Value) (ps : List (Nat × Opd))
  | mks (k bytes : Nat) (z : List Value) (l c : Opd)
  | slc (k : Nat) (x : Opd) (lo hi mx : Option Opd)
  | len (x : Opd)
  | lenm (x : Opd)
  | cap (x : Opd)
  | app (k bytes : Nat) (z : List Value) (s x : Opd)
  | mkm
  | look (kk : KK) (z : Value) (m k : Opd) (ok : Bool)
  | upm (kk : KK) (m k v : Opd)
  | ment (kk : KK) (z : Value) (m k : Opd)
  | mst (m k v : Opd)
  | del (kk : KK) (m k : Opd)
  | clr (k : Nat) (z : List Value) (x : Opd)
  | rng (m : Opd)
  | nxt (it : Opd)
  | ent (it : Opd)
  | fn (f : Fn) (first captured : List Opd)
  | ext (x : Opd) (i : Nat)
  | nil (x : Opd)
  | mm (mx : Bool) (x y : Opd)
  | call (f : Nat) (args : List Opd)
  | calld (f : Opd) (args : List Opd)
  deriving Inhabited

/-- An operation with the slot that it writes and its guard: a slot, and what it must hold. -/
structure SOpr where
  dst : Option Nat
  op : SOp
  guard : Option (Nat × Bool)
  deriving Inhabited

/-- How a region that draws its order is gone through: what only reads first; what acts in all orders. -/
inductive Plan where
  | done
  | rd (i : Nat) (next : Plan)
  | eff (i : Nat) (pend : List Nat) (next alts : Plan)
  | nomore
  deriving Inhabited

inductive SC where
  | skip
  | reg (ops : List SOpr) (outs : List Nat)
  | drw (ops : List SOpr) (outs : List Nat) (plan : Plan)
  | seq (a b : SC)
  | cond (c : Opd) (a b : SC)
  | block (id : Nat) (c : SC)
  | loop (c : SC)
  | exit (id : Nat)
  | ret
  | scope (c : SC)
  deriving Inhabited

/-! ### What values come to -/

def binV : BinOp → Value → Value → Option Value
  | .add, .int k a, .int k' b => if k = k' then some (.int k (k.wrap (a + b))) else none
  | .sub, .int k a, .int k' b => if k = k' then some (.int k (k.wrap (a - b))) else none
  | .mul, .int k a, .int k' b => if k = k' then some (.int k (k.wrap (a * b))) else none
  | .quo, .int k a, .int k' b => if k = k' ∧ b ≠ 0 then some (.int k (k.wrap (a.tdiv b))) else none
  | .rem, .int k a, .int k' b => if k = k' ∧ b ≠ 0 then some (.int k (a.tmod b)) else none
  | .shl, .int k a, .int _ b => if 0 ≤ b then some (.int k (k.wrap (a * 2 ^ (min b.toNat k.bits)))) else none
  | .shr, .int k a, .int _ b => if 0 ≤ b then some (.int k (a.fdiv (2 ^ (min b.toNat k.bits)))) else none
  | .and, .int k a, .int k' b => if k = k' then some (.int k (k.wrap (BitVec.ofInt k.bits a &&& BitVec.ofInt k.bits b).toNat)) else none
  | .or, .int k a, .int k' b => if k = k' then some (.int k (k.wrap (BitVec.ofInt k.bits a ||| BitVec.ofInt k.bits b).toNat)) else none
  | .xor, .int k a, .int k' b => if k = k' then some (.int k (k.wrap (BitVec.ofInt k.bits a ^^^ BitVec.ofInt k.bits b).toNat)) else none
  | .eql, .int k a, .int k' b => if k = k' then some (.bool (decide (a = b))) else none
  | .neq, .int k a, .int k' b => if k = k' then some (.bool (!decide (a = b))) else none
  | .lss, .int k a, .int k' b => if k = k' then some (.bool (decide (a < b))) else none
  | .leq, .int k a, .int k' b => if k = k' then some (.bool (decide (a ≤ b))) else none
  | .gtr, .int k a, .int k' b => if k = k' then some (.bool (decide (a > b))) else none
  | .geq, .int k a, .int k' b => if k = k' then some (.bool (decide (a ≥ b))) else none
  | _, _, _ => none

def pickV : Value → Value → Value → Option Value
  | .bool b, x, y => some (bif b then x else y)
  | _, _, _ => none

def eqbV (neg : Bool) : Value → Value → Option Value
  | .bool a, .bool b => some (.bool (neg ^^ (a == b)))
  | _, _ => none

def eqCells : List Value → List Value → Option Bool
  | [], [] => some true
  | .int k a :: xs, .int k' b :: ys => if k = k' then (eqCells xs ys).map fun r => decide (a = b) && r else none
  | _, _ => none

def eqaggV (neg : Bool) (n : Nat) : Value → Value → Option Value
  | .agg xs, .agg ys => if xs.toList.length = n then (eqCells xs.toList ys.toList).map fun r => .bool (neg ^^ r) else none
  | _, _ => none

def unV : UnOp → Value → Option Value
  | .not, .bool b => some (.bool (!b))
  | .neg, .int k n => some (.int k (k.wrap (0 - n)))
  | _, _ => none

def convV (k : IntKind) : Value → Option Value
  | .int _ n => some (.int k (k.wrap n))
  | _ => none

/-- A place so far behind another. -/
def addP : Value → Nat → Value
  | .pointer (some a), n => .pointer (some (a.add n))
  | v, _ => v

/-- The place of an element. -/
def elemP : Value → Nat → Value
  | .slice (some a) _ _, n => .pointer (some (a.add n))
  | v, _ => v

def isPtr : Value → Bool
  | .pointer (some _) => true
  | _ => false

def partV (off : Nat) (n : Option Nat) : Value → Option Value
  | .agg cs => match n with
    | none => cs.toList[off]?
    | some k => some (.agg ((cs.toList.drop off).take k).toArray)
  | _ => none

def eqsV (neg : Bool) : Value → Value → Option Value
  | .string a, .string b => some (.bool (neg ^^ (a.toList == b.toList)))
  | _, _ => none
/-- An element of an array that is a value. -/
def aixV (k : Nat) (n : Option Nat) (len : Nat) (x : Value) : Value → Option Value
  | .int _ i => if 0 ≤ i ∧ i < len then partV (i.toNat * k) n x else none
  | _ => none

def setCells (z : List Value) (off : Nat) : List Value → List Value
  | [] => z
  | c :: cs => setCells (z.set off c) (off + 1) cs

def Value.cellsL (v : Value) : List Value := v.cells.toList

/-- The cells of a struct or array that is built: places and sizes of the parts. -/
def fillV (ev : Opd → Value) (z : List Value) : List (Nat × Nat × Opd) → Option (List Value)
  | [] => some z
  | (off, size, x) :: ps => if (Value.cellsL (ev x)).length = size ∧ off + size ≤ z.length then fillV ev (setCells z off (Value.cellsL (ev x))) ps else none

def extV (i : Nat) : Value → Option Value
  | .tuple vs => vs.toList[i]?
  | _ => none

def mmV (mx : Bool) : Value → Value → Option Value
  | .int k a, .int _ b => some (.int k (bif mx then max a b else min a b))
  | _, _ => none

/-- 'there is such a value, and K holds of it'. -/
def optW : Option Value → (Value → Prop) → Prop
  | some v, K => K v
  | none, _ => False
@[simp] theorem optW_some (v : Value) (K : Value → Prop) : optW (some v) K = K v := rfl

/-! ### What runs come to, framed -/

/-- A run over the chunks L: whatever lies beside them stays. -/
def SemW {α : Type} (P : Program) (s : Sem α) (L : List Chunk) (K : α → List Chunk → Prop) : Prop :=
  ∀ (F : List Chunk) (W w : World), St W w (L ++ F) → ∃ v w' L', s.run P w = .ok v w' ∧ St W w' (L' ++ F) ∧ K v L'

/-- A run that only reads. -/
def RdW {α : Type} (P : Program) (s : Sem α) (L : List Chunk) (K : α → Prop) : Prop :=
  ∃ v, (∀ W w, St W w L → s.run P w = .ok v w) ∧ K v

/-- A function that may be called: it has a body. -/
def callable (P : Program) (f : FuncId) : Prop := ∃ fn c, P.funcs[f]? = some fn ∧ fn.body = some c ∧ (fn.name == "runtime.NumGoroutine") = false

/-- A call over the chunks L. -/
def CallW (P : Program) (f : FuncId) (args : List Value) (L : List Chunk) (K : Value → List Chunk → Prop) : Prop :=
  callable P f ∧ ∀ (F : List Chunk) (W w : World), St W w (L ++ F) → Calls P f args.toArray w fun e w' => ∃ v L', e = .returned v ∧ St W w' (L' ++ F) ∧ K v L'

/-- A function value is called. -/
def callFn (P : Program) (f : Value) (args : List Value) (L : List Chunk) (K : Value → List Chunk → Prop) : Prop :=
  match f with
  | .func (.func n) first captured => CallW P n (first.toList ++ args ++ captured.toList) L K
  | _ => False

/-! ### The shapes of types that an operation asks for -/

def LdS (P : Program) (t : TypeId) (n : Option Nat) : Prop :=
  match n with
  | none => ∀ w, (isAgg t).run P w = .ok false w
  | some k => ∀ w, (isAgg t).run P w = .ok true w ∧ (sizeOf t).run P w = .ok k w
def SzS (P : Program) (t : TypeId) (k : Nat) : Prop := ∀ w, (sizeOf t).run P w = .ok k w
def ZeroS (P : Program) (t : TypeId) (z : List Value) : Prop := ∃ v : Value, v.cells.toList = z ∧ ∀ w, (zeroValue t).run P w = .ok v w
def ByS (P : Program) (t : TypeId) (b : Nat) : Prop := ∃ i : TypeInfo, i.bytes = b ∧ ∀ w, (typeInfo t).run P w = .ok i w
def UnS (P : Program) (t : TypeId) (d : TypeDesc) : Prop := ∀ w, (underlying t).run P w = .ok d w
/-- Elements: how many cells, how many bytes, the cells of the zero value. -/
structure ElS (P : Program) (e : TypeId) (k bytes : Nat) (z : List Value) : Prop where
  size : SzS P e k
  bytes : ByS P e bytes
  zero : ZeroS P e z

/-- A key of a kind. -/
def KK.good : KK → Value → Prop
  | .one k, v => ∃ n, v = .int k n
  | .flat n k, v => ∃ l : List Int, l.length = n ∧ v = .agg (l.map (Value.int k)).toArray
def eqKey : Value → Value → Bool
  | .int _ a, .int _ b => decide (a = b)
  | .agg xs, .agg ys => (eqCells xs.toList ys.toList).getD false
  | _, _ => false
def findE (k : Value) : List MapEntry → Nat → Option (Nat × Value)
  | [], _ => none
  | e :: es, i => if eqKey k e.key then some (i, e.val) else findE k es (i + 1)
structure KeyS (P : Program) (t : TypeId) (kk : KK) : Prop where
  check : ∀ e v w, kk.good v → (Instr.checkKey e 10000 t v).run P w = .ok () w
  find : ∀ v (es : List MapEntry) w, kk.good v → (∀ e ∈ es, kk.good e.key) → (Instr.findKey t v es).run P w = .ok (findE v es 0) w

/-! ### What operations ask: the ones that stop a walk -/

def LdW (n : Option Nat) (a : Value) (L : List Chunk) (K : Value → Prop) : Prop := ∃ v, (∀ P t, LdS P t n → ∀ W w, St W w L → (Instr.loadAt t a).run P w = .ok v w) ∧ K v
def StW (n : Nat) (a x : Value) (L : List Chunk) (K : List Chunk → Prop) : Prop := ∀ P t, SzS P t n → SemW P (Instr.storeAt t a x) L fun _ L' => K L'
def NewW (cs : List Value) (L : List Chunk) (K : Value → List Chunk → Prop) : Prop := ∀ P elem, SemW P (do pure (.pointer (some (← newRow elem cs.toArray)))) L K
def IxsW (k : Nat) (s i : Value) (L : List Chunk) (K : Value → Prop) : Prop :=
  ∃ v, (∀ P t e, UnS P t (.slice e) → SzS P e k → ∀ W w, St W w L → (Instr.indexAt t s i).run P w = .ok v w) ∧ K v
def BldSW (n : Nat) (cs : List Value) (L : List Chunk) (K : Value → List Chunk → Prop) : Prop := ∀ P elem, SemW P (do pure (.slice (some (← newRow elem cs.toArray)) n n)) L K
def MksW (k bytes : Nat) (z : List Value) (l c : Value) (L : List Chunk) (K : Value → List Chunk → Prop) : Prop :=
  ∀ P t e, UnS P t (.slice e) → ElS P e k bytes z → SemW P (Instr.makeSlice t l c) L K
def SlcW (k : Nat) (x : Value) (lo hi mx : Option Value) (L : List Chunk) (K : Value → Prop) : Prop :=
  ∃ v, (∀ P t e, UnS P t (.slice e) → SzS P e k → ∀ W w, St W w L → (Instr.sliceAt t x lo hi mx).run P w = .ok v w) ∧ K v
def LenW (x : Value) (L : List Chunk) (K : Value → Prop) : Prop :=
  ∃ v, (∀ P t e ty, UnS P t (.slice e) → ∀ W w, St W w L → (Builtin.len_ #[t] ty #[x]).run P w = .ok v w) ∧ K v
def LenmW (x : Value) (L : List Chunk) (K : Value → Prop) : Prop :=
  ∃ v, (∀ P t ke e ty, UnS P t (.map ke e) → ∀ W w, St W w L → (Builtin.len_ #[t] ty #[x]).run P w = .ok v w) ∧ K v
def CapW (x : Value) (L : List Chunk) (K : Value → Prop) : Prop :=
  ∃ v, (∀ P t e ty, UnS P t (.slice e) → ∀ W w, St W w L → (Builtin.cap_ #[t] ty #[x]).run P w = .ok v w) ∧ K v
/-- append of a slice to a slice. -/
def AppW (k bytes : Nat) (z : List Value) (s x : Value) (L : List Chunk) (K : Value → List Chunk → Prop) : Prop :=
  ∀ P t u e ty, UnS P t (.slice e) → UnS P u (.slice e) → ElS P e k bytes z → SemW P (Builtin.append_ #[t, u] ty #[s, x]) L K
def MkmW (L : List Chunk) (K : Value → List Chunk → Prop) : Prop := ∀ P, SemW P (do pure (.map (some (← newObj (.map #[] 0))))) L K
def LookW (kk : KK) (z m k : Value) (ok : Bool) (L : List Chunk) (K : Value → Prop) : Prop :=
  ∃ v, (∀ P t ke e, UnS P t (.map ke e) → KeyS P ke kk → (∀ w, (zeroValue e).run P w = .ok z w) → ∀ W w, St W w L → (Instr.lookup t m k ok).run P w = .ok v w) ∧ K v
def UpmW (kk : KK) (m k v : Value) (L : List Chunk) (K : List Chunk → Prop) : Prop :=
  ∀ P t ke e, UnS P t (.map ke e) → KeyS P ke kk → SemW P (Instr.mapUpdate t m k v) L fun _ L' => K L'
def MentW (kk : KK) (z m k : Value) (L : List Chunk) (K : Value → List Chunk → Prop) : Prop :=
  ∀ P t ke e, UnS P t (.map ke e) → KeyS P ke kk → (∀ w, (zeroValue e).run P w = .ok z w) → SemW P (Instr.mapEntry t m k) L K
def MstW (m k v : Value) (L : List Chunk) (K : List Chunk → Prop) : Prop := ∀ P t, SemW P (Instr.entryStore t m k v) L fun _ L' => K L'
def DelW (kk : KK) (m k : Value) (L : List Chunk) (K : Value → List Chunk → Prop) : Prop :=
  ∀ P t u ke e ty, UnS P t (.map ke e) → KeyS P ke kk → SemW P (Builtin.delete_ #[t, u] ty #[m, k]) L K
def ClrW (k : Nat) (z : List Value) (x : Value) (L : List Chunk) (K : Value → List Chunk → Prop) : Prop :=
  ∀ P t e ty, UnS P t (.slice e) → SzS P e k → ZeroS P e z → SemW P (Builtin.clear_ #[t] ty #[x]) L K
def RngW (m : Value) (L : List Chunk) (K : Value → List Chunk → Prop) : Prop := ∀ P t ke e, UnS P t (.map ke e) → SemW P (Instr.range t m) L K
def NxtW (it : Value) (L : List Chunk) (K : Value → List Chunk → Prop) : Prop := ∀ P ty, SemW P (Instr.next it false ty) L K
def EntW (it : Value) (L : List Chunk) (K : Value → Prop) : Prop := ∃ v, (∀ P W w, St W w L → (Instr.entry it).run P w = .ok v w) ∧ K v
def nilShape : NK → Value → Bool → Prop
  | .ptr, x, b => (x = .pointer none ∧ b = true) ∨ ((∃ a, x = .pointer (some a)) ∧ b = false)
  | .slice, x, b => ((∃ n c, x = .slice none n c) ∧ b = true) ∨ ((∃ a n c, x = .slice (some a) n c) ∧ b = false)
  | .map, x, b => (x = .map none ∧ b = true) ∨ ((∃ r, x = .map (some r)) ∧ b = false)
  | .func, x, b => (x = .nilFunc ∧ b = true) ∨ ((∃ f a c, x = .func f a c) ∧ b = false)
/-- Bytes made a text. -/
def StrW (x : Value) (L : List Chunk) (K : Value → Prop) : Prop :=
  ∃ v, (∀ P src e dst, UnS P src (.slice e) → UnS P e (.int .u8) → UnS P dst .string → ∀ W w, St W w L → (convert src dst x).run P w = .ok v w) ∧ K v
/-- A value held against nil: K of whether it is. -/
def NilW (kind : NK) (x : Value) (L : List Chunk) (K : Bool → Prop) : Prop := ∃ b, (∀ W w, St W w L → nilShape kind x b) ∧ K b
/-- A pointer that is followed is not nil. -/
def NnW (x : Value) (L : List Chunk) (K : Prop) : Prop := (∀ W w, St W w L → ∃ a, x = .pointer (some a)) ∧ K

/-- What an operation that only reads comes to. -/
def rdOp (op : SOp) (ev : Opd → Value) (L : List Chunk) (K : Value → Prop) : Prop :=
  match op with
  | .val x => K (ev x)
  | .pick c a b => optW (pickV (ev c) (ev a) (ev b)) K
  | .bin o x y => optW (binV o (ev x) (ev y)) K
  | .eqb neg x y => optW (eqbV neg (ev x) (ev y)) K
  | .eqagg neg n x y => optW (eqaggV neg n (ev x) (ev y)) K
  | .eqnil kind neg x => NilW kind (ev x) L fun b => K (.bool (neg ^^ b))
  | .un o x => optW (unV o (ev x)) K
  | .conv k x => optW (convV k (ev x)) K
  | .str x => StrW (ev x) L K
  | .eqs neg x y => optW (eqsV neg (ev x) (ev y)) K
  | .aix k n len x i => optW (aixV k n len (ev x) (ev i)) K
  | .ld n a => LdW n (ev a) L K
  | .fld off p => NnW (ev p) L (K (addP (ev p) off))
  | .ixs k s i => IxsW k (ev s) (ev i) L K
  | .part off n x => optW (partV off n (ev x)) K
  | .bld z ps => optW ((fillV ev z ps).map fun cs => .agg cs.toArray) K
  | .slc k x lo hi mx => SlcW k (ev x) (lo.map ev) (hi.map ev) (mx.map ev) L K
  | .len x => LenW (ev x) L K
  | .lenm x => LenmW (ev x) L K
  | .cap x => CapW (ev x) L K
  | .look kk z m k ok => LookW kk z (ev m) (ev k) ok L K
  | .ent it => EntW (ev it) L K
  | .fn f first captured => K (.func f (first.map ev).toArray (captured.map ev).toArray)
  | .ext x i => optW (extV i (ev x)) K
  | .nil x => NnW (ev x) L (K (ev x))
  | .mm mx x y => optW (mmV mx (ev x) (ev y)) K
  | _ => False

/-- What an operation comes to. -/
def opW (P : Program) (op : SOp) (ev : Opd → Value) (L : List Chunk) (K : Value → List Chunk → Prop) : Prop :=
  match op with
  | .st n a x => StW n (ev a) (ev x) L fun L' => K undef L'
  | .new z => NewW z L K
  | .box x => NewW (Value.cellsL (ev x)) L K
  | .bldS k n z ps => match fillV ev z (ps.map fun p => (p.1 * k, k, p.2)) with
    | some cs => BldSW n cs L K
    | none => False
  | .mks k bytes z l c => MksW k bytes z (ev l) (ev c) L K
  | .app k bytes z s x => AppW k bytes z (ev s) (ev x) L K
  | .mkm => MkmW L K
  | .upm kk m k v => UpmW kk (ev m) (ev k) (ev v) L fun L' => K undef L'
  | .ment kk z m k => MentW kk z (ev m) (ev k) L K
  | .mst m k v => MstW (ev m) (ev k) (ev v) L fun L' => K undef L'
  | .del kk m k => DelW kk (ev m) (ev k) L K
  | .clr k z x => ClrW k z (ev x) L K
  | .rng m => RngW (ev m) L K
  | .nxt it => NxtW (ev it) L K
  | .call f args => CallW P f (args.map ev) L K
  | .calld f args => callFn P (ev f) (args.map ev) L K
  | op => rdOp op ev L fun v => K v L

/-- A test: the ways part. -/
def condW (v : Value) (A B : Prop) : Prop :=
  match v with
  | .bool b => (b = true → A) ∧ (b = false → B)
  | _ => False
def guardW (g : Option (Nat × Bool)) (e : Env) (A B : Prop) : Prop :=
  match g with
  | none => A
  | some (s, want) => match e s with
    | .bool b => bif want then condW (.bool b) A B else condW (.bool b) B A
    | _ => B

def updO (e : Env) (d : Option Nat) (v : Value) : Env :=
  match d with
  | some d => upd e d v
  | none => e

def opsW (P : Program) : List SOpr → Env → List Chunk → (Env → List Chunk → Prop) → Prop
  | [], e, L, K => K e L
  | o :: rest, e, L, K => guardW o.guard e (opW P o.op (ev e) L fun v L' => opsW P rest (updO e o.dst v) L' K) (opsW P rest (updO e o.dst undef) L K)

/-- What has been read ahead of its time reads the same of less. -/
def stillW (ops : List SOpr) : List Nat → Env → List Chunk → Prop
  | [], _, _ => True
  | r :: rs, e, F => (match ops[r]? with
    | some o => guardW o.guard e (rdOp o.op (ev e) F fun v => ∀ d, o.dst = some d → v = e d) True
    | none => False) ∧ stillW ops rs e F

def plW (P : Program) (ops : List SOpr) : Plan → Env → List Chunk → List Chunk → (Env → List Chunk → Prop) → Prop
  | .done, e, F, L, K => K e (L ++ F)
  | .rd i p, e, F, L, K => match ops[i]? with
    | some o => guardW o.guard e (rdOp o.op (ev e) F fun v => plW P ops p (updO e o.dst v) F L K) (plW P ops p (updO e o.dst undef) F L K)
    | none => False
  | .eff i pend p alts, e, F, L, K => (match ops[i]? with
    | some o => guardW o.guard e
        (match pend with
          | [] => opW P o.op (ev e) (L ++ F) fun v L' => plW P ops p (updO e o.dst v) L' [] K
          | _ :: _ => (opW P o.op (ev e) L fun v L' => plW P ops p (updO e o.dst v) F L' K) ∨ ∃ F1 F2, (∀ h, Holds F h → Holds (F1 ++ F2) h) ∧ stillW ops pend e F2 ∧ opW P o.op (ev e) (L ++ F1) fun v L' => plW P ops p (updO e o.dst v) F2 L' K)
        (plW P ops p (updO e o.dst undef) F L K)
    | none => False) ∧ plW P ops alts e F L K
  | .nomore, _, _, _, _ => True

/-- Of the slots that a region wrote only those that are read elsewhere. -/
def prune : List Nat → Env → Env → Env
  | [], e, _ => e
  | d :: ds, e, e' => upd (prune ds e e') d (e' d)

inductive SEx where
  | normal
  | exit (id : Nat)
  | ret

abbrev Post := SEx → Env → List Chunk → Prop
def thenQ (K : Env → List Chunk → Prop) (Q : Post) : Post
  | .normal, e, L => K e L
  | x, e, L => Q x e L
def blockQ (id : Nat) (Q : Post) : Post
  | .exit i, e, L => bif Nat.beq i id then Q .normal e L else Q (.exit i) e L
  | x, e, L => Q x e L

/-- A loop: what holds at each round's head, with a number that falls. -/
def loopW (body : Post → Env → List Chunk → Prop) (Q : Post) (e : Env) (L : List Chunk) : Prop :=
  ∃ I : Nat → Env → List Chunk → Prop, (∃ n, I n e L) ∧ ∀ n e L, I n e L → body (thenQ (fun e' L' => ∃ m, m < n ∧ ∃ M, (∀ h, Holds L' h → Holds M h) ∧ I m e' M) Q) e L

def sW (P : Program) : SC → Post → Env → List Chunk → Prop
  | .skip, Q, e, L => Q .normal e L
  | .reg ops outs, Q, e, L => opsW P ops e L fun e' L' => Q .normal (prune outs e e') L'
  | .drw ops outs plan, Q, e, L => plW P ops plan e L [] fun e' L' => Q .normal (prune outs e e') L'
  | .seq a b, Q, e, L => sW P a (thenQ (sW P b Q) Q) e L
  | .cond c a b, Q, e, L => condW (ev e c) (sW P a Q e L) (sW P b Q e L)
  | .block id c, Q, e, L => sW P c (blockQ id Q) e L
  | .loop c, Q, e, L => loopW (fun Q e L => sW P c Q e L) Q e L
  | .exit id, Q, e, L => Q (.exit id) e L
  | .ret, Q, e, L => Q .ret e L
  | .scope c, Q, e, L => sW P c Q e L

/-- A function: its body, how many slots there are, the results (a slot, or the slot of a cell with its size). -/
structure SFn where
  body : SC
  ntmps : Nat
  results : List (Nat × Option (Option Nat))

def resW : List (Nat × Option (Option Nat)) → Env → List Chunk → (List Value → Prop) → Prop
  | [], _, _, K => K []
  | (s, none) :: rs, e, L, K => resW rs e L fun vs => K (e s :: vs)
  | (s, some n) :: rs, e, L, K => LdW n (e s) L fun v => resW rs e L fun vs => K (v :: vs)

def packV : List Value → Value
  | [v] => v
  | vs => .tuple vs.toArray

def retQ (rs : List (Nat × Option (Option Nat))) (K : Value → List Chunk → Prop) : Post
  | .normal, e, L | .ret, e, L => resW rs e L fun vs => K (packV vs) L
  | .exit _, _, _ => False

def argsE (args : List Value) : Env := fun i => args.getD i undef

def fnW (P : Program) (s : SFn) (args : List Value) (L : List Chunk) (K : Value → List Chunk → Prop) : Prop :=
  sW P s.body (retQ s.results K) (argsE args) L

end Go.SL
