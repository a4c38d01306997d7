/- A part of the proofs' own ground: the model's code made into the small code, types looked up; and that what the small code asks is enough. -/
import Derived.Test.YtebcdnnfjcaofaaIr
import Derived.Orders
import Derived.ChangeKeysEq
import Derived.Laws.Entries
import Derived.Tactics
namespace Go.SL

def opdOf : Operand → Opd
  | .tmp t => .s t
  | .const v => .k v
  | .global g => .k (.pointer (some ⟨g, 0, none⟩))
  | .func f => .k (.func (.func f) #[] #[])

def isIntT (P : Program) (t : TypeId) : Bool := match P.underlying t with | some (.int _) => true | _ => false
def aggN (P : Program) (t : TypeId) : Option (Option Nat) :=
  match P.underlying t, P.info? t with
  | some (.struct _), some i | some (.array _ _), some i => some (some i.size)
  | some _, some _ => some none
  | _, _ => none
def zeroOf (P : Program) (t : TypeId) : Option Value := (P.info? t).bind (·.zero)
def zeroL (P : Program) (t : TypeId) : Option (List Value) := (zeroOf P t).map fun v => v.cells.toList
def sizeOfT (P : Program) (t : TypeId) : Option Nat := (P.info? t).map (·.size)

/-- Fields that are integers, one behind the other. -/
def flatFields (P : Program) : List Field → Nat → Bool
  | [], _ => true
  | f :: fs, i => !(f.name == "_") && Nat.beq f.offset i && isIntT P f.type && flatFields P fs (i + 1)
def flatT (P : Program) (t : TypeId) : Bool :=
  match P.underlying t with
  | some (.struct fs) => flatFields P fs.toList 0 && !P.stoodInHeld t
  | some (.array _ e) => isIntT P e && (match sizeOfT P e with | some s => Nat.beq s 1 | none => false)
  | _ => false
def flatLen (P : Program) (t : TypeId) : Nat :=
  match P.underlying t with
  | some (.struct fs) => fs.toList.length
  | some (.array n _) => n
  | _ => 0
def allKind (P : Program) (k : IntKind) : List Field → Bool
  | [] => true
  | f :: fs => (match P.underlying f.type with | some (.int k') => decide (k = k') | _ => false) && allKind P k fs
def kkOf (P : Program) (t : TypeId) : Option KK :=
  match P.underlying t with
  | some (.int k) => some (.one k)
  | some (.struct fs) => if flatT P t then (match fs.toList with
      | f :: _ => (match P.underlying f.type with | some (.int k) => if allKind P k fs.toList then some (.flat fs.toList.length k) else none | _ => none)
      | [] => none) else none
  | some (.array n e) => if flatT P t then (match P.underlying e with | some (.int k) => some (.flat n k) | _ => none) else none
  | _ => none

def nkOf : TypeDesc → Option NK
  | .pointer _ => some .ptr
  | .slice _ => some .slice
  | .map _ _ => some .map
  | .func _ _ _ => some .func
  | _ => none
def isNilConst : Operand → Bool
  | .const (.pointer none) | .const (.slice none _ _) | .const (.map none) | .const .nilFunc => true
  | _ => false

def negOf : BinOp → Option Bool
  | .eql => some false
  | .neq => some true
  | _ => none

def eraseBin (P : Program) (op : BinOp) (t : TypeId) (x y : Operand) : Option SOp :=
  match P.underlying t with
  | some (.int _) => some (.bin op (opdOf x) (opdOf y))
  | some .bool => (negOf op).map fun n => .eqb n (opdOf x) (opdOf y)
  | some .string => (negOf op).map fun n => .eqs n (opdOf x) (opdOf y)
  | some d => (negOf op).bind fun n =>
      match nkOf d with
      | some k => match y with
        | .const (.pointer none) | .const (.slice none _ _) | .const (.map none) | .const .nilFunc => if nkConst k y then some (.eqnil k n (opdOf x)) else none
        | _ => none
      | none => if flatT P t && !P.eqGuardType P.depth t then some (.eqagg n (flatLen P t) (opdOf x) (opdOf y)) else none
  | none => none
where
  nkConst : NK → Operand → Bool
    | .ptr, .const (.pointer none) => true
    | .slice, .const (.slice none _ _) => true
    | .map, .const (.map none) => true
    | .func, .const .nilFunc => true
    | _, _ => false

/-- Whose elements: how many cells, how many bytes, the zero value's cells. -/
def elOf (P : Program) (e : TypeId) : Option (Nat × Nat × List Value) :=
  match P.info? e with
  | some i => match i.zero with
    | some z => some (i.size, i.bytes, z.cells.toList)
    | none => none
  | none => none

def repCells (z : List Value) (n : Nat) : List Value := (List.range n).map fun i => z.getD (i % z.length) default

def placesOf (P : Program) : List Field → Option (List (Nat × Nat))
  | [] => some []
  | f :: fs => match sizeOfT P f.type, placesOf P fs with
    | some s, some r => some ((f.offset, s) :: r)
    | _, _ => none

def partsOf (pl : List (Nat × Nat)) : List (Nat × Operand) → Option (List (Nat × Nat × Opd))
  | [] => some []
  | (i, x) :: ps => match pl[i]?, partsOf pl ps with
    | some (off, size), some r => some ((off, size, opdOf x) :: r)
    | _, _ => none

def eraseCall (P : Program) (c : Call) : Option SOp :=
  match c.callee with
  | .value (.func f) => match P.funcs[f]? with
    | some fn => if fn.body.isSome && !(fn.name == "runtime.NumGoroutine") then some (.call f (c.args.toList.map opdOf)) else none
    | none => none
  | .value x => some (.calld (opdOf x) (c.args.toList.map opdOf))
  | .invoke _ _ => none
  | .builtin b => match b, c.args.toList, c.argTypes.toList with
    | .len, [x], [t] => (match P.underlying t with | some (.slice _) => some (.len (opdOf x)) | some (.map _ _) => some (.lenm (opdOf x)) | _ => none)
    | .cap, [x], [t] => (match P.underlying t with | some (.slice _) => some (.cap (opdOf x)) | _ => none)
    | .append, [s, x], [t, u] => (match P.underlying t, P.underlying u with
        | some (.slice e), some (.slice e') => if Nat.beq e e' then (elOf P e).map fun (k, b, z) => .app k b z (opdOf s) (opdOf x) else none
        | _, _ => none)
    | .delete, [m, k], [t, _] => (match P.underlying t with | some (.map ke _) => (kkOf P ke).map fun kk => .del kk (opdOf m) (opdOf k) | _ => none)
    | .clear, [x], [t] => (match P.underlying t with | some (.slice e) => (elOf P e).map fun (k, _, z) => .clr k z (opdOf x) | _ => none)
    | .max, [x, y], _ => some (.mm true (opdOf x) (opdOf y))
    | .min, [x, y], _ => some (.mm false (opdOf x) (opdOf y))
    | _, _, _ => none

def eraseOp (P : Program) : Op → Option SOp
  | .move x => some (.val (opdOf x))
  | .assign x => some (.val (opdOf x))
  | .pick c a b => some (.pick (opdOf c) (opdOf a) (opdOf b))
  | .binOp op t x y _ => eraseBin P op t x y
  | .unOp op _ x => some (.un op (opdOf x))
  | .convert src dst x => match P.underlying src, P.underlying dst with
    | some (.int _), some (.int k) => some (.conv k (opdOf x))
    | some (.slice e), some .string => match P.underlying e with | some (.int .u8) => some (.str (opdOf x)) | _ => none
    | _, _ => none
  | .load t a => (aggN P t).map fun n => .ld n (opdOf a)
  | .store t a x => (sizeOfT P t).map fun n => .st n (opdOf a) (opdOf x)
  | .alloc e => (zeroL P e).map fun z => .new z
  | .box _ x => some (.box (opdOf x))
  | .build t parts => match P.underlying t, zeroL P t with
    | some (.struct fs), some z => (placesOf P fs.toList).bind fun pl => (partsOf pl parts.toList).map fun ps => .bld z ps
    | some (.array _ e), some z => (sizeOfT P e).map fun s => .bld z (parts.toList.map fun p => (p.1 * s, s, opdOf p.2))
    | _, _ => none
  | .buildSlice t n parts => match P.underlying t with
    | some (.slice e) => (elOf P e).bind fun (k, _, z) => if n * k ≤ 2 ^ 24 then some (.bldS k n (repCells z (n * k)) (parts.toList.map fun p => (p.1, opdOf p.2))) else none
    | _ => none
  | .makeSlice t l c => match P.underlying t with
    | some (.slice e) => (elOf P e).map fun (k, b, z) => .mks k b z (opdOf l) (opdOf c)
    | _ => none
  | .makeMap _ none => some .mkm
  | .fieldAddr s x f => match P.underlying s with
    | some (.struct fs) => match fs[f]? with
      | some fd => match sizeOfT P fd.type with
        | some n => if Nat.beq n 0 then none else some (.fld fd.offset (opdOf x))
        | none => none
      | none => none
    | _ => none
  | .field t x f => match P.underlying t with
    | some (.struct fs) => match fs[f]? with
      | some fd => (aggN P fd.type).map fun n => .part fd.offset n (opdOf x)
      | none => none
    | _ => none
  | .indexAddr t x i => match P.underlying t with
    | some (.slice e) => (sizeOfT P e).map fun k => .ixs k (opdOf x) (opdOf i)
    | _ => none
  | .index t x i => match P.underlying t with
    | some (.array len e) => match sizeOfT P e, aggN P e with
      | some k, some g => some (.aix k g len (opdOf x) (opdOf i))
      | _, _ => none
    | _ => none
  | .slice t x lo hi mx => match P.underlying t with
    | some (.slice e) => (sizeOfT P e).map fun k => .slc k (opdOf x) (lo.map opdOf) (hi.map opdOf) (mx.map opdOf)
    | _ => none
  | .lookup t m k ok => match P.underlying t with
    | some (.map ke e) => (kkOf P ke).bind fun kk => (zeroOf P e).map fun z => .look kk z (opdOf m) (opdOf k) ok
    | _ => none
  | .mapUpdate t m k v => match P.underlying t with
    | some (.map ke _) => (kkOf P ke).map fun kk => .upm kk (opdOf m) (opdOf k) (opdOf v)
    | _ => none
  | .mapEntry t m k => match P.underlying t with
    | some (.map ke e) => (kkOf P ke).bind fun kk => (zeroOf P e).map fun z => .ment kk z (opdOf m) (opdOf k)
    | _ => none
  | .entryStore _ m k v => some (.mst (opdOf m) (opdOf k) (opdOf v))
  | .range t m => match P.underlying t with
    | some (.map _ _) => some (.rng (opdOf m))
    | _ => none
  | .next it false => some (.nxt (opdOf it))
  | .entry it => some (.ent (opdOf it))
  | .makeFunc f first captured => some (.fn f (first.toList.map opdOf) (captured.toList.map opdOf))
  | .extract x i => some (.ext (opdOf x) i)
  | .nilCheck x => some (.nil (opdOf x))
  | .call c => eraseCall P c
  | _ => none

end Go.SL
