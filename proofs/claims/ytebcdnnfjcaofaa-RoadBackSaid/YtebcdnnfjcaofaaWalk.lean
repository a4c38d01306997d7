/- A part of the proofs' own ground: the steps of a walk, as rewrite rules. The rest of the code stands behind a lock, so that no rewriting goes into it. -/
import Derived.Test.YtebcdnnfjcaofaaFn
import Derived.KernelRfl
namespace Go.SL

/-- What an argument's type hangs on is not rewritten. -/
inductive Lk {α : Sort _} (a : α) : Type
  | mk

abbrev KV := Value → Prop
abbrev KVL := Value → List Chunk → Prop
abbrev KL := List Chunk → Prop
abbrev KE := Env → List Chunk → Prop

@[irreducible] def LdX (n : Option Nat) (a : Value) (L : List Chunk) (K : KV) (_ : Lk K) : Prop := LdW n a L K
@[irreducible] def StX (n : Nat) (a : Value) (x : Value) (L : List Chunk) (K : KL) (_ : Lk K) : Prop := StW n a x L K
@[irreducible] def NewX (cs : List Value) (L : List Chunk) (K : KVL) (_ : Lk K) : Prop := NewW cs L K
@[irreducible] def IxsX (k : Nat) (s : Value) (i : Value) (L : List Chunk) (K : KV) (_ : Lk K) : Prop := IxsW k s i L K
@[irreducible] def BldSX (n : Nat) (cs : List Value) (L : List Chunk) (K : KVL) (_ : Lk K) : Prop := BldSW n cs L K
@[irreducible] def MksX (k : Nat) (b : Nat) (z : List Value) (l : Value) (c : Value) (L : List Chunk) (K : KVL) (_ : Lk K) : Prop := MksW k b z l c L K
@[irreducible] def SlcX (k : Nat) (x : Value) (lo : Option Value) (hi : Option Value) (mx : Option Value) (L : List Chunk) (K : KV) (_ : Lk K) : Prop := SlcW k x lo hi mx L K
@[irreducible] def LenX (x : Value) (L : List Chunk) (K : KV) (_ : Lk K) : Prop := LenW x L K
@[irreducible] def LenmX (x : Value) (L : List Chunk) (K : KV) (_ : Lk K) : Prop := LenmW x L K
@[irreducible] def CapX (x : Value) (L : List Chunk) (K : KV) (_ : Lk K) : Prop := CapW x L K
@[irreducible] def AppX (k : Nat) (b : Nat) (z : List Value) (s : Value) (x : Value) (L : List Chunk) (K : KVL) (_ : Lk K) : Prop := AppW k b z s x L K
@[irreducible] def MkmX  (L : List Chunk) (K : KVL) (_ : Lk K) : Prop := MkmW  L K
@[irreducible] def LookX (kk : KK) (z : Value) (m : Value) (k : Value) (ok : Bool) (L : List Chunk) (K : KV) (_ : Lk K) : Prop := LookW kk z m k ok L K
@[irreducible] def UpmX (kk : KK) (m : Value) (k : Value) (v : Value) (L : List Chunk) (K : KL) (_ : Lk K) : Prop := UpmW kk m k v L K
@[irreducible] def MentX (kk : KK) (z : Value) (m : Value) (k : Value) (L : List Chunk) (K : KVL) (_ : Lk K) : Prop := MentW kk z m k L K
@[irreducible] def MstX (m : Value) (k : Value) (v : Value) (L : List Chunk) (K : KL) (_ : Lk K) : Prop := MstW m k v L K
@[irreducible] def DelX (kk : KK) (m : Value) (k : Value) (L : List Chunk) (K : KVL) (_ : Lk K) : Prop := DelW kk m k L K
@[irreducible] def ClrX (k : Nat) (z : List Value) (x : Value) (L : List Chunk) (K : KVL) (_ : Lk K) : Prop := ClrW k z x L K
@[irreducible] def RngX (m : Value) (L : List Chunk) (K : KVL) (_ : Lk K) : Prop := RngW m L K
@[irreducible] def NxtX (it : Value) (L : List Chunk) (K : KVL) (_ : Lk K) : Prop := NxtW it L K
@[irreducible] def EntX (it : Value) (L : List Chunk) (K : KV) (_ : Lk K) : Prop := EntW it L K
@[irreducible] def StrX (x : Value) (L : List Chunk) (K : KV) (_ : Lk K) : Prop := StrW x L K
@[irreducible] def NilX (kind : NK) (x : Value) (L : List Chunk) (K : Bool → Prop) (_ : Lk K) : Prop := NilW kind x L K
@[irreducible] def NnX (x : Value) (L : List Chunk) (A : Prop) (_ : Lk A) : Prop := NnW x L A
@[irreducible] def CallX (P : Program) (f : FuncId) (as : List Value) (L : List Chunk) (K : KVL) (_ : Lk K) : Prop := CallW P f as L K
@[irreducible] def callFnX (P : Program) (f : Value) (as : List Value) (L : List Chunk) (K : KVL) (_ : Lk K) : Prop := callFn P f as L K
@[irreducible] def optX (o : Option Value) (K : KV) (_ : Lk K) : Prop := optW o K
@[irreducible] def condX (v : Value) (A B : Prop) (_ : Lk A) (_ : Lk B) : Prop := condW v A B
@[irreducible] def guardX (v : Value) (want : Bool) (A B : Prop) (_ : Lk A) (_ : Lk B) : Prop :=
  match v with
  | .bool b => bif want then condW (.bool b) A B else condW (.bool b) B A
  | _ => B
@[irreducible] def opX (P : Program) (op : SOp) (ev' : Opd → Value) (L : List Chunk) (K : KVL) (_ : Lk op) (_ : Lk K) : Prop := opW P op ev' L K
@[irreducible] def rdX (op : SOp) (ev' : Opd → Value) (L : List Chunk) (K : KV) (_ : Lk op) (_ : Lk K) : Prop := rdOp op ev' L K
@[irreducible] def opsX (P : Program) (ops : List SOpr) (e : Env) (L : List Chunk) (K : KE) (_ : Lk ops) (_ : Lk K) : Prop := opsW P ops e L K
@[irreducible] def plX (P : Program) (ops : List SOpr) (p : Plan) (e : Env) (F L : List Chunk) (K : KE) (_ : Lk ops) (_ : Lk p) (_ : Lk K) : Prop := plW P ops p e F L K
@[irreducible] def sX (P : Program) (c : SC) (Q : Post) (e : Env) (L : List Chunk) (_ : Lk c) (_ : Lk Q) : Prop := sW P c Q e L
/-- A post, at an exit. -/
@[irreducible] def qX (Q : Post) (x : SEx) (e : Env) (L : List Chunk) (_ : Lk Q) : Prop := Q x e L
@[irreducible] def loopX (P : Program) (c : SC) (Q : Post) (e : Env) (L : List Chunk) (_ : Lk c) (_ : Lk Q) : Prop := loopW (fun Q e L => sW P c Q e L) Q e L
@[irreducible] def resX (rs : List (Nat × Option (Option Nat))) (e : Env) (L : List Chunk) (K : List Value → Prop) (_ : Lk K) : Prop := resW rs e L K
def thenX (P : Program) (b : SC) (Q : Post) : Post := thenQ (sW P b Q) Q

open Lk (mk)

section
variable {P : Program} {K : KVL} {ev' : Opd → Value} {L : List Chunk} {x y z : Opd} {u : Lk K}
@[go_sem] theorem opX_val  {h : Lk (SOp.val x)} : opX P (.val x) ev' L K h u = K (ev' x) L := by with_unfolding_all rfl
@[go_sem] theorem opX_pick  {h : Lk (SOp.pick x y z)} : opX P (.pick x y z) ev' L K h u = optX (pickV (ev' x) (ev' y) (ev' z)) (fun v => K v L) mk := by with_unfolding_all rfl
@[go_sem] theorem opX_bin {o : BinOp} {h : Lk (SOp.bin o x y)} : opX P (.bin o x y) ev' L K h u = optX (binV o (ev' x) (ev' y)) (fun v => K v L) mk := by with_unfolding_all rfl
@[go_sem] theorem opX_eqb {b : Bool} {h : Lk (SOp.eqb b x y)} : opX P (.eqb b x y) ev' L K h u = optX (eqbV b (ev' x) (ev' y)) (fun v => K v L) mk := by with_unfolding_all rfl
@[go_sem] theorem opX_eqagg {b : Bool} {n : Nat} {h : Lk (SOp.eqagg b n x y)} : opX P (.eqagg b n x y) ev' L K h u = optX (eqaggV b n (ev' x) (ev' y)) (fun v => K v L) mk := by with_unfolding_all rfl
@[go_sem] theorem opX_eqnil {k : NK} {b : Bool} {h : Lk (SOp.eqnil k b x)} : opX P (.eqnil k b x) ev' L K h u = NilX k (ev' x) L (fun r => K (.bool (b ^^ r)) L) mk := by with_unfolding_all rfl
@[go_sem] theorem opX_un {o : UnOp} {h : Lk (SOp.un o x)} : opX P (.un o x) ev' L K h u = optX (unV o (ev' x)) (fun v => K v L) mk := by with_unfolding_all rfl
@[go_sem] theorem opX_conv {k : IntKind} {h : Lk (SOp.conv k x)} : opX P (.conv k x) ev' L K h u = optX (convV k (ev' x)) (fun v => K v L) mk := by with_unfolding_all rfl
@[go_sem] theorem opX_str {h : Lk (SOp.str x)} : opX P (.str x) ev' L K h u = StrX (ev' x) L (fun v => K v L) mk := by with_unfolding_all rfl
@[go_sem] theorem opX_eqs {b : Bool} {h : Lk (SOp.eqs b x y)} : opX P (.eqs b x y) ev' L K h u = optX (eqsV b (ev' x) (ev' y)) (fun v => K v L) mk := by with_unfolding_all rfl
@[go_sem] theorem opX_aix {k : Nat} {n : Option Nat} {l : Nat} {h : Lk (SOp.aix k n l x y)} : opX P (.aix k n l x y) ev' L K h u = optX (aixV k n l (ev' x) (ev' y)) (fun v => K v L) mk := by with_unfolding_all rfl
@[go_sem] theorem opX_ld {n : Option Nat} {h : Lk (SOp.ld n x)} : opX P (.ld n x) ev' L K h u = LdX n (ev' x) L (fun v => K v L) mk := by with_unfolding_all rfl
@[go_sem] theorem opX_st {n : Nat} {h : Lk (SOp.st n x y)} : opX P (.st n x y) ev' L K h u = StX n (ev' x) (ev' y) L (fun L' => K undef L') mk := by with_unfolding_all rfl
@[go_sem] theorem opX_new {cs : List Value} {h : Lk (SOp.new cs)} : opX P (.new cs) ev' L K h u = NewX cs L K mk := by with_unfolding_all rfl
@[go_sem] theorem opX_box  {h : Lk (SOp.box x)} : opX P (.box x) ev' L K h u = NewX (Value.cellsL (ev' x)) L K mk := by with_unfolding_all rfl
@[go_sem] theorem opX_fld {n : Nat} {h : Lk (SOp.fld n x)} : opX P (.fld n x) ev' L K h u = NnX (ev' x) L (K (addP (ev' x) n) L) mk := by with_unfolding_all rfl
@[go_sem] theorem opX_ixs {k : Nat} {h : Lk (SOp.ixs k x y)} : opX P (.ixs k x y) ev' L K h u = IxsX k (ev' x) (ev' y) L (fun v => K v L) mk := by with_unfolding_all rfl
@[go_sem] theorem opX_part {o : Nat} {n : Option Nat} {h : Lk (SOp.part o n x)} : opX P (.part o n x) ev' L K h u = optX (partV o n (ev' x)) (fun v => K v L) mk := by with_unfolding_all rfl
@[go_sem] theorem opX_bld {zs : List Value} {ps : List (Nat × Nat × Opd)} {h : Lk (SOp.bld zs ps)} : opX P (.bld zs ps) ev' L K h u = optX ((fillV ev' zs ps).map fun cs => .agg cs.toArray) (fun v => K v L) mk := by with_unfolding_all rfl
@[go_sem] theorem opX_mks {k b : Nat} {zs : List Value} {h : Lk (SOp.mks k b zs x y)} : opX P (.mks k b zs x y) ev' L K h u = MksX k b zs (ev' x) (ev' y) L K mk := by with_unfolding_all rfl
@[go_sem] theorem opX_slc {k : Nat} {lo hi mx : Option Opd} {h : Lk (SOp.slc k x lo hi mx)} : opX P (.slc k x lo hi mx) ev' L K h u = SlcX k (ev' x) (lo.map ev') (hi.map ev') (mx.map ev') L (fun v => K v L) mk := by with_unfolding_all rfl
@[go_sem] theorem opX_len  {h : Lk (SOp.len x)} : opX P (.len x) ev' L K h u = LenX (ev' x) L (fun v => K v L) mk := by with_unfolding_all rfl
@[go_sem] theorem opX_lenm  {h : Lk (SOp.lenm x)} : opX P (.lenm x) ev' L K h u = LenmX (ev' x) L (fun v => K v L) mk := by with_unfolding_all rfl
@[go_sem] theorem opX_cap  {h : Lk (SOp.cap x)} : opX P (.cap x) ev' L K h u = CapX (ev' x) L (fun v => K v L) mk := by with_unfolding_all rfl
@[go_sem] theorem opX_app {k b : Nat} {zs : List Value} {h : Lk (SOp.app k b zs x y)} : opX P (.app k b zs x y) ev' L K h u = AppX k b zs (ev' x) (ev' y) L K mk := by with_unfolding_all rfl
@[go_sem] theorem opX_mkm  {h : Lk (SOp.mkm)} : opX P (.mkm) ev' L K h u = MkmX L K mk := by with_unfolding_all rfl
@[go_sem] theorem opX_look {kk : KK} {zv : Value} {ok : Bool} {h : Lk (SOp.look kk zv x y ok)} : opX P (.look kk zv x y ok) ev' L K h u = LookX kk zv (ev' x) (ev' y) ok L (fun v => K v L) mk := by with_unfolding_all rfl
@[go_sem] theorem opX_upm {kk : KK} {h : Lk (SOp.upm kk x y z)} : opX P (.upm kk x y z) ev' L K h u = UpmX kk (ev' x) (ev' y) (ev' z) L (fun L' => K undef L') mk := by with_unfolding_all rfl
@[go_sem] theorem opX_ment {kk : KK} {zv : Value} {h : Lk (SOp.ment kk zv x y)} : opX P (.ment kk zv x y) ev' L K h u = MentX kk zv (ev' x) (ev' y) L K mk := by with_unfolding_all rfl
@[go_sem] theorem opX_mst  {h : Lk (SOp.mst x y z)} : opX P (.mst x y z) ev' L K h u = MstX (ev' x) (ev' y) (ev' z) L (fun L' => K undef L') mk := by with_unfolding_all rfl
@[go_sem] theorem opX_del {kk : KK} {h : Lk (SOp.del kk x y)} : opX P (.del kk x y) ev' L K h u = DelX kk (ev' x) (ev' y) L K mk := by with_unfolding_all rfl
@[go_sem] theorem opX_clr {k : Nat} {zs : List Value} {h : Lk (SOp.clr k zs x)} : opX P (.clr k zs x) ev' L K h u = ClrX k zs (ev' x) L K mk := by with_unfolding_all rfl
@[go_sem] theorem opX_rng  {h : Lk (SOp.rng x)} : opX P (.rng x) ev' L K h u = RngX (ev' x) L K mk := by with_unfolding_all rfl
@[go_sem] theorem opX_nxt  {h : Lk (SOp.nxt x)} : opX P (.nxt x) ev' L K h u = NxtX (ev' x) L K mk := by with_unfolding_all rfl
@[go_sem] theorem opX_ent  {h : Lk (SOp.ent x)} : opX P (.ent x) ev' L K h u = EntX (ev' x) L (fun v => K v L) mk := by with_unfolding_all rfl
@[go_sem] theorem opX_fn {f : Fn} {as cs : List Opd} {h : Lk (SOp.fn f as cs)} : opX P (.fn f as cs) ev' L K h u = K (.func f (as.map ev').toArray (cs.map ev').toArray) L := by with_unfolding_all rfl
@[go_sem] theorem opX_ext {i : Nat} {h : Lk (SOp.ext x i)} : opX P (.ext x i) ev' L K h u = optX (extV i (ev' x)) (fun v => K v L) mk := by with_unfolding_all rfl
@[go_sem] theorem opX_nil  {h : Lk (SOp.nil x)} : opX P (.nil x) ev' L K h u = NnX (ev' x) L (K (ev' x) L) mk := by with_unfolding_all rfl
@[go_sem] theorem opX_mm {b : Bool} {h : Lk (SOp.mm b x y)} : opX P (.mm b x y) ev' L K h u = optX (mmV b (ev' x) (ev' y)) (fun v => K v L) mk := by with_unfolding_all rfl
@[go_sem] theorem opX_call {f : Nat} {as : List Opd} {h : Lk (SOp.call f as)} : opX P (.call f as) ev' L K h u = CallX P f (as.map ev') L K mk := by with_unfolding_all rfl
@[go_sem] theorem opX_calld {as : List Opd} {h : Lk (SOp.calld x as)} : opX P (.calld x as) ev' L K h u = callFnX P (ev' x) (as.map ev') L K mk := by with_unfolding_all rfl
/-- A slice that is built of parts. -/
@[irreducible] def bldX (o : Option (List Value)) (n : Nat) (L : List Chunk) (K : KVL) (_ : Lk K) : Prop := match o with | some cs => BldSW n cs L K | none => False
@[go_sem] theorem bldX_some {n : Nat} {cs : List Value} {u : Lk K} : bldX (some cs) n L K u = BldSX n cs L K mk := by with_unfolding_all rfl
@[go_sem] theorem opX_bldS {k n : Nat} {zs : List Value} {ps : List (Nat × Opd)} {h : Lk (SOp.bldS k n zs ps)} : opX P (.bldS k n zs ps) ev' L K h u = bldX (fillV ev' zs (ps.map fun p => (p.1 * k, k, p.2))) n L K mk := by with_unfolding_all rfl
end
section
variable {K : KV} {ev' : Opd → Value} {L : List Chunk} {x y z : Opd} {u : Lk K}
@[go_sem] theorem rdX_val  {h : Lk (SOp.val x)} : rdX (.val x) ev' L K h u = K (ev' x) := by with_unfolding_all rfl
@[go_sem] theorem rdX_pick  {h : Lk (SOp.pick x y z)} : rdX (.pick x y z) ev' L K h u = optX (pickV (ev' x) (ev' y) (ev' z)) K mk := by with_unfolding_all rfl
@[go_sem] theorem rdX_bin {o : BinOp} {h : Lk (SOp.bin o x y)} : rdX (.bin o x y) ev' L K h u = optX (binV o (ev' x) (ev' y)) K mk := by with_unfolding_all rfl
@[go_sem] theorem rdX_eqb {b : Bool} {h : Lk (SOp.eqb b x y)} : rdX (.eqb b x y) ev' L K h u = optX (eqbV b (ev' x) (ev' y)) K mk := by with_unfolding_all rfl
@[go_sem] theorem rdX_eqagg {b : Bool} {n : Nat} {h : Lk (SOp.eqagg b n x y)} : rdX (.eqagg b n x y) ev' L K h u = optX (eqaggV b n (ev' x) (ev' y)) K mk := by with_unfolding_all rfl
@[go_sem] theorem rdX_eqnil {kd : NK} {b : Bool} {h : Lk (SOp.eqnil kd b x)} : rdX (.eqnil kd b x) ev' L K h u = NilX kd (ev' x) L (fun r => K (.bool (b ^^ r))) mk := by with_unfolding_all rfl
@[go_sem] theorem rdX_un {o : UnOp} {h : Lk (SOp.un o x)} : rdX (.un o x) ev' L K h u = optX (unV o (ev' x)) K mk := by with_unfolding_all rfl
@[go_sem] theorem rdX_conv {kd : IntKind} {h : Lk (SOp.conv kd x)} : rdX (.conv kd x) ev' L K h u = optX (convV kd (ev' x)) K mk := by with_unfolding_all rfl
@[go_sem] theorem rdX_str {h : Lk (SOp.str x)} : rdX (.str x) ev' L K h u = StrX (ev' x) L K mk := by with_unfolding_all rfl
@[go_sem] theorem rdX_eqs {b : Bool} {h : Lk (SOp.eqs b x y)} : rdX (.eqs b x y) ev' L K h u = optX (eqsV b (ev' x) (ev' y)) K mk := by with_unfolding_all rfl
@[go_sem] theorem rdX_aix {k : Nat} {n : Option Nat} {l : Nat} {h : Lk (SOp.aix k n l x y)} : rdX (.aix k n l x y) ev' L K h u = optX (aixV k n l (ev' x) (ev' y)) K mk := by with_unfolding_all rfl
@[go_sem] theorem rdX_ld {n : Option Nat} {h : Lk (SOp.ld n x)} : rdX (.ld n x) ev' L K h u = LdX n (ev' x) L K mk := by with_unfolding_all rfl
@[go_sem] theorem rdX_fld {n : Nat} {h : Lk (SOp.fld n x)} : rdX (.fld n x) ev' L K h u = NnX (ev' x) L (K (addP (ev' x) n)) mk := by with_unfolding_all rfl
@[go_sem] theorem rdX_ixs {k : Nat} {h : Lk (SOp.ixs k x y)} : rdX (.ixs k x y) ev' L K h u = IxsX k (ev' x) (ev' y) L K mk := by with_unfolding_all rfl
@[go_sem] theorem rdX_part {o : Nat} {n : Option Nat} {h : Lk (SOp.part o n x)} : rdX (.part o n x) ev' L K h u = optX (partV o n (ev' x)) K mk := by with_unfolding_all rfl
@[go_sem] theorem rdX_bld {zs : List Value} {ps : List (Nat × Nat × Opd)} {h : Lk (SOp.bld zs ps)} : rdX (.bld zs ps) ev' L K h u = optX ((fillV ev' zs ps).map fun cs => .agg cs.toArray) K mk := by with_unfolding_all rfl
@[go_sem] theorem rdX_slc {k : Nat} {lo hi mx : Option Opd} {h : Lk (SOp.slc k x lo hi mx)} : rdX (.slc k x lo hi mx) ev' L K h u = SlcX k (ev' x) (lo.map ev') (hi.map ev') (mx.map ev') L K mk := by with_unfolding_all rfl
@[go_sem] theorem rdX_len  {h : Lk (SOp.len x)} : rdX (.len x) ev' L K h u = LenX (ev' x) L K mk := by with_unfolding_all rfl
@[go_sem] theorem rdX_lenm  {h : Lk (SOp.lenm x)} : rdX (.lenm x) ev' L K h u = LenmX (ev' x) L K mk := by with_unfolding_all rfl
@[go_sem] theorem rdX_cap  {h : Lk (SOp.cap x)} : rdX (.cap x) ev' L K h u = CapX (ev' x) L K mk := by with_unfolding_all rfl
@[go_sem] theorem rdX_look {kk : KK} {zv : Value} {ok : Bool} {h : Lk (SOp.look kk zv x y ok)} : rdX (.look kk zv x y ok) ev' L K h u = LookX kk zv (ev' x) (ev' y) ok L K mk := by with_unfolding_all rfl
@[go_sem] theorem rdX_ent  {h : Lk (SOp.ent x)} : rdX (.ent x) ev' L K h u = EntX (ev' x) L K mk := by with_unfolding_all rfl
@[go_sem] theorem rdX_fn {f : Fn} {as cs : List Opd} {h : Lk (SOp.fn f as cs)} : rdX (.fn f as cs) ev' L K h u = K (.func f (as.map ev').toArray (cs.map ev').toArray) := by with_unfolding_all rfl
@[go_sem] theorem rdX_ext {i : Nat} {h : Lk (SOp.ext x i)} : rdX (.ext x i) ev' L K h u = optX (extV i (ev' x)) K mk := by with_unfolding_all rfl
@[go_sem] theorem rdX_nil  {h : Lk (SOp.nil x)} : rdX (.nil x) ev' L K h u = NnX (ev' x) L (K (ev' x)) mk := by with_unfolding_all rfl
@[go_sem] theorem rdX_mm {b : Bool} {h : Lk (SOp.mm b x y)} : rdX (.mm b x y) ev' L K h u = optX (mmV b (ev' x) (ev' y)) K mk := by with_unfolding_all rfl
end

attribute [go_sem] updO ev

section
variable {P : Program} {e : Env} {L F : List Chunk} {K : KE} {Q : Post} {uK : Lk K} {uQ : Lk Q}
@[go_sem] theorem optX_some {v : Value} {K : KV} {u : Lk K} : optX (some v) K u = K v := by with_unfolding_all rfl
@[go_sem] theorem guardX_undef {want : Bool} {A B : Prop} {u : Lk A} {u' : Lk B} : guardX undef want A B u u' = B := by with_unfolding_all rfl
@[go_sem] theorem guardX_true {b : Bool} {A B : Prop} {u : Lk A} {u' : Lk B} : guardX (.bool b) true A B u u' = condX (.bool b) A B mk mk := by with_unfolding_all rfl
@[go_sem] theorem guardX_false {b : Bool} {A B : Prop} {u : Lk A} {u' : Lk B} : guardX (.bool b) false A B u u' = condX (.bool b) B A mk mk := by with_unfolding_all rfl
@[go_sem] theorem condX_true {A B : Prop} {u : Lk A} {u' : Lk B} : condX (.bool true) A B u u' = A := by unfold condX; simp [condW]
@[go_sem] theorem condX_false {A B : Prop} {u : Lk A} {u' : Lk B} : condX (.bool false) A B u u' = B := by unfold condX; simp [condW]
theorem condX_mk {b : Bool} {A B : Prop} {u : Lk A} {u' : Lk B} (h1 : b = true → A) (h2 : b = false → B) : condX (.bool b) A B u u' := by unfold condX; exact ⟨h1, h2⟩
theorem condX_dec {p : Prop} [Decidable p] {A B : Prop} {u : Lk A} {u' : Lk B} (h1 : p → decide p = true → A) (h2 : ¬ p → decide p = false → B) : condX (.bool (decide p)) A B u u' := by
  unfold condX; exact ⟨fun h => h1 (of_decide_eq_true h) h, fun h => h2 (of_decide_eq_false h) h⟩
theorem condX_not {p : Prop} [Decidable p] {A B : Prop} {u : Lk A} {u' : Lk B} (h1 : ¬ p → decide p = false → A) (h2 : p → decide p = true → B) : condX (.bool (!decide p)) A B u u' := by
  unfold condX; exact ⟨fun h => by simp at h; exact h1 h (decide_eq_false h), fun h => by simp at h; exact h2 h (decide_eq_true h)⟩
@[go_sem] theorem opsX_nil {u : Lk []} : opsX P [] e L K u uK = K e L := by with_unfolding_all rfl
@[go_sem] theorem opsX_cons {d : Option Nat} {op : SOp} {rest : List SOpr} {u : Lk (⟨d, op, none⟩ :: rest)} : opsX P (⟨d, op, none⟩ :: rest) e L K u uK = opX P op (ev e) L (fun v L' => opsX P rest (updO e d v) L' K mk mk) mk mk := by with_unfolding_all rfl
@[go_sem] theorem opsX_guard {d : Option Nat} {op : SOp} {s : Nat} {w : Bool} {rest : List SOpr} {u : Lk (⟨d, op, some (s, w)⟩ :: rest)} : opsX P (⟨d, op, some (s, w)⟩ :: rest) e L K u uK =
  guardX (e s) w (opX P op (ev e) L (fun v L' => opsX P rest (updO e d v) L' K mk mk) mk mk) (opsX P rest (updO e d undef) L K mk mk) mk mk := by with_unfolding_all rfl
@[go_sem] theorem plX_done {ops : List SOpr} {u : Lk ops} {u' : Lk Plan.done} : plX P ops .done e F L K u u' uK = K e (L ++ F) := by with_unfolding_all rfl
/-- One step of a plan, its operation at hand. -/
@[irreducible] def rdS (o : SOpr) (e : Env) (F : List Chunk) (K : Env → Prop) (_ : Lk o) (_ : Lk K) : Prop := guardW o.guard e (rdOp o.op (ev e) F fun v => K (updO e o.dst v)) (K (updO e o.dst undef))
@[go_sem] theorem rdS_plain {d : Option Nat} {op : SOp} {F : List Chunk} {K : Env → Prop} {u : Lk (SOpr.mk d op none)} {u' : Lk K} : rdS ⟨d, op, none⟩ e F K u u' = rdX op (ev e) F (fun v => K (updO e d v)) mk mk := by with_unfolding_all rfl
@[go_sem] theorem rdS_guard {d : Option Nat} {op : SOp} {s : Nat} {w : Bool} {F : List Chunk} {K : Env → Prop} {u : Lk (SOpr.mk d op (some (s, w)))} {u' : Lk K} :
  rdS ⟨d, op, some (s, w)⟩ e F K u u' = guardX (e s) w (rdX op (ev e) F (fun v => K (updO e d v)) mk mk) (K (updO e d undef)) mk mk := by with_unfolding_all rfl
abbrev KEF := Env → List Chunk → List Chunk → Prop
/-- Alternatives of a plan. -/
@[irreducible] def altX (A B : Prop) (_ : Lk A) (_ : Lk B) : Prop := A ∧ B
/-- What has been read is read again. -/
@[irreducible] def stillX (ops : List SOpr) (pend : List Nat) (e : Env) (F : List Chunk) (_ : Lk ops) : Prop := stillW ops pend e F
/-- An operation that acts beside what has been read ahead of its time. -/
@[irreducible] def thawX (P : Program) (ops : List SOpr) (pend : List Nat) (op : SOp) (e : Env) (F L : List Chunk) (K : Value → List Chunk → List Chunk → Prop) (_ : Lk ops) (_ : Lk op) (_ : Lk K) : Prop :=
  (opW P op (ev e) L fun v L' => K v F L') ∨ ∃ F1 F2, (∀ h, Holds F h → Holds (F1 ++ F2) h) ∧ stillW ops pend e F2 ∧ opW P op (ev e) (L ++ F1) fun v L' => K v F2 L'
/-- An operation that acts, over the whole or beside what is read. -/
@[irreducible] def efS (P : Program) (ops : List SOpr) (o : SOpr) (pend : List Nat) (e : Env) (F L : List Chunk) (K : KEF) (_ : Lk ops) (_ : Lk o) (_ : Lk K) : Prop :=
  guardW o.guard e (match pend with
    | [] => opW P o.op (ev e) (L ++ F) fun v L' => K (updO e o.dst v) L' []
    | _ :: _ => (opW P o.op (ev e) L fun v L' => K (updO e o.dst v) F L') ∨ ∃ F1 F2, (∀ h, Holds F h → Holds (F1 ++ F2) h) ∧ stillW ops pend e F2 ∧ opW P o.op (ev e) (L ++ F1) fun v L' => K (updO e o.dst v) F2 L') (K (updO e o.dst undef) F L)
@[go_sem] theorem efS_whole {ops : List SOpr} {d : Option Nat} {op : SOp} {F L : List Chunk} {K : KEF} {uo : Lk ops} {u : Lk (SOpr.mk d op none)} {u' : Lk K} : efS P ops ⟨d, op, none⟩ [] e F L K uo u u' = opX P op (ev e) (L ++ F) (fun v L' => K (updO e d v) L' []) mk mk := by with_unfolding_all rfl
@[go_sem] theorem efS_part {ops : List SOpr} {q : Nat} {qs : List Nat} {d : Option Nat} {op : SOp} {F L : List Chunk} {K : KEF} {uo : Lk ops} {u : Lk (SOpr.mk d op none)} {u' : Lk K} : efS P ops ⟨d, op, none⟩ (q :: qs) e F L K uo u u' = thawX P ops (q :: qs) op e F L (fun v F' L' => K (updO e d v) F' L') mk mk mk := by with_unfolding_all rfl
@[go_sem] theorem efS_gwhole {ops : List SOpr} {d : Option Nat} {op : SOp} {s : Nat} {w : Bool} {F L : List Chunk} {K : KEF} {uo : Lk ops} {u : Lk (SOpr.mk d op (some (s, w)))} {u' : Lk K} :
  efS P ops ⟨d, op, some (s, w)⟩ [] e F L K uo u u' = guardX (e s) w (opX P op (ev e) (L ++ F) (fun v L' => K (updO e d v) L' []) mk mk) (K (updO e d undef) F L) mk mk := by with_unfolding_all rfl
@[go_sem] theorem efS_gpart {ops : List SOpr} {q : Nat} {qs : List Nat} {d : Option Nat} {op : SOp} {s : Nat} {w : Bool} {F L : List Chunk} {K : KEF} {uo : Lk ops} {u : Lk (SOpr.mk d op (some (s, w)))} {u' : Lk K} :
  efS P ops ⟨d, op, some (s, w)⟩ (q :: qs) e F L K uo u u' = guardX (e s) w (thawX P ops (q :: qs) op e F L (fun v F' L' => K (updO e d v) F' L') mk mk mk) (K (updO e d undef) F L) mk mk := by with_unfolding_all rfl
/-- The operation of that number, if there is one. -/
@[irreducible] def atOp (o : Option SOpr) (K : SOpr → Prop) (_ : Lk o) (_ : Lk K) : Prop := match o with | some o => K o | none => False
@[go_sem] theorem plX_rd {ops : List SOpr} {i : Nat} {p : Plan} {u : Lk ops} {u' : Lk (Plan.rd i p)} : plX P ops (.rd i p) e F L K u u' uK = atOp ops[i]? (fun o => rdS o e F (fun e' => plX P ops p e' F L K mk mk mk) mk mk) mk mk := by
  unfold plX atOp; simp only [plW]; cases ops[i]? <;> with_unfolding_all rfl
@[go_sem] theorem plX_last {ops : List SOpr} {i : Nat} {w : List Nat} {p : Plan} {u : Lk ops} {u' : Lk (Plan.eff i w p .nomore)} : plX P ops (.eff i w p .nomore) e F L K u u' uK = atOp ops[i]? (fun o => efS P ops o w e F L (fun e' F' L' => plX P ops p e' F' L' K mk mk mk) mk mk mk) mk mk := by
  unfold plX atOp; simp only [plW, and_true]; cases ops[i]? <;> cases w <;> with_unfolding_all rfl
@[go_sem] theorem plX_eff {ops : List SOpr} {i j : Nat} {w w' : List Nat} {p p' alts : Plan} {u : Lk ops} {u' : Lk (Plan.eff i w p (.eff j w' p' alts))} : plX P ops (.eff i w p (.eff j w' p' alts)) e F L K u u' uK =
  altX (atOp ops[i]? (fun o => efS P ops o w e F L (fun e' F' L' => plX P ops p e' F' L' K mk mk mk) mk mk mk) mk mk) (plX P ops (.eff j w' p' alts) e F L K mk mk mk) mk mk := by
  unfold plX atOp altX; simp only [plW]; cases ops[i]? <;> cases w <;> with_unfolding_all rfl
@[go_sem] theorem stillX_nil {ops : List SOpr} {u : Lk ops} : stillX ops [] e F u = True := by with_unfolding_all rfl
/-- One that is read again. -/
@[irreducible] def againX (o : SOpr) (e : Env) (F : List Chunk) (_ : Lk o) : Prop := guardW o.guard e (rdOp o.op (ev e) F fun v => ∀ d, o.dst = some d → v = e d) True
@[go_sem] theorem againX_plain {d : Nat} {op : SOp} {u : Lk (SOpr.mk (some d) op none)} : againX ⟨some d, op, none⟩ e F u = rdX op (ev e) F (fun v => ∀ d', some d = some d' → v = e d') mk mk := by with_unfolding_all rfl
@[go_sem] theorem againX_guard {d : Nat} {op : SOp} {s : Nat} {w : Bool} {u : Lk (SOpr.mk (some d) op (some (s, w)))} : againX ⟨some d, op, some (s, w)⟩ e F u = guardX (e s) w (rdX op (ev e) F (fun v => ∀ d', some d = some d' → v = e d') mk mk) True mk mk := by with_unfolding_all rfl
@[go_sem] theorem stillX_cons {ops : List SOpr} {r : Nat} {rs : List Nat} {u : Lk ops} : stillX ops (r :: rs) e F u = altX (atOp ops[r]? (fun o => againX o e F mk) mk mk) (stillX ops rs e F mk) mk mk := by
  unfold stillX atOp altX; simp only [stillW]; cases ops[r]? <;> with_unfolding_all rfl
theorem thawX_go {ops : List SOpr} {pend : List Nat} {op : SOp} {F L R : List Chunk} {K : Value → List Chunk → List Chunk → Prop} {u : Lk ops} {u' : Lk op} {u'' : Lk K} (M : List Chunk) (hp : ∀ h, Holds F h → Holds (M ++ R) h)
    (h1 : stillX ops pend e R mk) (h2 : opX P op (ev e) (L ++ M) (fun v L' => K v R L') mk mk) : thawX P ops pend op e F L K u u' u'' := by
  unfold thawX; unfold stillX at h1; unfold opX at h2; exact .inr ⟨M, R, hp, h1, h2⟩
@[go_sem] theorem atOp_zero {o : SOpr} {l : List SOpr} {K : SOpr → Prop} {u : Lk (o :: l)[0]?} {u' : Lk K} : atOp (o :: l)[0]? K u u' = K o := by with_unfolding_all rfl
@[go_sem] theorem atOp_succ {o : SOpr} {l : List SOpr} {i : Nat} {K : SOpr → Prop} {u : Lk (o :: l)[i + 1]?} {u' : Lk K} : atOp (o :: l)[i + 1]? K u u' = atOp l[i]? K mk mk := by with_unfolding_all rfl
@[go_sem] theorem sX_skip {u : Lk SC.skip} : sX P .skip Q e L u uQ = qX Q .normal e L mk := by with_unfolding_all rfl
@[go_sem] theorem sX_reg {ops : List SOpr} {outs : List Nat} {u : Lk (SC.reg ops outs)} : sX P (.reg ops outs) Q e L u uQ = opsX P ops e L (fun e' L' => qX Q .normal (prune outs e e') L' mk) mk mk := by with_unfolding_all rfl
@[go_sem] theorem sX_drw {ops : List SOpr} {outs : List Nat} {p : Plan} {u : Lk (SC.drw ops outs p)} : sX P (.drw ops outs p) Q e L u uQ = plX P ops p e L [] (fun e' L' => qX Q .normal (prune outs e e') L' mk) mk mk mk := by with_unfolding_all rfl
theorem sX_seq {a b : SC} {u : Lk (SC.seq a b)} : sX P (.seq a b) Q e L u uQ = sX P a (thenX P b Q) e L mk mk := by with_unfolding_all rfl
@[go_sem] theorem sX_cond {c : Opd} {a b : SC} {u : Lk (SC.cond c a b)} : sX P (.cond c a b) Q e L u uQ = condX (ev e c) (sX P a Q e L mk mk) (sX P b Q e L mk mk) mk mk := by with_unfolding_all rfl
@[go_sem] theorem sX_block {id : Nat} {c : SC} {u : Lk (SC.block id c)} : sX P (.block id c) Q e L u uQ = sX P c (blockQ id Q) e L mk mk := by with_unfolding_all rfl
@[go_sem] theorem sX_exit {id : Nat} {u : Lk (SC.exit id)} : sX P (.exit id) Q e L u uQ = qX Q (.exit id) e L mk := by with_unfolding_all rfl
@[go_sem] theorem sX_ret {u : Lk SC.ret} : sX P .ret Q e L u uQ = qX Q .ret e L mk := by with_unfolding_all rfl
@[go_sem] theorem sX_scope {c : SC} {u : Lk (SC.scope c)} : sX P (.scope c) Q e L u uQ = sX P c Q e L mk mk := by with_unfolding_all rfl
@[go_sem] theorem sX_loop {c : SC} {u : Lk (SC.loop c)} : sX P (.loop c) Q e L u uQ = loopX P c Q e L mk mk := by with_unfolding_all rfl
@[go_sem] theorem thenX_normal {b : SC} {u : Lk (thenX P b Q)} : qX (thenX P b Q) .normal e L u = sX P b Q e L mk mk := by with_unfolding_all rfl
@[go_sem] theorem thenX_exit {b : SC} {i : Nat} {u : Lk (thenX P b Q)} : qX (thenX P b Q) (.exit i) e L u = qX Q (.exit i) e L mk := by with_unfolding_all rfl
@[go_sem] theorem thenX_ret {b : SC} {u : Lk (thenX P b Q)} : qX (thenX P b Q) .ret e L u = qX Q .ret e L mk := by with_unfolding_all rfl
@[go_sem] theorem thenQ_normal {K : KE} {u : Lk (thenQ K Q)} : qX (thenQ K Q) .normal e L u = K e L := by with_unfolding_all rfl
@[go_sem] theorem thenQ_exit {K : KE} {i : Nat} {u : Lk (thenQ K Q)} : qX (thenQ K Q) (.exit i) e L u = qX Q (.exit i) e L mk := by with_unfolding_all rfl
@[go_sem] theorem thenQ_ret {K : KE} {u : Lk (thenQ K Q)} : qX (thenQ K Q) .ret e L u = qX Q .ret e L mk := by with_unfolding_all rfl
@[go_sem] theorem blockQ_normal {id : Nat} {u : Lk (blockQ id Q)} : qX (blockQ id Q) .normal e L u = qX Q .normal e L mk := by with_unfolding_all rfl
@[go_sem] theorem blockQ_ret {id : Nat} {u : Lk (blockQ id Q)} : qX (blockQ id Q) .ret e L u = qX Q .ret e L mk := by with_unfolding_all rfl
@[go_sem] theorem blockQ_same {id : Nat} {u : Lk (blockQ id Q)} : qX (blockQ id Q) (.exit id) e L u = qX Q .normal e L mk := by unfold qX; simp [blockQ, Nat.beq_refl]
@[go_sem] theorem blockQ_other {id i : Nat} {u : Lk (blockQ id Q)} (h : (i == id) = false) : qX (blockQ id Q) (.exit i) e L u = qX Q (.exit i) e L mk := by
  have : Nat.beq i id = false := by
    cases hb : Nat.beq i id with
    | false => rfl
    | true => rw [Nat.eq_of_beq_eq_true hb] at h; simp at h
  unfold qX; simp [blockQ, this]
@[go_sem] theorem retQ_normal {rs : List (Nat × Option (Option Nat))} {K : KVL} {u : Lk (retQ rs K)} : qX (retQ rs K) .normal e L u = resX rs e L (fun vs => K (packV vs) L) mk := by with_unfolding_all rfl
@[go_sem] theorem retQ_ret {rs : List (Nat × Option (Option Nat))} {K : KVL} {u : Lk (retQ rs K)} : qX (retQ rs K) .ret e L u = resX rs e L (fun vs => K (packV vs) L) mk := by with_unfolding_all rfl
@[go_sem] theorem resX_nil {K : List Value → Prop} {u : Lk K} : resX [] e L K u = K [] := by with_unfolding_all rfl
@[go_sem] theorem resX_tmp {K : List Value → Prop} {u : Lk K} {s : Nat} {rs : List (Nat × Option (Option Nat))} : resX ((s, none) :: rs) e L K u = resX rs e L (fun vs => K (e s :: vs)) mk := by with_unfolding_all rfl
@[go_sem] theorem resX_cell {K : List Value → Prop} {u : Lk K} {s : Nat} {n : Option Nat} {rs : List (Nat × Option (Option Nat))} : resX ((s, some n) :: rs) e L K u = LdX n (e s) L (fun v => resX rs e L (fun vs => K (v :: vs)) mk) mk := by with_unfolding_all rfl
end

@[go_sem] theorem upd_same (e : Env) (d : Nat) (v : Value) : upd e d v d = v := by simp [upd_at]
@[go_sem] theorem upd_other (e : Env) (d s : Nat) (v : Value) (h : (s == d) = false) : upd e d v s = e s := by rw [upd_at, if_neg (by simpa using h)]
@[go_sem] theorem prune_nil (e e' : Env) : prune [] e e' = e := by with_unfolding_all rfl
@[go_sem] theorem prune_cons (d : Nat) (ds : List Nat) (e e' : Env) : prune (d :: ds) e e' = upd (prune ds e e') d (e' d) := by with_unfolding_all rfl
attribute [go_sem] argsE List.getD_cons_zero List.getD_cons_succ List.map_cons List.map_nil List.nil_append List.append_nil List.cons_append

/-! values -/
section
variable {k : IntKind} {a b : Int}
@[go_sem] theorem binV_add : binV .add (.int k a) (.int k b) = some (.int k (k.wrap (a + b))) := by simp [binV]
@[go_sem] theorem binV_sub : binV .sub (.int k a) (.int k b) = some (.int k (k.wrap (a - b))) := by simp [binV]
@[go_sem] theorem binV_mul : binV .mul (.int k a) (.int k b) = some (.int k (k.wrap (a * b))) := by simp [binV]
@[go_sem] theorem binV_eql : binV .eql (.int k a) (.int k b) = some (.bool (decide (a = b))) := by simp [binV]
@[go_sem] theorem binV_neq : binV .neq (.int k a) (.int k b) = some (.bool (!decide (a = b))) := by simp [binV]
@[go_sem] theorem binV_lss : binV .lss (.int k a) (.int k b) = some (.bool (decide (a < b))) := by simp [binV]
@[go_sem] theorem binV_leq : binV .leq (.int k a) (.int k b) = some (.bool (decide (a ≤ b))) := by simp [binV]
@[go_sem] theorem binV_gtr : binV .gtr (.int k a) (.int k b) = some (.bool (decide (b < a))) := by simp [binV]
@[go_sem] theorem binV_geq : binV .geq (.int k a) (.int k b) = some (.bool (decide (b ≤ a))) := by simp [binV]
@[go_sem] theorem binV_quo (h : b ≠ 0) : binV .quo (.int k a) (.int k b) = some (.int k (k.wrap (a.tdiv b))) := by simp [binV, h]
@[go_sem] theorem binV_rem (h : b ≠ 0) : binV .rem (.int k a) (.int k b) = some (.int k (a.tmod b)) := by simp [binV, h]
end
@[go_sem] theorem pickV_bool {b : Bool} {x y : Value} : pickV (.bool b) x y = some (bif b then x else y) := rfl
@[go_sem] theorem eqbV_bool {n a b : Bool} : eqbV n (.bool a) (.bool b) = some (.bool (n ^^ (a == b))) := rfl
@[go_sem] theorem eqsV_str {n : Bool} {a b : ByteArray} : eqsV n (.string a) (.string b) = some (.bool (n ^^ (a.toList == b.toList))) := rfl
theorem aixV_int {k l : Nat} {n : Option Nat} {x : Value} {ik : IntKind} {i : Int} (h : 0 ≤ i ∧ i < l) : aixV k n l x (.int ik i) = partV (i.toNat * k) n x := by simp [aixV, h]
@[go_sem] theorem unV_not {b : Bool} : unV .not (.bool b) = some (.bool (!b)) := rfl
@[go_sem] theorem unV_neg {k : IntKind} {n : Int} : unV .neg (.int k n) = some (.int k (k.wrap (0 - n))) := rfl
@[go_sem] theorem convV_int {k k' : IntKind} {n : Int} : convV k (.int k' n) = some (.int k (k.wrap n)) := rfl
@[go_sem] theorem extV_tuple {vs : List Value} {i : Nat} : extV i (.tuple vs.toArray) = vs[i]? := by simp [extV]
@[go_sem] theorem mmV_max {k k' : IntKind} {a b : Int} : mmV true (.int k a) (.int k' b) = some (.int k (max a b)) := rfl
@[go_sem] theorem mmV_min {k k' : IntKind} {a b : Int} : mmV false (.int k a) (.int k' b) = some (.int k (min a b)) := rfl
@[go_sem] theorem partV_one {cs : List Value} {o : Nat} : partV o none (.agg cs.toArray) = cs[o]? := by simp [partV]
@[go_sem] theorem partV_more {cs : List Value} {o k : Nat} : partV o (some k) (.agg cs.toArray) = some (.agg ((cs.drop o).take k).toArray) := by simp [partV]
@[go_sem] theorem eqaggV_agg {n : Bool} {m : Nat} {xs ys : List Value} : eqaggV n m (.agg xs.toArray) (.agg ys.toArray) = if xs.length = m then (eqCells xs ys).map fun r => .bool (n ^^ r) else none := by simp [eqaggV]
@[go_sem] theorem cellsL_agg {cs : List Value} : Value.cellsL (.agg cs.toArray) = cs := by simp [Value.cellsL, Value.cells]
@[go_sem] theorem cellsL_int {k : IntKind} {n : Int} : Value.cellsL (.int k n) = [.int k n] := rfl
@[go_sem] theorem cellsL_bool {b : Bool} : Value.cellsL (.bool b) = [.bool b] := rfl
@[go_sem] theorem cellsL_ptr {a : Option Addr} : Value.cellsL (.pointer a) = [.pointer a] := rfl
@[go_sem] theorem cellsL_slice {a : Option Addr} {n c : Nat} : Value.cellsL (.slice a n c) = [.slice a n c] := rfl
@[go_sem] theorem cellsL_map {a : Option Nat} : Value.cellsL (.map a) = [.map a] := rfl
@[go_sem] theorem cellsL_func {f : Fn} {a c : Array Value} : Value.cellsL (.func f a c) = [.func f a c] := rfl
@[go_sem] theorem packV_one {v : Value} : packV [v] = v := rfl
@[go_sem] theorem packV_none : packV [] = .tuple [].toArray := rfl
@[go_sem] theorem packV_two {u v : Value} {vs : List Value} : packV (u :: v :: vs) = .tuple (u :: v :: vs).toArray := rfl

attribute [go_sem] fillV eqCells Option.map_some Option.map_none cond_true cond_false Bool.not_true Bool.not_false Bool.true_xor Bool.false_xor Bool.xor_false Bool.xor_true setCells List.set_cons_zero List.set_cons_succ
  List.length_cons List.length_nil if_true
@[go_sem] theorem toListArr {α : Type} {l : List α} : l.toArray.toList = l := rfl

/-- No overflow. -/
theorem wrap_i64 {n : Int} (h1 : -9223372036854775808 ≤ n) (h2 : n ≤ 9223372036854775807) : IntKind.i64.wrap n = n := by
  unfold IntKind.wrap
  simp [IntKind.bits, IntKind.signed]
  omega
theorem wrap_i32 {n : Int} (h1 : -2147483648 ≤ n) (h2 : n ≤ 2147483647) : IntKind.i32.wrap n = n := by
  unfold IntKind.wrap
  simp [IntKind.bits, IntKind.signed]
  omega
theorem wrap_u64 {n : Int} (h1 : 0 ≤ n) (h2 : n ≤ 18446744073709551615) : IntKind.u64.wrap n = n := by
  unfold IntKind.wrap
  simp [IntKind.bits, IntKind.signed]
  omega
theorem wrap_u8 {n : Int} (h1 : 0 ≤ n) (h2 : n ≤ 255) : IntKind.u8.wrap n = n := by
  unfold IntKind.wrap
  simp [IntKind.bits, IntKind.signed]
  omega




theorem callX_of {P : Program} (hmix : P.follows .mixedOrders = true) {f : FuncId} {fn : Func} {b : SC} {n : Nat} {rs : List (Nat × Option (Option Nat))} (hf : P.funcs[f]? = some fn) (he : eraseFn P fn = some ⟨b, n, rs⟩) {args : List Value} (ha : args.length ≤ n)
    {L : List Chunk} {K : KVL} (h : sX P b (retQ rs K) (argsE args) L mk mk) : CallW P f args L K := by
  unfold sX at h; exact callW_of hmix hf he ha h

theorem callable_of {P : Program} {f : FuncId} {fn : Func} {s : SFn} (hf : P.funcs[f]? = some fn) (he : eraseFn P fn = some s) : callable P f := by
  unfold eraseFn at he
  cases hb : fn.body with
  | none => simp [hb] at he
  | some c =>
    simp only [hb] at he
    cases hc : eraseC P fn.ntmps (liveOf fn) c with
    | none => simp [hc] at he
    | some sc =>
      cases hr : eraseRes P fn.results.toList with
      | none => simp [hc, hr] at he
      | some rs =>
        simp only [hc, hr] at he
        split at he
        · rename_i hchk
          simp only [Bool.and_eq_true, List.all_eq_true, Bool.not_eq_true'] at hchk
          exact ⟨fn, c, hf, hb, hchk.2⟩
        · cases he

@[go_sem] theorem toNat_zero_ : Int.toNat 0 = 0 := rfl
@[go_sem] theorem toNat_nat_ (n : Nat) : Int.toNat (n : Int) = n := rfl

@[go_sem] theorem lget0_ (a : Value) (l : List Value) : (a :: l)[0]? = some a := rfl
@[go_sem] theorem lget1_ (a b : Value) (l : List Value) : (a :: b :: l)[1]? = some b := rfl
@[go_sem] theorem lget2_ (a b c : Value) (l : List Value) : (a :: b :: c :: l)[2]? = some c := rfl
@[go_sem] theorem lget3_ (a b c d : Value) (l : List Value) : (a :: b :: c :: d :: l)[3]? = some d := rfl

@[go_sem] theorem decT_ {h : Decidable True} : @decide True h = true := decide_eq_true trivial
@[go_sem] theorem decF_ {h : Decidable False} : @decide False h = false := decide_eq_false id

@[go_sem] theorem beqTT_ : (true == true) = true := rfl
@[go_sem] theorem beqTF_ : (true == false) = false := rfl
@[go_sem] theorem beqFT_ : (false == true) = false := rfl
@[go_sem] theorem beqFF_ : (false == false) = true := rfl
@[go_sem] theorem beqSelf_ (b : Bool) : (b == b) = true := by cases b <;> rfl
@[go_sem] theorem notT_ : (!true) = false := rfl
@[go_sem] theorem notF_ : (!false) = true := rfl

@[go_sem] theorem binV_quo2 {k : IntKind} {a : Int} : binV .quo (.int k a) (.int k 2) = some (.int k (k.wrap (a.tdiv 2))) := binV_quo (by decide)
@[go_sem] theorem binV_rem2 {k : IntKind} {a : Int} : binV .rem (.int k a) (.int k 2) = some (.int k (a.tmod 2)) := binV_rem (by decide)

end Go.SL
