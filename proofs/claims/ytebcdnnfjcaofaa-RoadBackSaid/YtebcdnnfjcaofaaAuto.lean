/- A part of the proofs' own ground: the steps that go by themselves, as one rule each. -/
import Derived.Test.YtebcdnnfjcaofaaPre
import Derived.Test.YtebcdnnfjcaofaaRulesMX
import Derived.Test.YtebcdnnfjcaofaaRulesAX
set_option linter.unusedVariables false
namespace Go.SL

@[go_sem] theorem beqT_ (b : Bool) : (true == b) = b := by cases b <;> rfl
@[go_sem] theorem beqF_ (b : Bool) : (false == b) = !b := by cases b <;> rfl
@[go_sem] theorem beqT'_ (b : Bool) : (b == true) = b := by cases b <;> rfl
@[go_sem] theorem beqF'_ (b : Bool) : (b == false) = !b := by cases b <;> rfl
attribute [go_sem] true_and and_true decide_true decide_false Bool.true_and Bool.and_true Bool.false_and Bool.and_false Bool.true_or Bool.or_true Bool.false_or Bool.or_false Int.natCast_nonneg
  List.length_replicate List.length_set List.length_append List.length_take List.length_drop List.length_map List.length_range Bool.not_not if_false Bool.false_eq_true

class Auto (G : Prop) (A : outParam Prop) : Prop where
  imp : A → G
theorem auto {G A : Prop} [H : Auto G A] (h : A) : G := H.imp h
/-- With an index that lies within. -/
class AutoI (G : Prop) (i : outParam Int) (n : outParam Nat) (A : outParam Prop) : Prop where
  imp : 0 ≤ i ∧ i < n → A → G
theorem autoI {G A : Prop} {i : Int} {n : Nat} [H : AutoI G i n A] (hi : 0 ≤ i ∧ i < n) (h : A) : G := H.imp hi h

class GetL (vs : List Value) (n : Nat) (x : outParam Value) : Prop where
  get : vs[n]? = some x
instance GetL.zero {x : Value} {r : List Value} : GetL (x :: r) 0 x := ⟨rfl⟩
instance GetL.succ {x y : Value} {r : List Value} {n : Nat} [h : GetL r n x] : GetL (y :: r) (n + 1) x := ⟨by simpa using h.get⟩
class LenL (vs : List Value) (n : outParam Nat) : Prop where
  len : vs.length = n
instance LenL.zero : LenL [] 0 := ⟨rfl⟩
instance LenL.succ {y : Value} {r : List Value} {n : Nat} [h : LenL r n] : LenL (y :: r) (n + 1) := ⟨by simpa using h.len⟩
/-- One cell, told by its kind. -/
class One1 (v : Value) : Prop where
  one : OneV v
instance {k : IntKind} {n : Int} : One1 (.int k n) := ⟨rfl, rfl⟩
instance {b : Bool} : One1 (.bool b) := ⟨rfl, rfl⟩
instance {a : Option Addr} : One1 (.pointer a) := ⟨rfl, rfl⟩
instance {a : Option Addr} {n c : Nat} : One1 (.slice a n c) := ⟨rfl, rfl⟩
instance {a : Option Nat} : One1 (.map a) := ⟨rfl, rfl⟩
instance {f : Fn} {a c : Array Value} : One1 (.func f a c) := ⟨rfl, rfl⟩
class OneL (vs : List Value) : Prop where
  all : vs.all Value.oneCell' = true
instance OneL.zero : OneL [] := ⟨rfl⟩
instance OneL.succ {y : Value} {r : List Value} [h : OneL r] [k : One1 y] : OneL (y :: r) := ⟨by rw [List.all_cons, k.one.one, h.all]; rfl⟩

section
variable {L R : List Chunk} {v x : Value} {vs : List Value} {n : Nat}
instance [RdC L v vs] {A : Prop} {u : Lk A} : Auto (NnX v L A u) A := ⟨fun h => NnX_cells h⟩
instance (priority := low) [HasPtr L v] {A : Prop} {u : Lk A} : Auto (NnX v L A u) A := ⟨fun h => NnX_ptr h⟩
instance [RdC L v vs] [G : GetL vs n x] {K : KV} {u : Lk K} : Auto (LdX none (addP v n) L K u) (K x) := ⟨fun h => LdX_cell G.get h⟩
instance [RdC L v vs] [G : GetL vs 0 x] {K : KV} {u : Lk K} : Auto (LdX none v L K u) (K x) := ⟨fun h => LdX_cell0 G.get h⟩
instance [RdC L v vs] [G : LenL vs n] {K : KV} {u : Lk K} : Auto (LdX (some n) v L K u) (K (.agg vs.toArray)) := ⟨fun h => LdX_cells G.len h⟩
instance {α : Type} {E : Enc α} {xs : List α} [RdS L v E xs] {K : KV} {u : Lk K} : Auto (LenX v L K u) (K (.int .i64 xs.length)) := ⟨fun h => LenX_slice h⟩
instance {a : Option Addr} {n c : Nat} {K : KV} {u : Lk K} : Auto (LenX (.slice a n c) L K u) (K (.int .i64 n)) := ⟨fun h => LenX_lit h⟩
instance {a : Option Addr} {n c : Nat} {K : KV} {u : Lk K} : Auto (CapX (.slice a n c) L K u) (K (.int .i64 c)) := ⟨fun h => CapX_lit h⟩
instance [HasPtr L v] {K : Bool → Prop} {u : Lk K} : Auto (NilX .ptr v L K u) (K false) := ⟨fun h => NilX_ptr h⟩
instance {K : Bool → Prop} {u : Lk K} : Auto (NilX .ptr (.pointer none) L K u) (K true) := ⟨fun h => NilX_nil h⟩
instance {ys : List Value} [OwnC L v vs R] [H1 : LenL vs n] [H2 : LenL ys n] [H3 : OneL ys] {K : KL} {u : Lk K} : Auto (StX n v (.agg ys.toArray) L K u) (K (⟨v, cellsC ys⟩ :: R)) := ⟨fun h => StX_cells H3.all H1.len H2.len h⟩
instance [OwnC L v vs R] {m : Nat} [H1 : LenL vs m] [H2 : One1 x] {y : Value} [G : GetL vs n y] {K : KL} {u : Lk K} : Auto (StX 1 (addP v n) x L K u) (K (⟨v, cellsC (vs.set n x)⟩ :: R)) :=
  ⟨fun h => StX_cell H2.one.one H2.one.cells (List.getElem?_eq_some_iff.1 G.get).1 h⟩
instance (priority := low) [OwnC L v vs R] [H2 : One1 x] {y : Value} [G : GetL vs 0 y] {K : KL} {u : Lk K} : Auto (StX 1 v x L K u) (K (⟨v, cellsC (vs.set 0 x)⟩ :: R)) :=
  ⟨fun h => StX_cell0 H2.one.one H2.one.cells (List.getElem?_eq_some_iff.1 G.get).1 h⟩
instance {α : Type} {E : Enc α} {xs : List α} [RdS L v E xs] {k : Nat} {i : Int} {A : Prop} {u : Lk A} : AutoI (NnX (elP v k i) L A u) i xs.length A := ⟨fun hi h => NnX_elem hi h⟩
instance {α : Type} {E : Enc α} {xs : List α} [RdS L v E xs] {k : Nat} {ik : IntKind} {i : Int} {K : KV} {u : Lk K} : AutoI (IxsX k v (.int ik i) L K u) i xs.length (K (elP v k i)) := ⟨fun hi h => IxsX_slice hi h⟩
instance {b o n c : Nat} {k : Nat} {ik : IntKind} {i : Int} {K : KV} {u : Lk K} : AutoI (IxsX k (.slice (some ⟨b, o, none⟩) n c) (.int ik i) L K u) i n (K (elP (.slice (some ⟨b, o, none⟩) n c) k i)) := ⟨fun hi h => IxsX_lit hi h⟩
end

/-- A new block, beside whatever has been read. -/
theorem opX_new' {P : Program} {ev' : Opd → Value} {cs : List Value} {L : List Chunk} {K : KVL} {h : Lk (SOp.new cs)} {u : Lk K} (hk : ∀ p, K p (⟨p, cellsC cs⟩ :: L)) : opX P (.new cs) ev' L K h u := by
  rw [opX_new]; exact NewX_intro hk

/-! ### chunks behind a list that is not written out -/
section
variable {L M R : List Chunk} {v : Value}
theorem Holds.right {L M : List Chunk} {h : Hp} (H : Holds (L ++ M) h) : Holds M h := by
  obtain ⟨a, b, d, la, lb, HL, HM⟩ := H.split
  exact HM.mono lb
theorem Holds.left_ {L M : List Chunk} {h : Hp} (H : Holds (L ++ M) h) : Holds L h := by
  obtain ⟨a, b, d, la, lb, HL, HM⟩ := H.split
  exact HL.mono la
instance (priority := 50) RdC.right {vs : List Value} [H : RdC M v vs] : RdC (L ++ M) v vs := ⟨fun h hh => H.rd h hh.right⟩
instance (priority := 50) RdS.right {α : Type} {E : Enc α} {xs : List α} [H : RdS M v E xs] : RdS (L ++ M) v E xs := ⟨fun h hh => H.rd h hh.right⟩
instance (priority := 40) RdS.left {α : Type} {E : Enc α} {xs : List α} [H : RdS L v E xs] : RdS (L ++ M) v E xs := ⟨fun h hh => H.rd h hh.left_⟩
instance (priority := 40) RdC.left {vs : List Value} [H : RdC L v vs] : RdC (L ++ M) v vs := ⟨fun h hh => H.rd h hh.left_⟩
instance (priority := 50) HasPtr.right [H : HasPtr M v] : HasPtr (L ++ M) v := ⟨fun h hh => H.ptr h hh.right⟩
theorem perm_right {c : Chunk} (p : M.Perm (c :: R)) : (L ++ M).Perm (c :: (L ++ R)) := (p.append_left L).trans List.perm_middle
instance (priority := 50) Own.right {c : Con} [H : Own M v c R] : Own (L ++ M) v c (L ++ R) := ⟨perm_right H.perm⟩
instance (priority := 50) OwnC.right {vs : List Value} [H : OwnC M v vs R] : OwnC (L ++ M) v vs (L ++ R) := ⟨perm_right H.perm⟩
instance (priority := 50) OwnS.right {α : Type} {E : Enc α} {xs : List α} [H : OwnS M v E xs R] : OwnS (L ++ M) v E xs (L ++ R) := ⟨perm_right H.perm⟩
instance (priority := 50) Pick.right {c : Chunk} [H : Pick M c R] : Pick (L ++ M) c (L ++ R) := ⟨perm_right H.perm⟩
instance (priority := 50) EntC.left : EntC (L ++ M) L := ⟨fun h hh => hh.left_⟩
end

end Go.SL
