/- Package heap: what its functions come to. -/
import Derived.Test.YtaadhlfakoeeeaaCodeHeap
import Derived.Test.YtaadhlfakoeeeaaHeapPure
import Derived.Test.YtaadhlfakoeeeaaAuto
set_option linter.unusedSimpArgs false
set_option linter.unusedVariables false
namespace Go.SL
open Go.Proofs

theorem eItem_back (cs : List Value) (x : It) (h : (match cs with | [.int .i64 n, .int .i64 r] => some (n, r) | _ => none) = some x) : [Value.int .i64 x.1, .int .i64 x.2] = cs := by
  split at h
  · cases h; rfl
  · cases h
def eItem : Enc It := ⟨fun x => [.int .i64 x.1, .int .i64 x.2], 2, fun _ => rfl, fun cs => match cs with | [.int .i64 n, .int .i64 r] => some (n, r) | _ => none, eItem_back, fun _ => rfl⟩
@[go_sem] theorem eItem_enc (x : It) : eItem.enc x = [.int .i64 x.1, .int .i64 x.2] := rfl

theorem less_spec {L : List Chunk} {K : KVL} {v nv tv mv : Value} {t : List It} [RdC L v [nv, tv, mv]] [RdS L tv eItem t] {a b : Int} {x y : It} (ha : 0 ≤ a ∧ a < t.length) (hb : 0 ≤ b ∧ b < t.length) (hx : t[a.toNat]? = some x) (hy : t[b.toNat]? = some y)
    (hk : K (.bool (decide (lessI x y))) L) : CallW Try.prog 21 [v, .int .i64 a, .int .i64 b] L K := by
  refine CallW.ret ?_
  refine callX_of (by kernel_rfl) Try.func21 e21 (by exact Nat.le_of_ble_eq_true rfl) ?_
  (repeat (first | (simp -dsimp only [go_sem, sX_seq, Nat.reduceBEq, Int.reduceEq, Int.reduceNe, Int.reduceLT, Int.reduceLE, Nat.reduceAdd, Nat.reduceMul, Nat.reduceLeDiff]) | (refine thawX_none ?_; simp -dsimp only [go_sem, sX_seq, Nat.reduceBEq, Int.reduceEq, Int.reduceNe, Int.reduceLT, Int.reduceLE, Nat.reduceAdd, Nat.reduceMul, Nat.reduceLeDiff]; first | refine auto ?_ | refine NewX_intro (fun _ => ?_)) | (refine auto ?_) | (refine NewX_intro (fun _ => ?_)) | (refine autoI ⟨(by first | omega | (simp only [go_sem]; omega)), (by first | omega | (simp only [go_sem]; omega))⟩ ?_) | (simp -dsimp (disch := omega) only [wrap_i64, wrap_u64, wrap_i32, wrap_u8])))
  first | refine LdX_elem (by rfl) ⟨(by first | omega | (simp only [go_sem]; omega)), (by first | omega | (simp only [go_sem]; omega))⟩ (fun u hu_ => ?_) | refine LdX_elemAt (by rfl) ⟨(by first | omega | (simp only [go_sem]; omega)), (by first | omega | (simp only [go_sem]; omega))⟩ (by decide) (fun u hu_ => ?_) | refine LdX_elem0 (by rfl) ⟨(by first | omega | (simp only [go_sem]; omega)), (by first | omega | (simp only [go_sem]; omega))⟩ (by decide) (fun u hu_ => ?_)
  obtain rfl : u = x := by rw [hx] at hu_; cases hu_; rfl
  (repeat (first | (simp -dsimp only [go_sem, sX_seq, Nat.reduceBEq, Int.reduceEq, Int.reduceNe, Int.reduceLT, Int.reduceLE, Nat.reduceAdd, Nat.reduceMul, Nat.reduceLeDiff]) | (refine thawX_none ?_; simp -dsimp only [go_sem, sX_seq, Nat.reduceBEq, Int.reduceEq, Int.reduceNe, Int.reduceLT, Int.reduceLE, Nat.reduceAdd, Nat.reduceMul, Nat.reduceLeDiff]; first | refine auto ?_ | refine NewX_intro (fun _ => ?_)) | (refine auto ?_) | (refine NewX_intro (fun _ => ?_)) | (refine autoI ⟨(by first | omega | (simp only [go_sem]; omega)), (by first | omega | (simp only [go_sem]; omega))⟩ ?_) | (simp -dsimp (disch := omega) only [wrap_i64, wrap_u64, wrap_i32, wrap_u8])))
  first | refine LdX_elem (by rfl) ⟨(by first | omega | (simp only [go_sem]; omega)), (by first | omega | (simp only [go_sem]; omega))⟩ (fun w hw_ => ?_) | refine LdX_elemAt (by rfl) ⟨(by first | omega | (simp only [go_sem]; omega)), (by first | omega | (simp only [go_sem]; omega))⟩ (by decide) (fun w hw_ => ?_) | refine LdX_elem0 (by rfl) ⟨(by first | omega | (simp only [go_sem]; omega)), (by first | omega | (simp only [go_sem]; omega))⟩ (by decide) (fun w hw_ => ?_)
  obtain rfl : w = y := by rw [hy] at hw_; cases hw_; rfl
  (repeat (first | (simp -dsimp only [go_sem, sX_seq, Nat.reduceBEq, Int.reduceEq, Int.reduceNe, Int.reduceLT, Int.reduceLE, Nat.reduceAdd, Nat.reduceMul, Nat.reduceLeDiff]) | (refine thawX_none ?_; simp -dsimp only [go_sem, sX_seq, Nat.reduceBEq, Int.reduceEq, Int.reduceNe, Int.reduceLT, Int.reduceLE, Nat.reduceAdd, Nat.reduceMul, Nat.reduceLeDiff]; first | refine auto ?_ | refine NewX_intro (fun _ => ?_)) | (refine auto ?_) | (refine NewX_intro (fun _ => ?_)) | (refine autoI ⟨(by first | omega | (simp only [go_sem]; omega)), (by first | omega | (simp only [go_sem]; omega))⟩ ?_) | (simp -dsimp (disch := omega) only [wrap_i64, wrap_u64, wrap_i32, wrap_u8])))
  refine altX.mk' ?_ ?_
  all_goals
    (repeat (first | (simp -dsimp only [go_sem, sX_seq, Nat.reduceBEq, Int.reduceEq, Int.reduceNe, Int.reduceLT, Int.reduceLE, Nat.reduceAdd, Nat.reduceMul, Nat.reduceLeDiff]) | (refine thawX_none ?_; simp -dsimp only [go_sem, sX_seq, Nat.reduceBEq, Int.reduceEq, Int.reduceNe, Int.reduceLT, Int.reduceLE, Nat.reduceAdd, Nat.reduceMul, Nat.reduceLeDiff]; first | refine auto ?_ | refine NewX_intro (fun _ => ?_)) | (refine auto ?_) | (refine NewX_intro (fun _ => ?_)) | (refine autoI ⟨(by first | omega | (simp only [go_sem]; omega)), (by first | omega | (simp only [go_sem]; omega))⟩ ?_) | (simp -dsimp (disch := omega) only [wrap_i64, wrap_u64, wrap_i32, wrap_u8])))
    first | refine condX_dec (fun h1 h1' => ?_) (fun h1 h1' => ?_) | refine condX_not (fun h1 h1' => ?_) (fun h1 h1' => ?_) | refine condX_mk (fun h1' => ?_) (fun h1' => ?_)
    · (repeat (first | (simp -dsimp only [go_sem, sX_seq, Nat.reduceBEq, Int.reduceEq, Int.reduceNe, Int.reduceLT, Int.reduceLE, Nat.reduceAdd, Nat.reduceMul, Nat.reduceLeDiff, h1']) | (refine thawX_none ?_; simp -dsimp only [go_sem, sX_seq, Nat.reduceBEq, Int.reduceEq, Int.reduceNe, Int.reduceLT, Int.reduceLE, Nat.reduceAdd, Nat.reduceMul, Nat.reduceLeDiff, h1']; first | refine auto ?_ | refine NewX_intro (fun _ => ?_)) | (refine auto ?_) | (refine NewX_intro (fun _ => ?_)) | (refine autoI ⟨(by first | omega | (simp only [go_sem]; omega)), (by first | omega | (simp only [go_sem]; omega))⟩ ?_) | (simp -dsimp (disch := omega) only [wrap_i64, wrap_u64, wrap_i32, wrap_u8])))
      rw [decide_eq_true (show lessI u w from .inl h1)] at hk
      exact ⟨_, Ent.auto, hk⟩
    · (repeat (first | (simp -dsimp only [go_sem, sX_seq, Nat.reduceBEq, Int.reduceEq, Int.reduceNe, Int.reduceLT, Int.reduceLE, Nat.reduceAdd, Nat.reduceMul, Nat.reduceLeDiff, h1']) | (refine thawX_none ?_; simp -dsimp only [go_sem, sX_seq, Nat.reduceBEq, Int.reduceEq, Int.reduceNe, Int.reduceLT, Int.reduceLE, Nat.reduceAdd, Nat.reduceMul, Nat.reduceLeDiff, h1']; first | refine auto ?_ | refine NewX_intro (fun _ => ?_)) | (refine auto ?_) | (refine NewX_intro (fun _ => ?_)) | (refine autoI ⟨(by first | omega | (simp only [go_sem]; omega)), (by first | omega | (simp only [go_sem]; omega))⟩ ?_) | (simp -dsimp (disch := omega) only [wrap_i64, wrap_u64, wrap_i32, wrap_u8])))
      first | refine condX_dec (fun h2 h2' => ?_) (fun h2 h2' => ?_) | refine condX_not (fun h2 h2' => ?_) (fun h2 h2' => ?_) | refine condX_mk (fun h2' => ?_) (fun h2' => ?_)
      · (repeat (first | (simp -dsimp only [go_sem, sX_seq, Nat.reduceBEq, Int.reduceEq, Int.reduceNe, Int.reduceLT, Int.reduceLE, Nat.reduceAdd, Nat.reduceMul, Nat.reduceLeDiff, h1', h2']) | (refine thawX_none ?_; simp -dsimp only [go_sem, sX_seq, Nat.reduceBEq, Int.reduceEq, Int.reduceNe, Int.reduceLT, Int.reduceLE, Nat.reduceAdd, Nat.reduceMul, Nat.reduceLeDiff, h1', h2']; first | refine auto ?_ | refine NewX_intro (fun _ => ?_)) | (refine auto ?_) | (refine NewX_intro (fun _ => ?_)) | (refine autoI ⟨(by first | omega | (simp only [go_sem]; omega)), (by first | omega | (simp only [go_sem]; omega))⟩ ?_) | (simp -dsimp (disch := omega) only [wrap_i64, wrap_u64, wrap_i32, wrap_u8])))
        rw [decide_eq_decide.2 (show lessI u w ↔ u.1 < w.1 by unfold lessI; omega)] at hk
        exact ⟨_, Ent.auto, hk⟩
      · (repeat (first | (simp -dsimp only [go_sem, sX_seq, Nat.reduceBEq, Int.reduceEq, Int.reduceNe, Int.reduceLT, Int.reduceLE, Nat.reduceAdd, Nat.reduceMul, Nat.reduceLeDiff, h1', h2']) | (refine thawX_none ?_; simp -dsimp only [go_sem, sX_seq, Nat.reduceBEq, Int.reduceEq, Int.reduceNe, Int.reduceLT, Int.reduceLE, Nat.reduceAdd, Nat.reduceMul, Nat.reduceLeDiff, h1', h2']; first | refine auto ?_ | refine NewX_intro (fun _ => ?_)) | (refine auto ?_) | (refine NewX_intro (fun _ => ?_)) | (refine autoI ⟨(by first | omega | (simp only [go_sem]; omega)), (by first | omega | (simp only [go_sem]; omega))⟩ ?_) | (simp -dsimp (disch := omega) only [wrap_i64, wrap_u64, wrap_i32, wrap_u8])))
        rw [decide_eq_false (show ¬ lessI u w by unfold lessI; omega)] at hk
        exact ⟨_, Ent.auto, hk⟩

/-- A heap's chunks. -/
abbrev hpL (v nv tv mv : Value) (t : List It) (f : Int → Option Int) (R : List Chunk) : List Chunk :=
  ⟨v, cellsC [nv, tv, mv]⟩ :: ⟨tv, sliceC eItem t⟩ :: ⟨mv, mapC kInt vInt f⟩ :: R

theorem put_spec {R : List Chunk} {K : KVL} {v nv tv mv : Value} {t : List It} {f : Int → Option Int} {i : Int} (x : It) 
    (hi : 0 ≤ i ∧ i < t.length) (hk : K (.tuple #[]) (hpL v nv tv mv (t.set i.toNat x) (updF f x.1 i) R)) :
    CallW Try.prog 22 [v, .int .i64 i, .agg #[.int .i64 x.1, .int .i64 x.2]] (hpL v nv tv mv t f R) K := by
  refine CallW.ret ?_
  refine callX_of (by kernel_rfl) Try.func22 e22 (by exact Nat.le_of_ble_eq_true rfl) ?_
  simp -dsimp only [go_sem, sX_seq, Nat.reduceBEq, Int.reduceEq, Int.reduceNe, Int.reduceLT, Int.reduceLE, Nat.reduceAdd, Nat.reduceMul, Nat.reduceLeDiff]
  first | refine NewX_intro (fun p => ?_) | refine thawX_none (opX_new' (fun p => ?_))
  simp -dsimp only [go_sem, sX_seq, Nat.reduceBEq, Int.reduceEq, Int.reduceNe, Int.reduceLT, Int.reduceLE, Nat.reduceAdd, Nat.reduceMul, Nat.reduceLeDiff]
  refine NnX_cells ?_
  simp -dsimp only [go_sem, sX_seq, Nat.reduceBEq, Int.reduceEq, Int.reduceNe, Int.reduceLT, Int.reduceLE, Nat.reduceAdd, Nat.reduceMul, Nat.reduceLeDiff]
  refine NnX_cells ?_
  simp -dsimp only [go_sem, sX_seq, Nat.reduceBEq, Int.reduceEq, Int.reduceNe, Int.reduceLT, Int.reduceLE, Nat.reduceAdd, Nat.reduceMul, Nat.reduceLeDiff]
  refine LdX_cell (n := 1) rfl ?_
  simp -dsimp only [go_sem, sX_seq, Nat.reduceBEq, Int.reduceEq, Int.reduceNe, Int.reduceLT, Int.reduceLE, Nat.reduceAdd, Nat.reduceMul, Nat.reduceLeDiff]
  refine LdX_cells (by rfl) ?_
  simp -dsimp only [go_sem, sX_seq, Nat.reduceBEq, Int.reduceEq, Int.reduceNe, Int.reduceLT, Int.reduceLE, Nat.reduceAdd, Nat.reduceMul, Nat.reduceLeDiff]
  refine IxsX_slice hi ?_
  simp -dsimp only [go_sem, sX_seq, Nat.reduceBEq, Int.reduceEq, Int.reduceNe, Int.reduceLT, Int.reduceLE, Nat.reduceAdd, Nat.reduceMul, Nat.reduceLeDiff]
  refine StX_elem (k := 2) (z := x) rfl hi (by rfl) (by rfl) (by rfl) (by rfl) ?_
  simp -dsimp only [go_sem, sX_seq, Nat.reduceBEq, Int.reduceEq, Int.reduceNe, Int.reduceLT, Int.reduceLE, Nat.reduceAdd, Nat.reduceMul, Nat.reduceLeDiff]
  refine NnX_cells ?_
  simp -dsimp only [go_sem, sX_seq, Nat.reduceBEq, Int.reduceEq, Int.reduceNe, Int.reduceLT, Int.reduceLE, Nat.reduceAdd, Nat.reduceMul, Nat.reduceLeDiff]
  refine NnX_cells ?_
  simp -dsimp only [go_sem, sX_seq, Nat.reduceBEq, Int.reduceEq, Int.reduceNe, Int.reduceLT, Int.reduceLE, Nat.reduceAdd, Nat.reduceMul, Nat.reduceLeDiff]
  refine LdX_cell (n := 2) rfl ?_
  simp -dsimp only [go_sem, sX_seq, Nat.reduceBEq, Int.reduceEq, Int.reduceNe, Int.reduceLT, Int.reduceLE, Nat.reduceAdd, Nat.reduceMul, Nat.reduceLeDiff]
  refine NnX_cells ?_
  simp -dsimp only [go_sem, sX_seq, Nat.reduceBEq, Int.reduceEq, Int.reduceNe, Int.reduceLT, Int.reduceLE, Nat.reduceAdd, Nat.reduceMul, Nat.reduceLeDiff]
  refine LdX_cell (n := 0) rfl ?_
  simp -dsimp only [go_sem, sX_seq, Nat.reduceBEq, Int.reduceEq, Int.reduceNe, Int.reduceLT, Int.reduceLE, Nat.reduceAdd, Nat.reduceMul, Nat.reduceLeDiff]
  refine UpmX_map (x := x.1) (y := i) (by rfl) (by rfl) (by rfl) ?_
  simp -dsimp only [go_sem, sX_seq, Nat.reduceBEq, Int.reduceEq, Int.reduceNe, Int.reduceLT, Int.reduceLE, Nat.reduceAdd, Nat.reduceMul, Nat.reduceLeDiff]
  exact ⟨_, Ent.auto, hk⟩

theorem swap_spec {R : List Chunk} {K : KVL} {v nv tv mv : Value} {t : List It} {f : Int → Option Int} {a b : Int} {x y : It} (ha : 0 ≤ a ∧ a < t.length) (hb : 0 ≤ b ∧ b < t.length) (hx : t[a.toNat]? = some x) (hy : t[b.toNat]? = some y)
    (hk : K (.tuple #[]) (hpL v nv tv mv (swapI t a.toNat b.toNat x y) (updF (updF f y.1 a) x.1 b) R)) :
    CallW Try.prog 19 [v, .int .i64 a, .int .i64 b] (hpL v nv tv mv t f R) K := by
  unfold swapI at hk
  refine CallW.ret ?_
  refine callX_of (by kernel_rfl) Try.func19 e19 (by exact Nat.le_of_ble_eq_true rfl) ?_
  (repeat (first | (simp -dsimp only [go_sem, sX_seq, Nat.reduceBEq, Int.reduceEq, Int.reduceNe, Int.reduceLT, Int.reduceLE, Nat.reduceAdd, Nat.reduceMul, Nat.reduceLeDiff]) | (refine thawX_none ?_; simp -dsimp only [go_sem, sX_seq, Nat.reduceBEq, Int.reduceEq, Int.reduceNe, Int.reduceLT, Int.reduceLE, Nat.reduceAdd, Nat.reduceMul, Nat.reduceLeDiff]; first | refine auto ?_ | refine NewX_intro (fun _ => ?_)) | (refine auto ?_) | (refine NewX_intro (fun _ => ?_)) | (refine autoI ⟨(by first | omega | (simp only [go_sem]; omega)), (by first | omega | (simp only [go_sem]; omega))⟩ ?_) | (simp -dsimp (disch := omega) only [wrap_i64, wrap_u64, wrap_i32, wrap_u8])))
  first | refine LdX_elem (by rfl) ⟨(by first | omega | (simp only [go_sem]; omega)), (by first | omega | (simp only [go_sem]; omega))⟩ (fun u hu_ => ?_) | refine LdX_elemAt (by rfl) ⟨(by first | omega | (simp only [go_sem]; omega)), (by first | omega | (simp only [go_sem]; omega))⟩ (by decide) (fun u hu_ => ?_) | refine LdX_elem0 (by rfl) ⟨(by first | omega | (simp only [go_sem]; omega)), (by first | omega | (simp only [go_sem]; omega))⟩ (by decide) (fun u hu_ => ?_)
  obtain rfl : u = x := by rw [hx] at hu_; cases hu_; rfl
  (repeat (first | (simp -dsimp only [go_sem, sX_seq, Nat.reduceBEq, Int.reduceEq, Int.reduceNe, Int.reduceLT, Int.reduceLE, Nat.reduceAdd, Nat.reduceMul, Nat.reduceLeDiff]) | (refine thawX_none ?_; simp -dsimp only [go_sem, sX_seq, Nat.reduceBEq, Int.reduceEq, Int.reduceNe, Int.reduceLT, Int.reduceLE, Nat.reduceAdd, Nat.reduceMul, Nat.reduceLeDiff]; first | refine auto ?_ | refine NewX_intro (fun _ => ?_)) | (refine auto ?_) | (refine NewX_intro (fun _ => ?_)) | (refine autoI ⟨(by first | omega | (simp only [go_sem]; omega)), (by first | omega | (simp only [go_sem]; omega))⟩ ?_) | (simp -dsimp (disch := omega) only [wrap_i64, wrap_u64, wrap_i32, wrap_u8])))
  first | refine LdX_elem (by rfl) ⟨(by first | omega | (simp only [go_sem]; omega)), (by first | omega | (simp only [go_sem]; omega))⟩ (fun w hw_ => ?_) | refine LdX_elemAt (by rfl) ⟨(by first | omega | (simp only [go_sem]; omega)), (by first | omega | (simp only [go_sem]; omega))⟩ (by decide) (fun w hw_ => ?_) | refine LdX_elem0 (by rfl) ⟨(by first | omega | (simp only [go_sem]; omega)), (by first | omega | (simp only [go_sem]; omega))⟩ (by decide) (fun w hw_ => ?_)
  obtain rfl : w = y := by rw [hy] at hw_; cases hw_; rfl
  (repeat (first | (simp -dsimp only [go_sem, sX_seq, Nat.reduceBEq, Int.reduceEq, Int.reduceNe, Int.reduceLT, Int.reduceLE, Nat.reduceAdd, Nat.reduceMul, Nat.reduceLeDiff]) | (refine thawX_none ?_; simp -dsimp only [go_sem, sX_seq, Nat.reduceBEq, Int.reduceEq, Int.reduceNe, Int.reduceLT, Int.reduceLE, Nat.reduceAdd, Nat.reduceMul, Nat.reduceLeDiff]; first | refine auto ?_ | refine NewX_intro (fun _ => ?_)) | (refine auto ?_) | (refine NewX_intro (fun _ => ?_)) | (refine autoI ⟨(by first | omega | (simp only [go_sem]; omega)), (by first | omega | (simp only [go_sem]; omega))⟩ ?_) | (simp -dsimp (disch := omega) only [wrap_i64, wrap_u64, wrap_i32, wrap_u8])))
  refine altX.mk' ?_ ?_
  all_goals
    (repeat (first | (simp -dsimp only [go_sem, sX_seq, Nat.reduceBEq, Int.reduceEq, Int.reduceNe, Int.reduceLT, Int.reduceLE, Nat.reduceAdd, Nat.reduceMul, Nat.reduceLeDiff]) | (refine thawX_none ?_; simp -dsimp only [go_sem, sX_seq, Nat.reduceBEq, Int.reduceEq, Int.reduceNe, Int.reduceLT, Int.reduceLE, Nat.reduceAdd, Nat.reduceMul, Nat.reduceLeDiff]; first | refine auto ?_ | refine NewX_intro (fun _ => ?_)) | (refine auto ?_) | (refine NewX_intro (fun _ => ?_)) | (refine autoI ⟨(by first | omega | (simp only [go_sem]; omega)), (by first | omega | (simp only [go_sem]; omega))⟩ ?_) | (simp -dsimp (disch := omega) only [wrap_i64, wrap_u64, wrap_i32, wrap_u8])))
    refine CallX.pull (hpL v nv tv mv t f []) (put_spec w ha ?_)
    (repeat (first | (simp -dsimp only [go_sem, sX_seq, Nat.reduceBEq, Int.reduceEq, Int.reduceNe, Int.reduceLT, Int.reduceLE, Nat.reduceAdd, Nat.reduceMul, Nat.reduceLeDiff]) | (refine thawX_none ?_; simp -dsimp only [go_sem, sX_seq, Nat.reduceBEq, Int.reduceEq, Int.reduceNe, Int.reduceLT, Int.reduceLE, Nat.reduceAdd, Nat.reduceMul, Nat.reduceLeDiff]; first | refine auto ?_ | refine NewX_intro (fun _ => ?_)) | (refine auto ?_) | (refine NewX_intro (fun _ => ?_)) | (refine autoI ⟨(by first | omega | (simp only [go_sem]; omega)), (by first | omega | (simp only [go_sem]; omega))⟩ ?_) | (simp -dsimp (disch := omega) only [wrap_i64, wrap_u64, wrap_i32, wrap_u8])))
    refine CallX.pull (hpL v nv tv mv (t.set a.toNat w) (updF f w.1 a) []) (put_spec u (by simpa using hb) ?_)
    (repeat (first | (simp -dsimp only [go_sem, sX_seq, Nat.reduceBEq, Int.reduceEq, Int.reduceNe, Int.reduceLT, Int.reduceLE, Nat.reduceAdd, Nat.reduceMul, Nat.reduceLeDiff]) | (refine thawX_none ?_; simp -dsimp only [go_sem, sX_seq, Nat.reduceBEq, Int.reduceEq, Int.reduceNe, Int.reduceLT, Int.reduceLE, Nat.reduceAdd, Nat.reduceMul, Nat.reduceLeDiff]; first | refine auto ?_ | refine NewX_intro (fun _ => ?_)) | (refine auto ?_) | (refine NewX_intro (fun _ => ?_)) | (refine autoI ⟨(by first | omega | (simp only [go_sem]; omega)), (by first | omega | (simp only [go_sem]; omega))⟩ ?_) | (simp -dsimp (disch := omega) only [wrap_i64, wrap_u64, wrap_i32, wrap_u8])))
    exact ⟨_, Ent.auto, hk⟩

/-- The thing at i may not rise. -/
def Stays (t : List It) (i : Nat) : Prop := i = 0 ∨ ∀ x y, t[i]? = some x → t[(i - 1) / 2]? = some y → ¬ lessI x y

theorem up_spec {R : List Chunk} {K : KVL} {v nv tv mv : Value} {t : List It} {f : Int → Option Int} {i : Nat} (hi : i < t.length) (hl : t.length ≤ 1000000000) (P : PosI t f)
    (hk : ∀ t' f', t'.length = t.length → PosI t' f' → (∀ z, z ∈ t' ↔ z ∈ t) → (UpEx t i → HOrd t') → (Stays t i → t' = t) → K (.tuple #[]) (hpL v nv tv mv t' f' R)) :
    CallW Try.prog 18 [v, .int .i64 i] (hpL v nv tv mv t f R) K := by
  refine CallW.ret ?_
  refine callX_of (by kernel_rfl) Try.func18 e18 (by exact Nat.le_of_ble_eq_true rfl) ?_
  simp -dsimp only [go_sem, sX_seq, Nat.reduceBEq, Int.reduceEq, Int.reduceNe, Int.reduceLT, Int.reduceLE, Nat.reduceAdd, Nat.reduceMul, Nat.reduceLeDiff]
  refine loopX_intro [0] [1] (fun m vs L' => ∃ (j : Nat) (t2 : List It) (f2 : Int → Option Int), vs = [.int .i64 j] ∧ m = j ∧ j < t.length ∧ t2.length = t.length ∧ PosI t2 f2 ∧ (∀ z, z ∈ t2 ↔ z ∈ t) ∧ (UpEx t i → UpEx t2 j) ∧ (Stays t i → t2 = t ∧ j = i) ∧ L' = hpL v nv tv mv t2 f2 R) _ (by rfl) ⟨i, t, f, rfl, rfl, hi, rfl, P, fun _ => Iff.rfl, id, fun _ => ⟨rfl, rfl⟩, rfl⟩ ?_
  rintro m vs L' g ⟨j, t2, f2, rfl, hmj, hj, hlen, P2, hmem, hup, hst, rfl⟩
  subst m
  simp -dsimp only [go_sem, sX_seq, Nat.reduceBEq, Int.reduceEq, Int.reduceNe, Int.reduceLT, Int.reduceLE, Nat.reduceAdd, Nat.reduceMul, Nat.reduceLeDiff]
  refine condX_dec (fun h1 h1' => ?_) (fun h1 h1' => ?_)
  · simp -dsimp only [go_sem, sX_seq, Nat.reduceBEq, Int.reduceEq, Int.reduceNe, Int.reduceLT, Int.reduceLE, Nat.reduceAdd, Nat.reduceMul, Nat.reduceLeDiff, h1', h1']
    have hq : ((j : Int) - 1).tdiv 2 = (((j - 1) / 2 : Nat) : Int) := by
      rw [Int.tdiv_eq_ediv_of_nonneg (by omega)]; omega
    rw [wrap_i64 (n := (j : Int) - 1) (by omega) (by omega), hq, wrap_i64 (by omega) (by omega)]
    have hxs : t2[j]? = some t2[j] := List.getElem?_eq_getElem (by omega)
    have hys : t2[(j - 1) / 2]? = some t2[(j - 1) / 2] := List.getElem?_eq_getElem (by omega)
    refine CallX.of (less_spec (t := t2) (tv := tv) (nv := nv) (mv := mv) (x := t2[j]) (y := t2[(j - 1) / 2]) ⟨by omega, by omega⟩ ⟨by omega, by omega⟩ hxs hys ?_)
    simp -dsimp only [go_sem, sX_seq, Nat.reduceBEq, Int.reduceEq, Int.reduceNe, Int.reduceLT, Int.reduceLE, Nat.reduceAdd, Nat.reduceMul, Nat.reduceLeDiff, h1', h1']
    refine condX_dec (fun h2 h2' => ?_) (fun h2 h2' => ?_)
    · simp -dsimp only [go_sem, sX_seq, Nat.reduceBEq, Int.reduceEq, Int.reduceNe, Int.reduceLT, Int.reduceLE, Nat.reduceAdd, Nat.reduceMul, Nat.reduceLeDiff, h1', h2', h1']
      rw [wrap_i64 (n := (j : Int) - 1) (by omega) (by omega), hq, wrap_i64 (by omega) (by omega)]
      refine CallX.of (swap_spec (x := t2[j]) (y := t2[(j - 1) / 2]) ⟨by omega, by omega⟩ ⟨by omega, by omega⟩ hxs hys ?_)
      simp -dsimp only [go_sem, sX_seq, Nat.reduceBEq, Int.reduceEq, Int.reduceNe, Int.reduceLT, Int.reduceLE, Nat.reduceAdd, Nat.reduceMul, Nat.reduceLeDiff, h1', h2', h1']
      rw [wrap_i64 (n := (j : Int) - 1) (by omega) (by omega), hq, wrap_i64 (by omega) (by omega)]
      refine ⟨(j - 1) / 2, by omega, (j - 1) / 2, _, _, rfl, rfl, by omega, by rw [swapI_length]; exact hlen, P2.swap hxs hys, fun z => (swapI_mem hxs hys z).trans (hmem z), fun U => (hup U).step (by omega) hxs hys h2, fun s => ?_, rfl⟩
      obtain ⟨rfl, rfl⟩ := hst s
      rcases s with s | s
      · omega
      · exact absurd h2 (s _ _ hxs hys)
    · simp -dsimp only [go_sem, sX_seq, Nat.reduceBEq, Int.reduceEq, Int.reduceNe, Int.reduceLT, Int.reduceLE, Nat.reduceAdd, Nat.reduceMul, Nat.reduceLeDiff, h1', h2', h1']
      refine ⟨_, Ent.auto, hk t2 f2 hlen P2 hmem (fun U => (hup U).done (.inr fun x y hx hy => ?_)) (fun s => (hst s).1)⟩
      rw [hxs] at hx; rw [hys] at hy
      cases hx; cases hy
      exact h2
  · simp -dsimp only [go_sem, sX_seq, Nat.reduceBEq, Int.reduceEq, Int.reduceNe, Int.reduceLT, Int.reduceLE, Nat.reduceAdd, Nat.reduceMul, Nat.reduceLeDiff, h1', h1']
    have hj0 : j = 0 := by omega
    subst hj0
    exact ⟨_, Ent.auto, hk t2 f2 hlen P2 hmem (fun U => (hup U).done (.inl rfl)) (fun s => (hst s).1)⟩

theorem down_spec {R : List Chunk} {K : KVL} {v nv tv mv : Value} {t : List It} {f : Int → Option Int} {i : Nat} (hi : i < t.length) (hl : t.length ≤ 1000000000) (P : PosI t f) (D : DnEx t i)
    (hk : ∀ t' f', t'.length = t.length → PosI t' f' → (∀ z, z ∈ t' ↔ z ∈ t) → HOrd t' → K (.tuple #[]) (hpL v nv tv mv t' f' R)) :
    CallW Try.prog 20 [v, .int .i64 i] (hpL v nv tv mv t f R) K := by
  refine CallW.ret ?_
  refine callX_of (by kernel_rfl) Try.func20 e20 (by exact Nat.le_of_ble_eq_true rfl) ?_
  simp -dsimp only [go_sem, sX_seq, Nat.reduceBEq, Int.reduceEq, Int.reduceNe, Int.reduceLT, Int.reduceLE, Nat.reduceAdd, Nat.reduceMul, Nat.reduceLeDiff]
  refine loopX_intro [0] [1] (fun m vs L' => ∃ (j : Nat) (t2 : List It) (f2 : Int → Option Int), vs = [.int .i64 j] ∧ m = t.length - j ∧ j < t.length ∧ t2.length = t.length ∧ PosI t2 f2 ∧ (∀ z, z ∈ t2 ↔ z ∈ t) ∧ DnEx t2 j ∧ L' = hpL v nv tv mv t2 f2 R) _ (by rfl) ⟨i, t, f, rfl, rfl, hi, rfl, P, fun _ => Iff.rfl, D, rfl⟩ ?_
  rintro m vs L' g ⟨j, t2, f2, rfl, hmj, hj, hlen, P2, hmem, D2, rfl⟩
  subst m
  simp -dsimp only [go_sem, sX_seq, Nat.reduceBEq, Int.reduceEq, Int.reduceNe, Int.reduceLT, Int.reduceLE, Nat.reduceAdd, Nat.reduceMul, Nat.reduceLeDiff]
  refine NnX_cells ?_
  simp -dsimp only [go_sem, sX_seq, Nat.reduceBEq, Int.reduceEq, Int.reduceNe, Int.reduceLT, Int.reduceLE, Nat.reduceAdd, Nat.reduceMul, Nat.reduceLeDiff]
  refine NnX_cells ?_
  simp -dsimp only [go_sem, sX_seq, Nat.reduceBEq, Int.reduceEq, Int.reduceNe, Int.reduceLT, Int.reduceLE, Nat.reduceAdd, Nat.reduceMul, Nat.reduceLeDiff]
  refine LdX_cell (n := 1) rfl ?_
  simp -dsimp only [go_sem, sX_seq, Nat.reduceBEq, Int.reduceEq, Int.reduceNe, Int.reduceLT, Int.reduceLE, Nat.reduceAdd, Nat.reduceMul, Nat.reduceLeDiff]
  refine LenX_slice ?_
  simp -dsimp only [go_sem, sX_seq, Nat.reduceBEq, Int.reduceEq, Int.reduceNe, Int.reduceLT, Int.reduceLE, Nat.reduceAdd, Nat.reduceMul, Nat.reduceLeDiff]
  rw [wrap_i64 (n := 2 * (j : Int)) (by omega) (by omega), wrap_i64 (n := 2 * (j : Int) + 1) (by omega) (by omega)]
  have hxs : t2[j]? = some t2[j] := List.getElem?_eq_getElem (by omega)
  refine condX_dec (fun h1 h1' => ?_) (fun h1 h1' => ?_)
  · simp -dsimp only [go_sem, sX_seq, Nat.reduceBEq, Int.reduceEq, Int.reduceNe, Int.reduceLT, Int.reduceLE, Nat.reduceAdd, Nat.reduceMul, Nat.reduceLeDiff, h1', h1']
    refine ⟨_, Ent.auto, hk t2 f2 hlen P2 hmem (D2.done fun a x y ha hp hx hy => ?_)⟩
    have := (List.getElem?_eq_some_iff.1 hx).1
    omega
  · simp -dsimp only [go_sem, sX_seq, Nat.reduceBEq, Int.reduceEq, Int.reduceNe, Int.reduceLT, Int.reduceLE, Nat.reduceAdd, Nat.reduceMul, Nat.reduceLeDiff, h1', h1']
    refine NnX_cells ?_
    simp -dsimp only [go_sem, sX_seq, Nat.reduceBEq, Int.reduceEq, Int.reduceNe, Int.reduceLT, Int.reduceLE, Nat.reduceAdd, Nat.reduceMul, Nat.reduceLeDiff, h1', h1']
    refine NnX_cells ?_
    simp -dsimp only [go_sem, sX_seq, Nat.reduceBEq, Int.reduceEq, Int.reduceNe, Int.reduceLT, Int.reduceLE, Nat.reduceAdd, Nat.reduceMul, Nat.reduceLeDiff, h1', h1']
    refine LdX_cell (n := 1) rfl ?_
    simp -dsimp only [go_sem, sX_seq, Nat.reduceBEq, Int.reduceEq, Int.reduceNe, Int.reduceLT, Int.reduceLE, Nat.reduceAdd, Nat.reduceMul, Nat.reduceLeDiff, h1', h1']
    refine LenX_slice ?_
    simp -dsimp only [go_sem, sX_seq, Nat.reduceBEq, Int.reduceEq, Int.reduceNe, Int.reduceLT, Int.reduceLE, Nat.reduceAdd, Nat.reduceMul, Nat.reduceLeDiff, h1', h1']
    rw [wrap_i64 (n := 2 * (j : Int) + 1 + 1) (by omega) (by omega)]
    have hks : t2[2 * j + 1]? = some t2[2 * j + 1] := List.getElem?_eq_getElem (by omega)
    have c1 : (2 * (j : Int) + 1) = ((2 * j + 1 : Nat) : Int) := by omega
    have c2 : (2 * (j : Int) + 1 + 1) = ((2 * j + 2 : Nat) : Int) := by omega
    refine condX_dec (fun h2 h2' => ?_) (fun h2 h2' => ?_)
    · simp -dsimp only [go_sem, sX_seq, Nat.reduceBEq, Int.reduceEq, Int.reduceNe, Int.reduceLT, Int.reduceLE, Nat.reduceAdd, Nat.reduceMul, Nat.reduceLeDiff, h1', h2', h1', h2']
      rw [wrap_i64 (n := 2 * (j : Int) + 1 + 1) (by omega) (by omega)]
      have hls : t2[2 * j + 2]? = some t2[2 * j + 2] := List.getElem?_eq_getElem (by omega)
      refine CallX.of (less_spec (t := t2) (tv := tv) (nv := nv) (mv := mv) (x := t2[2 * j + 2]) (y := t2[2 * j + 1]) ⟨by omega, by omega⟩ ⟨by omega, by omega⟩ (by rw [c2]; exact hls) (by rw [c1]; exact hks) ?_)
      simp -dsimp only [go_sem, sX_seq, Nat.reduceBEq, Int.reduceEq, Int.reduceNe, Int.reduceLT, Int.reduceLE, Nat.reduceAdd, Nat.reduceMul, Nat.reduceLeDiff, h1', h2', h1', h2']
      refine condX_dec (fun h3 h3' => ?_) (fun h3 h3' => ?_)
      · simp -dsimp only [go_sem, sX_seq, Nat.reduceBEq, Int.reduceEq, Int.reduceNe, Int.reduceLT, Int.reduceLE, Nat.reduceAdd, Nat.reduceMul, Nat.reduceLeDiff, h1', h2', h3', h1', h2', h3']
        rw [wrap_i64 (n := 2 * (j : Int) + 1 + 1) (by omega) (by omega), c2]
        have hpar : (2 * j + 2 - 1) / 2 = j := by omega
        have sib : ∀ (a : Nat) u, 0 < a → (a - 1) / 2 = j → t2[a]? = some u → ¬ lessI u t2[2 * j + 2] := by
          intro a u ha hp hu
          have hc : a = 2 * j + 1 ∨ a = 2 * j + 2 := by omega
          rcases hc with rfl | rfl
          · rw [hks] at hu; cases hu; exact h3.asymm
          · rw [hls] at hu; cases hu; exact fun l => l.asymm l
        refine CallX.of (less_spec (t := t2) (tv := tv) (nv := nv) (mv := mv) (x := t2[2 * j + 2]) (y := t2[j]) ⟨by omega, by omega⟩ ⟨by omega, by omega⟩ hls hxs ?_)
        simp -dsimp only [go_sem, sX_seq, Nat.reduceBEq, Int.reduceEq, Int.reduceNe, Int.reduceLT, Int.reduceLE, Nat.reduceAdd, Nat.reduceMul, Nat.reduceLeDiff, h1', h2', h3', h1', h2', h3']
        refine condX_not (fun h4 h4' => ?_) (fun h4 h4' => ?_)
        · simp -dsimp only [go_sem, sX_seq, Nat.reduceBEq, Int.reduceEq, Int.reduceNe, Int.reduceLT, Int.reduceLE, Nat.reduceAdd, Nat.reduceMul, Nat.reduceLeDiff, h1', h2', h3', h4', h1', h2', h3', h4']
          refine ⟨_, Ent.auto, hk t2 f2 hlen P2 hmem (D2.done fun a x y ha hp hx hy => ?_)⟩
          rw [hxs] at hy; cases hy
          exact notLess_trans (sib a x ha hp hx) h4
        · simp -dsimp only [go_sem, sX_seq, Nat.reduceBEq, Int.reduceEq, Int.reduceNe, Int.reduceLT, Int.reduceLE, Nat.reduceAdd, Nat.reduceMul, Nat.reduceLeDiff, h1', h2', h3', h4', h1', h2', h3', h4']
          refine CallX.of (swap_spec (x := t2[j]) (y := t2[2 * j + 2]) ⟨by omega, by omega⟩ ⟨by omega, by omega⟩ hxs hls ?_)
          simp -dsimp only [go_sem, sX_seq, Nat.reduceBEq, Int.reduceEq, Int.reduceNe, Int.reduceLT, Int.reduceLE, Nat.reduceAdd, Nat.reduceMul, Nat.reduceLeDiff, h1', h2', h3', h4', h1', h2', h3', h4']
          exact ⟨t.length - (2 * j + 2), by omega, 2 * j + 2, _, _, rfl, rfl, by omega, by rw [swapI_length]; exact hlen, P2.swap hxs hls, fun z => (swapI_mem hxs hls z).trans (hmem z), D2.step (by omega) hpar hxs hls h4 sib, rfl⟩
      · simp -dsimp only [go_sem, sX_seq, Nat.reduceBEq, Int.reduceEq, Int.reduceNe, Int.reduceLT, Int.reduceLE, Nat.reduceAdd, Nat.reduceMul, Nat.reduceLeDiff, h1', h2', h3', h1', h2', h3']
        rw [c1]
        have hpar : (2 * j + 1 - 1) / 2 = j := by omega
        have sib : ∀ (a : Nat) u, 0 < a → (a - 1) / 2 = j → t2[a]? = some u → ¬ lessI u t2[2 * j + 1] := by
          intro a u ha hp hu
          have hc : a = 2 * j + 1 ∨ a = 2 * j + 2 := by omega
          rcases hc with rfl | rfl
          · rw [hks] at hu; cases hu; exact fun l => l.asymm l
          · rw [hls] at hu; cases hu; exact h3
        refine CallX.of (less_spec (t := t2) (tv := tv) (nv := nv) (mv := mv) (x := t2[2 * j + 1]) (y := t2[j]) ⟨by omega, by omega⟩ ⟨by omega, by omega⟩ hks hxs ?_)
        simp -dsimp only [go_sem, sX_seq, Nat.reduceBEq, Int.reduceEq, Int.reduceNe, Int.reduceLT, Int.reduceLE, Nat.reduceAdd, Nat.reduceMul, Nat.reduceLeDiff, h1', h2', h3', h1', h2', h3']
        refine condX_not (fun h4 h4' => ?_) (fun h4 h4' => ?_)
        · simp -dsimp only [go_sem, sX_seq, Nat.reduceBEq, Int.reduceEq, Int.reduceNe, Int.reduceLT, Int.reduceLE, Nat.reduceAdd, Nat.reduceMul, Nat.reduceLeDiff, h1', h2', h3', h4', h1', h2', h3', h4']
          refine ⟨_, Ent.auto, hk t2 f2 hlen P2 hmem (D2.done fun a x y ha hp hx hy => ?_)⟩
          rw [hxs] at hy; cases hy
          exact notLess_trans (sib a x ha hp hx) h4
        · simp -dsimp only [go_sem, sX_seq, Nat.reduceBEq, Int.reduceEq, Int.reduceNe, Int.reduceLT, Int.reduceLE, Nat.reduceAdd, Nat.reduceMul, Nat.reduceLeDiff, h1', h2', h3', h4', h1', h2', h3', h4']
          refine CallX.of (swap_spec (x := t2[j]) (y := t2[2 * j + 1]) ⟨by omega, by omega⟩ ⟨by omega, by omega⟩ hxs hks ?_)
          simp -dsimp only [go_sem, sX_seq, Nat.reduceBEq, Int.reduceEq, Int.reduceNe, Int.reduceLT, Int.reduceLE, Nat.reduceAdd, Nat.reduceMul, Nat.reduceLeDiff, h1', h2', h3', h4', h1', h2', h3', h4']
          exact ⟨t.length - (2 * j + 1), by omega, 2 * j + 1, _, _, rfl, rfl, by omega, by rw [swapI_length]; exact hlen, P2.swap hxs hks, fun z => (swapI_mem hxs hks z).trans (hmem z), D2.step (by omega) hpar hxs hks h4 sib, rfl⟩
    · simp -dsimp only [go_sem, sX_seq, Nat.reduceBEq, Int.reduceEq, Int.reduceNe, Int.reduceLT, Int.reduceLE, Nat.reduceAdd, Nat.reduceMul, Nat.reduceLeDiff, h1', h2', h1', h2']
      rw [c1]
      have hpar : (2 * j + 1 - 1) / 2 = j := by omega
      have sib : ∀ (a : Nat) u, 0 < a → (a - 1) / 2 = j → t2[a]? = some u → ¬ lessI u t2[2 * j + 1] := by
        intro a u ha hp hu
        have hc : a = 2 * j + 1 ∨ a = 2 * j + 2 := by omega
        rcases hc with rfl | rfl
        · rw [hks] at hu; cases hu; exact fun l => l.asymm l
        · have := (List.getElem?_eq_some_iff.1 hu).1; omega
      refine CallX.of (less_spec (t := t2) (tv := tv) (nv := nv) (mv := mv) (x := t2[2 * j + 1]) (y := t2[j]) ⟨by omega, by omega⟩ ⟨by omega, by omega⟩ hks hxs ?_)
      simp -dsimp only [go_sem, sX_seq, Nat.reduceBEq, Int.reduceEq, Int.reduceNe, Int.reduceLT, Int.reduceLE, Nat.reduceAdd, Nat.reduceMul, Nat.reduceLeDiff, h1', h2', h1', h2']
      refine condX_not (fun h4 h4' => ?_) (fun h4 h4' => ?_)
      · simp -dsimp only [go_sem, sX_seq, Nat.reduceBEq, Int.reduceEq, Int.reduceNe, Int.reduceLT, Int.reduceLE, Nat.reduceAdd, Nat.reduceMul, Nat.reduceLeDiff, h1', h2', h4', h1', h2', h4']
        refine ⟨_, Ent.auto, hk t2 f2 hlen P2 hmem (D2.done fun a x y ha hp hx hy => ?_)⟩
        rw [hxs] at hy; cases hy
        exact notLess_trans (sib a x ha hp hx) h4
      · simp -dsimp only [go_sem, sX_seq, Nat.reduceBEq, Int.reduceEq, Int.reduceNe, Int.reduceLT, Int.reduceLE, Nat.reduceAdd, Nat.reduceMul, Nat.reduceLeDiff, h1', h2', h4', h1', h2', h4']
        refine CallX.of (swap_spec (x := t2[j]) (y := t2[2 * j + 1]) ⟨by omega, by omega⟩ ⟨by omega, by omega⟩ hxs hks ?_)
        simp -dsimp only [go_sem, sX_seq, Nat.reduceBEq, Int.reduceEq, Int.reduceNe, Int.reduceLT, Int.reduceLE, Nat.reduceAdd, Nat.reduceMul, Nat.reduceLeDiff, h1', h2', h4', h1', h2', h4']
        exact ⟨t.length - (2 * j + 1), by omega, 2 * j + 1, _, _, rfl, rfl, by omega, by rw [swapI_length]; exact hlen, P2.swap hxs hks, fun z => (swapI_mem hxs hks z).trans (hmem z), D2.step (by omega) hpar hxs hks h4 sib, rfl⟩

end Go.SL
