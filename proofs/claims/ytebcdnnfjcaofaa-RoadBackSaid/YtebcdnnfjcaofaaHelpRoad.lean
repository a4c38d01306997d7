/- The laws' helpers, of arcs and bytes: what they come to. -/
import Derived.Test.YtebcdnnfjcaofaaCodeRoad
import Derived.Test.YtebcdnnfjcaofaaRulesS
set_option linter.unusedSimpArgs false
set_option linter.unusedVariables false
set_option maxRecDepth 100000
namespace Go.SL
open Go.Proofs

theorem plainArc1_spec {L : List Chunk} {K : KVL} {x y : Arc3} (hk : K (.bool (decide (x = y))) L) :
    CallW Try.prog 49 [.agg #[.int .i64 x.f, .int .i64 x.t, .int .i64 x.w], .agg #[.int .i64 y.f, .int .i64 y.t, .int .i64 y.w]] L K := by
  refine CallW.ret ?_
  refine callX_of (by kernel_rfl) Try.func49 e49 (by exact Nat.le_of_ble_eq_true rfl) ?_
  (repeat (first | (simp -dsimp only [go_sem, sX_seq, Nat.reduceBEq, Int.reduceEq, Int.reduceNe, Int.reduceLT, Int.reduceLE, Nat.reduceAdd, Nat.reduceMul, Nat.reduceLeDiff]) | (refine thawX_none ?_; simp -dsimp only [go_sem, sX_seq, Nat.reduceBEq, Int.reduceEq, Int.reduceNe, Int.reduceLT, Int.reduceLE, Nat.reduceAdd, Nat.reduceMul, Nat.reduceLeDiff]; first | refine auto ?_ | refine NewX_intro (fun _ => ?_)) | (refine auto ?_) | (refine NewX_intro (fun _ => ?_)) | (refine autoI ⟨(by first | omega | (simp only [go_sem]; omega)), (by first | omega | (simp only [go_sem]; omega))⟩ ?_) | (simp -dsimp (disch := omega) only [wrap_i64, wrap_u64, wrap_i32, wrap_u8])))
  refine ⟨L, Ent.auto, ?_⟩
  rw [show decide (x = y) = decide (x.f = y.f ∧ x.t = y.t ∧ x.w = y.w) from decide_eq_decide.2 (arc_ext x y).symm] at hk
  exact hk

theorem sameArc_spec {L : List Chunk} {a b : Value} {xs ys : List Arc3} {K : KVL} [RdS L a eArc xs] [RdS L b eArc ys] (hl : xs.length ≤ 9223372036854775807) (hk : K (.bool (decide (xs = ys))) L) :
    CallW Try.prog 48 [a, b, .func (.func 49) #[] #[]] L K := by
  refine CallW.ret ?_
  refine callX_of (by kernel_rfl) Try.func48 e48 (by exact Nat.le_of_ble_eq_true rfl) ?_
  (repeat (first | (simp -dsimp only [go_sem, sX_seq, Nat.reduceBEq, Int.reduceEq, Int.reduceNe, Int.reduceLT, Int.reduceLE, Nat.reduceAdd, Nat.reduceMul, Nat.reduceLeDiff]) | (refine thawX_none ?_; simp -dsimp only [go_sem, sX_seq, Nat.reduceBEq, Int.reduceEq, Int.reduceNe, Int.reduceLT, Int.reduceLE, Nat.reduceAdd, Nat.reduceMul, Nat.reduceLeDiff]; first | refine auto ?_ | refine NewX_intro (fun _ => ?_)) | (refine auto ?_) | (refine NewX_intro (fun _ => ?_)) | (refine autoI ⟨(by first | omega | (simp only [go_sem]; omega)), (by first | omega | (simp only [go_sem]; omega))⟩ ?_) | (simp -dsimp (disch := omega) only [wrap_i64, wrap_u64, wrap_i32, wrap_u8])))
  refine condX_not (fun h h' => ?_) (fun h h' => ?_)
  · (repeat (first | (simp -dsimp only [go_sem, sX_seq, Nat.reduceBEq, Int.reduceEq, Int.reduceNe, Int.reduceLT, Int.reduceLE, Nat.reduceAdd, Nat.reduceMul, Nat.reduceLeDiff, h']) | (refine thawX_none ?_; simp -dsimp only [go_sem, sX_seq, Nat.reduceBEq, Int.reduceEq, Int.reduceNe, Int.reduceLT, Int.reduceLE, Nat.reduceAdd, Nat.reduceMul, Nat.reduceLeDiff, h']; first | refine auto ?_ | refine NewX_intro (fun _ => ?_)) | (refine auto ?_) | (refine NewX_intro (fun _ => ?_)) | (refine autoI ⟨(by first | omega | (simp only [go_sem]; omega)), (by first | omega | (simp only [go_sem]; omega))⟩ ?_) | (simp -dsimp (disch := omega) only [wrap_i64, wrap_u64, wrap_i32, wrap_u8])))
    rw [show decide (xs = ys) = false from decide_eq_false fun e => h (by rw [e])] at hk
    exact ⟨_, Ent.auto, hk⟩
  · have hlen : xs.length = ys.length := by omega
    (repeat (first | (simp -dsimp only [go_sem, sX_seq, Nat.reduceBEq, Int.reduceEq, Int.reduceNe, Int.reduceLT, Int.reduceLE, Nat.reduceAdd, Nat.reduceMul, Nat.reduceLeDiff, h']) | (refine thawX_none ?_; simp -dsimp only [go_sem, sX_seq, Nat.reduceBEq, Int.reduceEq, Int.reduceNe, Int.reduceLT, Int.reduceLE, Nat.reduceAdd, Nat.reduceMul, Nat.reduceLeDiff, h']; first | refine auto ?_ | refine NewX_intro (fun _ => ?_)) | (refine auto ?_) | (refine NewX_intro (fun _ => ?_)) | (refine autoI ⟨(by first | omega | (simp only [go_sem]; omega)), (by first | omega | (simp only [go_sem]; omega))⟩ ?_) | (simp -dsimp (disch := omega) only [wrap_i64, wrap_u64, wrap_i32, wrap_u8])))
    refine loopX_at [0, 1, 2] [7] (fun m vs L' => ∃ i : Nat, vs = [.int .i64 i] ∧ m = xs.length - i ∧ i ≤ xs.length ∧ xs.take i = ys.take i ∧ L' = L) _ (by rfl) ⟨_, Ent.auto, 0, rfl, rfl, by omega, rfl, rfl⟩ ?_
    rintro m vs L' f ⟨i, rfl, rfl, hi, ht, rfl⟩
    (repeat (first | (simp -dsimp only [go_sem, sX_seq, Nat.reduceBEq, Int.reduceEq, Int.reduceNe, Int.reduceLT, Int.reduceLE, Nat.reduceAdd, Nat.reduceMul, Nat.reduceLeDiff, h']) | (refine thawX_none ?_; simp -dsimp only [go_sem, sX_seq, Nat.reduceBEq, Int.reduceEq, Int.reduceNe, Int.reduceLT, Int.reduceLE, Nat.reduceAdd, Nat.reduceMul, Nat.reduceLeDiff, h']; first | refine auto ?_ | refine NewX_intro (fun _ => ?_)) | (refine auto ?_) | (refine NewX_intro (fun _ => ?_)) | (refine autoI ⟨(by first | omega | (simp only [go_sem]; omega)), (by first | omega | (simp only [go_sem]; omega))⟩ ?_) | (simp -dsimp (disch := omega) only [wrap_i64, wrap_u64, wrap_i32, wrap_u8])))
    first | refine condX_dec (fun h1 h1' => ?_) (fun h1 h1' => ?_) | refine condX_not (fun h1 h1' => ?_) (fun h1 h1' => ?_) | refine condX_mk (fun h1' => ?_) (fun h1' => ?_)
    · (repeat (first | (simp -dsimp only [go_sem, sX_seq, Nat.reduceBEq, Int.reduceEq, Int.reduceNe, Int.reduceLT, Int.reduceLE, Nat.reduceAdd, Nat.reduceMul, Nat.reduceLeDiff, h', h1']) | (refine thawX_none ?_; simp -dsimp only [go_sem, sX_seq, Nat.reduceBEq, Int.reduceEq, Int.reduceNe, Int.reduceLT, Int.reduceLE, Nat.reduceAdd, Nat.reduceMul, Nat.reduceLeDiff, h', h1']; first | refine auto ?_ | refine NewX_intro (fun _ => ?_)) | (refine auto ?_) | (refine NewX_intro (fun _ => ?_)) | (refine autoI ⟨(by first | omega | (simp only [go_sem]; omega)), (by first | omega | (simp only [go_sem]; omega))⟩ ?_) | (simp -dsimp (disch := omega) only [wrap_i64, wrap_u64, wrap_i32, wrap_u8])))
      first | refine LdX_elem (by rfl) ⟨(by first | omega | (simp only [go_sem]; omega)), (by first | omega | (simp only [go_sem]; omega))⟩ (fun x hx_ => ?_) | refine LdX_elemAt (by rfl) ⟨(by first | omega | (simp only [go_sem]; omega)), (by first | omega | (simp only [go_sem]; omega))⟩ (by decide) (fun x hx_ => ?_) | refine LdX_elem0 (by rfl) ⟨(by first | omega | (simp only [go_sem]; omega)), (by first | omega | (simp only [go_sem]; omega))⟩ (by decide) (fun x hx_ => ?_)
      (repeat (first | (simp -dsimp only [go_sem, sX_seq, Nat.reduceBEq, Int.reduceEq, Int.reduceNe, Int.reduceLT, Int.reduceLE, Nat.reduceAdd, Nat.reduceMul, Nat.reduceLeDiff, h', h1']) | (refine thawX_none ?_; simp -dsimp only [go_sem, sX_seq, Nat.reduceBEq, Int.reduceEq, Int.reduceNe, Int.reduceLT, Int.reduceLE, Nat.reduceAdd, Nat.reduceMul, Nat.reduceLeDiff, h', h1']; first | refine auto ?_ | refine NewX_intro (fun _ => ?_)) | (refine auto ?_) | (refine NewX_intro (fun _ => ?_)) | (refine autoI ⟨(by first | omega | (simp only [go_sem]; omega)), (by first | omega | (simp only [go_sem]; omega))⟩ ?_) | (simp -dsimp (disch := omega) only [wrap_i64, wrap_u64, wrap_i32, wrap_u8])))
      first | refine LdX_elem (by rfl) ⟨(by first | omega | (simp only [go_sem]; omega)), (by first | omega | (simp only [go_sem]; omega))⟩ (fun y hy_ => ?_) | refine LdX_elemAt (by rfl) ⟨(by first | omega | (simp only [go_sem]; omega)), (by first | omega | (simp only [go_sem]; omega))⟩ (by decide) (fun y hy_ => ?_) | refine LdX_elem0 (by rfl) ⟨(by first | omega | (simp only [go_sem]; omega)), (by first | omega | (simp only [go_sem]; omega))⟩ (by decide) (fun y hy_ => ?_)
      rw [toNat_nat_] at hx_ hy_
      (repeat (first | (simp -dsimp only [go_sem, sX_seq, Nat.reduceBEq, Int.reduceEq, Int.reduceNe, Int.reduceLT, Int.reduceLE, Nat.reduceAdd, Nat.reduceMul, Nat.reduceLeDiff, h', h1']) | (refine thawX_none ?_; simp -dsimp only [go_sem, sX_seq, Nat.reduceBEq, Int.reduceEq, Int.reduceNe, Int.reduceLT, Int.reduceLE, Nat.reduceAdd, Nat.reduceMul, Nat.reduceLeDiff, h', h1']; first | refine auto ?_ | refine NewX_intro (fun _ => ?_)) | (refine auto ?_) | (refine NewX_intro (fun _ => ?_)) | (refine autoI ⟨(by first | omega | (simp only [go_sem]; omega)), (by first | omega | (simp only [go_sem]; omega))⟩ ?_) | (simp -dsimp (disch := omega) only [wrap_i64, wrap_u64, wrap_i32, wrap_u8])))
      refine callFnX.of ?_
      refine plainArc1_spec (x := x) (y := y) ?_
      (repeat (first | (simp -dsimp only [go_sem, sX_seq, Nat.reduceBEq, Int.reduceEq, Int.reduceNe, Int.reduceLT, Int.reduceLE, Nat.reduceAdd, Nat.reduceMul, Nat.reduceLeDiff, h', h1']) | (refine thawX_none ?_; simp -dsimp only [go_sem, sX_seq, Nat.reduceBEq, Int.reduceEq, Int.reduceNe, Int.reduceLT, Int.reduceLE, Nat.reduceAdd, Nat.reduceMul, Nat.reduceLeDiff, h', h1']; first | refine auto ?_ | refine NewX_intro (fun _ => ?_)) | (refine auto ?_) | (refine NewX_intro (fun _ => ?_)) | (refine autoI ⟨(by first | omega | (simp only [go_sem]; omega)), (by first | omega | (simp only [go_sem]; omega))⟩ ?_) | (simp -dsimp (disch := omega) only [wrap_i64, wrap_u64, wrap_i32, wrap_u8])))
      refine condX_not (fun h2 h2' => ?_) (fun h2 h2' => ?_)
      · (repeat (first | (simp -dsimp only [go_sem, sX_seq, Nat.reduceBEq, Int.reduceEq, Int.reduceNe, Int.reduceLT, Int.reduceLE, Nat.reduceAdd, Nat.reduceMul, Nat.reduceLeDiff, h', h1', h2']) | (refine thawX_none ?_; simp -dsimp only [go_sem, sX_seq, Nat.reduceBEq, Int.reduceEq, Int.reduceNe, Int.reduceLT, Int.reduceLE, Nat.reduceAdd, Nat.reduceMul, Nat.reduceLeDiff, h', h1', h2']; first | refine auto ?_ | refine NewX_intro (fun _ => ?_)) | (refine auto ?_) | (refine NewX_intro (fun _ => ?_)) | (refine autoI ⟨(by first | omega | (simp only [go_sem]; omega)), (by first | omega | (simp only [go_sem]; omega))⟩ ?_) | (simp -dsimp (disch := omega) only [wrap_i64, wrap_u64, wrap_i32, wrap_u8])))
        rw [show decide (xs = ys) = false from decide_eq_false fun e => h2 (by subst e; rw [hx_] at hy_; cases hy_; rfl)] at hk
        exact ⟨_, Ent.auto, hk⟩
      · subst h2
        (repeat (first | (simp -dsimp only [go_sem, sX_seq, Nat.reduceBEq, Int.reduceEq, Int.reduceNe, Int.reduceLT, Int.reduceLE, Nat.reduceAdd, Nat.reduceMul, Nat.reduceLeDiff, h', h1', h2']) | (refine thawX_none ?_; simp -dsimp only [go_sem, sX_seq, Nat.reduceBEq, Int.reduceEq, Int.reduceNe, Int.reduceLT, Int.reduceLE, Nat.reduceAdd, Nat.reduceMul, Nat.reduceLeDiff, h', h1', h2']; first | refine auto ?_ | refine NewX_intro (fun _ => ?_)) | (refine auto ?_) | (refine NewX_intro (fun _ => ?_)) | (refine autoI ⟨(by first | omega | (simp only [go_sem]; omega)), (by first | omega | (simp only [go_sem]; omega))⟩ ?_) | (simp -dsimp (disch := omega) only [wrap_i64, wrap_u64, wrap_i32, wrap_u8])))
        refine ⟨_, ?_, _, Ent.auto, i + 1, by simp, rfl, by omega, ?_, rfl⟩
        · omega
        · rw [List.take_add_one, List.take_add_one, hx_, hy_, ht]
    · (repeat (first | (simp -dsimp only [go_sem, sX_seq, Nat.reduceBEq, Int.reduceEq, Int.reduceNe, Int.reduceLT, Int.reduceLE, Nat.reduceAdd, Nat.reduceMul, Nat.reduceLeDiff, h', h1']) | (refine thawX_none ?_; simp -dsimp only [go_sem, sX_seq, Nat.reduceBEq, Int.reduceEq, Int.reduceNe, Int.reduceLT, Int.reduceLE, Nat.reduceAdd, Nat.reduceMul, Nat.reduceLeDiff, h', h1']; first | refine auto ?_ | refine NewX_intro (fun _ => ?_)) | (refine auto ?_) | (refine NewX_intro (fun _ => ?_)) | (refine autoI ⟨(by first | omega | (simp only [go_sem]; omega)), (by first | omega | (simp only [go_sem]; omega))⟩ ?_) | (simp -dsimp (disch := omega) only [wrap_i64, wrap_u64, wrap_i32, wrap_u8])))
      have : i = xs.length := by omega
      subst this
      rw [List.take_length, hlen, List.take_length] at ht
      rw [decide_eq_true ht] at hk
      exact ⟨_, Ent.auto, hk⟩

theorem plainArc_spec {L : List Chunk} {a b : Value} {xs ys : List Arc3} {K : KVL} [RdS L a eArc xs] [RdS L b eArc ys] (hl : xs.length ≤ 9223372036854775807) (hk : K (.bool (decide (xs = ys))) L) :
    CallW Try.prog 27 [a, b] L K := by
  refine callX_of (by kernel_rfl) Try.func27 e27 (by exact Nat.le_of_ble_eq_true rfl) ?_
  (repeat (first | (simp -dsimp only [go_sem, sX_seq, Nat.reduceBEq, Int.reduceEq, Int.reduceNe, Int.reduceLT, Int.reduceLE, Nat.reduceAdd, Nat.reduceMul, Nat.reduceLeDiff]) | (refine thawX_none ?_; simp -dsimp only [go_sem, sX_seq, Nat.reduceBEq, Int.reduceEq, Int.reduceNe, Int.reduceLT, Int.reduceLE, Nat.reduceAdd, Nat.reduceMul, Nat.reduceLeDiff]; first | refine auto ?_ | refine NewX_intro (fun _ => ?_)) | (refine auto ?_) | (refine NewX_intro (fun _ => ?_)) | (refine autoI ⟨(by first | omega | (simp only [go_sem]; omega)), (by first | omega | (simp only [go_sem]; omega))⟩ ?_) | (simp -dsimp (disch := omega) only [wrap_i64, wrap_u64, wrap_i32, wrap_u8])))
  refine CallX.of (sameArc_spec (xs := xs) (ys := ys) hl ?_)
  (repeat (first | (simp -dsimp only [go_sem, sX_seq, Nat.reduceBEq, Int.reduceEq, Int.reduceNe, Int.reduceLT, Int.reduceLE, Nat.reduceAdd, Nat.reduceMul, Nat.reduceLeDiff]) | (refine thawX_none ?_; simp -dsimp only [go_sem, sX_seq, Nat.reduceBEq, Int.reduceEq, Int.reduceNe, Int.reduceLT, Int.reduceLE, Nat.reduceAdd, Nat.reduceMul, Nat.reduceLeDiff]; first | refine auto ?_ | refine NewX_intro (fun _ => ?_)) | (refine auto ?_) | (refine NewX_intro (fun _ => ?_)) | (refine autoI ⟨(by first | omega | (simp only [go_sem]; omega)), (by first | omega | (simp only [go_sem]; omega))⟩ ?_) | (simp -dsimp (disch := omega) only [wrap_i64, wrap_u64, wrap_i32, wrap_u8])))
  exact hk


theorem ownArc_spec {L : List Chunk} {a : Value} {xs : List Arc3} {z : Arc3} {K : KVL} [RdS L a eArc xs] (hl : xs.length ≤ 2000000000)
    (hk : ∀ b : Nat, K (.slice (some ⟨b, 0, none⟩) xs.length (xs.length + 3)) (⟨.pointer (some ⟨b, 0, none⟩), arrC eArc (xs ++ [z, z, z])⟩ :: L)) :
    CallW Try.prog 9 [a, .agg #[.int .i64 z.f, .int .i64 z.t, .int .i64 z.w]] L K := by
  refine CallW.ret ?_
  refine callX_of (by kernel_rfl) Try.func9 e9 (by exact Nat.le_of_ble_eq_true rfl) ?_
  (repeat (first | (simp -dsimp only [go_sem, sX_seq, Nat.reduceBEq, Int.reduceEq, Int.reduceNe, Int.reduceLT, Int.reduceLE, Nat.reduceAdd, Nat.reduceMul, Nat.reduceLeDiff]) | (refine thawX_none ?_; simp -dsimp only [go_sem, sX_seq, Nat.reduceBEq, Int.reduceEq, Int.reduceNe, Int.reduceLT, Int.reduceLE, Nat.reduceAdd, Nat.reduceMul, Nat.reduceLeDiff]; first | refine auto ?_ | refine NewX_intro (fun _ => ?_)) | (refine auto ?_) | (refine NewX_intro (fun _ => ?_)) | (refine autoI ⟨(by first | omega | (simp only [go_sem]; omega)), (by first | omega | (simp only [go_sem]; omega))⟩ ?_) | (simp -dsimp (disch := omega) only [wrap_i64, wrap_u64, wrap_i32, wrap_u8])))
  rename_i p
  refine MksX_arr eArc ⟨0, 0, 0⟩ rfl rfl ⟨by omega, by omega⟩ (by omega) (by omega) (fun b => ?_)
  have e3 : ((xs.length : Int) + 3).toNat = xs.length + 3 := by omega
  have e0 : 0 + xs.length = xs.length := by simp
  rw [e3]
  (repeat (first | (simp -dsimp only [go_sem, sX_seq, Nat.reduceBEq, Int.reduceEq, Int.reduceNe, Int.reduceLT, Int.reduceLE, Nat.reduceAdd, Nat.reduceMul, Nat.reduceLeDiff, e3, e0]) | (refine thawX_none ?_; simp -dsimp only [go_sem, sX_seq, Nat.reduceBEq, Int.reduceEq, Int.reduceNe, Int.reduceLT, Int.reduceLE, Nat.reduceAdd, Nat.reduceMul, Nat.reduceLeDiff, e3, e0]; first | refine auto ?_ | refine NewX_intro (fun _ => ?_)) | (refine auto ?_) | (refine NewX_intro (fun _ => ?_)) | (refine autoI ⟨(by first | omega | (simp only [go_sem]; omega)), (by first | omega | (simp only [go_sem]; omega))⟩ ?_) | (simp -dsimp (disch := omega) only [wrap_i64, wrap_u64, wrap_i32, wrap_u8])))
  refine AppX_arr (by rfl) ?_ ?_ (fun zs hzs => ?_)
  · show 0 + xs.length ≤ _; omega
  · simp
  have hz0 : zs = xs ++ List.replicate 0 z ++ List.replicate (3 - 0) ⟨0, 0, 0⟩ := by rw [hzs, List.drop_replicate]; simp [List.replicate_succ]
  subst hz0
  (repeat (first | (simp -dsimp only [go_sem, sX_seq, Nat.reduceBEq, Int.reduceEq, Int.reduceNe, Int.reduceLT, Int.reduceLE, Nat.reduceAdd, Nat.reduceMul, Nat.reduceLeDiff, e3, e0]) | (refine thawX_none ?_; simp -dsimp only [go_sem, sX_seq, Nat.reduceBEq, Int.reduceEq, Int.reduceNe, Int.reduceLT, Int.reduceLE, Nat.reduceAdd, Nat.reduceMul, Nat.reduceLeDiff, e3, e0]; first | refine auto ?_ | refine NewX_intro (fun _ => ?_)) | (refine auto ?_) | (refine NewX_intro (fun _ => ?_)) | (refine autoI ⟨(by first | omega | (simp only [go_sem]; omega)), (by first | omega | (simp only [go_sem]; omega))⟩ ?_) | (simp -dsimp (disch := omega) only [wrap_i64, wrap_u64, wrap_i32, wrap_u8])))
  refine SlcX_hi ⟨by omega, by omega⟩ ?_
  (repeat (first | (simp -dsimp only [go_sem, sX_seq, Nat.reduceBEq, Int.reduceEq, Int.reduceNe, Int.reduceLT, Int.reduceLE, Nat.reduceAdd, Nat.reduceMul, Nat.reduceLeDiff, e3, e0]) | (refine thawX_none ?_; simp -dsimp only [go_sem, sX_seq, Nat.reduceBEq, Int.reduceEq, Int.reduceNe, Int.reduceLT, Int.reduceLE, Nat.reduceAdd, Nat.reduceMul, Nat.reduceLeDiff, e3, e0]; first | refine auto ?_ | refine NewX_intro (fun _ => ?_)) | (refine auto ?_) | (refine NewX_intro (fun _ => ?_)) | (refine autoI ⟨(by first | omega | (simp only [go_sem]; omega)), (by first | omega | (simp only [go_sem]; omega))⟩ ?_) | (simp -dsimp (disch := omega) only [wrap_i64, wrap_u64, wrap_i32, wrap_u8])))
  refine loopX_at [1, 3, 5, 6] [7] (fun m vs L' => ∃ j : Nat, j ≤ 3 ∧ vs = [.int .i64 (xs.length + j)] ∧ m = 3 - j ∧ L' = ⟨.pointer (some ⟨b, 0, none⟩), arrC eArc (xs ++ List.replicate j z ++ List.replicate (3 - j) ⟨0, 0, 0⟩)⟩ :: ⟨p, cellsC [.int .i64 z.f, .int .i64 z.t, .int .i64 z.w]⟩ :: L) _ (by rfl) ⟨_, Ent.auto, 0, by omega, by simp [go_sem], rfl, rfl⟩ ?_
  rintro m vs L' f ⟨j, hj, rfl, rfl, rfl⟩
  (repeat (first | (simp -dsimp only [go_sem, sX_seq, Nat.reduceBEq, Int.reduceEq, Int.reduceNe, Int.reduceLT, Int.reduceLE, Nat.reduceAdd, Nat.reduceMul, Nat.reduceLeDiff, e3, e0]) | (refine thawX_none ?_; simp -dsimp only [go_sem, sX_seq, Nat.reduceBEq, Int.reduceEq, Int.reduceNe, Int.reduceLT, Int.reduceLE, Nat.reduceAdd, Nat.reduceMul, Nat.reduceLeDiff, e3, e0]; first | refine auto ?_ | refine NewX_intro (fun _ => ?_)) | (refine auto ?_) | (refine NewX_intro (fun _ => ?_)) | (refine autoI ⟨(by first | omega | (simp only [go_sem]; omega)), (by first | omega | (simp only [go_sem]; omega))⟩ ?_) | (simp -dsimp (disch := omega) only [wrap_i64, wrap_u64, wrap_i32, wrap_u8])))
  first | refine condX_dec (fun h1 h1' => ?_) (fun h1 h1' => ?_) | refine condX_not (fun h1 h1' => ?_) (fun h1 h1' => ?_) | refine condX_mk (fun h1' => ?_) (fun h1' => ?_)
  · (repeat (first | (simp -dsimp only [go_sem, sX_seq, Nat.reduceBEq, Int.reduceEq, Int.reduceNe, Int.reduceLT, Int.reduceLE, Nat.reduceAdd, Nat.reduceMul, Nat.reduceLeDiff, e3, e0, h1']) | (refine thawX_none ?_; simp -dsimp only [go_sem, sX_seq, Nat.reduceBEq, Int.reduceEq, Int.reduceNe, Int.reduceLT, Int.reduceLE, Nat.reduceAdd, Nat.reduceMul, Nat.reduceLeDiff, e3, e0, h1']; first | refine auto ?_ | refine NewX_intro (fun _ => ?_)) | (refine auto ?_) | (refine NewX_intro (fun _ => ?_)) | (refine autoI ⟨(by first | omega | (simp only [go_sem]; omega)), (by first | omega | (simp only [go_sem]; omega))⟩ ?_) | (simp -dsimp (disch := omega) only [wrap_i64, wrap_u64, wrap_i32, wrap_u8])))
    refine StX_arr (z := z) (by rfl) ⟨by omega, by simp; omega⟩ (by rfl) (by rfl) (by rfl) ?_
    (repeat (first | (simp -dsimp only [go_sem, sX_seq, Nat.reduceBEq, Int.reduceEq, Int.reduceNe, Int.reduceLT, Int.reduceLE, Nat.reduceAdd, Nat.reduceMul, Nat.reduceLeDiff, e3, e0, h1']) | (refine thawX_none ?_; simp -dsimp only [go_sem, sX_seq, Nat.reduceBEq, Int.reduceEq, Int.reduceNe, Int.reduceLT, Int.reduceLE, Nat.reduceAdd, Nat.reduceMul, Nat.reduceLeDiff, e3, e0, h1']; first | refine auto ?_ | refine NewX_intro (fun _ => ?_)) | (refine auto ?_) | (refine NewX_intro (fun _ => ?_)) | (refine autoI ⟨(by first | omega | (simp only [go_sem]; omega)), (by first | omega | (simp only [go_sem]; omega))⟩ ?_) | (simp -dsimp (disch := omega) only [wrap_i64, wrap_u64, wrap_i32, wrap_u8])))
    refine ⟨_, ?_, _, Ent.refl _, j + 1, ?_, ?_, rfl, ?_⟩
    · omega
    · omega
    · simp [Int.add_assoc]
    · have hj3 : j < 3 := by omega
      have : ((xs.length : Int) + j).toNat = xs.length + j := by omega
      rw [this]
      congr 3
      match j, hj3 with
      | 0, _ => simp [List.replicate_succ]
      | 1, _ => simp [List.replicate_succ]
      | 2, _ => simp [List.replicate_succ]
  · (repeat (first | (simp -dsimp only [go_sem, sX_seq, Nat.reduceBEq, Int.reduceEq, Int.reduceNe, Int.reduceLT, Int.reduceLE, Nat.reduceAdd, Nat.reduceMul, Nat.reduceLeDiff, e3, e0, h1']) | (refine thawX_none ?_; simp -dsimp only [go_sem, sX_seq, Nat.reduceBEq, Int.reduceEq, Int.reduceNe, Int.reduceLT, Int.reduceLE, Nat.reduceAdd, Nat.reduceMul, Nat.reduceLeDiff, e3, e0, h1']; first | refine auto ?_ | refine NewX_intro (fun _ => ?_)) | (refine auto ?_) | (refine NewX_intro (fun _ => ?_)) | (refine autoI ⟨(by first | omega | (simp only [go_sem]; omega)), (by first | omega | (simp only [go_sem]; omega))⟩ ?_) | (simp -dsimp (disch := omega) only [wrap_i64, wrap_u64, wrap_i32, wrap_u8])))
    have : j = 3 := by omega
    subst this
    rw [show xs ++ List.replicate 3 z ++ List.replicate (3 - 3) (⟨0, 0, 0⟩ : Arc3) = xs ++ [z, z, z] from by simp [List.replicate_succ]]
    exact ⟨_, Ent.auto, hk b⟩

theorem keptArc_spec {L R : List Chunk} {a : Value} {xs : List Arc3} {z : Arc3} {b n c : Nat} {K : KVL} [H : OwnA L b eArc (xs ++ [z, z, z]) R] [RdS L a eArc xs] (hl : xs.length ≤ 2000000000) (hn : n = xs.length) (hc : c = xs.length + 3)
    (hk : K (.bool true) L) : CallW Try.prog 14 [.slice (some ⟨b, 0, none⟩) n c, a, .agg #[.int .i64 z.f, .int .i64 z.t, .int .i64 z.w]] L K := by
  subst hn hc
  haveI h1 : RdS L (.slice (some ⟨b, 0, none⟩) xs.length (xs.length + 3)) eArc xs := H.rd (by simp) (by simp)
  haveI h2 : RdS L (.slice (some ⟨b, 0, none⟩) (xs.length + 3) (xs.length + 3)) eArc (xs ++ [z, z, z]) := H.rd (by simp) (by rw [List.take_of_length_le]; simp)
  refine CallW.ret ?_
  refine callX_of (by kernel_rfl) Try.func14 e14 (by exact Nat.le_of_ble_eq_true rfl) ?_
  (repeat (first | (simp -dsimp only [go_sem, sX_seq, Nat.reduceBEq, Int.reduceEq, Int.reduceNe, Int.reduceLT, Int.reduceLE, Nat.reduceAdd, Nat.reduceMul, Nat.reduceLeDiff]) | (refine thawX_none ?_; simp -dsimp only [go_sem, sX_seq, Nat.reduceBEq, Int.reduceEq, Int.reduceNe, Int.reduceLT, Int.reduceLE, Nat.reduceAdd, Nat.reduceMul, Nat.reduceLeDiff]; first | refine auto ?_ | refine NewX_intro (fun _ => ?_)) | (refine auto ?_) | (refine NewX_intro (fun _ => ?_)) | (refine autoI ⟨(by first | omega | (simp only [go_sem]; omega)), (by first | omega | (simp only [go_sem]; omega))⟩ ?_) | (simp -dsimp (disch := omega) only [wrap_i64, wrap_u64, wrap_i32, wrap_u8])))
  rename_i p
  refine CallX.of (plainArc_spec (xs := xs) (ys := xs) (by omega) ?_)
  rw [decide_eq_true rfl]
  (repeat (first | (simp -dsimp only [go_sem, sX_seq, Nat.reduceBEq, Int.reduceEq, Int.reduceNe, Int.reduceLT, Int.reduceLE, Nat.reduceAdd, Nat.reduceMul, Nat.reduceLeDiff]) | (refine thawX_none ?_; simp -dsimp only [go_sem, sX_seq, Nat.reduceBEq, Int.reduceEq, Int.reduceNe, Int.reduceLT, Int.reduceLE, Nat.reduceAdd, Nat.reduceMul, Nat.reduceLeDiff]; first | refine auto ?_ | refine NewX_intro (fun _ => ?_)) | (refine auto ?_) | (refine NewX_intro (fun _ => ?_)) | (refine autoI ⟨(by first | omega | (simp only [go_sem]; omega)), (by first | omega | (simp only [go_sem]; omega))⟩ ?_) | (simp -dsimp (disch := omega) only [wrap_i64, wrap_u64, wrap_i32, wrap_u8])))
  have e3 : ((xs.length : Int) + 3).toNat = xs.length + 3 := by omega
  first | refine condX_dec (fun h h' => absurd h (by omega)) (fun h h' => ?_) | refine condX_not (fun h h' => absurd h (by omega)) (fun h h' => ?_)
  (repeat (first | (simp -dsimp only [go_sem, sX_seq, Nat.reduceBEq, Int.reduceEq, Int.reduceNe, Int.reduceLT, Int.reduceLE, Nat.reduceAdd, Nat.reduceMul, Nat.reduceLeDiff, e3, h']) | (refine thawX_none ?_; simp -dsimp only [go_sem, sX_seq, Nat.reduceBEq, Int.reduceEq, Int.reduceNe, Int.reduceLT, Int.reduceLE, Nat.reduceAdd, Nat.reduceMul, Nat.reduceLeDiff, e3, h']; first | refine auto ?_ | refine NewX_intro (fun _ => ?_)) | (refine auto ?_) | (refine NewX_intro (fun _ => ?_)) | (refine autoI ⟨(by first | omega | (simp only [go_sem]; omega)), (by first | omega | (simp only [go_sem]; omega))⟩ ?_) | (simp -dsimp (disch := omega) only [wrap_i64, wrap_u64, wrap_i32, wrap_u8])))
  refine SlcX_hi ⟨by omega, by omega⟩ ?_
  (repeat (first | (simp -dsimp only [go_sem, sX_seq, Nat.reduceBEq, Int.reduceEq, Int.reduceNe, Int.reduceLT, Int.reduceLE, Nat.reduceAdd, Nat.reduceMul, Nat.reduceLeDiff, e3, h']) | (refine thawX_none ?_; simp -dsimp only [go_sem, sX_seq, Nat.reduceBEq, Int.reduceEq, Int.reduceNe, Int.reduceLT, Int.reduceLE, Nat.reduceAdd, Nat.reduceMul, Nat.reduceLeDiff, e3, h']; first | refine auto ?_ | refine NewX_intro (fun _ => ?_)) | (refine auto ?_) | (refine NewX_intro (fun _ => ?_)) | (refine autoI ⟨(by first | omega | (simp only [go_sem]; omega)), (by first | omega | (simp only [go_sem]; omega))⟩ ?_) | (simp -dsimp (disch := omega) only [wrap_i64, wrap_u64, wrap_i32, wrap_u8])))
  refine loopX_at [5, 7] [8] (fun m vs L' => ∃ j : Nat, j ≤ 3 ∧ vs = [.int .i64 (xs.length + j)] ∧ m = 3 - j ∧ L' = ⟨p, cellsC [.int .i64 z.f, .int .i64 z.t, .int .i64 z.w]⟩ :: L) _ (by rfl) ⟨_, Ent.auto, 0, by omega, by simp [go_sem], rfl, rfl⟩ ?_
  rintro m vs L' f ⟨j, hj, rfl, rfl, rfl⟩
  (repeat (first | (simp -dsimp only [go_sem, sX_seq, Nat.reduceBEq, Int.reduceEq, Int.reduceNe, Int.reduceLT, Int.reduceLE, Nat.reduceAdd, Nat.reduceMul, Nat.reduceLeDiff, e3, h']) | (refine thawX_none ?_; simp -dsimp only [go_sem, sX_seq, Nat.reduceBEq, Int.reduceEq, Int.reduceNe, Int.reduceLT, Int.reduceLE, Nat.reduceAdd, Nat.reduceMul, Nat.reduceLeDiff, e3, h']; first | refine auto ?_ | refine NewX_intro (fun _ => ?_)) | (refine auto ?_) | (refine NewX_intro (fun _ => ?_)) | (refine autoI ⟨(by first | omega | (simp only [go_sem]; omega)), (by first | omega | (simp only [go_sem]; omega))⟩ ?_) | (simp -dsimp (disch := omega) only [wrap_i64, wrap_u64, wrap_i32, wrap_u8])))
  first | refine condX_dec (fun h1 h1' => ?_) (fun h1 h1' => ?_) | refine condX_not (fun h1 h1' => ?_) (fun h1 h1' => ?_) | refine condX_mk (fun h1' => ?_) (fun h1' => ?_)
  · (repeat (first | (simp -dsimp only [go_sem, sX_seq, Nat.reduceBEq, Int.reduceEq, Int.reduceNe, Int.reduceLT, Int.reduceLE, Nat.reduceAdd, Nat.reduceMul, Nat.reduceLeDiff, e3, h', h1']) | (refine thawX_none ?_; simp -dsimp only [go_sem, sX_seq, Nat.reduceBEq, Int.reduceEq, Int.reduceNe, Int.reduceLT, Int.reduceLE, Nat.reduceAdd, Nat.reduceMul, Nat.reduceLeDiff, e3, h', h1']; first | refine auto ?_ | refine NewX_intro (fun _ => ?_)) | (refine auto ?_) | (refine NewX_intro (fun _ => ?_)) | (refine autoI ⟨(by first | omega | (simp only [go_sem]; omega)), (by first | omega | (simp only [go_sem]; omega))⟩ ?_) | (simp -dsimp (disch := omega) only [wrap_i64, wrap_u64, wrap_i32, wrap_u8])))
    refine LdX_elem (by rfl) ⟨by omega, by simp; omega⟩ (fun x hx => ?_)
    have hj3 : j < 3 := by omega
    have hxz : x = z := by
      have : ((xs.length : Int) + j).toNat = xs.length + j := by omega
      rw [this, List.getElem?_append_right (by omega), Nat.add_sub_cancel_left] at hx
      match j, hj3 with
      | 0, _ => simpa using hx.symm
      | 1, _ => simpa using hx.symm
      | 2, _ => simpa using hx.symm
    subst hxz
    (repeat (first | (simp -dsimp only [go_sem, sX_seq, Nat.reduceBEq, Int.reduceEq, Int.reduceNe, Int.reduceLT, Int.reduceLE, Nat.reduceAdd, Nat.reduceMul, Nat.reduceLeDiff, e3, h', h1']) | (refine thawX_none ?_; simp -dsimp only [go_sem, sX_seq, Nat.reduceBEq, Int.reduceEq, Int.reduceNe, Int.reduceLT, Int.reduceLE, Nat.reduceAdd, Nat.reduceMul, Nat.reduceLeDiff, e3, h', h1']; first | refine auto ?_ | refine NewX_intro (fun _ => ?_)) | (refine auto ?_) | (refine NewX_intro (fun _ => ?_)) | (refine autoI ⟨(by first | omega | (simp only [go_sem]; omega)), (by first | omega | (simp only [go_sem]; omega))⟩ ?_) | (simp -dsimp (disch := omega) only [wrap_i64, wrap_u64, wrap_i32, wrap_u8])))
    refine ⟨_, ?_, _, Ent.auto, j + 1, ?_, ?_, rfl, rfl⟩
    · omega
    · omega
    · simp [Int.add_assoc]
  · (repeat (first | (simp -dsimp only [go_sem, sX_seq, Nat.reduceBEq, Int.reduceEq, Int.reduceNe, Int.reduceLT, Int.reduceLE, Nat.reduceAdd, Nat.reduceMul, Nat.reduceLeDiff, e3, h', h1']) | (refine thawX_none ?_; simp -dsimp only [go_sem, sX_seq, Nat.reduceBEq, Int.reduceEq, Int.reduceNe, Int.reduceLT, Int.reduceLE, Nat.reduceAdd, Nat.reduceMul, Nat.reduceLeDiff, e3, h', h1']; first | refine auto ?_ | refine NewX_intro (fun _ => ?_)) | (refine auto ?_) | (refine NewX_intro (fun _ => ?_)) | (refine autoI ⟨(by first | omega | (simp only [go_sem]; omega)), (by first | omega | (simp only [go_sem]; omega))⟩ ?_) | (simp -dsimp (disch := omega) only [wrap_i64, wrap_u64, wrap_i32, wrap_u8])))
    exact ⟨_, Ent.auto, hk⟩

theorem cloneArc_spec {L : List Chunk} {a : Value} {xs : List Arc3} {K : KVL} [RdS L a eArc xs] (hl : xs.length ≤ 2000000000) (hk : ∀ v', OneV v' → K v' (⟨v', sliceC eArc xs⟩ :: L)) :
    CallW Try.prog 41 [a] L K := by
  refine CallW.ret ?_
  refine callX_of (by kernel_rfl) Try.func41 e41 (by exact Nat.le_of_ble_eq_true rfl) ?_
  (repeat (first | (simp -dsimp only [go_sem, sX_seq, Nat.reduceBEq, Int.reduceEq, Int.reduceNe, Int.reduceLT, Int.reduceLE, Nat.reduceAdd, Nat.reduceMul, Nat.reduceLeDiff]) | (refine thawX_none ?_; simp -dsimp only [go_sem, sX_seq, Nat.reduceBEq, Int.reduceEq, Int.reduceNe, Int.reduceLT, Int.reduceLE, Nat.reduceAdd, Nat.reduceMul, Nat.reduceLeDiff]; first | refine auto ?_ | refine NewX_intro (fun _ => ?_)) | (refine auto ?_) | (refine NewX_intro (fun _ => ?_)) | (refine autoI ⟨(by first | omega | (simp only [go_sem]; omega)), (by first | omega | (simp only [go_sem]; omega))⟩ ?_) | (simp -dsimp (disch := omega) only [wrap_i64, wrap_u64, wrap_i32, wrap_u8])))
  refine NilX_slice (E := eArc) (xs := xs) (fun h => ?_) ?_
  · subst h
    (repeat (first | (simp -dsimp only [go_sem, sX_seq, Nat.reduceBEq, Int.reduceEq, Int.reduceNe, Int.reduceLT, Int.reduceLE, Nat.reduceAdd, Nat.reduceMul, Nat.reduceLeDiff]) | (refine thawX_none ?_; simp -dsimp only [go_sem, sX_seq, Nat.reduceBEq, Int.reduceEq, Int.reduceNe, Int.reduceLT, Int.reduceLE, Nat.reduceAdd, Nat.reduceMul, Nat.reduceLeDiff]; first | refine auto ?_ | refine NewX_intro (fun _ => ?_)) | (refine auto ?_) | (refine NewX_intro (fun _ => ?_)) | (refine autoI ⟨(by first | omega | (simp only [go_sem]; omega)), (by first | omega | (simp only [go_sem]; omega))⟩ ?_) | (simp -dsimp (disch := omega) only [wrap_i64, wrap_u64, wrap_i32, wrap_u8])))
    exact ⟨_, Ent.nilS, hk _ OneV.slice⟩
  · (repeat (first | (simp -dsimp only [go_sem, sX_seq, Nat.reduceBEq, Int.reduceEq, Int.reduceNe, Int.reduceLT, Int.reduceLE, Nat.reduceAdd, Nat.reduceMul, Nat.reduceLeDiff]) | (refine thawX_none ?_; simp -dsimp only [go_sem, sX_seq, Nat.reduceBEq, Int.reduceEq, Int.reduceNe, Int.reduceLT, Int.reduceLE, Nat.reduceAdd, Nat.reduceMul, Nat.reduceLeDiff]; first | refine auto ?_ | refine NewX_intro (fun _ => ?_)) | (refine auto ?_) | (refine NewX_intro (fun _ => ?_)) | (refine autoI ⟨(by first | omega | (simp only [go_sem]; omega)), (by first | omega | (simp only [go_sem]; omega))⟩ ?_) | (simp -dsimp (disch := omega) only [wrap_i64, wrap_u64, wrap_i32, wrap_u8])))
    refine BldSX_intro (E := eArc) (xs := []) (by rfl) (by rfl) (fun e _ => ?_)
    (repeat (first | (simp -dsimp only [go_sem, sX_seq, Nat.reduceBEq, Int.reduceEq, Int.reduceNe, Int.reduceLT, Int.reduceLE, Nat.reduceAdd, Nat.reduceMul, Nat.reduceLeDiff]) | (refine thawX_none ?_; simp -dsimp only [go_sem, sX_seq, Nat.reduceBEq, Int.reduceEq, Int.reduceNe, Int.reduceLT, Int.reduceLE, Nat.reduceAdd, Nat.reduceMul, Nat.reduceLeDiff]; first | refine auto ?_ | refine NewX_intro (fun _ => ?_)) | (refine auto ?_) | (refine NewX_intro (fun _ => ?_)) | (refine autoI ⟨(by first | omega | (simp only [go_sem]; omega)), (by first | omega | (simp only [go_sem]; omega))⟩ ?_) | (simp -dsimp (disch := omega) only [wrap_i64, wrap_u64, wrap_i32, wrap_u8])))
    refine AppX_slice (E := eArc) (xs := []) (ys := xs) (by rfl) (by rfl) (by simp; omega) (by simp; omega) (fun v' o => ?_)
    (repeat (first | (simp -dsimp only [go_sem, sX_seq, Nat.reduceBEq, Int.reduceEq, Int.reduceNe, Int.reduceLT, Int.reduceLE, Nat.reduceAdd, Nat.reduceMul, Nat.reduceLeDiff]) | (refine thawX_none ?_; simp -dsimp only [go_sem, sX_seq, Nat.reduceBEq, Int.reduceEq, Int.reduceNe, Int.reduceLT, Int.reduceLE, Nat.reduceAdd, Nat.reduceMul, Nat.reduceLeDiff]; first | refine auto ?_ | refine NewX_intro (fun _ => ?_)) | (refine auto ?_) | (refine NewX_intro (fun _ => ?_)) | (refine autoI ⟨(by first | omega | (simp only [go_sem]; omega)), (by first | omega | (simp only [go_sem]; omega))⟩ ?_) | (simp -dsimp (disch := omega) only [wrap_i64, wrap_u64, wrap_i32, wrap_u8])))
    exact ⟨_, Ent.auto, hk v' o⟩

theorem bytes_spec {L : List Chunk} {a b : Value} {xs ys : List Int} {K : KVL} [RdS L a eU8 xs] [RdS L b eU8 ys] (hx : ∀ n ∈ xs, 0 ≤ n ∧ n ≤ 255) (hy : ∀ n ∈ ys, 0 ≤ n ∧ n ≤ 255) (hk : K (.bool (decide (xs = ys))) L) :
    CallW Try.prog 13 [a, b] L K := by
  refine callX_of (by kernel_rfl) Try.func13 e13 (by exact Nat.le_of_ble_eq_true rfl) ?_
  (repeat (first | (simp -dsimp only [go_sem, sX_seq, Nat.reduceBEq, Int.reduceEq, Int.reduceNe, Int.reduceLT, Int.reduceLE, Nat.reduceAdd, Nat.reduceMul, Nat.reduceLeDiff]) | (refine thawX_none ?_; simp -dsimp only [go_sem, sX_seq, Nat.reduceBEq, Int.reduceEq, Int.reduceNe, Int.reduceLT, Int.reduceLE, Nat.reduceAdd, Nat.reduceMul, Nat.reduceLeDiff]; first | refine auto ?_ | refine NewX_intro (fun _ => ?_)) | (refine auto ?_) | (refine NewX_intro (fun _ => ?_)) | (refine autoI ⟨(by first | omega | (simp only [go_sem]; omega)), (by first | omega | (simp only [go_sem]; omega))⟩ ?_) | (simp -dsimp (disch := omega) only [wrap_i64, wrap_u64, wrap_i32, wrap_u8])))
  refine StrX_slice (xs := xs) ?_
  (repeat (first | (simp -dsimp only [go_sem, sX_seq, Nat.reduceBEq, Int.reduceEq, Int.reduceNe, Int.reduceLT, Int.reduceLE, Nat.reduceAdd, Nat.reduceMul, Nat.reduceLeDiff]) | (refine thawX_none ?_; simp -dsimp only [go_sem, sX_seq, Nat.reduceBEq, Int.reduceEq, Int.reduceNe, Int.reduceLT, Int.reduceLE, Nat.reduceAdd, Nat.reduceMul, Nat.reduceLeDiff]; first | refine auto ?_ | refine NewX_intro (fun _ => ?_)) | (refine auto ?_) | (refine NewX_intro (fun _ => ?_)) | (refine autoI ⟨(by first | omega | (simp only [go_sem]; omega)), (by first | omega | (simp only [go_sem]; omega))⟩ ?_) | (simp -dsimp (disch := omega) only [wrap_i64, wrap_u64, wrap_i32, wrap_u8])))
  refine StrX_slice (xs := ys) ?_
  (repeat (first | (simp -dsimp only [go_sem, sX_seq, Nat.reduceBEq, Int.reduceEq, Int.reduceNe, Int.reduceLT, Int.reduceLE, Nat.reduceAdd, Nat.reduceMul, Nat.reduceLeDiff]) | (refine thawX_none ?_; simp -dsimp only [go_sem, sX_seq, Nat.reduceBEq, Int.reduceEq, Int.reduceNe, Int.reduceLT, Int.reduceLE, Nat.reduceAdd, Nat.reduceMul, Nat.reduceLeDiff]; first | refine auto ?_ | refine NewX_intro (fun _ => ?_)) | (refine auto ?_) | (refine NewX_intro (fun _ => ?_)) | (refine autoI ⟨(by first | omega | (simp only [go_sem]; omega)), (by first | omega | (simp only [go_sem]; omega))⟩ ?_) | (simp -dsimp (disch := omega) only [wrap_i64, wrap_u64, wrap_i32, wrap_u8])))
  rw [bytesOf_eq hx hy]
  exact hk

/-! ### in which order arcs come -/

def cmpI (a b : Int) : Int := if a < b then -1 else if b < a then 1 else 0

theorem isNaN_spec {L : List Chunk} {K : KVL} {a : Int} (hk : K (.bool false) L) : CallW Try.prog 67 [.int .i64 a] L K := by
  refine callX_of (by kernel_rfl) Try.func67 e67 (by exact Nat.le_of_ble_eq_true rfl) ?_
  (repeat (first | (simp -dsimp only [go_sem, sX_seq, Nat.reduceBEq, Int.reduceEq, Int.reduceNe, Int.reduceLT, Int.reduceLE, Nat.reduceAdd, Nat.reduceMul, Nat.reduceLeDiff]) | (refine thawX_none ?_; simp -dsimp only [go_sem, sX_seq, Nat.reduceBEq, Int.reduceEq, Int.reduceNe, Int.reduceLT, Int.reduceLE, Nat.reduceAdd, Nat.reduceMul, Nat.reduceLeDiff]; first | refine auto ?_ | refine NewX_intro (fun _ => ?_)) | (refine auto ?_) | (refine NewX_intro (fun _ => ?_)) | (refine autoI ⟨(by first | omega | (simp only [go_sem]; omega)), (by first | omega | (simp only [go_sem]; omega))⟩ ?_) | (simp -dsimp (disch := omega) only [wrap_i64, wrap_u64, wrap_i32, wrap_u8])))
  exact hk

theorem compare_spec {L : List Chunk} {K : KVL} {a b : Int} (hk : K (.int .i64 (cmpI a b)) L) : CallW Try.prog 55 [.int .i64 a, .int .i64 b] L K := by
  unfold cmpI at hk
  refine callX_of (by kernel_rfl) Try.func55 e55 (by exact Nat.le_of_ble_eq_true rfl) ?_
  (repeat (first | (simp -dsimp only [go_sem, sX_seq, Nat.reduceBEq, Int.reduceEq, Int.reduceNe, Int.reduceLT, Int.reduceLE, Nat.reduceAdd, Nat.reduceMul, Nat.reduceLeDiff]) | (refine thawX_none ?_; simp -dsimp only [go_sem, sX_seq, Nat.reduceBEq, Int.reduceEq, Int.reduceNe, Int.reduceLT, Int.reduceLE, Nat.reduceAdd, Nat.reduceMul, Nat.reduceLeDiff]; first | refine auto ?_ | refine NewX_intro (fun _ => ?_)) | (refine auto ?_) | (refine NewX_intro (fun _ => ?_)) | (refine autoI ⟨(by first | omega | (simp only [go_sem]; omega)), (by first | omega | (simp only [go_sem]; omega))⟩ ?_) | (simp -dsimp (disch := omega) only [wrap_i64, wrap_u64, wrap_i32, wrap_u8])))
  refine CallX.of (isNaN_spec ?_)
  (repeat (first | (simp -dsimp only [go_sem, sX_seq, Nat.reduceBEq, Int.reduceEq, Int.reduceNe, Int.reduceLT, Int.reduceLE, Nat.reduceAdd, Nat.reduceMul, Nat.reduceLeDiff]) | (refine thawX_none ?_; simp -dsimp only [go_sem, sX_seq, Nat.reduceBEq, Int.reduceEq, Int.reduceNe, Int.reduceLT, Int.reduceLE, Nat.reduceAdd, Nat.reduceMul, Nat.reduceLeDiff]; first | refine auto ?_ | refine NewX_intro (fun _ => ?_)) | (refine auto ?_) | (refine NewX_intro (fun _ => ?_)) | (refine autoI ⟨(by first | omega | (simp only [go_sem]; omega)), (by first | omega | (simp only [go_sem]; omega))⟩ ?_) | (simp -dsimp (disch := omega) only [wrap_i64, wrap_u64, wrap_i32, wrap_u8])))
  refine CallX.of (isNaN_spec ?_)
  (repeat (first | (simp -dsimp only [go_sem, sX_seq, Nat.reduceBEq, Int.reduceEq, Int.reduceNe, Int.reduceLT, Int.reduceLE, Nat.reduceAdd, Nat.reduceMul, Nat.reduceLeDiff]) | (refine thawX_none ?_; simp -dsimp only [go_sem, sX_seq, Nat.reduceBEq, Int.reduceEq, Int.reduceNe, Int.reduceLT, Int.reduceLE, Nat.reduceAdd, Nat.reduceMul, Nat.reduceLeDiff]; first | refine auto ?_ | refine NewX_intro (fun _ => ?_)) | (refine auto ?_) | (refine NewX_intro (fun _ => ?_)) | (refine autoI ⟨(by first | omega | (simp only [go_sem]; omega)), (by first | omega | (simp only [go_sem]; omega))⟩ ?_) | (simp -dsimp (disch := omega) only [wrap_i64, wrap_u64, wrap_i32, wrap_u8])))
  first | refine condX_dec (fun h1 h1' => ?_) (fun h1 h1' => ?_) | refine condX_not (fun h1 h1' => ?_) (fun h1 h1' => ?_) | refine condX_mk (fun h1' => ?_) (fun h1' => ?_)
  · (repeat (first | (simp -dsimp only [go_sem, sX_seq, Nat.reduceBEq, Int.reduceEq, Int.reduceNe, Int.reduceLT, Int.reduceLE, Nat.reduceAdd, Nat.reduceMul, Nat.reduceLeDiff, h1']) | (refine thawX_none ?_; simp -dsimp only [go_sem, sX_seq, Nat.reduceBEq, Int.reduceEq, Int.reduceNe, Int.reduceLT, Int.reduceLE, Nat.reduceAdd, Nat.reduceMul, Nat.reduceLeDiff, h1']; first | refine auto ?_ | refine NewX_intro (fun _ => ?_)) | (refine auto ?_) | (refine NewX_intro (fun _ => ?_)) | (refine autoI ⟨(by first | omega | (simp only [go_sem]; omega)), (by first | omega | (simp only [go_sem]; omega))⟩ ?_) | (simp -dsimp (disch := omega) only [wrap_i64, wrap_u64, wrap_i32, wrap_u8])))
    rw [if_pos h1] at hk; exact hk
  · (repeat (first | (simp -dsimp only [go_sem, sX_seq, Nat.reduceBEq, Int.reduceEq, Int.reduceNe, Int.reduceLT, Int.reduceLE, Nat.reduceAdd, Nat.reduceMul, Nat.reduceLeDiff, h1']) | (refine thawX_none ?_; simp -dsimp only [go_sem, sX_seq, Nat.reduceBEq, Int.reduceEq, Int.reduceNe, Int.reduceLT, Int.reduceLE, Nat.reduceAdd, Nat.reduceMul, Nat.reduceLeDiff, h1']; first | refine auto ?_ | refine NewX_intro (fun _ => ?_)) | (refine auto ?_) | (refine NewX_intro (fun _ => ?_)) | (refine autoI ⟨(by first | omega | (simp only [go_sem]; omega)), (by first | omega | (simp only [go_sem]; omega))⟩ ?_) | (simp -dsimp (disch := omega) only [wrap_i64, wrap_u64, wrap_i32, wrap_u8])))
    rw [if_neg h1] at hk
    first | refine condX_dec (fun h2 h2' => ?_) (fun h2 h2' => ?_) | refine condX_not (fun h2 h2' => ?_) (fun h2 h2' => ?_) | refine condX_mk (fun h2' => ?_) (fun h2' => ?_)
    · (repeat (first | (simp -dsimp only [go_sem, sX_seq, Nat.reduceBEq, Int.reduceEq, Int.reduceNe, Int.reduceLT, Int.reduceLE, Nat.reduceAdd, Nat.reduceMul, Nat.reduceLeDiff, h1', h2']) | (refine thawX_none ?_; simp -dsimp only [go_sem, sX_seq, Nat.reduceBEq, Int.reduceEq, Int.reduceNe, Int.reduceLT, Int.reduceLE, Nat.reduceAdd, Nat.reduceMul, Nat.reduceLeDiff, h1', h2']; first | refine auto ?_ | refine NewX_intro (fun _ => ?_)) | (refine auto ?_) | (refine NewX_intro (fun _ => ?_)) | (refine autoI ⟨(by first | omega | (simp only [go_sem]; omega)), (by first | omega | (simp only [go_sem]; omega))⟩ ?_) | (simp -dsimp (disch := omega) only [wrap_i64, wrap_u64, wrap_i32, wrap_u8])))
      rw [if_pos h2] at hk; exact hk
    · (repeat (first | (simp -dsimp only [go_sem, sX_seq, Nat.reduceBEq, Int.reduceEq, Int.reduceNe, Int.reduceLT, Int.reduceLE, Nat.reduceAdd, Nat.reduceMul, Nat.reduceLeDiff, h1', h2']) | (refine thawX_none ?_; simp -dsimp only [go_sem, sX_seq, Nat.reduceBEq, Int.reduceEq, Int.reduceNe, Int.reduceLT, Int.reduceLE, Nat.reduceAdd, Nat.reduceMul, Nat.reduceLeDiff, h1', h2']; first | refine auto ?_ | refine NewX_intro (fun _ => ?_)) | (refine auto ?_) | (refine NewX_intro (fun _ => ?_)) | (refine autoI ⟨(by first | omega | (simp only [go_sem]; omega)), (by first | omega | (simp only [go_sem]; omega))⟩ ?_) | (simp -dsimp (disch := omega) only [wrap_i64, wrap_u64, wrap_i32, wrap_u8])))
      rw [if_neg h2] at hk; exact hk

/-- The first one that is not 0. -/
def orI : List Int → Int
  | [] => 0
  | x :: xs => if x = 0 then orI xs else x
theorem orI_take {xs : List Int} {i : Nat} (h : ∀ x ∈ xs.take i, x = 0) : orI xs = orI (xs.drop i) := by
  induction i generalizing xs with
  | zero => simp
  | succ i ih =>
    cases xs with
    | nil => simp
    | cons x xs =>
      simp only [List.take_succ_cons, List.mem_cons, forall_eq_or_imp] at h
      simp only [orI, h.1, if_true, List.drop_succ_cons]
      exact ih h.2

theorem or_spec {L : List Chunk} {K : KVL} {a : Value} {xs : List Int} [RdS L a eInt xs] (hl : xs.length ≤ 9223372036854775807) (hk : K (.int .i64 (orI xs)) L) : CallW Try.prog 54 [a] L K := by
  refine callX_of (by kernel_rfl) Try.func54 e54 (by exact Nat.le_of_ble_eq_true rfl) ?_
  (repeat (first | (simp -dsimp only [go_sem, sX_seq, Nat.reduceBEq, Int.reduceEq, Int.reduceNe, Int.reduceLT, Int.reduceLE, Nat.reduceAdd, Nat.reduceMul, Nat.reduceLeDiff]) | (refine thawX_none ?_; simp -dsimp only [go_sem, sX_seq, Nat.reduceBEq, Int.reduceEq, Int.reduceNe, Int.reduceLT, Int.reduceLE, Nat.reduceAdd, Nat.reduceMul, Nat.reduceLeDiff]; first | refine auto ?_ | refine NewX_intro (fun _ => ?_)) | (refine auto ?_) | (refine NewX_intro (fun _ => ?_)) | (refine autoI ⟨(by first | omega | (simp only [go_sem]; omega)), (by first | omega | (simp only [go_sem]; omega))⟩ ?_) | (simp -dsimp (disch := omega) only [wrap_i64, wrap_u64, wrap_i32, wrap_u8])))
  refine loopX_go [3, 6, 7] [8] (fun m vs L' => ∃ i : Nat, vs = [.int .i64 i] ∧ m = xs.length - i ∧ i ≤ xs.length ∧ (∀ x ∈ xs.take i, x = 0) ∧ L' = L) _ (by rfl) ⟨0, rfl, rfl, by omega, by simp, rfl⟩ ?_
  rintro m vs L' f ⟨i, rfl, rfl, hi, hz, rfl⟩
  (repeat (first | (simp -dsimp only [go_sem, sX_seq, Nat.reduceBEq, Int.reduceEq, Int.reduceNe, Int.reduceLT, Int.reduceLE, Nat.reduceAdd, Nat.reduceMul, Nat.reduceLeDiff]) | (refine thawX_none ?_; simp -dsimp only [go_sem, sX_seq, Nat.reduceBEq, Int.reduceEq, Int.reduceNe, Int.reduceLT, Int.reduceLE, Nat.reduceAdd, Nat.reduceMul, Nat.reduceLeDiff]; first | refine auto ?_ | refine NewX_intro (fun _ => ?_)) | (refine auto ?_) | (refine NewX_intro (fun _ => ?_)) | (refine autoI ⟨(by first | omega | (simp only [go_sem]; omega)), (by first | omega | (simp only [go_sem]; omega))⟩ ?_) | (simp -dsimp (disch := omega) only [wrap_i64, wrap_u64, wrap_i32, wrap_u8])))
  first | refine condX_dec (fun c c' => ?_) (fun c c' => ?_) | refine condX_not (fun c c' => ?_) (fun c c' => ?_) | refine condX_mk (fun c' => ?_) (fun c' => ?_)
  · (repeat (first | (simp -dsimp only [go_sem, sX_seq, Nat.reduceBEq, Int.reduceEq, Int.reduceNe, Int.reduceLT, Int.reduceLE, Nat.reduceAdd, Nat.reduceMul, Nat.reduceLeDiff, c']) | (refine thawX_none ?_; simp -dsimp only [go_sem, sX_seq, Nat.reduceBEq, Int.reduceEq, Int.reduceNe, Int.reduceLT, Int.reduceLE, Nat.reduceAdd, Nat.reduceMul, Nat.reduceLeDiff, c']; first | refine auto ?_ | refine NewX_intro (fun _ => ?_)) | (refine auto ?_) | (refine NewX_intro (fun _ => ?_)) | (refine autoI ⟨(by first | omega | (simp only [go_sem]; omega)), (by first | omega | (simp only [go_sem]; omega))⟩ ?_) | (simp -dsimp (disch := omega) only [wrap_i64, wrap_u64, wrap_i32, wrap_u8])))
    first | refine LdX_elem (by rfl) ⟨(by first | omega | (simp only [go_sem]; omega)), (by first | omega | (simp only [go_sem]; omega))⟩ (fun x hx_ => ?_) | refine LdX_elemAt (by rfl) ⟨(by first | omega | (simp only [go_sem]; omega)), (by first | omega | (simp only [go_sem]; omega))⟩ (by decide) (fun x hx_ => ?_) | refine LdX_elem0 (by rfl) ⟨(by first | omega | (simp only [go_sem]; omega)), (by first | omega | (simp only [go_sem]; omega))⟩ (by decide) (fun x hx_ => ?_)
    rw [toNat_nat_] at hx_
    (repeat (first | (simp -dsimp only [go_sem, sX_seq, Nat.reduceBEq, Int.reduceEq, Int.reduceNe, Int.reduceLT, Int.reduceLE, Nat.reduceAdd, Nat.reduceMul, Nat.reduceLeDiff, c']) | (refine thawX_none ?_; simp -dsimp only [go_sem, sX_seq, Nat.reduceBEq, Int.reduceEq, Int.reduceNe, Int.reduceLT, Int.reduceLE, Nat.reduceAdd, Nat.reduceMul, Nat.reduceLeDiff, c']; first | refine auto ?_ | refine NewX_intro (fun _ => ?_)) | (refine auto ?_) | (refine NewX_intro (fun _ => ?_)) | (refine autoI ⟨(by first | omega | (simp only [go_sem]; omega)), (by first | omega | (simp only [go_sem]; omega))⟩ ?_) | (simp -dsimp (disch := omega) only [wrap_i64, wrap_u64, wrap_i32, wrap_u8])))
    have hd : xs.drop i = x :: xs.drop (i + 1) := by rw [List.drop_eq_getElem_cons (by omega)]; rw [List.getElem?_eq_getElem (by omega)] at hx_; cases hx_; rfl
    refine condX_not (fun h2 h2' => ?_) (fun h2 h2' => ?_)
    · (repeat (first | (simp -dsimp only [go_sem, sX_seq, Nat.reduceBEq, Int.reduceEq, Int.reduceNe, Int.reduceLT, Int.reduceLE, Nat.reduceAdd, Nat.reduceMul, Nat.reduceLeDiff, c', h2']) | (refine thawX_none ?_; simp -dsimp only [go_sem, sX_seq, Nat.reduceBEq, Int.reduceEq, Int.reduceNe, Int.reduceLT, Int.reduceLE, Nat.reduceAdd, Nat.reduceMul, Nat.reduceLeDiff, c', h2']; first | refine auto ?_ | refine NewX_intro (fun _ => ?_)) | (refine auto ?_) | (refine NewX_intro (fun _ => ?_)) | (refine autoI ⟨(by first | omega | (simp only [go_sem]; omega)), (by first | omega | (simp only [go_sem]; omega))⟩ ?_) | (simp -dsimp (disch := omega) only [wrap_i64, wrap_u64, wrap_i32, wrap_u8])))
      rw [orI_take hz, hd, orI, if_neg h2] at hk
      exact hk
    · (repeat (first | (simp -dsimp only [go_sem, sX_seq, Nat.reduceBEq, Int.reduceEq, Int.reduceNe, Int.reduceLT, Int.reduceLE, Nat.reduceAdd, Nat.reduceMul, Nat.reduceLeDiff, c', h2']) | (refine thawX_none ?_; simp -dsimp only [go_sem, sX_seq, Nat.reduceBEq, Int.reduceEq, Int.reduceNe, Int.reduceLT, Int.reduceLE, Nat.reduceAdd, Nat.reduceMul, Nat.reduceLeDiff, c', h2']; first | refine auto ?_ | refine NewX_intro (fun _ => ?_)) | (refine auto ?_) | (refine NewX_intro (fun _ => ?_)) | (refine autoI ⟨(by first | omega | (simp only [go_sem]; omega)), (by first | omega | (simp only [go_sem]; omega))⟩ ?_) | (simp -dsimp (disch := omega) only [wrap_i64, wrap_u64, wrap_i32, wrap_u8])))
      refine ⟨_, ?_, _, Ent.refl _, i + 1, by simp, rfl, by omega, fun y hy => ?_, rfl⟩
      · omega
      · rw [List.take_add_one, hx_] at hy
        rcases List.mem_append.1 hy with h | h
        · exact hz y h
        · simp at h; rw [h]; exact h2
  · (repeat (first | (simp -dsimp only [go_sem, sX_seq, Nat.reduceBEq, Int.reduceEq, Int.reduceNe, Int.reduceLT, Int.reduceLE, Nat.reduceAdd, Nat.reduceMul, Nat.reduceLeDiff, c']) | (refine thawX_none ?_; simp -dsimp only [go_sem, sX_seq, Nat.reduceBEq, Int.reduceEq, Int.reduceNe, Int.reduceLT, Int.reduceLE, Nat.reduceAdd, Nat.reduceMul, Nat.reduceLeDiff, c']; first | refine auto ?_ | refine NewX_intro (fun _ => ?_)) | (refine auto ?_) | (refine NewX_intro (fun _ => ?_)) | (refine autoI ⟨(by first | omega | (simp only [go_sem]; omega)), (by first | omega | (simp only [go_sem]; omega))⟩ ?_) | (simp -dsimp (disch := omega) only [wrap_i64, wrap_u64, wrap_i32, wrap_u8])))
    have : i = xs.length := by omega
    subst this
    rw [orI_take hz, List.drop_length] at hk
    exact hk

/-- By beginning, then end. -/
def cfA (a b : Arc3) : Int := orI [cmpI a.f b.f, cmpI a.t b.t]
def ctA (a b : Arc3) : Int := orI [cmpI a.t b.t, cmpI a.f b.f]

theorem byFrom_spec {L : List Chunk} {K : KVL} {x y : Arc3} (hk : K (.int .i64 (cfA x y)) L) : CallW Try.prog 45 [.agg #[.int .i64 x.f, .int .i64 x.t, .int .i64 x.w], .agg #[.int .i64 y.f, .int .i64 y.t, .int .i64 y.w]] L K := by
  refine CallW.ret ?_
  refine callX_of (by kernel_rfl) Try.func45 e45 (by exact Nat.le_of_ble_eq_true rfl) ?_
  (repeat (first | (simp -dsimp only [go_sem, sX_seq, Nat.reduceBEq, Int.reduceEq, Int.reduceNe, Int.reduceLT, Int.reduceLE, Nat.reduceAdd, Nat.reduceMul, Nat.reduceLeDiff]) | (refine thawX_none ?_; simp -dsimp only [go_sem, sX_seq, Nat.reduceBEq, Int.reduceEq, Int.reduceNe, Int.reduceLT, Int.reduceLE, Nat.reduceAdd, Nat.reduceMul, Nat.reduceLeDiff]; first | refine auto ?_ | refine NewX_intro (fun _ => ?_)) | (refine auto ?_) | (refine NewX_intro (fun _ => ?_)) | (refine autoI ⟨(by first | omega | (simp only [go_sem]; omega)), (by first | omega | (simp only [go_sem]; omega))⟩ ?_) | (simp -dsimp (disch := omega) only [wrap_i64, wrap_u64, wrap_i32, wrap_u8])))
  refine thawX_none ?_
  (repeat (first | (simp -dsimp only [go_sem, sX_seq, Nat.reduceBEq, Int.reduceEq, Int.reduceNe, Int.reduceLT, Int.reduceLE, Nat.reduceAdd, Nat.reduceMul, Nat.reduceLeDiff]) | (refine thawX_none ?_; simp -dsimp only [go_sem, sX_seq, Nat.reduceBEq, Int.reduceEq, Int.reduceNe, Int.reduceLT, Int.reduceLE, Nat.reduceAdd, Nat.reduceMul, Nat.reduceLeDiff]; first | refine auto ?_ | refine NewX_intro (fun _ => ?_)) | (refine auto ?_) | (refine NewX_intro (fun _ => ?_)) | (refine autoI ⟨(by first | omega | (simp only [go_sem]; omega)), (by first | omega | (simp only [go_sem]; omega))⟩ ?_) | (simp -dsimp (disch := omega) only [wrap_i64, wrap_u64, wrap_i32, wrap_u8])))
  refine CallX.of (compare_spec ?_)
  (repeat (first | (simp -dsimp only [go_sem, sX_seq, Nat.reduceBEq, Int.reduceEq, Int.reduceNe, Int.reduceLT, Int.reduceLE, Nat.reduceAdd, Nat.reduceMul, Nat.reduceLeDiff]) | (refine thawX_none ?_; simp -dsimp only [go_sem, sX_seq, Nat.reduceBEq, Int.reduceEq, Int.reduceNe, Int.reduceLT, Int.reduceLE, Nat.reduceAdd, Nat.reduceMul, Nat.reduceLeDiff]; first | refine auto ?_ | refine NewX_intro (fun _ => ?_)) | (refine auto ?_) | (refine NewX_intro (fun _ => ?_)) | (refine autoI ⟨(by first | omega | (simp only [go_sem]; omega)), (by first | omega | (simp only [go_sem]; omega))⟩ ?_) | (simp -dsimp (disch := omega) only [wrap_i64, wrap_u64, wrap_i32, wrap_u8])))
  refine CallX.of (compare_spec ?_)
  (repeat (first | (simp -dsimp only [go_sem, sX_seq, Nat.reduceBEq, Int.reduceEq, Int.reduceNe, Int.reduceLT, Int.reduceLE, Nat.reduceAdd, Nat.reduceMul, Nat.reduceLeDiff]) | (refine thawX_none ?_; simp -dsimp only [go_sem, sX_seq, Nat.reduceBEq, Int.reduceEq, Int.reduceNe, Int.reduceLT, Int.reduceLE, Nat.reduceAdd, Nat.reduceMul, Nat.reduceLeDiff]; first | refine auto ?_ | refine NewX_intro (fun _ => ?_)) | (refine auto ?_) | (refine NewX_intro (fun _ => ?_)) | (refine autoI ⟨(by first | omega | (simp only [go_sem]; omega)), (by first | omega | (simp only [go_sem]; omega))⟩ ?_) | (simp -dsimp (disch := omega) only [wrap_i64, wrap_u64, wrap_i32, wrap_u8])))
  refine BldSX_intro (E := eInt) (xs := [cmpI x.f y.f, cmpI x.t y.t]) (by rfl) (by rfl) (fun e _ => ?_)
  (repeat (first | (simp -dsimp only [go_sem, sX_seq, Nat.reduceBEq, Int.reduceEq, Int.reduceNe, Int.reduceLT, Int.reduceLE, Nat.reduceAdd, Nat.reduceMul, Nat.reduceLeDiff]) | (refine thawX_none ?_; simp -dsimp only [go_sem, sX_seq, Nat.reduceBEq, Int.reduceEq, Int.reduceNe, Int.reduceLT, Int.reduceLE, Nat.reduceAdd, Nat.reduceMul, Nat.reduceLeDiff]; first | refine auto ?_ | refine NewX_intro (fun _ => ?_)) | (refine auto ?_) | (refine NewX_intro (fun _ => ?_)) | (refine autoI ⟨(by first | omega | (simp only [go_sem]; omega)), (by first | omega | (simp only [go_sem]; omega))⟩ ?_) | (simp -dsimp (disch := omega) only [wrap_i64, wrap_u64, wrap_i32, wrap_u8])))
  refine CallX.of (or_spec (xs := [cmpI x.f y.f, cmpI x.t y.t]) (by simp) ?_)
  (repeat (first | (simp -dsimp only [go_sem, sX_seq, Nat.reduceBEq, Int.reduceEq, Int.reduceNe, Int.reduceLT, Int.reduceLE, Nat.reduceAdd, Nat.reduceMul, Nat.reduceLeDiff]) | (refine thawX_none ?_; simp -dsimp only [go_sem, sX_seq, Nat.reduceBEq, Int.reduceEq, Int.reduceNe, Int.reduceLT, Int.reduceLE, Nat.reduceAdd, Nat.reduceMul, Nat.reduceLeDiff]; first | refine auto ?_ | refine NewX_intro (fun _ => ?_)) | (refine auto ?_) | (refine NewX_intro (fun _ => ?_)) | (refine autoI ⟨(by first | omega | (simp only [go_sem]; omega)), (by first | omega | (simp only [go_sem]; omega))⟩ ?_) | (simp -dsimp (disch := omega) only [wrap_i64, wrap_u64, wrap_i32, wrap_u8])))
  exact ⟨L, Ent.auto, hk⟩

theorem byTo_spec {L : List Chunk} {K : KVL} {x y : Arc3} (hk : K (.int .i64 (ctA x y)) L) : CallW Try.prog 46 [.agg #[.int .i64 x.f, .int .i64 x.t, .int .i64 x.w], .agg #[.int .i64 y.f, .int .i64 y.t, .int .i64 y.w]] L K := by
  refine CallW.ret ?_
  refine callX_of (by kernel_rfl) Try.func46 e46 (by exact Nat.le_of_ble_eq_true rfl) ?_
  (repeat (first | (simp -dsimp only [go_sem, sX_seq, Nat.reduceBEq, Int.reduceEq, Int.reduceNe, Int.reduceLT, Int.reduceLE, Nat.reduceAdd, Nat.reduceMul, Nat.reduceLeDiff]) | (refine thawX_none ?_; simp -dsimp only [go_sem, sX_seq, Nat.reduceBEq, Int.reduceEq, Int.reduceNe, Int.reduceLT, Int.reduceLE, Nat.reduceAdd, Nat.reduceMul, Nat.reduceLeDiff]; first | refine auto ?_ | refine NewX_intro (fun _ => ?_)) | (refine auto ?_) | (refine NewX_intro (fun _ => ?_)) | (refine autoI ⟨(by first | omega | (simp only [go_sem]; omega)), (by first | omega | (simp only [go_sem]; omega))⟩ ?_) | (simp -dsimp (disch := omega) only [wrap_i64, wrap_u64, wrap_i32, wrap_u8])))
  refine thawX_none ?_
  (repeat (first | (simp -dsimp only [go_sem, sX_seq, Nat.reduceBEq, Int.reduceEq, Int.reduceNe, Int.reduceLT, Int.reduceLE, Nat.reduceAdd, Nat.reduceMul, Nat.reduceLeDiff]) | (refine thawX_none ?_; simp -dsimp only [go_sem, sX_seq, Nat.reduceBEq, Int.reduceEq, Int.reduceNe, Int.reduceLT, Int.reduceLE, Nat.reduceAdd, Nat.reduceMul, Nat.reduceLeDiff]; first | refine auto ?_ | refine NewX_intro (fun _ => ?_)) | (refine auto ?_) | (refine NewX_intro (fun _ => ?_)) | (refine autoI ⟨(by first | omega | (simp only [go_sem]; omega)), (by first | omega | (simp only [go_sem]; omega))⟩ ?_) | (simp -dsimp (disch := omega) only [wrap_i64, wrap_u64, wrap_i32, wrap_u8])))
  refine CallX.of (compare_spec ?_)
  (repeat (first | (simp -dsimp only [go_sem, sX_seq, Nat.reduceBEq, Int.reduceEq, Int.reduceNe, Int.reduceLT, Int.reduceLE, Nat.reduceAdd, Nat.reduceMul, Nat.reduceLeDiff]) | (refine thawX_none ?_; simp -dsimp only [go_sem, sX_seq, Nat.reduceBEq, Int.reduceEq, Int.reduceNe, Int.reduceLT, Int.reduceLE, Nat.reduceAdd, Nat.reduceMul, Nat.reduceLeDiff]; first | refine auto ?_ | refine NewX_intro (fun _ => ?_)) | (refine auto ?_) | (refine NewX_intro (fun _ => ?_)) | (refine autoI ⟨(by first | omega | (simp only [go_sem]; omega)), (by first | omega | (simp only [go_sem]; omega))⟩ ?_) | (simp -dsimp (disch := omega) only [wrap_i64, wrap_u64, wrap_i32, wrap_u8])))
  refine CallX.of (compare_spec ?_)
  (repeat (first | (simp -dsimp only [go_sem, sX_seq, Nat.reduceBEq, Int.reduceEq, Int.reduceNe, Int.reduceLT, Int.reduceLE, Nat.reduceAdd, Nat.reduceMul, Nat.reduceLeDiff]) | (refine thawX_none ?_; simp -dsimp only [go_sem, sX_seq, Nat.reduceBEq, Int.reduceEq, Int.reduceNe, Int.reduceLT, Int.reduceLE, Nat.reduceAdd, Nat.reduceMul, Nat.reduceLeDiff]; first | refine auto ?_ | refine NewX_intro (fun _ => ?_)) | (refine auto ?_) | (refine NewX_intro (fun _ => ?_)) | (refine autoI ⟨(by first | omega | (simp only [go_sem]; omega)), (by first | omega | (simp only [go_sem]; omega))⟩ ?_) | (simp -dsimp (disch := omega) only [wrap_i64, wrap_u64, wrap_i32, wrap_u8])))
  refine BldSX_intro (E := eInt) (xs := [cmpI x.t y.t, cmpI x.f y.f]) (by rfl) (by rfl) (fun e _ => ?_)
  (repeat (first | (simp -dsimp only [go_sem, sX_seq, Nat.reduceBEq, Int.reduceEq, Int.reduceNe, Int.reduceLT, Int.reduceLE, Nat.reduceAdd, Nat.reduceMul, Nat.reduceLeDiff]) | (refine thawX_none ?_; simp -dsimp only [go_sem, sX_seq, Nat.reduceBEq, Int.reduceEq, Int.reduceNe, Int.reduceLT, Int.reduceLE, Nat.reduceAdd, Nat.reduceMul, Nat.reduceLeDiff]; first | refine auto ?_ | refine NewX_intro (fun _ => ?_)) | (refine auto ?_) | (refine NewX_intro (fun _ => ?_)) | (refine autoI ⟨(by first | omega | (simp only [go_sem]; omega)), (by first | omega | (simp only [go_sem]; omega))⟩ ?_) | (simp -dsimp (disch := omega) only [wrap_i64, wrap_u64, wrap_i32, wrap_u8])))
  refine CallX.of (or_spec (xs := [cmpI x.t y.t, cmpI x.f y.f]) (by simp) ?_)
  (repeat (first | (simp -dsimp only [go_sem, sX_seq, Nat.reduceBEq, Int.reduceEq, Int.reduceNe, Int.reduceLT, Int.reduceLE, Nat.reduceAdd, Nat.reduceMul, Nat.reduceLeDiff]) | (refine thawX_none ?_; simp -dsimp only [go_sem, sX_seq, Nat.reduceBEq, Int.reduceEq, Int.reduceNe, Int.reduceLT, Int.reduceLE, Nat.reduceAdd, Nat.reduceMul, Nat.reduceLeDiff]; first | refine auto ?_ | refine NewX_intro (fun _ => ?_)) | (refine auto ?_) | (refine NewX_intro (fun _ => ?_)) | (refine autoI ⟨(by first | omega | (simp only [go_sem]; omega)), (by first | omega | (simp only [go_sem]; omega))⟩ ?_) | (simp -dsimp (disch := omega) only [wrap_i64, wrap_u64, wrap_i32, wrap_u8])))
  exact ⟨L, Ent.auto, hk⟩

/-- An arc stands ahead of another: by beginning, then end. -/
def ltA (a b : Arc3) : Prop := a.f < b.f ∨ (a.f = b.f ∧ a.t < b.t)
instance (a b : Arc3) : Decidable (ltA a b) := by unfold ltA; exact inferInstance
/-- .. by end, then beginning. -/
def ltT (a b : Arc3) : Prop := a.t < b.t ∨ (a.t = b.t ∧ a.f < b.f)
instance (a b : Arc3) : Decidable (ltT a b) := by unfold ltT; exact inferInstance
theorem cfA_lt (a b : Arc3) : cfA a b < 0 ↔ ltA a b := by
  unfold cfA ltA orI orI orI cmpI
  by_cases h1 : a.f < b.f
  · simp [h1]
  · by_cases h2 : b.f < a.f
    · simp [h1, h2]; omega
    · have : a.f = b.f := by omega
      by_cases h3 : a.t < b.t
      · simp [this, h3]
      · by_cases h4 : b.t < a.t
        · simp [this, h3, h4]
        · simp [this, h3, h4]
theorem ctA_lt (a b : Arc3) : ctA a b < 0 ↔ ltT a b := by
  unfold ctA ltT orI orI orI cmpI
  by_cases h1 : a.t < b.t
  · simp [h1]
  · by_cases h2 : b.t < a.t
    · simp [h1, h2]; omega
    · have : a.t = b.t := by omega
      by_cases h3 : a.f < b.f
      · simp [this, h3]
      · by_cases h4 : b.f < a.f
        · simp [this, h3, h4]
        · simp [this, h3, h4]

theorem less10_spec {L : List Chunk} {K : KVL} {x y : Arc3} (hk : K (.bool (decide (ltA x y))) L) : CallW Try.prog 34 [.agg #[.int .i64 x.f, .int .i64 x.t, .int .i64 x.w], .agg #[.int .i64 y.f, .int .i64 y.t, .int .i64 y.w]] L K := by
  refine CallW.ret ?_
  refine callX_of (by kernel_rfl) Try.func34 e34 (by exact Nat.le_of_ble_eq_true rfl) ?_
  (repeat (first | (simp -dsimp only [go_sem, sX_seq, Nat.reduceBEq, Int.reduceEq, Int.reduceNe, Int.reduceLT, Int.reduceLE, Nat.reduceAdd, Nat.reduceMul, Nat.reduceLeDiff]) | (refine thawX_none ?_; simp -dsimp only [go_sem, sX_seq, Nat.reduceBEq, Int.reduceEq, Int.reduceNe, Int.reduceLT, Int.reduceLE, Nat.reduceAdd, Nat.reduceMul, Nat.reduceLeDiff]; first | refine auto ?_ | refine NewX_intro (fun _ => ?_)) | (refine auto ?_) | (refine NewX_intro (fun _ => ?_)) | (refine autoI ⟨(by first | omega | (simp only [go_sem]; omega)), (by first | omega | (simp only [go_sem]; omega))⟩ ?_) | (simp -dsimp (disch := omega) only [wrap_i64, wrap_u64, wrap_i32, wrap_u8])))
  first | refine condX_dec (fun h1 h1' => ?_) (fun h1 h1' => ?_) | refine condX_not (fun h1 h1' => ?_) (fun h1 h1' => ?_) | refine condX_mk (fun h1' => ?_) (fun h1' => ?_)
  · (repeat (first | (simp -dsimp only [go_sem, sX_seq, Nat.reduceBEq, Int.reduceEq, Int.reduceNe, Int.reduceLT, Int.reduceLE, Nat.reduceAdd, Nat.reduceMul, Nat.reduceLeDiff, h1']) | (refine thawX_none ?_; simp -dsimp only [go_sem, sX_seq, Nat.reduceBEq, Int.reduceEq, Int.reduceNe, Int.reduceLT, Int.reduceLE, Nat.reduceAdd, Nat.reduceMul, Nat.reduceLeDiff, h1']; first | refine auto ?_ | refine NewX_intro (fun _ => ?_)) | (refine auto ?_) | (refine NewX_intro (fun _ => ?_)) | (refine autoI ⟨(by first | omega | (simp only [go_sem]; omega)), (by first | omega | (simp only [go_sem]; omega))⟩ ?_) | (simp -dsimp (disch := omega) only [wrap_i64, wrap_u64, wrap_i32, wrap_u8])))
    rw [decide_eq_true (show ltA x y from .inl h1)] at hk
    exact ⟨_, Ent.auto, hk⟩
  · (repeat (first | (simp -dsimp only [go_sem, sX_seq, Nat.reduceBEq, Int.reduceEq, Int.reduceNe, Int.reduceLT, Int.reduceLE, Nat.reduceAdd, Nat.reduceMul, Nat.reduceLeDiff, h1']) | (refine thawX_none ?_; simp -dsimp only [go_sem, sX_seq, Nat.reduceBEq, Int.reduceEq, Int.reduceNe, Int.reduceLT, Int.reduceLE, Nat.reduceAdd, Nat.reduceMul, Nat.reduceLeDiff, h1']; first | refine auto ?_ | refine NewX_intro (fun _ => ?_)) | (refine auto ?_) | (refine NewX_intro (fun _ => ?_)) | (refine autoI ⟨(by first | omega | (simp only [go_sem]; omega)), (by first | omega | (simp only [go_sem]; omega))⟩ ?_) | (simp -dsimp (disch := omega) only [wrap_i64, wrap_u64, wrap_i32, wrap_u8])))
    first | refine condX_dec (fun h2 h2' => ?_) (fun h2 h2' => ?_) | refine condX_not (fun h2 h2' => ?_) (fun h2 h2' => ?_) | refine condX_mk (fun h2' => ?_) (fun h2' => ?_)
    · (repeat (first | (simp -dsimp only [go_sem, sX_seq, Nat.reduceBEq, Int.reduceEq, Int.reduceNe, Int.reduceLT, Int.reduceLE, Nat.reduceAdd, Nat.reduceMul, Nat.reduceLeDiff, h1', h2']) | (refine thawX_none ?_; simp -dsimp only [go_sem, sX_seq, Nat.reduceBEq, Int.reduceEq, Int.reduceNe, Int.reduceLT, Int.reduceLE, Nat.reduceAdd, Nat.reduceMul, Nat.reduceLeDiff, h1', h2']; first | refine auto ?_ | refine NewX_intro (fun _ => ?_)) | (refine auto ?_) | (refine NewX_intro (fun _ => ?_)) | (refine autoI ⟨(by first | omega | (simp only [go_sem]; omega)), (by first | omega | (simp only [go_sem]; omega))⟩ ?_) | (simp -dsimp (disch := omega) only [wrap_i64, wrap_u64, wrap_i32, wrap_u8])))
      rw [decide_eq_decide.2 (show ltA x y ↔ x.t < y.t by unfold ltA; omega)] at hk
      exact ⟨_, Ent.auto, hk⟩
    · (repeat (first | (simp -dsimp only [go_sem, sX_seq, Nat.reduceBEq, Int.reduceEq, Int.reduceNe, Int.reduceLT, Int.reduceLE, Nat.reduceAdd, Nat.reduceMul, Nat.reduceLeDiff, h1', h2']) | (refine thawX_none ?_; simp -dsimp only [go_sem, sX_seq, Nat.reduceBEq, Int.reduceEq, Int.reduceNe, Int.reduceLT, Int.reduceLE, Nat.reduceAdd, Nat.reduceMul, Nat.reduceLeDiff, h1', h2']; first | refine auto ?_ | refine NewX_intro (fun _ => ?_)) | (refine auto ?_) | (refine NewX_intro (fun _ => ?_)) | (refine autoI ⟨(by first | omega | (simp only [go_sem]; omega)), (by first | omega | (simp only [go_sem]; omega))⟩ ?_) | (simp -dsimp (disch := omega) only [wrap_i64, wrap_u64, wrap_i32, wrap_u8])))
      rw [decide_eq_false (show ¬ ltA x y by unfold ltA; omega)] at hk
      exact ⟨_, Ent.auto, hk⟩

/-- The two ends of an arc. -/
def endsA (a : Arc3) : PairI := (IntKind.i32.wrap a.f, IntKind.i32.wrap a.t)
theorem pair_spec {L : List Chunk} {K : KVL} {x : Arc3} (hk : K (.agg #[.int .i32 (endsA x).1, .int .i32 (endsA x).2]) L) : CallW Try.prog 47 [.agg #[.int .i64 x.f, .int .i64 x.t, .int .i64 x.w]] L K := by
  refine CallW.ret ?_
  refine callX_of (by kernel_rfl) Try.func47 e47 (by exact Nat.le_of_ble_eq_true rfl) ?_
  (repeat (first | (simp -dsimp only [go_sem, sX_seq, Nat.reduceBEq, Int.reduceEq, Int.reduceNe, Int.reduceLT, Int.reduceLE, Nat.reduceAdd, Nat.reduceMul, Nat.reduceLeDiff]) | (refine thawX_none ?_; simp -dsimp only [go_sem, sX_seq, Nat.reduceBEq, Int.reduceEq, Int.reduceNe, Int.reduceLT, Int.reduceLE, Nat.reduceAdd, Nat.reduceMul, Nat.reduceLeDiff]; first | refine auto ?_ | refine NewX_intro (fun _ => ?_)) | (refine auto ?_) | (refine NewX_intro (fun _ => ?_)) | (refine autoI ⟨(by first | omega | (simp only [go_sem]; omega)), (by first | omega | (simp only [go_sem]; omega))⟩ ?_) | (simp -dsimp (disch := omega) only [wrap_i64, wrap_u64, wrap_i32, wrap_u8])))
  exact ⟨_, Ent.auto, hk⟩

end Go.SL
