/- The reader of numbers: num, Small, New, Err, Left. -/
import Derived.Test.YtebcdnnfjcaofaaLookRoad
set_option linter.unusedSimpArgs false
set_option linter.unusedVariables false
set_option maxRecDepth 100000
namespace Go.SL
open Go.Proofs

/-- A reader's chunks: its bytes, its place, its fault. -/
abbrev rdrL (r bv : Value) (bs : List Int) (at' : Nat) (e : Int) (R : List Chunk) : List Chunk := ⟨r, cellsC [bv, .int .i64 at', .int .i64 e]⟩ :: ⟨bv, sliceC eU8 bs⟩ :: R

theorem rnum_spec {R : List Chunk} {K : KVL} {r bv : Value} {bs : List Int} {at' most : Nat} {e : Int} (hb : ∀ b ∈ bs, 0 ≤ b ∧ b ≤ 255) (ha : at' ≤ bs.length) (hl : bs.length ≤ 2000000000) (hmo : most < 18446744073709551616)
    (hok : e = 0 → ∀ v rest, v ≤ most → bs.drop at' = numL v ++ rest → K (.int .u64 v) (rdrL r bv bs (at' + (numL v).length) 0 R))
    (hno : e = 0 → (∀ v rest, v ≤ most → bs.drop at' ≠ numL v ++ rest) → ∀ e' : Int, e' ≠ 0 → K (.int .u64 0) (rdrL r bv bs at' e' R))
    (her : e ≠ 0 → K (.int .u64 0) (rdrL r bv bs at' e R)) :
    CallW Try.prog 51 [r, .int .u64 most] (rdrL r bv bs at' e R) K := by
  refine CallW.ret ?_
  refine callX_of (by kernel_rfl) Try.func51 e51 (by exact Nat.le_of_ble_eq_true rfl) ?_
  (repeat (first | (simp -dsimp only [go_sem, sX_seq, Nat.reduceBEq, Int.reduceEq, Int.reduceNe, Int.reduceLT, Int.reduceLE, Nat.reduceAdd, Nat.reduceMul, Nat.reduceLeDiff]) | (refine thawX_none ?_; simp -dsimp only [go_sem, sX_seq, Nat.reduceBEq, Int.reduceEq, Int.reduceNe, Int.reduceLT, Int.reduceLE, Nat.reduceAdd, Nat.reduceMul, Nat.reduceLeDiff]; first | refine auto ?_ | refine NewX_intro (fun _ => ?_)) | (refine auto ?_) | (refine NewX_intro (fun _ => ?_)) | (refine autoI ⟨(by first | omega | (simp only [go_sem]; omega)), (by first | omega | (simp only [go_sem]; omega))⟩ ?_) | (simp -dsimp (disch := omega) only [wrap_i64, wrap_u64, wrap_i32, wrap_u8])))
  refine condX_not (fun c1 c1' => ?_) (fun c1 c1' => ?_)
  · (repeat (first | (simp -dsimp only [go_sem, sX_seq, Nat.reduceBEq, Int.reduceEq, Int.reduceNe, Int.reduceLT, Int.reduceLE, Nat.reduceAdd, Nat.reduceMul, Nat.reduceLeDiff, c1']) | (refine thawX_none ?_; simp -dsimp only [go_sem, sX_seq, Nat.reduceBEq, Int.reduceEq, Int.reduceNe, Int.reduceLT, Int.reduceLE, Nat.reduceAdd, Nat.reduceMul, Nat.reduceLeDiff, c1']; first | refine auto ?_ | refine NewX_intro (fun _ => ?_)) | (refine auto ?_) | (refine NewX_intro (fun _ => ?_)) | (refine autoI ⟨(by first | omega | (simp only [go_sem]; omega)), (by first | omega | (simp only [go_sem]; omega))⟩ ?_) | (simp -dsimp (disch := omega) only [wrap_i64, wrap_u64, wrap_i32, wrap_u8])))
    exact ⟨_, Ent.auto, her c1⟩
  subst c1
  (repeat (first | (simp -dsimp only [go_sem, sX_seq, Nat.reduceBEq, Int.reduceEq, Int.reduceNe, Int.reduceLT, Int.reduceLE, Nat.reduceAdd, Nat.reduceMul, Nat.reduceLeDiff, c1']) | (refine thawX_none ?_; simp -dsimp only [go_sem, sX_seq, Nat.reduceBEq, Int.reduceEq, Int.reduceNe, Int.reduceLT, Int.reduceLE, Nat.reduceAdd, Nat.reduceMul, Nat.reduceLeDiff, c1']; first | refine auto ?_ | refine NewX_intro (fun _ => ?_)) | (refine auto ?_) | (refine NewX_intro (fun _ => ?_)) | (refine autoI ⟨(by first | omega | (simp only [go_sem]; omega)), (by first | omega | (simp only [go_sem]; omega))⟩ ?_) | (simp -dsimp (disch := omega) only [wrap_i64, wrap_u64, wrap_i32, wrap_u8])))
  refine CallX.of (look_spec hb ha hl (fun v rest hv hd => ?_) (fun hd e' he' => ?_))
  · (repeat (first | (simp -dsimp only [go_sem, sX_seq, Nat.reduceBEq, Int.reduceEq, Int.reduceNe, Int.reduceLT, Int.reduceLE, Nat.reduceAdd, Nat.reduceMul, Nat.reduceLeDiff, c1']) | (refine thawX_none ?_; simp -dsimp only [go_sem, sX_seq, Nat.reduceBEq, Int.reduceEq, Int.reduceNe, Int.reduceLT, Int.reduceLE, Nat.reduceAdd, Nat.reduceMul, Nat.reduceLeDiff, c1']; first | refine auto ?_ | refine NewX_intro (fun _ => ?_)) | (refine auto ?_) | (refine NewX_intro (fun _ => ?_)) | (refine autoI ⟨(by first | omega | (simp only [go_sem]; omega)), (by first | omega | (simp only [go_sem]; omega))⟩ ?_) | (simp -dsimp (disch := omega) only [wrap_i64, wrap_u64, wrap_i32, wrap_u8])))
    first | refine condX_dec (fun c2 c2' => ?_) (fun c2 c2' => ?_) | refine condX_not (fun c2 c2' => ?_) (fun c2 c2' => ?_) | refine condX_mk (fun c2' => ?_) (fun c2' => ?_)
    · (repeat (first | (simp -dsimp only [go_sem, sX_seq, Nat.reduceBEq, Int.reduceEq, Int.reduceNe, Int.reduceLT, Int.reduceLE, Nat.reduceAdd, Nat.reduceMul, Nat.reduceLeDiff, c1', c2']) | (refine thawX_none ?_; simp -dsimp only [go_sem, sX_seq, Nat.reduceBEq, Int.reduceEq, Int.reduceNe, Int.reduceLT, Int.reduceLE, Nat.reduceAdd, Nat.reduceMul, Nat.reduceLeDiff, c1', c2']; first | refine auto ?_ | refine NewX_intro (fun _ => ?_)) | (refine auto ?_) | (refine NewX_intro (fun _ => ?_)) | (refine autoI ⟨(by first | omega | (simp only [go_sem]; omega)), (by first | omega | (simp only [go_sem]; omega))⟩ ?_) | (simp -dsimp (disch := omega) only [wrap_i64, wrap_u64, wrap_i32, wrap_u8])))
      refine ⟨_, Ent.auto, hno rfl (fun w rest' hw hd' => ?_) 10 (by decide)⟩
      obtain ⟨rfl, _⟩ := numL_free (hd.symm.trans hd')
      omega
    · (repeat (first | (simp -dsimp only [go_sem, sX_seq, Nat.reduceBEq, Int.reduceEq, Int.reduceNe, Int.reduceLT, Int.reduceLE, Nat.reduceAdd, Nat.reduceMul, Nat.reduceLeDiff, c1', c2']) | (refine thawX_none ?_; simp -dsimp only [go_sem, sX_seq, Nat.reduceBEq, Int.reduceEq, Int.reduceNe, Int.reduceLT, Int.reduceLE, Nat.reduceAdd, Nat.reduceMul, Nat.reduceLeDiff, c1', c2']; first | refine auto ?_ | refine NewX_intro (fun _ => ?_)) | (refine auto ?_) | (refine NewX_intro (fun _ => ?_)) | (refine autoI ⟨(by first | omega | (simp only [go_sem]; omega)), (by first | omega | (simp only [go_sem]; omega))⟩ ?_) | (simp -dsimp (disch := omega) only [wrap_i64, wrap_u64, wrap_i32, wrap_u8])))
      exact ⟨_, Ent.auto, hok rfl v rest (by omega) hd⟩
  · have he2 : decide (e' = 0) = false := decide_eq_false he'
    (repeat (first | (simp -dsimp only [go_sem, sX_seq, Nat.reduceBEq, Int.reduceEq, Int.reduceNe, Int.reduceLT, Int.reduceLE, Nat.reduceAdd, Nat.reduceMul, Nat.reduceLeDiff, c1', he2]) | (refine thawX_none ?_; simp -dsimp only [go_sem, sX_seq, Nat.reduceBEq, Int.reduceEq, Int.reduceNe, Int.reduceLT, Int.reduceLE, Nat.reduceAdd, Nat.reduceMul, Nat.reduceLeDiff, c1', he2]; first | refine auto ?_ | refine NewX_intro (fun _ => ?_)) | (refine auto ?_) | (refine NewX_intro (fun _ => ?_)) | (refine autoI ⟨(by first | omega | (simp only [go_sem]; omega)), (by first | omega | (simp only [go_sem]; omega))⟩ ?_) | (simp -dsimp (disch := omega) only [wrap_i64, wrap_u64, wrap_i32, wrap_u8])))
    exact ⟨_, Ent.auto, hno rfl (fun w rest hw => hd w rest (by omega)) e' he'⟩

theorem small_spec {R : List Chunk} {K : KVL} {r bv : Value} {bs : List Int} {at' : Nat} {e : Int} {most : Nat} (hb : ∀ b ∈ bs, 0 ≤ b ∧ b ≤ 255) (ha : at' ≤ bs.length) (hl : bs.length ≤ 2000000000) (hmo : most ≤ 2000000000)
    (hok : e = 0 → ∀ v rest, v ≤ most → bs.drop at' = numL v ++ rest → K (.int .i64 v) (rdrL r bv bs (at' + (numL v).length) 0 R))
    (hno : e = 0 → (∀ v rest, v ≤ most → bs.drop at' ≠ numL v ++ rest) → ∀ e' : Int, e' ≠ 0 → K (.int .i64 0) (rdrL r bv bs at' e' R))
    (her : e ≠ 0 → K (.int .i64 0) (rdrL r bv bs at' e R)) :
    CallW Try.prog 36 [r, .int .i64 most] (rdrL r bv bs at' e R) K := by
  refine callX_of (by kernel_rfl) Try.func36 e36 (by exact Nat.le_of_ble_eq_true rfl) ?_
  have hmx : max (most : Int) 0 = (most : Int) := by omega
  (repeat (first | (simp -dsimp only [go_sem, sX_seq, Nat.reduceBEq, Int.reduceEq, Int.reduceNe, Int.reduceLT, Int.reduceLE, Nat.reduceAdd, Nat.reduceMul, Nat.reduceLeDiff, hmx]) | (refine thawX_none ?_; simp -dsimp only [go_sem, sX_seq, Nat.reduceBEq, Int.reduceEq, Int.reduceNe, Int.reduceLT, Int.reduceLE, Nat.reduceAdd, Nat.reduceMul, Nat.reduceLeDiff, hmx]; first | refine auto ?_ | refine NewX_intro (fun _ => ?_)) | (refine auto ?_) | (refine NewX_intro (fun _ => ?_)) | (refine autoI ⟨(by first | omega | (simp only [go_sem]; omega)), (by first | omega | (simp only [go_sem]; omega))⟩ ?_) | (simp -dsimp (disch := omega) only [wrap_i64, wrap_u64, wrap_i32, wrap_u8])))
  refine CallX.of (rnum_spec (most := most) hb ha hl (by omega) (fun h v rest hv hd => ?_) (fun h hd e' he' => ?_) (fun h => ?_))
  · (repeat (first | (simp -dsimp only [go_sem, sX_seq, Nat.reduceBEq, Int.reduceEq, Int.reduceNe, Int.reduceLT, Int.reduceLE, Nat.reduceAdd, Nat.reduceMul, Nat.reduceLeDiff, hmx]) | (refine thawX_none ?_; simp -dsimp only [go_sem, sX_seq, Nat.reduceBEq, Int.reduceEq, Int.reduceNe, Int.reduceLT, Int.reduceLE, Nat.reduceAdd, Nat.reduceMul, Nat.reduceLeDiff, hmx]; first | refine auto ?_ | refine NewX_intro (fun _ => ?_)) | (refine auto ?_) | (refine NewX_intro (fun _ => ?_)) | (refine autoI ⟨(by first | omega | (simp only [go_sem]; omega)), (by first | omega | (simp only [go_sem]; omega))⟩ ?_) | (simp -dsimp (disch := omega) only [wrap_i64, wrap_u64, wrap_i32, wrap_u8])))
    exact hok h v rest hv hd
  · (repeat (first | (simp -dsimp only [go_sem, sX_seq, Nat.reduceBEq, Int.reduceEq, Int.reduceNe, Int.reduceLT, Int.reduceLE, Nat.reduceAdd, Nat.reduceMul, Nat.reduceLeDiff, hmx]) | (refine thawX_none ?_; simp -dsimp only [go_sem, sX_seq, Nat.reduceBEq, Int.reduceEq, Int.reduceNe, Int.reduceLT, Int.reduceLE, Nat.reduceAdd, Nat.reduceMul, Nat.reduceLeDiff, hmx]; first | refine auto ?_ | refine NewX_intro (fun _ => ?_)) | (refine auto ?_) | (refine NewX_intro (fun _ => ?_)) | (refine autoI ⟨(by first | omega | (simp only [go_sem]; omega)), (by first | omega | (simp only [go_sem]; omega))⟩ ?_) | (simp -dsimp (disch := omega) only [wrap_i64, wrap_u64, wrap_i32, wrap_u8])))
    exact hno h hd e' he'
  · (repeat (first | (simp -dsimp only [go_sem, sX_seq, Nat.reduceBEq, Int.reduceEq, Int.reduceNe, Int.reduceLT, Int.reduceLE, Nat.reduceAdd, Nat.reduceMul, Nat.reduceLeDiff, hmx]) | (refine thawX_none ?_; simp -dsimp only [go_sem, sX_seq, Nat.reduceBEq, Int.reduceEq, Int.reduceNe, Int.reduceLT, Int.reduceLE, Nat.reduceAdd, Nat.reduceMul, Nat.reduceLeDiff, hmx]; first | refine auto ?_ | refine NewX_intro (fun _ => ?_)) | (refine auto ?_) | (refine NewX_intro (fun _ => ?_)) | (refine autoI ⟨(by first | omega | (simp only [go_sem]; omega)), (by first | omega | (simp only [go_sem]; omega))⟩ ?_) | (simp -dsimp (disch := omega) only [wrap_i64, wrap_u64, wrap_i32, wrap_u8])))
    exact her h

/-- What one number's reading comes to: the number, the fault and the place behind it. -/
structure OneRd (D : List Int) (at1 : Nat) (e1 : Int) (most v : Nat) (at2 : Nat) (e2 : Int) : Prop where
  le : v ≤ most
  inb : at2 ≤ D.length
  ok : e2 = 0 → e1 = 0 ∧ D.drop at1 = numL v ++ D.drop at2
  no : e2 ≠ 0 → v = 0 ∧ at2 = at1 ∧ (e1 = 0 → ∀ w rest, w ≤ most → D.drop at1 ≠ numL w ++ rest)

theorem small1_spec {R : List Chunk} {K : KVL} {r bv : Value} {bs : List Int} {at' : Nat} {e : Int} {m : Int} (most : Nat) (hmm : m = most) (hb : ∀ b ∈ bs, 0 ≤ b ∧ b ≤ 255) (ha : at' ≤ bs.length) (hl : bs.length ≤ 2000000000) (hmo : most ≤ 2000000000)
    (hk : ∀ v at2 e2, OneRd bs at' e most v at2 e2 → K (.int .i64 (v : Nat)) (rdrL r bv bs at2 e2 R)) :
    CallW Try.prog 36 [r, .int .i64 m] (rdrL r bv bs at' e R) K := by
  subst hmm
  refine small_spec hb ha hl hmo (fun h v rest hv hd => ?_) (fun h hd e' he' => ?_) (fun h => ?_)
  · have h3 := congrArg List.length hd
    simp only [List.length_append, List.length_drop] at h3
    have hne : 1 ≤ (numL v).length := List.length_pos_iff.2 (numL_ne v)
    refine hk v _ 0 ⟨hv, by omega, fun _ => ⟨h, ?_⟩, fun h => absurd rfl h⟩
    have h4 := congrArg (List.drop (numL v).length) hd
    rw [List.drop_drop, List.drop_left] at h4
    rw [hd, h4]
  · exact hk 0 at' e' ⟨by omega, ha, fun h => absurd h he', fun _ => ⟨rfl, rfl, fun _ => hd⟩⟩
  · exact hk 0 at' e ⟨by omega, ha, fun h' => absurd h' h, fun _ => ⟨rfl, rfl, fun h' => absurd h' h⟩⟩

theorem err_spec {R : List Chunk} {K : KVL} {r bv : Value} {bs : List Int} {at' : Nat} {e : Int} (hk : K (.int .i64 e) (rdrL r bv bs at' e R)) :
    CallW Try.prog 37 [r] (rdrL r bv bs at' e R) K := by
  refine CallW.ret ?_
  refine callX_of (by kernel_rfl) Try.func37 e37 (by exact Nat.le_of_ble_eq_true rfl) ?_
  (repeat (first | (simp -dsimp only [go_sem, sX_seq, Nat.reduceBEq, Int.reduceEq, Int.reduceNe, Int.reduceLT, Int.reduceLE, Nat.reduceAdd, Nat.reduceMul, Nat.reduceLeDiff]) | (refine thawX_none ?_; simp -dsimp only [go_sem, sX_seq, Nat.reduceBEq, Int.reduceEq, Int.reduceNe, Int.reduceLT, Int.reduceLE, Nat.reduceAdd, Nat.reduceMul, Nat.reduceLeDiff]; first | refine auto ?_ | refine NewX_intro (fun _ => ?_)) | (refine auto ?_) | (refine NewX_intro (fun _ => ?_)) | (refine autoI ⟨(by first | omega | (simp only [go_sem]; omega)), (by first | omega | (simp only [go_sem]; omega))⟩ ?_) | (simp -dsimp (disch := omega) only [wrap_i64, wrap_u64, wrap_i32, wrap_u8])))
  exact ⟨_, Ent.auto, hk⟩

theorem left_spec {R : List Chunk} {K : KVL} {r bv : Value} {bs : List Int} {at' : Nat} {e : Int} (ha : at' ≤ bs.length) (hl : bs.length ≤ 2000000000) (hk : K (.int .i64 ((bs.length : Int) - at')) (rdrL r bv bs at' e R)) :
    CallW Try.prog 38 [r] (rdrL r bv bs at' e R) K := by
  refine CallW.ret ?_
  refine callX_of (by kernel_rfl) Try.func38 e38 (by exact Nat.le_of_ble_eq_true rfl) ?_
  (repeat (first | (simp -dsimp only [go_sem, sX_seq, Nat.reduceBEq, Int.reduceEq, Int.reduceNe, Int.reduceLT, Int.reduceLE, Nat.reduceAdd, Nat.reduceMul, Nat.reduceLeDiff]) | (refine thawX_none ?_; simp -dsimp only [go_sem, sX_seq, Nat.reduceBEq, Int.reduceEq, Int.reduceNe, Int.reduceLT, Int.reduceLE, Nat.reduceAdd, Nat.reduceMul, Nat.reduceLeDiff]; first | refine auto ?_ | refine NewX_intro (fun _ => ?_)) | (refine auto ?_) | (refine NewX_intro (fun _ => ?_)) | (refine autoI ⟨(by first | omega | (simp only [go_sem]; omega)), (by first | omega | (simp only [go_sem]; omega))⟩ ?_) | (simp -dsimp (disch := omega) only [wrap_i64, wrap_u64, wrap_i32, wrap_u8])))
  exact ⟨_, Ent.auto, hk⟩

theorem codeNew_spec {L : List Chunk} {K : KVL} {s : Value} {bs : List Int} [RdS L s eU8 bs] (hl : bs.length ≤ 2000000000) (hk : ∀ r bv, K r (rdrL r bv bs 0 0 L)) :
    CallW Try.prog 35 [s] L K := by
  refine CallW.ret ?_
  refine callX_of (by kernel_rfl) Try.func35 e35 (by exact Nat.le_of_ble_eq_true rfl) ?_
  (repeat (first | (simp -dsimp only [go_sem, sX_seq, Nat.reduceBEq, Int.reduceEq, Int.reduceNe, Int.reduceLT, Int.reduceLE, Nat.reduceAdd, Nat.reduceMul, Nat.reduceLeDiff]) | (refine thawX_none ?_; simp -dsimp only [go_sem, sX_seq, Nat.reduceBEq, Int.reduceEq, Int.reduceNe, Int.reduceLT, Int.reduceLE, Nat.reduceAdd, Nat.reduceMul, Nat.reduceLeDiff]; first | refine auto ?_ | refine NewX_intro (fun _ => ?_)) | (refine auto ?_) | (refine NewX_intro (fun _ => ?_)) | (refine autoI ⟨(by first | omega | (simp only [go_sem]; omega)), (by first | omega | (simp only [go_sem]; omega))⟩ ?_) | (simp -dsimp (disch := omega) only [wrap_i64, wrap_u64, wrap_i32, wrap_u8])))
  refine AppX_nil (E := eU8) (ys := bs) (by rfl) (by rfl) (by omega) (by omega) (fun bv o => ?_)
  haveI : One1 bv := ⟨o⟩
  have hbc : Value.cellsL bv = [bv] := o.cells
  (repeat (first | (simp -dsimp only [go_sem, sX_seq, Nat.reduceBEq, Int.reduceEq, Int.reduceNe, Int.reduceLT, Int.reduceLE, Nat.reduceAdd, Nat.reduceMul, Nat.reduceLeDiff, hbc]) | (refine thawX_none ?_; simp -dsimp only [go_sem, sX_seq, Nat.reduceBEq, Int.reduceEq, Int.reduceNe, Int.reduceLT, Int.reduceLE, Nat.reduceAdd, Nat.reduceMul, Nat.reduceLeDiff, hbc]; first | refine auto ?_ | refine NewX_intro (fun _ => ?_)) | (refine auto ?_) | (refine NewX_intro (fun _ => ?_)) | (refine autoI ⟨(by first | omega | (simp only [go_sem]; omega)), (by first | omega | (simp only [go_sem]; omega))⟩ ?_) | (simp -dsimp (disch := omega) only [wrap_i64, wrap_u64, wrap_i32, wrap_u8])))
  exact ⟨_, Ent.auto, hk _ bv⟩

end Go.SL
