/- RoadBack: what the law's function comes to. -/
import Derived.Test.YtebcdnnfjcaofaaLawRoadT
import Derived.Test.YtebcdnnfjcaofaaDecRoad
set_option linter.unusedSimpArgs false
set_option linter.unusedVariables false
set_option maxRecDepth 100000
namespace Go.SL
open Go.Proofs

theorem arcsB_inj {n m : Int} : ∀ {l r : List Arc3}, l.length = r.length → (∀ a ∈ l, ArcOk n a) → (∀ a ∈ r, ArcOk m a) → arcsB l = arcsB r → l = r
  | [], [], _, _, _, _ => rfl
  | a :: l, b :: r, hl, ha, hb, h => by
    rw [arcsB_cons, arcsB_cons] at h
    obtain ⟨e1, h⟩ := numL_free h
    obtain ⟨e2, h⟩ := numL_free h
    obtain ⟨e3, h⟩ := numL_free h
    have k := ha a (by simp)
    have k' := hb b (by simp)
    have : a = b := by
      obtain ⟨af, at', aw⟩ := a
      obtain ⟨bf, bt, bw⟩ := b
      obtain ⟨x0, x1, x2, x3, x4, x5, x6⟩ := k
      obtain ⟨y0, y1, y2, y3, y4, y5, y6⟩ := k'
      simp only at *
      congr 1 <;> omega
    rw [this, arcsB_inj (by simpa using hl) (fun a h => ha a (by simp [h])) (fun a h => hb a (by simp [h])) h]
theorem encL_inj {n m : Int} {l r : List Arc3} (h1 : RightP n l) (h2 : RightP m r) (h : encL n l = encL m r) : n = m ∧ l = r := by
  rw [encL_eq, encL_eq] at h
  have h := List.tail_eq_of_cons_eq h
  unfold encB at h
  obtain ⟨e1, h⟩ := numL_free h
  obtain ⟨e2, h⟩ := numL_free h
  have := h1.1.n0; have := h2.1.n0
  exact ⟨by omega, arcsB_inj e2 h1.1.arc h2.1.arc h⟩

theorem roadBack_spec {L : List Chunk} {K : KVL} {n : Int} {a : Option Addr} {m c : Nat} {l : List Arc3} {bv : Value} {bs : List Int} [H : RdS L (.slice a m c) eArc l] [H2 : RdS L bv eU8 bs] (hm : l.length = m) (hc : m ≤ c) (hb : ∀ b ∈ bs, 0 ≤ b ∧ b ≤ 255) (hk : K (.bool true) L) :
    CallW Try.prog 4 [.agg #[.int .i64 n, .slice a m c], bv] L K := by
  refine CallW.ret ?_
  refine callX_of (by kernel_rfl) Try.func4 e4 (by exact Nat.le_of_ble_eq_true rfl) ?_
  (repeat (first | (simp -dsimp only [go_sem, sX_seq, Nat.reduceBEq, Int.reduceEq, Int.reduceNe, Int.reduceLT, Int.reduceLE, Nat.reduceAdd, Nat.reduceMul, Nat.reduceLeDiff]) | (refine thawX_none ?_; simp -dsimp only [go_sem, sX_seq, Nat.reduceBEq, Int.reduceEq, Int.reduceNe, Int.reduceLT, Int.reduceLE, Nat.reduceAdd, Nat.reduceMul, Nat.reduceLeDiff]; first | refine auto ?_ | refine NewX_intro (fun _ => ?_)) | (refine auto ?_) | (refine NewX_intro (fun _ => ?_)) | (refine autoI ⟨(by first | omega | (simp only [go_sem]; omega)), (by first | omega | (simp only [go_sem]; omega))⟩ ?_) | (simp -dsimp (disch := omega) only [wrap_i64, wrap_u64, wrap_i32, wrap_u8])))
  rename_i np
  refine CallX.of (cut10_spec (n := n) (l := l) (RdS.tail (H := H)) hm hc (fun a' m' c' H' hm' => ?_))
  haveI := H' L H
  have hl : (l.take 300).length ≤ 300 := by rw [List.length_take]; omega
  generalize l.take 300 = l' at *
  subst hm'
  (repeat (first | (simp -dsimp only [go_sem, sX_seq, Nat.reduceBEq, Int.reduceEq, Int.reduceNe, Int.reduceLT, Int.reduceLE, Nat.reduceAdd, Nat.reduceMul, Nat.reduceLeDiff]) | (refine thawX_none ?_; simp -dsimp only [go_sem, sX_seq, Nat.reduceBEq, Int.reduceEq, Int.reduceNe, Int.reduceLT, Int.reduceLE, Nat.reduceAdd, Nat.reduceMul, Nat.reduceLeDiff]; first | refine auto ?_ | refine NewX_intro (fun _ => ?_)) | (refine auto ?_) | (refine NewX_intro (fun _ => ?_)) | (refine autoI ⟨(by first | omega | (simp only [go_sem]; omega)), (by first | omega | (simp only [go_sem]; omega))⟩ ?_) | (simp -dsimp (disch := omega) only [wrap_i64, wrap_u64, wrap_i32, wrap_u8])))
  refine CallX.of (sorted_spec _ l' rfl (by omega) inferInstance (fun ys o oo py ly => ?_))
  have hyl : ys.length = l'.length := py.length_eq
  haveI : One1 o := ⟨oo⟩
  have hoc : Value.cellsL o = [o] := oo.cells
  (repeat (first | (simp -dsimp only [go_sem, sX_seq, Nat.reduceBEq, Int.reduceEq, Int.reduceNe, Int.reduceLT, Int.reduceLE, Nat.reduceAdd, Nat.reduceMul, Nat.reduceLeDiff, hoc]) | (refine thawX_none ?_; simp -dsimp only [go_sem, sX_seq, Nat.reduceBEq, Int.reduceEq, Int.reduceNe, Int.reduceLT, Int.reduceLE, Nat.reduceAdd, Nat.reduceMul, Nat.reduceLeDiff, hoc]; first | refine auto ?_ | refine NewX_intro (fun _ => ?_)) | (refine auto ?_) | (refine NewX_intro (fun _ => ?_)) | (refine autoI ⟨(by first | omega | (simp only [go_sem]; omega)), (by first | omega | (simp only [go_sem]; omega))⟩ ?_) | (simp -dsimp (disch := omega) only [wrap_i64, wrap_u64, wrap_i32, wrap_u8])))
  refine CallX.of (roadEncode_spec (n := n) (l := ys) (by omega) (fun hR x ox => ?_) (fun hR => ?_))
  rotate_left
  (repeat (first | (simp -dsimp only [go_sem, sX_seq, Nat.reduceBEq, Int.reduceEq, Int.reduceNe, Int.reduceLT, Int.reduceLE, Nat.reduceAdd, Nat.reduceMul, Nat.reduceLeDiff, hoc]) | (refine thawX_none ?_; simp -dsimp only [go_sem, sX_seq, Nat.reduceBEq, Int.reduceEq, Int.reduceNe, Int.reduceLT, Int.reduceLE, Nat.reduceAdd, Nat.reduceMul, Nat.reduceLeDiff, hoc]; first | refine auto ?_ | refine NewX_intro (fun _ => ?_)) | (refine auto ?_) | (refine NewX_intro (fun _ => ?_)) | (refine autoI ⟨(by first | omega | (simp only [go_sem]; omega)), (by first | omega | (simp only [go_sem]; omega))⟩ ?_) | (simp -dsimp (disch := omega) only [wrap_i64, wrap_u64, wrap_i32, wrap_u8])))
  rotate_left
  have hel : (encL n ys).length ≤ 2000000000 := by
    have h3 := arcsB_len hR.1.arc hR.1.n1
    have h4 := numL_len10' (v := n) (by have := hR.1.n0; omega) (by have := hR.1.n1; omega)
    have h5 := numL_len10 (v := ys.length) (by omega)
    unfold encL
    simp only [List.length_append, List.length_singleton]; omega
  (repeat (first | (simp -dsimp only [go_sem, sX_seq, Nat.reduceBEq, Int.reduceEq, Int.reduceNe, Int.reduceLT, Int.reduceLE, Nat.reduceAdd, Nat.reduceMul, Nat.reduceLeDiff, hoc]) | (refine thawX_none ?_; simp -dsimp only [go_sem, sX_seq, Nat.reduceBEq, Int.reduceEq, Int.reduceNe, Int.reduceLT, Int.reduceLE, Nat.reduceAdd, Nat.reduceMul, Nat.reduceLeDiff, hoc]; first | refine auto ?_ | refine NewX_intro (fun _ => ?_)) | (refine auto ?_) | (refine NewX_intro (fun _ => ?_)) | (refine autoI ⟨(by first | omega | (simp only [go_sem]; omega)), (by first | omega | (simp only [go_sem]; omega))⟩ ?_) | (simp -dsimp (disch := omega) only [wrap_i64, wrap_u64, wrap_i32, wrap_u8])))
  refine CallX.of (decode_spec (bs := encL n ys) encL_byte hel (fun n2 l2 w ow hR2 he => ?_) (fun h => absurd rfl (h n ys hR)))
  obtain ⟨rfl, rfl⟩ := encL_inj hR hR2 he
  haveI : One1 w := ⟨ow⟩
  have hwc : Value.cellsL w = [w] := ow.cells
  (repeat (first | (simp -dsimp only [go_sem, sX_seq, Nat.reduceBEq, Int.reduceEq, Int.reduceNe, Int.reduceLT, Int.reduceLE, Nat.reduceAdd, Nat.reduceMul, Nat.reduceLeDiff, hoc, hwc]) | (refine thawX_none ?_; simp -dsimp only [go_sem, sX_seq, Nat.reduceBEq, Int.reduceEq, Int.reduceNe, Int.reduceLT, Int.reduceLE, Nat.reduceAdd, Nat.reduceMul, Nat.reduceLeDiff, hoc, hwc]; first | refine auto ?_ | refine NewX_intro (fun _ => ?_)) | (refine auto ?_) | (refine NewX_intro (fun _ => ?_)) | (refine autoI ⟨(by first | omega | (simp only [go_sem]; omega)), (by first | omega | (simp only [go_sem]; omega))⟩ ?_) | (simp -dsimp (disch := omega) only [wrap_i64, wrap_u64, wrap_i32, wrap_u8])))
  refine CallX.of (net17_spec (n := n) (m := n) (xs := ys) (ys := ys) (by omega) ?_)
  rw [decide_eq_true ⟨rfl, rfl⟩]
  (repeat (first | (simp -dsimp only [go_sem, sX_seq, Nat.reduceBEq, Int.reduceEq, Int.reduceNe, Int.reduceLT, Int.reduceLE, Nat.reduceAdd, Nat.reduceMul, Nat.reduceLeDiff, hoc]) | (refine thawX_none ?_; simp -dsimp only [go_sem, sX_seq, Nat.reduceBEq, Int.reduceEq, Int.reduceNe, Int.reduceLT, Int.reduceLE, Nat.reduceAdd, Nat.reduceMul, Nat.reduceLeDiff, hoc]; first | refine auto ?_ | refine NewX_intro (fun _ => ?_)) | (refine auto ?_) | (refine NewX_intro (fun _ => ?_)) | (refine autoI ⟨(by first | omega | (simp only [go_sem]; omega)), (by first | omega | (simp only [go_sem]; omega))⟩ ?_) | (simp -dsimp (disch := omega) only [wrap_i64, wrap_u64, wrap_i32, wrap_u8])))
  all_goals
    refine condX_dec (fun c1 q1 => ?_) (fun c1 q1 => ?_)
    · (repeat (first | (simp -dsimp only [go_sem, sX_seq, Nat.reduceBEq, Int.reduceEq, Int.reduceNe, Int.reduceLT, Int.reduceLE, Nat.reduceAdd, Nat.reduceMul, Nat.reduceLeDiff, hoc, q1]) | (refine thawX_none ?_; simp -dsimp only [go_sem, sX_seq, Nat.reduceBEq, Int.reduceEq, Int.reduceNe, Int.reduceLT, Int.reduceLE, Nat.reduceAdd, Nat.reduceMul, Nat.reduceLeDiff, hoc, q1]; first | refine auto ?_ | refine NewX_intro (fun _ => ?_)) | (refine auto ?_) | (refine NewX_intro (fun _ => ?_)) | (refine autoI ⟨(by first | omega | (simp only [go_sem]; omega)), (by first | omega | (simp only [go_sem]; omega))⟩ ?_) | (simp -dsimp (disch := omega) only [wrap_i64, wrap_u64, wrap_i32, wrap_u8])))
      refine CallX.of (awake10_spec ?_)
      (repeat (first | (simp -dsimp only [go_sem, sX_seq, Nat.reduceBEq, Int.reduceEq, Int.reduceNe, Int.reduceLT, Int.reduceLE, Nat.reduceAdd, Nat.reduceMul, Nat.reduceLeDiff, hoc]) | (refine thawX_none ?_; simp -dsimp only [go_sem, sX_seq, Nat.reduceBEq, Int.reduceEq, Int.reduceNe, Int.reduceLT, Int.reduceLE, Nat.reduceAdd, Nat.reduceMul, Nat.reduceLeDiff, hoc]; first | refine auto ?_ | refine NewX_intro (fun _ => ?_)) | (refine auto ?_) | (refine NewX_intro (fun _ => ?_)) | (refine autoI ⟨(by first | omega | (simp only [go_sem]; omega)), (by first | omega | (simp only [go_sem]; omega))⟩ ?_) | (simp -dsimp (disch := omega) only [wrap_i64, wrap_u64, wrap_i32, wrap_u8])))
      exact ⟨_, Ent.auto, hk⟩
    (repeat (first | (simp -dsimp only [go_sem, sX_seq, Nat.reduceBEq, Int.reduceEq, Int.reduceNe, Int.reduceLT, Int.reduceLE, Nat.reduceAdd, Nat.reduceMul, Nat.reduceLeDiff, hoc, q1]) | (refine thawX_none ?_; simp -dsimp only [go_sem, sX_seq, Nat.reduceBEq, Int.reduceEq, Int.reduceNe, Int.reduceLT, Int.reduceLE, Nat.reduceAdd, Nat.reduceMul, Nat.reduceLeDiff, hoc, q1]; first | refine auto ?_ | refine NewX_intro (fun _ => ?_)) | (refine auto ?_) | (refine NewX_intro (fun _ => ?_)) | (refine autoI ⟨(by first | omega | (simp only [go_sem]; omega)), (by first | omega | (simp only [go_sem]; omega))⟩ ?_) | (simp -dsimp (disch := omega) only [wrap_i64, wrap_u64, wrap_i32, wrap_u8])))
    refine CallX.of (decode_spec (bs := bs) hb (by omega) (fun n2 l2 w2 ow2 hR2 he => ?_) (fun h e he => ?_))
    rotate_left
    · have hee : decide (e = 0) = false := decide_eq_false he
      (repeat (first | (simp -dsimp only [go_sem, sX_seq, Nat.reduceBEq, Int.reduceEq, Int.reduceNe, Int.reduceLT, Int.reduceLE, Nat.reduceAdd, Nat.reduceMul, Nat.reduceLeDiff, hoc, hee]) | (refine thawX_none ?_; simp -dsimp only [go_sem, sX_seq, Nat.reduceBEq, Int.reduceEq, Int.reduceNe, Int.reduceLT, Int.reduceLE, Nat.reduceAdd, Nat.reduceMul, Nat.reduceLeDiff, hoc, hee]; first | refine auto ?_ | refine NewX_intro (fun _ => ?_)) | (refine auto ?_) | (refine NewX_intro (fun _ => ?_)) | (refine autoI ⟨(by first | omega | (simp only [go_sem]; omega)), (by first | omega | (simp only [go_sem]; omega))⟩ ?_) | (simp -dsimp (disch := omega) only [wrap_i64, wrap_u64, wrap_i32, wrap_u8])))
      refine CallX.of (awake10_spec ?_)
      (repeat (first | (simp -dsimp only [go_sem, sX_seq, Nat.reduceBEq, Int.reduceEq, Int.reduceNe, Int.reduceLT, Int.reduceLE, Nat.reduceAdd, Nat.reduceMul, Nat.reduceLeDiff, hoc, hee]) | (refine thawX_none ?_; simp -dsimp only [go_sem, sX_seq, Nat.reduceBEq, Int.reduceEq, Int.reduceNe, Int.reduceLT, Int.reduceLE, Nat.reduceAdd, Nat.reduceMul, Nat.reduceLeDiff, hoc, hee]; first | refine auto ?_ | refine NewX_intro (fun _ => ?_)) | (refine auto ?_) | (refine NewX_intro (fun _ => ?_)) | (refine autoI ⟨(by first | omega | (simp only [go_sem]; omega)), (by first | omega | (simp only [go_sem]; omega))⟩ ?_) | (simp -dsimp (disch := omega) only [wrap_i64, wrap_u64, wrap_i32, wrap_u8])))
      exact ⟨_, Ent.auto, hk⟩
    haveI : One1 w2 := ⟨ow2⟩
    have hw2c : Value.cellsL w2 = [w2] := ow2.cells
    have hl2 : l2.length ≤ 2000000000 := by have := hR2.1.len; omega
    (repeat (first | (simp -dsimp only [go_sem, sX_seq, Nat.reduceBEq, Int.reduceEq, Int.reduceNe, Int.reduceLT, Int.reduceLE, Nat.reduceAdd, Nat.reduceMul, Nat.reduceLeDiff, hoc, hw2c]) | (refine thawX_none ?_; simp -dsimp only [go_sem, sX_seq, Nat.reduceBEq, Int.reduceEq, Int.reduceNe, Int.reduceLT, Int.reduceLE, Nat.reduceAdd, Nat.reduceMul, Nat.reduceLeDiff, hoc, hw2c]; first | refine auto ?_ | refine NewX_intro (fun _ => ?_)) | (refine auto ?_) | (refine NewX_intro (fun _ => ?_)) | (refine autoI ⟨(by first | omega | (simp only [go_sem]; omega)), (by first | omega | (simp only [go_sem]; omega))⟩ ?_) | (simp -dsimp (disch := omega) only [wrap_i64, wrap_u64, wrap_i32, wrap_u8])))
    refine CallX.of (roadEncode_spec (n := n2) (l := l2) hl2 (fun _ y oy => ?_) (fun h => absurd hR2 h))
    (repeat (first | (simp -dsimp only [go_sem, sX_seq, Nat.reduceBEq, Int.reduceEq, Int.reduceNe, Int.reduceLT, Int.reduceLE, Nat.reduceAdd, Nat.reduceMul, Nat.reduceLeDiff, hoc, hw2c]) | (refine thawX_none ?_; simp -dsimp only [go_sem, sX_seq, Nat.reduceBEq, Int.reduceEq, Int.reduceNe, Int.reduceLT, Int.reduceLE, Nat.reduceAdd, Nat.reduceMul, Nat.reduceLeDiff, hoc, hw2c]; first | refine auto ?_ | refine NewX_intro (fun _ => ?_)) | (refine auto ?_) | (refine NewX_intro (fun _ => ?_)) | (refine autoI ⟨(by first | omega | (simp only [go_sem]; omega)), (by first | omega | (simp only [go_sem]; omega))⟩ ?_) | (simp -dsimp (disch := omega) only [wrap_i64, wrap_u64, wrap_i32, wrap_u8])))
    refine CallX.of (awake10_spec ?_)
    (repeat (first | (simp -dsimp only [go_sem, sX_seq, Nat.reduceBEq, Int.reduceEq, Int.reduceNe, Int.reduceLT, Int.reduceLE, Nat.reduceAdd, Nat.reduceMul, Nat.reduceLeDiff, hoc, hw2c]) | (refine thawX_none ?_; simp -dsimp only [go_sem, sX_seq, Nat.reduceBEq, Int.reduceEq, Int.reduceNe, Int.reduceLT, Int.reduceLE, Nat.reduceAdd, Nat.reduceMul, Nat.reduceLeDiff, hoc, hw2c]; first | refine auto ?_ | refine NewX_intro (fun _ => ?_)) | (refine auto ?_) | (refine NewX_intro (fun _ => ?_)) | (refine autoI ⟨(by first | omega | (simp only [go_sem]; omega)), (by first | omega | (simp only [go_sem]; omega))⟩ ?_) | (simp -dsimp (disch := omega) only [wrap_i64, wrap_u64, wrap_i32, wrap_u8])))
    refine CallX.of (bytes_spec (xs := encL n2 l2) (ys := bs) encL_byte hb ?_)
    rw [decide_eq_true he.symm]
    (repeat (first | (simp -dsimp only [go_sem, sX_seq, Nat.reduceBEq, Int.reduceEq, Int.reduceNe, Int.reduceLT, Int.reduceLE, Nat.reduceAdd, Nat.reduceMul, Nat.reduceLeDiff, hoc, hw2c]) | (refine thawX_none ?_; simp -dsimp only [go_sem, sX_seq, Nat.reduceBEq, Int.reduceEq, Int.reduceNe, Int.reduceLT, Int.reduceLE, Nat.reduceAdd, Nat.reduceMul, Nat.reduceLeDiff, hoc, hw2c]; first | refine auto ?_ | refine NewX_intro (fun _ => ?_)) | (refine auto ?_) | (refine NewX_intro (fun _ => ?_)) | (refine autoI ⟨(by first | omega | (simp only [go_sem]; omega)), (by first | omega | (simp only [go_sem]; omega))⟩ ?_) | (simp -dsimp (disch := omega) only [wrap_i64, wrap_u64, wrap_i32, wrap_u8])))
    exact ⟨_, Ent.auto, hk⟩

end Go.SL
