/- The decoder of networks: what it comes to. -/
import Derived.Test.YtebcdnnfjcaofaaReaderRoad
set_option linter.unusedSimpArgs false
set_option linter.unusedVariables false
set_option maxRecDepth 100000
namespace Go.SL
open Go.Proofs

/-- A network's bytes behind the first. -/
def encB (n : Int) (l : List Arc3) : List Int := numL n.toNat ++ (numL l.length ++ arcsB l)
theorem encL_eq (n : Int) (l : List Arc3) : encL n l = 7 :: encB n l := by unfold encL encB; simp

theorem arcsB_cons (a : Arc3) (l : List Arc3) : arcsB (a :: l) = numL a.f.toNat ++ (numL a.t.toNat ++ (numL a.w.toNat ++ arcsB l)) := by
  unfold arcsB arcB; simp
theorem arcsB_snoc (l : List Arc3) (a : Arc3) : arcsB (l ++ [a]) = arcsB l ++ arcB a := by unfold arcsB; simp

/-- How far the reading is: k arcs are still to be read behind those that are done. -/
structure DecS (B : List Int) (n : Int) (k : Nat) (done : List Arc3) (at' : Nat) (e : Int) : Prop where
  inb : at' ≤ B.length
  snd : e = 0 → 0 ≤ n ∧ B = numL n.toNat ++ (numL (done.length + k) ++ (arcsB done ++ B.drop at'))
  cpl : ∀ n' l, RightP n' l → B = encB n' l → e = 0 ∧ n' = n ∧ l.length = done.length + k ∧ ∃ r, l = done ++ r ∧ B.drop at' = arcsB r

theorem DecS.start {B : List Int} {v k : Nat} {at1 at2 : Nat} {e1 e2 : Int} (h1 : OneRd B 0 0 4194304 v at1 e1) (h2 : OneRd B at1 e1 4194304 k at2 e2) : DecS B v k [] at2 e2 := by
  refine ⟨h2.inb, fun h => ?_, fun n' l hR hB => ?_⟩
  · obtain ⟨a1, a2⟩ := h2.ok h
    obtain ⟨b1, b2⟩ := h1.ok a1
    refine ⟨by omega, ?_⟩
    rw [List.drop_zero] at b2
    rw [Int.toNat_natCast]
    simp only [List.length_nil, Nat.zero_add, arcsB, List.map_nil, List.flatten_nil, List.nil_append]
    rw [← a2, ← b2]
  · have hn1 := hR.1.n1
    have hn0 := hR.1.n0
    have hll := hR.1.len
    unfold encB at hB
    have c1 : e1 = 0 := by
      refine Classical.byContradiction fun hc => ?_
      exact (h1.no hc).2.2 rfl n'.toNat _ (by omega) (by rw [List.drop_zero]; exact hB)
    obtain ⟨_, b2⟩ := h1.ok c1
    rw [List.drop_zero] at b2
    obtain ⟨e3, e4⟩ := numL_free (b2.symm.trans hB)
    have c2 : e2 = 0 := by
      refine Classical.byContradiction fun hc => ?_
      exact (h2.no hc).2.2 c1 l.length _ (by omega) e4
    obtain ⟨_, a2⟩ := h2.ok c2
    obtain ⟨e5, e6⟩ := numL_free (a2.symm.trans e4)
    exact ⟨c2, by omega, by simp; omega, l, rfl, e6⟩

theorem DecS.round {B : List Int} {n : Int} {k : Nat} {done : List Arc3} {at0 at1 at2 at3 : Nat} {e1 e2 e3 : Int} {f t w : Nat} (S : DecS B n (k + 1) done at0 0)
    (h1 : OneRd B at0 0 4194304 f at1 e1) (h2 : OneRd B at1 e1 4194304 t at2 e2) (h3 : OneRd B at2 e2 1048576 w at3 e3) : DecS B n k (done ++ [⟨f, t, w⟩]) at3 e3 := by
  refine ⟨h3.inb, fun h => ?_, fun n' l hR hB => ?_⟩
  · obtain ⟨a1, a2⟩ := h3.ok h
    obtain ⟨b1, b2⟩ := h2.ok a1
    obtain ⟨c1, c2⟩ := h1.ok b1
    obtain ⟨s1, s2⟩ := S.snd rfl
    refine ⟨s1, ?_⟩
    rw [arcsB_snoc]
    have : (done ++ [(⟨f, t, w⟩ : Arc3)]).length + k = done.length + (k + 1) := by simp; omega
    rw [this]
    have q : arcB ⟨f, t, w⟩ ++ B.drop at3 = B.drop at0 := by
      unfold arcB
      rw [c2, b2, a2]; simp
    rw [List.append_assoc, q]; exact s2
  · obtain ⟨_, d1, d2, r, d3, d4⟩ := S.cpl n' l hR hB
    cases r with
    | nil => rw [d3] at d2; simp at d2
    | cons a r =>
      have ha := hR.1.arc a (by rw [d3]; simp)
      have hn1 := hR.1.n1
      have k0 := ha.f0; have k1 := ha.f1; have k2 := ha.t0; have k3 := ha.t1; have k4 := ha.w0; have k5 := ha.w1
      rw [arcsB_cons] at d4
      have c1 : e1 = 0 := by
        refine Classical.byContradiction fun hc => ?_
        exact (h1.no hc).2.2 rfl _ _ (by omega) d4
      obtain ⟨_, b2⟩ := h1.ok c1
      obtain ⟨e3', e4⟩ := numL_free (b2.symm.trans d4)
      have c2 : e2 = 0 := by
        refine Classical.byContradiction fun hc => ?_
        exact (h2.no hc).2.2 c1 _ _ (by omega) e4
      obtain ⟨_, a2⟩ := h2.ok c2
      obtain ⟨e5, e6⟩ := numL_free (a2.symm.trans e4)
      have c3 : e3 = 0 := by
        refine Classical.byContradiction fun hc => ?_
        exact (h3.no hc).2.2 c2 _ _ (by omega) e6
      obtain ⟨_, a3⟩ := h3.ok c3
      obtain ⟨e7, e8⟩ := numL_free (a3.symm.trans e6)
      refine ⟨c3, d1, by simp; omega, r, ?_, e8⟩
      rw [d3]
      have : a = ⟨f, t, w⟩ := by
        obtain ⟨af, at', aw⟩ := a
        simp only at *
        congr 1 <;> omega
      rw [this]; simp

theorem DecS.yes {B : List Int} {n : Int} {done : List Arc3} {at' : Nat} (S : DecS B n 0 done at' 0) (h : B.length ≤ at') : B = encB n done := by
  obtain ⟨h1, h2⟩ := S.snd rfl
  rw [List.drop_eq_nil_of_le h, List.append_nil, Nat.add_zero] at h2
  exact h2
theorem DecS.no {B : List Int} {n : Int} {k : Nat} {done : List Arc3} {at' : Nat} {e : Int} (S : DecS B n k done at' e) (h : e ≠ 0 ∨ at' < B.length ∧ k = 0 ∨ ¬ RightP n done ∧ k = 0) : ∀ n' l, RightP n' l → B ≠ encB n' l := fun n' l hR hB => by
  obtain ⟨d0, d1, d2, r, d3, d4⟩ := S.cpl n' l hR hB
  rcases h with h | ⟨h, rfl⟩ | ⟨h, rfl⟩
  · exact h d0
  · have : r = [] := by
      rw [d3, List.length_append] at d2
      exact List.length_eq_zero_iff.1 (by omega)
    subst this
    have h3 := congrArg List.length d4
    rw [List.length_drop] at h3
    simp [arcsB] at h3; omega
  · have : r = [] := by
      rw [d3, List.length_append] at d2
      exact List.length_eq_zero_iff.1 (by omega)
    subst this
    rw [List.append_nil] at d3
    exact h (by rw [← d1, ← d3]; exact hR)

theorem decode_spec {L : List Chunk} {K : KVL} {s : Value} {bs : List Int} [RdS L s eU8 bs] (hb : ∀ b ∈ bs, 0 ≤ b ∧ b ≤ 255) (hl : bs.length ≤ 2000000000)
    (h1 : ∀ n l v, OneV v → RightP n l → bs = encL n l → K (.tuple #[.agg #[.int .i64 n, v], .int .i64 0]) (⟨v, sliceC eArc l⟩ :: L))
    (h0 : (∀ n l, RightP n l → bs ≠ encL n l) → ∀ e : Int, e ≠ 0 → K (.tuple #[.agg #[.int .i64 0, .slice none 0 0], .int .i64 e]) L) :
    CallW Try.prog 16 [s] L K := by
  refine CallW.ret ?_
  refine callX_of (by kernel_rfl) Try.func16 e16 (by exact Nat.le_of_ble_eq_true rfl) ?_
  (repeat (first | (simp -dsimp only [go_sem, sX_seq, Nat.reduceBEq, Int.reduceEq, Int.reduceNe, Int.reduceLT, Int.reduceLE, Nat.reduceAdd, Nat.reduceMul, Nat.reduceLeDiff]) | (refine thawX_none ?_; simp -dsimp only [go_sem, sX_seq, Nat.reduceBEq, Int.reduceEq, Int.reduceNe, Int.reduceLT, Int.reduceLE, Nat.reduceAdd, Nat.reduceMul, Nat.reduceLeDiff]; first | refine auto ?_ | refine NewX_intro (fun _ => ?_)) | (refine auto ?_) | (refine NewX_intro (fun _ => ?_)) | (refine autoI ⟨(by first | omega | (simp only [go_sem]; omega)), (by first | omega | (simp only [go_sem]; omega))⟩ ?_) | (simp -dsimp (disch := omega) only [wrap_i64, wrap_u64, wrap_i32, wrap_u8])))
  rename_i res
  first | refine condX_dec (fun c0 c0' => ?_) (fun c0 c0' => ?_) | refine condX_not (fun c0 c0' => ?_) (fun c0 c0' => ?_) | refine condX_mk (fun c0' => ?_) (fun c0' => ?_)
  · (repeat (first | (simp -dsimp only [go_sem, sX_seq, Nat.reduceBEq, Int.reduceEq, Int.reduceNe, Int.reduceLT, Int.reduceLE, Nat.reduceAdd, Nat.reduceMul, Nat.reduceLeDiff, c0']) | (refine thawX_none ?_; simp -dsimp only [go_sem, sX_seq, Nat.reduceBEq, Int.reduceEq, Int.reduceNe, Int.reduceLT, Int.reduceLE, Nat.reduceAdd, Nat.reduceMul, Nat.reduceLeDiff, c0']; first | refine auto ?_ | refine NewX_intro (fun _ => ?_)) | (refine auto ?_) | (refine NewX_intro (fun _ => ?_)) | (refine autoI ⟨(by first | omega | (simp only [go_sem]; omega)), (by first | omega | (simp only [go_sem]; omega))⟩ ?_) | (simp -dsimp (disch := omega) only [wrap_i64, wrap_u64, wrap_i32, wrap_u8])))
    refine ⟨_, Ent.auto, h0 (fun n l _ h => ?_) 9 (by decide)⟩
    rw [h, encL_eq] at c0; simp at c0; omega
  (repeat (first | (simp -dsimp only [go_sem, sX_seq, Nat.reduceBEq, Int.reduceEq, Int.reduceNe, Int.reduceLT, Int.reduceLE, Nat.reduceAdd, Nat.reduceMul, Nat.reduceLeDiff, c0']) | (refine thawX_none ?_; simp -dsimp only [go_sem, sX_seq, Nat.reduceBEq, Int.reduceEq, Int.reduceNe, Int.reduceLT, Int.reduceLE, Nat.reduceAdd, Nat.reduceMul, Nat.reduceLeDiff, c0']; first | refine auto ?_ | refine NewX_intro (fun _ => ?_)) | (refine auto ?_) | (refine NewX_intro (fun _ => ?_)) | (refine autoI ⟨(by first | omega | (simp only [go_sem]; omega)), (by first | omega | (simp only [go_sem]; omega))⟩ ?_) | (simp -dsimp (disch := omega) only [wrap_i64, wrap_u64, wrap_i32, wrap_u8])))
  first | refine LdX_elem (by rfl) ⟨(by first | omega | (simp only [go_sem]; omega)), (by first | omega | (simp only [go_sem]; omega))⟩ (fun x hx_ => ?_) | refine LdX_elemAt (by rfl) ⟨(by first | omega | (simp only [go_sem]; omega)), (by first | omega | (simp only [go_sem]; omega))⟩ (by decide) (fun x hx_ => ?_) | refine LdX_elem0 (by rfl) ⟨(by first | omega | (simp only [go_sem]; omega)), (by first | omega | (simp only [go_sem]; omega))⟩ (by decide) (fun x hx_ => ?_)
  have hx0 : bs[0]? = some x := hx_
  (repeat (first | (simp -dsimp only [go_sem, sX_seq, Nat.reduceBEq, Int.reduceEq, Int.reduceNe, Int.reduceLT, Int.reduceLE, Nat.reduceAdd, Nat.reduceMul, Nat.reduceLeDiff, c0']) | (refine thawX_none ?_; simp -dsimp only [go_sem, sX_seq, Nat.reduceBEq, Int.reduceEq, Int.reduceNe, Int.reduceLT, Int.reduceLE, Nat.reduceAdd, Nat.reduceMul, Nat.reduceLeDiff, c0']; first | refine auto ?_ | refine NewX_intro (fun _ => ?_)) | (refine auto ?_) | (refine NewX_intro (fun _ => ?_)) | (refine autoI ⟨(by first | omega | (simp only [go_sem]; omega)), (by first | omega | (simp only [go_sem]; omega))⟩ ?_) | (simp -dsimp (disch := omega) only [wrap_i64, wrap_u64, wrap_i32, wrap_u8])))
  refine condX_not (fun c1 c1' => ?_) (fun c1 c1' => ?_)
  · (repeat (first | (simp -dsimp only [go_sem, sX_seq, Nat.reduceBEq, Int.reduceEq, Int.reduceNe, Int.reduceLT, Int.reduceLE, Nat.reduceAdd, Nat.reduceMul, Nat.reduceLeDiff, c0', c1']) | (refine thawX_none ?_; simp -dsimp only [go_sem, sX_seq, Nat.reduceBEq, Int.reduceEq, Int.reduceNe, Int.reduceLT, Int.reduceLE, Nat.reduceAdd, Nat.reduceMul, Nat.reduceLeDiff, c0', c1']; first | refine auto ?_ | refine NewX_intro (fun _ => ?_)) | (refine auto ?_) | (refine NewX_intro (fun _ => ?_)) | (refine autoI ⟨(by first | omega | (simp only [go_sem]; omega)), (by first | omega | (simp only [go_sem]; omega))⟩ ?_) | (simp -dsimp (disch := omega) only [wrap_i64, wrap_u64, wrap_i32, wrap_u8])))
    refine ⟨_, Ent.auto, h0 (fun n l _ h => ?_) 10 (by decide)⟩
    rw [h, encL_eq] at hx0; simp at hx0; exact c1 hx0.symm
  subst c1
  (repeat (first | (simp -dsimp only [go_sem, sX_seq, Nat.reduceBEq, Int.reduceEq, Int.reduceNe, Int.reduceLT, Int.reduceLE, Nat.reduceAdd, Nat.reduceMul, Nat.reduceLeDiff, c0', c1']) | (refine thawX_none ?_; simp -dsimp only [go_sem, sX_seq, Nat.reduceBEq, Int.reduceEq, Int.reduceNe, Int.reduceLT, Int.reduceLE, Nat.reduceAdd, Nat.reduceMul, Nat.reduceLeDiff, c0', c1']; first | refine auto ?_ | refine NewX_intro (fun _ => ?_)) | (refine auto ?_) | (refine NewX_intro (fun _ => ?_)) | (refine autoI ⟨(by first | omega | (simp only [go_sem]; omega)), (by first | omega | (simp only [go_sem]; omega))⟩ ?_) | (simp -dsimp (disch := omega) only [wrap_i64, wrap_u64, wrap_i32, wrap_u8])))
  refine SlcX_from (E := eU8) (xs := bs) (by rfl) ⟨by omega, by omega⟩ (fun s2 os2 hs2 => ?_)
  have hbs : bs = 7 :: bs.drop 1 := by
    have := drop_cons hx0
    rw [List.drop_zero] at this
    exact this
  haveI hs3 : RdS (⟨res, cellsC [.int .i64 0, .slice none 0 0]⟩ :: L) s2 eU8 (bs.drop 1) := hs2
  clear hs2
  have hbB : ∀ b ∈ bs.drop 1, 0 ≤ b ∧ b ≤ 255 := fun b h => hb b (List.mem_of_mem_drop h)
  have hlB : (bs.drop 1).length = bs.length - 1 := List.length_drop
  have h0' : (∀ n l, RightP n l → bs.drop 1 ≠ encB n l) → ∀ n l, RightP n l → bs ≠ encL n l := fun h n l hR he => h n l hR (by rw [he, encL_eq]; rfl)
  have h1' : ∀ n l, bs.drop 1 = encB n l → bs = encL n l := fun n l h => by rw [hbs, h, encL_eq]
  generalize bs.drop 1 = B at *
  (repeat (first | (simp -dsimp only [go_sem, sX_seq, Nat.reduceBEq, Int.reduceEq, Int.reduceNe, Int.reduceLT, Int.reduceLE, Nat.reduceAdd, Nat.reduceMul, Nat.reduceLeDiff, c0', c1']) | (refine thawX_none ?_; simp -dsimp only [go_sem, sX_seq, Nat.reduceBEq, Int.reduceEq, Int.reduceNe, Int.reduceLT, Int.reduceLE, Nat.reduceAdd, Nat.reduceMul, Nat.reduceLeDiff, c0', c1']; first | refine auto ?_ | refine NewX_intro (fun _ => ?_)) | (refine auto ?_) | (refine NewX_intro (fun _ => ?_)) | (refine autoI ⟨(by first | omega | (simp only [go_sem]; omega)), (by first | omega | (simp only [go_sem]; omega))⟩ ?_) | (simp -dsimp (disch := omega) only [wrap_i64, wrap_u64, wrap_i32, wrap_u8])))
  refine CallX.of (codeNew_spec (bs := B) (by omega) (fun r bv => ?_))
  (repeat (first | (simp -dsimp only [go_sem, sX_seq, Nat.reduceBEq, Int.reduceEq, Int.reduceNe, Int.reduceLT, Int.reduceLE, Nat.reduceAdd, Nat.reduceMul, Nat.reduceLeDiff, c0', c1']) | (refine thawX_none ?_; simp -dsimp only [go_sem, sX_seq, Nat.reduceBEq, Int.reduceEq, Int.reduceNe, Int.reduceLT, Int.reduceLE, Nat.reduceAdd, Nat.reduceMul, Nat.reduceLeDiff, c0', c1']; first | refine auto ?_ | refine NewX_intro (fun _ => ?_)) | (refine auto ?_) | (refine NewX_intro (fun _ => ?_)) | (refine autoI ⟨(by first | omega | (simp only [go_sem]; omega)), (by first | omega | (simp only [go_sem]; omega))⟩ ?_) | (simp -dsimp (disch := omega) only [wrap_i64, wrap_u64, wrap_i32, wrap_u8])))
  refine CallX.of (small1_spec 4194304 rfl hbB (by omega) (by omega) (by omega) (fun v1 at1 e1 o1 => ?_))
  (repeat (first | (simp -dsimp only [go_sem, sX_seq, Nat.reduceBEq, Int.reduceEq, Int.reduceNe, Int.reduceLT, Int.reduceLE, Nat.reduceAdd, Nat.reduceMul, Nat.reduceLeDiff, c0', c1']) | (refine thawX_none ?_; simp -dsimp only [go_sem, sX_seq, Nat.reduceBEq, Int.reduceEq, Int.reduceNe, Int.reduceLT, Int.reduceLE, Nat.reduceAdd, Nat.reduceMul, Nat.reduceLeDiff, c0', c1']; first | refine auto ?_ | refine NewX_intro (fun _ => ?_)) | (refine auto ?_) | (refine NewX_intro (fun _ => ?_)) | (refine autoI ⟨(by first | omega | (simp only [go_sem]; omega)), (by first | omega | (simp only [go_sem]; omega))⟩ ?_) | (simp -dsimp (disch := omega) only [wrap_i64, wrap_u64, wrap_i32, wrap_u8])))
  rename_i q
  refine CallX.pull [⟨r, cellsC [bv, .int .i64 at1, .int .i64 e1]⟩, ⟨bv, sliceC eU8 B⟩] (small1_spec (R := _) 4194304 rfl hbB o1.inb (by omega) (by omega) (fun v2 at2 e2 o2 => ?_))
  (repeat (first | (simp -dsimp only [go_sem, sX_seq, Nat.reduceBEq, Int.reduceEq, Int.reduceNe, Int.reduceLT, Int.reduceLE, Nat.reduceAdd, Nat.reduceMul, Nat.reduceLeDiff, c0', c1']) | (refine thawX_none ?_; simp -dsimp only [go_sem, sX_seq, Nat.reduceBEq, Int.reduceEq, Int.reduceNe, Int.reduceLT, Int.reduceLE, Nat.reduceAdd, Nat.reduceMul, Nat.reduceLeDiff, c0', c1']; first | refine auto ?_ | refine NewX_intro (fun _ => ?_)) | (refine auto ?_) | (refine NewX_intro (fun _ => ?_)) | (refine autoI ⟨(by first | omega | (simp only [go_sem]; omega)), (by first | omega | (simp only [go_sem]; omega))⟩ ?_) | (simp -dsimp (disch := omega) only [wrap_i64, wrap_u64, wrap_i32, wrap_u8])))
  refine loopX_at [2, 4, 5] [6] (fun m vs L' => ∃ (k : Nat) (done : List Arc3) (at' : Nat) (e : Int) (w : Value), vs = [.int .i64 k] ∧ m = k ∧ OneV w ∧ done.length + k ≤ 4194304 ∧ DecS B v1 k done at' e ∧
      L' = ⟨w, sliceC eArc done⟩ :: rdrL r bv B at' e (⟨q, cellsC [.int .i64 v1, w]⟩ :: ⟨res, cellsC [.int .i64 0, .slice none 0 0]⟩ :: L)) _ (by rfl) ⟨_, Ent.nilS (E := eArc), v2, [], at2, e2, .slice none 0 0, rfl, rfl, OneV.slice, by simpa using o2.le, DecS.start o1 o2, rfl⟩ ?_
  rintro k vs L' f ⟨_, done, at', e, w, rfl, rfl, ow, hk, S, rfl⟩
  haveI : One1 w := ⟨ow⟩
  have hwc : Value.cellsL w = [w] := ow.cells
  (repeat (first | (simp -dsimp only [go_sem, sX_seq, Nat.reduceBEq, Int.reduceEq, Int.reduceNe, Int.reduceLT, Int.reduceLE, Nat.reduceAdd, Nat.reduceMul, Nat.reduceLeDiff, c0', c1', hwc]) | (refine thawX_none ?_; simp -dsimp only [go_sem, sX_seq, Nat.reduceBEq, Int.reduceEq, Int.reduceNe, Int.reduceLT, Int.reduceLE, Nat.reduceAdd, Nat.reduceMul, Nat.reduceLeDiff, c0', c1', hwc]; first | refine auto ?_ | refine NewX_intro (fun _ => ?_)) | (refine auto ?_) | (refine NewX_intro (fun _ => ?_)) | (refine autoI ⟨(by first | omega | (simp only [go_sem]; omega)), (by first | omega | (simp only [go_sem]; omega))⟩ ?_) | (simp -dsimp (disch := omega) only [wrap_i64, wrap_u64, wrap_i32, wrap_u8])))
  refine condX_dec (fun c2 q2 => ?_) (fun c2 q2 => ?_)
  · (repeat (first | (simp -dsimp only [go_sem, sX_seq, Nat.reduceBEq, Int.reduceEq, Int.reduceNe, Int.reduceLT, Int.reduceLE, Nat.reduceAdd, Nat.reduceMul, Nat.reduceLeDiff, c0', c1', hwc, q2]) | (refine thawX_none ?_; simp -dsimp only [go_sem, sX_seq, Nat.reduceBEq, Int.reduceEq, Int.reduceNe, Int.reduceLT, Int.reduceLE, Nat.reduceAdd, Nat.reduceMul, Nat.reduceLeDiff, c0', c1', hwc, q2]; first | refine auto ?_ | refine NewX_intro (fun _ => ?_)) | (refine auto ?_) | (refine NewX_intro (fun _ => ?_)) | (refine autoI ⟨(by first | omega | (simp only [go_sem]; omega)), (by first | omega | (simp only [go_sem]; omega))⟩ ?_) | (simp -dsimp (disch := omega) only [wrap_i64, wrap_u64, wrap_i32, wrap_u8])))
    refine CallX.pull [⟨r, cellsC [bv, .int .i64 at', .int .i64 e]⟩, ⟨bv, sliceC eU8 B⟩] (err_spec (R := _) ?_)
    (repeat (first | (simp -dsimp only [go_sem, sX_seq, Nat.reduceBEq, Int.reduceEq, Int.reduceNe, Int.reduceLT, Int.reduceLE, Nat.reduceAdd, Nat.reduceMul, Nat.reduceLeDiff, c0', c1', hwc, q2]) | (refine thawX_none ?_; simp -dsimp only [go_sem, sX_seq, Nat.reduceBEq, Int.reduceEq, Int.reduceNe, Int.reduceLT, Int.reduceLE, Nat.reduceAdd, Nat.reduceMul, Nat.reduceLeDiff, c0', c1', hwc, q2]; first | refine auto ?_ | refine NewX_intro (fun _ => ?_)) | (refine auto ?_) | (refine NewX_intro (fun _ => ?_)) | (refine autoI ⟨(by first | omega | (simp only [go_sem]; omega)), (by first | omega | (simp only [go_sem]; omega))⟩ ?_) | (simp -dsimp (disch := omega) only [wrap_i64, wrap_u64, wrap_i32, wrap_u8])))
    refine condX_dec (fun c3 q3 => ?_) (fun c3 q3 => ?_)
    · subst c3
      obtain ⟨k, rfl⟩ : ∃ k', k = k' + 1 := ⟨k - 1, by omega⟩
      (repeat (first | (simp -dsimp only [go_sem, sX_seq, Nat.reduceBEq, Int.reduceEq, Int.reduceNe, Int.reduceLT, Int.reduceLE, Nat.reduceAdd, Nat.reduceMul, Nat.reduceLeDiff, c0', c1', hwc, q2, q3]) | (refine thawX_none ?_; simp -dsimp only [go_sem, sX_seq, Nat.reduceBEq, Int.reduceEq, Int.reduceNe, Int.reduceLT, Int.reduceLE, Nat.reduceAdd, Nat.reduceMul, Nat.reduceLeDiff, c0', c1', hwc, q2, q3]; first | refine auto ?_ | refine NewX_intro (fun _ => ?_)) | (refine auto ?_) | (refine NewX_intro (fun _ => ?_)) | (refine autoI ⟨(by first | omega | (simp only [go_sem]; omega)), (by first | omega | (simp only [go_sem]; omega))⟩ ?_) | (simp -dsimp (disch := omega) only [wrap_i64, wrap_u64, wrap_i32, wrap_u8])))
      refine thawX_keep [⟨q, cellsC [.int .i64 v1, w]⟩] (by (repeat' (first | (simp -dsimp only [go_sem, sX_seq, Nat.reduceBEq, Int.reduceEq, Int.reduceNe, Int.reduceLT, Int.reduceLE, Nat.reduceAdd, Nat.reduceMul, Nat.reduceLeDiff, c0', c1', hwc, Option.some.injEq, forall_eq', eq_self]) | (refine altX.mk' ?_ ?_) | (refine auto ?_) | (refine autoI ⟨(by first | omega | (simp only [go_sem]; omega)), (by first | omega | (simp only [go_sem]; omega))⟩ ?_) | (refine SlcX_hi (by omega) ?_) | (refine SlcX_litL (by omega) (by omega) ?_) | (refine SlcX_litLH (by omega) (by omega) ?_) | exact trivial))) ?_
      (repeat (first | (simp -dsimp only [go_sem, sX_seq, Nat.reduceBEq, Int.reduceEq, Int.reduceNe, Int.reduceLT, Int.reduceLE, Nat.reduceAdd, Nat.reduceMul, Nat.reduceLeDiff, c0', c1', hwc]) | (refine thawX_none ?_; simp -dsimp only [go_sem, sX_seq, Nat.reduceBEq, Int.reduceEq, Int.reduceNe, Int.reduceLT, Int.reduceLE, Nat.reduceAdd, Nat.reduceMul, Nat.reduceLeDiff, c0', c1', hwc]; first | refine auto ?_ | refine NewX_intro (fun _ => ?_)) | (refine auto ?_) | (refine NewX_intro (fun _ => ?_)) | (refine autoI ⟨(by first | omega | (simp only [go_sem]; omega)), (by first | omega | (simp only [go_sem]; omega))⟩ ?_) | (simp -dsimp (disch := omega) only [wrap_i64, wrap_u64, wrap_i32, wrap_u8])))
      refine CallX.pull [⟨r, cellsC [bv, .int .i64 at', .int .i64 0]⟩, ⟨bv, sliceC eU8 B⟩] (small1_spec (R := _) 4194304 rfl hbB S.inb (by omega) (by omega) (fun vf atf ef of => ?_))
      (repeat (first | (simp -dsimp only [go_sem, sX_seq, Nat.reduceBEq, Int.reduceEq, Int.reduceNe, Int.reduceLT, Int.reduceLE, Nat.reduceAdd, Nat.reduceMul, Nat.reduceLeDiff, c0', c1', hwc]) | (refine thawX_none ?_; simp -dsimp only [go_sem, sX_seq, Nat.reduceBEq, Int.reduceEq, Int.reduceNe, Int.reduceLT, Int.reduceLE, Nat.reduceAdd, Nat.reduceMul, Nat.reduceLeDiff, c0', c1', hwc]; first | refine auto ?_ | refine NewX_intro (fun _ => ?_)) | (refine auto ?_) | (refine NewX_intro (fun _ => ?_)) | (refine autoI ⟨(by first | omega | (simp only [go_sem]; omega)), (by first | omega | (simp only [go_sem]; omega))⟩ ?_) | (simp -dsimp (disch := omega) only [wrap_i64, wrap_u64, wrap_i32, wrap_u8])))
      refine thawX_none ?_
      (repeat (first | (simp -dsimp only [go_sem, sX_seq, Nat.reduceBEq, Int.reduceEq, Int.reduceNe, Int.reduceLT, Int.reduceLE, Nat.reduceAdd, Nat.reduceMul, Nat.reduceLeDiff, c0', c1', hwc]) | (refine thawX_none ?_; simp -dsimp only [go_sem, sX_seq, Nat.reduceBEq, Int.reduceEq, Int.reduceNe, Int.reduceLT, Int.reduceLE, Nat.reduceAdd, Nat.reduceMul, Nat.reduceLeDiff, c0', c1', hwc]; first | refine auto ?_ | refine NewX_intro (fun _ => ?_)) | (refine auto ?_) | (refine NewX_intro (fun _ => ?_)) | (refine autoI ⟨(by first | omega | (simp only [go_sem]; omega)), (by first | omega | (simp only [go_sem]; omega))⟩ ?_) | (simp -dsimp (disch := omega) only [wrap_i64, wrap_u64, wrap_i32, wrap_u8])))
      refine CallX.pull [⟨r, cellsC [bv, .int .i64 atf, .int .i64 ef]⟩, ⟨bv, sliceC eU8 B⟩] (small1_spec (R := _) 4194304 rfl hbB of.inb (by omega) (by omega) (fun vt att et ot => ?_))
      (repeat (first | (simp -dsimp only [go_sem, sX_seq, Nat.reduceBEq, Int.reduceEq, Int.reduceNe, Int.reduceLT, Int.reduceLE, Nat.reduceAdd, Nat.reduceMul, Nat.reduceLeDiff, c0', c1', hwc]) | (refine thawX_none ?_; simp -dsimp only [go_sem, sX_seq, Nat.reduceBEq, Int.reduceEq, Int.reduceNe, Int.reduceLT, Int.reduceLE, Nat.reduceAdd, Nat.reduceMul, Nat.reduceLeDiff, c0', c1', hwc]; first | refine auto ?_ | refine NewX_intro (fun _ => ?_)) | (refine auto ?_) | (refine NewX_intro (fun _ => ?_)) | (refine autoI ⟨(by first | omega | (simp only [go_sem]; omega)), (by first | omega | (simp only [go_sem]; omega))⟩ ?_) | (simp -dsimp (disch := omega) only [wrap_i64, wrap_u64, wrap_i32, wrap_u8])))
      refine thawX_none ?_
      (repeat (first | (simp -dsimp only [go_sem, sX_seq, Nat.reduceBEq, Int.reduceEq, Int.reduceNe, Int.reduceLT, Int.reduceLE, Nat.reduceAdd, Nat.reduceMul, Nat.reduceLeDiff, c0', c1', hwc]) | (refine thawX_none ?_; simp -dsimp only [go_sem, sX_seq, Nat.reduceBEq, Int.reduceEq, Int.reduceNe, Int.reduceLT, Int.reduceLE, Nat.reduceAdd, Nat.reduceMul, Nat.reduceLeDiff, c0', c1', hwc]; first | refine auto ?_ | refine NewX_intro (fun _ => ?_)) | (refine auto ?_) | (refine NewX_intro (fun _ => ?_)) | (refine autoI ⟨(by first | omega | (simp only [go_sem]; omega)), (by first | omega | (simp only [go_sem]; omega))⟩ ?_) | (simp -dsimp (disch := omega) only [wrap_i64, wrap_u64, wrap_i32, wrap_u8])))
      refine CallX.pull [⟨r, cellsC [bv, .int .i64 att, .int .i64 et]⟩, ⟨bv, sliceC eU8 B⟩] (small1_spec (R := _) 1048576 rfl hbB ot.inb (by omega) (by omega) (fun vw atw ew ow2 => ?_))
      (repeat (first | (simp -dsimp only [go_sem, sX_seq, Nat.reduceBEq, Int.reduceEq, Int.reduceNe, Int.reduceLT, Int.reduceLE, Nat.reduceAdd, Nat.reduceMul, Nat.reduceLeDiff, c0', c1', hwc]) | (refine thawX_none ?_; simp -dsimp only [go_sem, sX_seq, Nat.reduceBEq, Int.reduceEq, Int.reduceNe, Int.reduceLT, Int.reduceLE, Nat.reduceAdd, Nat.reduceMul, Nat.reduceLeDiff, c0', c1', hwc]; first | refine auto ?_ | refine NewX_intro (fun _ => ?_)) | (refine auto ?_) | (refine NewX_intro (fun _ => ?_)) | (refine autoI ⟨(by first | omega | (simp only [go_sem]; omega)), (by first | omega | (simp only [go_sem]; omega))⟩ ?_) | (simp -dsimp (disch := omega) only [wrap_i64, wrap_u64, wrap_i32, wrap_u8])))
      refine thawX_none ?_
      (repeat (first | (simp -dsimp only [go_sem, sX_seq, Nat.reduceBEq, Int.reduceEq, Int.reduceNe, Int.reduceLT, Int.reduceLE, Nat.reduceAdd, Nat.reduceMul, Nat.reduceLeDiff, c0', c1', hwc]) | (refine thawX_none ?_; simp -dsimp only [go_sem, sX_seq, Nat.reduceBEq, Int.reduceEq, Int.reduceNe, Int.reduceLT, Int.reduceLE, Nat.reduceAdd, Nat.reduceMul, Nat.reduceLeDiff, c0', c1', hwc]; first | refine auto ?_ | refine NewX_intro (fun _ => ?_)) | (refine auto ?_) | (refine NewX_intro (fun _ => ?_)) | (refine autoI ⟨(by first | omega | (simp only [go_sem]; omega)), (by first | omega | (simp only [go_sem]; omega))⟩ ?_) | (simp -dsimp (disch := omega) only [wrap_i64, wrap_u64, wrap_i32, wrap_u8])))
      refine BldSX_intro (E := eArc) (xs := [⟨vf, vt, vw⟩]) (by rfl) (by rfl) (fun ev _ => ?_)
      (repeat (first | (simp -dsimp only [go_sem, sX_seq, Nat.reduceBEq, Int.reduceEq, Int.reduceNe, Int.reduceLT, Int.reduceLE, Nat.reduceAdd, Nat.reduceMul, Nat.reduceLeDiff, c0', c1', hwc]) | (refine thawX_none ?_; simp -dsimp only [go_sem, sX_seq, Nat.reduceBEq, Int.reduceEq, Int.reduceNe, Int.reduceLT, Int.reduceLE, Nat.reduceAdd, Nat.reduceMul, Nat.reduceLeDiff, c0', c1', hwc]; first | refine auto ?_ | refine NewX_intro (fun _ => ?_)) | (refine auto ?_) | (refine NewX_intro (fun _ => ?_)) | (refine autoI ⟨(by first | omega | (simp only [go_sem]; omega)), (by first | omega | (simp only [go_sem]; omega))⟩ ?_) | (simp -dsimp (disch := omega) only [wrap_i64, wrap_u64, wrap_i32, wrap_u8])))
      refine AppX_take (E := eArc) (xs := done) (ys := [⟨vf, vt, vw⟩]) (by rfl) (by rfl) (by simp only [List.length_singleton]; omega) (by simp only [List.length_singleton]; omega) (fun w' ow3 => ?_)
      haveI : One1 w' := ⟨ow3⟩
      have hwc' : Value.cellsL w' = [w'] := ow3.cells
      (repeat (first | (simp -dsimp only [go_sem, sX_seq, Nat.reduceBEq, Int.reduceEq, Int.reduceNe, Int.reduceLT, Int.reduceLE, Nat.reduceAdd, Nat.reduceMul, Nat.reduceLeDiff, c0', c1', hwc, hwc']) | (refine thawX_none ?_; simp -dsimp only [go_sem, sX_seq, Nat.reduceBEq, Int.reduceEq, Int.reduceNe, Int.reduceLT, Int.reduceLE, Nat.reduceAdd, Nat.reduceMul, Nat.reduceLeDiff, c0', c1', hwc, hwc']; first | refine auto ?_ | refine NewX_intro (fun _ => ?_)) | (refine auto ?_) | (refine NewX_intro (fun _ => ?_)) | (refine autoI ⟨(by first | omega | (simp only [go_sem]; omega)), (by first | omega | (simp only [go_sem]; omega))⟩ ?_) | (simp -dsimp (disch := omega) only [wrap_i64, wrap_u64, wrap_i32, wrap_u8])))
      refine ⟨_, ?_, _, Ent.auto, k, done ++ [⟨vf, vt, vw⟩], atw, ew, w', by simp, rfl, ow3, by simp; omega, S.round of ot ow2, rfl⟩
      omega
    · (repeat (first | (simp -dsimp only [go_sem, sX_seq, Nat.reduceBEq, Int.reduceEq, Int.reduceNe, Int.reduceLT, Int.reduceLE, Nat.reduceAdd, Nat.reduceMul, Nat.reduceLeDiff, c0', c1', hwc, q2, q3]) | (refine thawX_none ?_; simp -dsimp only [go_sem, sX_seq, Nat.reduceBEq, Int.reduceEq, Int.reduceNe, Int.reduceLT, Int.reduceLE, Nat.reduceAdd, Nat.reduceMul, Nat.reduceLeDiff, c0', c1', hwc, q2, q3]; first | refine auto ?_ | refine NewX_intro (fun _ => ?_)) | (refine auto ?_) | (refine NewX_intro (fun _ => ?_)) | (refine autoI ⟨(by first | omega | (simp only [go_sem]; omega)), (by first | omega | (simp only [go_sem]; omega))⟩ ?_) | (simp -dsimp (disch := omega) only [wrap_i64, wrap_u64, wrap_i32, wrap_u8])))
      refine CallX.of (err_spec (R := _) ?_)
      have hne : decide (e = 0) = false := decide_eq_false c3
      (repeat (first | (simp -dsimp only [go_sem, sX_seq, Nat.reduceBEq, Int.reduceEq, Int.reduceNe, Int.reduceLT, Int.reduceLE, Nat.reduceAdd, Nat.reduceMul, Nat.reduceLeDiff, c0', c1', hwc, hne]) | (refine thawX_none ?_; simp -dsimp only [go_sem, sX_seq, Nat.reduceBEq, Int.reduceEq, Int.reduceNe, Int.reduceLT, Int.reduceLE, Nat.reduceAdd, Nat.reduceMul, Nat.reduceLeDiff, c0', c1', hwc, hne]; first | refine auto ?_ | refine NewX_intro (fun _ => ?_)) | (refine auto ?_) | (refine NewX_intro (fun _ => ?_)) | (refine autoI ⟨(by first | omega | (simp only [go_sem]; omega)), (by first | omega | (simp only [go_sem]; omega))⟩ ?_) | (simp -dsimp (disch := omega) only [wrap_i64, wrap_u64, wrap_i32, wrap_u8])))
      exact ⟨_, Ent.auto, h0 (h0' (S.no (.inl c3))) e c3⟩
  · obtain rfl : k = 0 := by omega
    (repeat (first | (simp -dsimp only [go_sem, sX_seq, Nat.reduceBEq, Int.reduceEq, Int.reduceNe, Int.reduceLT, Int.reduceLE, Nat.reduceAdd, Nat.reduceMul, Nat.reduceLeDiff, c0', c1', hwc, q2]) | (refine thawX_none ?_; simp -dsimp only [go_sem, sX_seq, Nat.reduceBEq, Int.reduceEq, Int.reduceNe, Int.reduceLT, Int.reduceLE, Nat.reduceAdd, Nat.reduceMul, Nat.reduceLeDiff, c0', c1', hwc, q2]; first | refine auto ?_ | refine NewX_intro (fun _ => ?_)) | (refine auto ?_) | (refine NewX_intro (fun _ => ?_)) | (refine autoI ⟨(by first | omega | (simp only [go_sem]; omega)), (by first | omega | (simp only [go_sem]; omega))⟩ ?_) | (simp -dsimp (disch := omega) only [wrap_i64, wrap_u64, wrap_i32, wrap_u8])))
    refine CallX.pull [⟨r, cellsC [bv, .int .i64 at', .int .i64 e]⟩, ⟨bv, sliceC eU8 B⟩] (err_spec (R := _) ?_)
    (repeat (first | (simp -dsimp only [go_sem, sX_seq, Nat.reduceBEq, Int.reduceEq, Int.reduceNe, Int.reduceLT, Int.reduceLE, Nat.reduceAdd, Nat.reduceMul, Nat.reduceLeDiff, c0', c1', hwc]) | (refine thawX_none ?_; simp -dsimp only [go_sem, sX_seq, Nat.reduceBEq, Int.reduceEq, Int.reduceNe, Int.reduceLT, Int.reduceLE, Nat.reduceAdd, Nat.reduceMul, Nat.reduceLeDiff, c0', c1', hwc]; first | refine auto ?_ | refine NewX_intro (fun _ => ?_)) | (refine auto ?_) | (refine NewX_intro (fun _ => ?_)) | (refine autoI ⟨(by first | omega | (simp only [go_sem]; omega)), (by first | omega | (simp only [go_sem]; omega))⟩ ?_) | (simp -dsimp (disch := omega) only [wrap_i64, wrap_u64, wrap_i32, wrap_u8])))
    refine condX_not (fun c3 c3' => ?_) (fun c3 c3' => ?_)
    · (repeat (first | (simp -dsimp only [go_sem, sX_seq, Nat.reduceBEq, Int.reduceEq, Int.reduceNe, Int.reduceLT, Int.reduceLE, Nat.reduceAdd, Nat.reduceMul, Nat.reduceLeDiff, c0', c1', hwc, c3']) | (refine thawX_none ?_; simp -dsimp only [go_sem, sX_seq, Nat.reduceBEq, Int.reduceEq, Int.reduceNe, Int.reduceLT, Int.reduceLE, Nat.reduceAdd, Nat.reduceMul, Nat.reduceLeDiff, c0', c1', hwc, c3']; first | refine auto ?_ | refine NewX_intro (fun _ => ?_)) | (refine auto ?_) | (refine NewX_intro (fun _ => ?_)) | (refine autoI ⟨(by first | omega | (simp only [go_sem]; omega)), (by first | omega | (simp only [go_sem]; omega))⟩ ?_) | (simp -dsimp (disch := omega) only [wrap_i64, wrap_u64, wrap_i32, wrap_u8])))
      exact ⟨_, Ent.auto, h0 (h0' (S.no (.inl c3))) e c3⟩
    subst c3
    (repeat (first | (simp -dsimp only [go_sem, sX_seq, Nat.reduceBEq, Int.reduceEq, Int.reduceNe, Int.reduceLT, Int.reduceLE, Nat.reduceAdd, Nat.reduceMul, Nat.reduceLeDiff, c0', c1', hwc, c3']) | (refine thawX_none ?_; simp -dsimp only [go_sem, sX_seq, Nat.reduceBEq, Int.reduceEq, Int.reduceNe, Int.reduceLT, Int.reduceLE, Nat.reduceAdd, Nat.reduceMul, Nat.reduceLeDiff, c0', c1', hwc, c3']; first | refine auto ?_ | refine NewX_intro (fun _ => ?_)) | (refine auto ?_) | (refine NewX_intro (fun _ => ?_)) | (refine autoI ⟨(by first | omega | (simp only [go_sem]; omega)), (by first | omega | (simp only [go_sem]; omega))⟩ ?_) | (simp -dsimp (disch := omega) only [wrap_i64, wrap_u64, wrap_i32, wrap_u8])))
    refine CallX.of (right_spec (n := v1) (l := done) (by omega) (fun hR => ?_) (fun hR => ?_))
    rotate_left
    · (repeat (first | (simp -dsimp only [go_sem, sX_seq, Nat.reduceBEq, Int.reduceEq, Int.reduceNe, Int.reduceLT, Int.reduceLE, Nat.reduceAdd, Nat.reduceMul, Nat.reduceLeDiff, c0', c1', hwc, c3']) | (refine thawX_none ?_; simp -dsimp only [go_sem, sX_seq, Nat.reduceBEq, Int.reduceEq, Int.reduceNe, Int.reduceLT, Int.reduceLE, Nat.reduceAdd, Nat.reduceMul, Nat.reduceLeDiff, c0', c1', hwc, c3']; first | refine auto ?_ | refine NewX_intro (fun _ => ?_)) | (refine auto ?_) | (refine NewX_intro (fun _ => ?_)) | (refine autoI ⟨(by first | omega | (simp only [go_sem]; omega)), (by first | omega | (simp only [go_sem]; omega))⟩ ?_) | (simp -dsimp (disch := omega) only [wrap_i64, wrap_u64, wrap_i32, wrap_u8])))
      exact ⟨_, Ent.auto, h0 (h0' (S.no (.inr (.inr ⟨hR, rfl⟩)))) 10 (by decide)⟩
    (repeat (first | (simp -dsimp only [go_sem, sX_seq, Nat.reduceBEq, Int.reduceEq, Int.reduceNe, Int.reduceLT, Int.reduceLE, Nat.reduceAdd, Nat.reduceMul, Nat.reduceLeDiff, c0', c1', hwc, c3']) | (refine thawX_none ?_; simp -dsimp only [go_sem, sX_seq, Nat.reduceBEq, Int.reduceEq, Int.reduceNe, Int.reduceLT, Int.reduceLE, Nat.reduceAdd, Nat.reduceMul, Nat.reduceLeDiff, c0', c1', hwc, c3']; first | refine auto ?_ | refine NewX_intro (fun _ => ?_)) | (refine auto ?_) | (refine NewX_intro (fun _ => ?_)) | (refine autoI ⟨(by first | omega | (simp only [go_sem]; omega)), (by first | omega | (simp only [go_sem]; omega))⟩ ?_) | (simp -dsimp (disch := omega) only [wrap_i64, wrap_u64, wrap_i32, wrap_u8])))
    refine CallX.pull [⟨r, cellsC [bv, .int .i64 at', .int .i64 0]⟩, ⟨bv, sliceC eU8 B⟩] (left_spec (R := _) S.inb (by omega) ?_)
    (repeat (first | (simp -dsimp only [go_sem, sX_seq, Nat.reduceBEq, Int.reduceEq, Int.reduceNe, Int.reduceLT, Int.reduceLE, Nat.reduceAdd, Nat.reduceMul, Nat.reduceLeDiff, c0', c1', hwc, c3']) | (refine thawX_none ?_; simp -dsimp only [go_sem, sX_seq, Nat.reduceBEq, Int.reduceEq, Int.reduceNe, Int.reduceLT, Int.reduceLE, Nat.reduceAdd, Nat.reduceMul, Nat.reduceLeDiff, c0', c1', hwc, c3']; first | refine auto ?_ | refine NewX_intro (fun _ => ?_)) | (refine auto ?_) | (refine NewX_intro (fun _ => ?_)) | (refine autoI ⟨(by first | omega | (simp only [go_sem]; omega)), (by first | omega | (simp only [go_sem]; omega))⟩ ?_) | (simp -dsimp (disch := omega) only [wrap_i64, wrap_u64, wrap_i32, wrap_u8])))
    refine condX_dec (fun c4 q4 => ?_) (fun c4 q4 => ?_)
    · (repeat (first | (simp -dsimp only [go_sem, sX_seq, Nat.reduceBEq, Int.reduceEq, Int.reduceNe, Int.reduceLT, Int.reduceLE, Nat.reduceAdd, Nat.reduceMul, Nat.reduceLeDiff, c0', c1', hwc, c3', q4]) | (refine thawX_none ?_; simp -dsimp only [go_sem, sX_seq, Nat.reduceBEq, Int.reduceEq, Int.reduceNe, Int.reduceLT, Int.reduceLE, Nat.reduceAdd, Nat.reduceMul, Nat.reduceLeDiff, c0', c1', hwc, c3', q4]; first | refine auto ?_ | refine NewX_intro (fun _ => ?_)) | (refine auto ?_) | (refine NewX_intro (fun _ => ?_)) | (refine autoI ⟨(by first | omega | (simp only [go_sem]; omega)), (by first | omega | (simp only [go_sem]; omega))⟩ ?_) | (simp -dsimp (disch := omega) only [wrap_i64, wrap_u64, wrap_i32, wrap_u8])))
      exact ⟨_, Ent.auto, h0 (h0' (S.no (.inr (.inl ⟨by omega, rfl⟩)))) 10 (by decide)⟩
    · (repeat (first | (simp -dsimp only [go_sem, sX_seq, Nat.reduceBEq, Int.reduceEq, Int.reduceNe, Int.reduceLT, Int.reduceLE, Nat.reduceAdd, Nat.reduceMul, Nat.reduceLeDiff, c0', c1', hwc, c3', q4]) | (refine thawX_none ?_; simp -dsimp only [go_sem, sX_seq, Nat.reduceBEq, Int.reduceEq, Int.reduceNe, Int.reduceLT, Int.reduceLE, Nat.reduceAdd, Nat.reduceMul, Nat.reduceLeDiff, c0', c1', hwc, c3', q4]; first | refine auto ?_ | refine NewX_intro (fun _ => ?_)) | (refine auto ?_) | (refine NewX_intro (fun _ => ?_)) | (refine autoI ⟨(by first | omega | (simp only [go_sem]; omega)), (by first | omega | (simp only [go_sem]; omega))⟩ ?_) | (simp -dsimp (disch := omega) only [wrap_i64, wrap_u64, wrap_i32, wrap_u8])))
      exact ⟨_, Ent.auto, h1 v1 done w ow hR (h1' _ _ (S.yes (by omega)))⟩

end Go.SL
