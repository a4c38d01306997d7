/- Numbers as bytes, and networks as bytes: what the two encoders come to. -/
import Derived.Test.YtebcdnnfjcaofaaRefRoad2
set_option linter.unusedSimpArgs false
set_option linter.unusedVariables false
set_option maxRecDepth 100000
namespace Go.SL
open Go.Proofs

/-- A number as bytes. -/
def numL (v : Nat) : List Int := if v < 128 then [(v : Int)] else ((v % 128 + 128 : Nat) : Int) :: numL (v / 128)
decreasing_by omega
theorem numL_small {v : Nat} (h : v < 128) : numL v = [(v : Int)] := by rw [numL, if_pos h]
theorem numL_big {v : Nat} (h : ¬ v < 128) : numL v = ((v % 128 + 128 : Nat) : Int) :: numL (v / 128) := by rw [numL, if_neg h]
theorem numL_len : ∀ (n v : Nat), v < 128 ^ (n + 1) → (numL v).length ≤ n + 1 := by
  intro n
  induction n with
  | zero => intro v h; rw [numL_small (by simpa using h)]; simp
  | succ n ih =>
    intro v h
    by_cases c : v < 128
    · rw [numL_small c]; simp
    · rw [numL_big c]
      have := ih (v / 128) (by rw [Nat.div_lt_iff_lt_mul (by omega)]; rw [Nat.pow_succ] at h; exact h)
      simp; omega
theorem numL_byte : ∀ (v : Nat), ∀ b ∈ numL v, 0 ≤ b ∧ b ≤ 255 := by
  intro v
  induction v using Nat.strongRecOn with
  | _ v ih =>
    intro b hb
    by_cases c : v < 128
    · rw [numL_small c] at hb; simp at hb; omega
    · rw [numL_big c] at hb
      rcases List.mem_cons.1 hb with h | h
      · omega
      · exact ih (v / 128) (by omega) b h

theorem or128 : ∀ n, n < 256 → (BitVec.ofNat 8 n ||| 128#8).toNat = n % 128 + 128 := by decide
@[go_sem] theorem binV_or128 (v : Nat) : binV .or (.int .u8 (IntKind.u8.wrap v)) (.int .u8 128) = some (.int .u8 ((v % 128 + 128 : Nat) : Int)) := by
  have hw : IntKind.u8.wrap v = ((v % 256 : Nat) : Int) := by
    simp [IntKind.wrap, IntKind.bits, IntKind.signed]
  have h8 : BitVec.ofInt 8 ((v % 256 : Nat) : Int) = BitVec.ofNat 8 (v % 256) := by
    exact BitVec.ofInt_natCast _ _
  have := or128 (v % 256) (by omega)
  have e : (BitVec.ofInt IntKind.u8.bits (IntKind.u8.wrap v) ||| BitVec.ofInt IntKind.u8.bits 128).toNat = v % 128 + 128 := by
    rw [hw]
    show (BitVec.ofInt 8 ((v % 256 : Nat) : Int) ||| 128#8).toNat = _
    rw [h8, this]; omega
  show (if IntKind.u8 = IntKind.u8 then some (Value.int .u8 (IntKind.u8.wrap _)) else none) = _
  rw [if_pos rfl, e, wrap_u8 (by omega) (by omega)]
@[go_sem] theorem binV_shr7 {k' : IntKind} {a : Nat} : binV .shr (.int .u64 a) (.int k' 7) = some (.int .u64 ((a / 128 : Nat) : Int)) := by
  show some (Value.int .u64 ((a : Int).fdiv 128)) = _
  rw [Int.fdiv_eq_ediv_of_nonneg _ (by omega)]; rfl

theorem refNum_spec {L : List Chunk} {K : KVL} {v : Nat} (hv : v < 18446744073709551616) (hk : ∀ o, OneV o → K o (⟨o, sliceC eU8 (numL v)⟩ :: L)) :
    CallW Try.prog 33 [.int .u64 v] L K := by
  refine CallW.ret ?_
  refine callX_of (by kernel_rfl) Try.func33 e33 (by exact Nat.le_of_ble_eq_true rfl) ?_
  (repeat (first | (simp -dsimp only [go_sem, sX_seq, Nat.reduceBEq, Int.reduceEq, Int.reduceNe, Int.reduceLT, Int.reduceLE, Nat.reduceAdd, Nat.reduceMul, Nat.reduceLeDiff]) | (refine thawX_none ?_; simp -dsimp only [go_sem, sX_seq, Nat.reduceBEq, Int.reduceEq, Int.reduceNe, Int.reduceLT, Int.reduceLE, Nat.reduceAdd, Nat.reduceMul, Nat.reduceLeDiff]; first | refine auto ?_ | refine NewX_intro (fun _ => ?_)) | (refine auto ?_) | (refine NewX_intro (fun _ => ?_)) | (refine autoI ⟨(by first | omega | (simp only [go_sem]; omega)), (by first | omega | (simp only [go_sem]; omega))⟩ ?_) | (simp -dsimp (disch := omega) only [wrap_i64, wrap_u64, wrap_i32, wrap_u8])))
  refine loopX_at [] [0, 3] (fun k vs L' => ∃ (u : Nat) (w : Value) (o : List Int), vs = [.int .u64 u, w] ∧ k = u ∧ u ≤ v ∧ OneV w ∧ numL v = o ++ numL u ∧
      L' = ⟨w, sliceC eU8 o⟩ :: L) _ (by rfl) ⟨_, Ent.nilS (E := eU8), v, _, [], rfl, rfl, by omega, OneV.slice, rfl, rfl⟩ ?_
  rintro k vs L' f ⟨_, w, o, rfl, rfl, hu, ow, ho, rfl⟩
  have hlo : (numL v).length ≤ 10 := numL_len 9 v (by omega)
  have hol : o.length ≤ 10 := by rw [ho, List.length_append] at hlo; omega
  have e1 : (k : Int).tmod 128 = ((k % 128 : Nat) : Int) := by rw [Int.tmod_eq_emod_of_nonneg (by omega)]; omega
  have e2 : (k : Int).tdiv 128 = ((k / 128 : Nat) : Int) := by rw [Int.tdiv_eq_ediv_of_nonneg (by omega)]; omega
  (repeat (first | (simp -dsimp only [go_sem, sX_seq, Nat.reduceBEq, Int.reduceEq, Int.reduceNe, Int.reduceLT, Int.reduceLE, Nat.reduceAdd, Nat.reduceMul, Nat.reduceLeDiff, e1, e2]) | (refine thawX_none ?_; simp -dsimp only [go_sem, sX_seq, Nat.reduceBEq, Int.reduceEq, Int.reduceNe, Int.reduceLT, Int.reduceLE, Nat.reduceAdd, Nat.reduceMul, Nat.reduceLeDiff, e1, e2]; first | refine auto ?_ | refine NewX_intro (fun _ => ?_)) | (refine auto ?_) | (refine NewX_intro (fun _ => ?_)) | (refine autoI ⟨(by first | omega | (simp only [go_sem]; omega)), (by first | omega | (simp only [go_sem]; omega))⟩ ?_) | (simp -dsimp (disch := omega) only [wrap_i64, wrap_u64, wrap_i32, wrap_u8])))
  first | refine condX_dec (fun c c' => ?_) (fun c c' => ?_) | refine condX_not (fun c c' => ?_) (fun c c' => ?_) | refine condX_mk (fun c' => ?_) (fun c' => ?_)
  · (repeat (first | (simp -dsimp only [go_sem, sX_seq, Nat.reduceBEq, Int.reduceEq, Int.reduceNe, Int.reduceLT, Int.reduceLE, Nat.reduceAdd, Nat.reduceMul, Nat.reduceLeDiff, e1, e2, c']) | (refine thawX_none ?_; simp -dsimp only [go_sem, sX_seq, Nat.reduceBEq, Int.reduceEq, Int.reduceNe, Int.reduceLT, Int.reduceLE, Nat.reduceAdd, Nat.reduceMul, Nat.reduceLeDiff, e1, e2, c']; first | refine auto ?_ | refine NewX_intro (fun _ => ?_)) | (refine auto ?_) | (refine NewX_intro (fun _ => ?_)) | (refine autoI ⟨(by first | omega | (simp only [go_sem]; omega)), (by first | omega | (simp only [go_sem]; omega))⟩ ?_) | (simp -dsimp (disch := omega) only [wrap_i64, wrap_u64, wrap_i32, wrap_u8])))
    refine BldSX_intro (E := eU8) (xs := [((k % 128 + 128 : Nat) : Int)]) (by rfl) (by simp) (fun e _ => ?_)
    (repeat (first | (simp -dsimp only [go_sem, sX_seq, Nat.reduceBEq, Int.reduceEq, Int.reduceNe, Int.reduceLT, Int.reduceLE, Nat.reduceAdd, Nat.reduceMul, Nat.reduceLeDiff, e1, e2, c']) | (refine thawX_none ?_; simp -dsimp only [go_sem, sX_seq, Nat.reduceBEq, Int.reduceEq, Int.reduceNe, Int.reduceLT, Int.reduceLE, Nat.reduceAdd, Nat.reduceMul, Nat.reduceLeDiff, e1, e2, c']; first | refine auto ?_ | refine NewX_intro (fun _ => ?_)) | (refine auto ?_) | (refine NewX_intro (fun _ => ?_)) | (refine autoI ⟨(by first | omega | (simp only [go_sem]; omega)), (by first | omega | (simp only [go_sem]; omega))⟩ ?_) | (simp -dsimp (disch := omega) only [wrap_i64, wrap_u64, wrap_i32, wrap_u8])))
    refine AppX_take (E := eU8) (xs := o) (ys := [((k % 128 + 128 : Nat) : Int)]) (by rfl) (by rfl) (by simp only [List.length_singleton]; omega) (by simp only [List.length_singleton]; omega) (fun w' o1 => ?_)
    (repeat (first | (simp -dsimp only [go_sem, sX_seq, Nat.reduceBEq, Int.reduceEq, Int.reduceNe, Int.reduceLT, Int.reduceLE, Nat.reduceAdd, Nat.reduceMul, Nat.reduceLeDiff, e1, e2, c']) | (refine thawX_none ?_; simp -dsimp only [go_sem, sX_seq, Nat.reduceBEq, Int.reduceEq, Int.reduceNe, Int.reduceLT, Int.reduceLE, Nat.reduceAdd, Nat.reduceMul, Nat.reduceLeDiff, e1, e2, c']; first | refine auto ?_ | refine NewX_intro (fun _ => ?_)) | (refine auto ?_) | (refine NewX_intro (fun _ => ?_)) | (refine autoI ⟨(by first | omega | (simp only [go_sem]; omega)), (by first | omega | (simp only [go_sem]; omega))⟩ ?_) | (simp -dsimp (disch := omega) only [wrap_i64, wrap_u64, wrap_i32, wrap_u8])))
    refine ⟨_, ?_, _, Ent.refl _, k / 128, w', o ++ [((k % 128 + 128 : Nat) : Int)], by simp, rfl, by omega, o1, ?_, rfl⟩
    · omega
    · rw [ho, numL_big (by omega : ¬ k < 128)]; simp
  · (repeat (first | (simp -dsimp only [go_sem, sX_seq, Nat.reduceBEq, Int.reduceEq, Int.reduceNe, Int.reduceLT, Int.reduceLE, Nat.reduceAdd, Nat.reduceMul, Nat.reduceLeDiff, e1, e2, c']) | (refine thawX_none ?_; simp -dsimp only [go_sem, sX_seq, Nat.reduceBEq, Int.reduceEq, Int.reduceNe, Int.reduceLT, Int.reduceLE, Nat.reduceAdd, Nat.reduceMul, Nat.reduceLeDiff, e1, e2, c']; first | refine auto ?_ | refine NewX_intro (fun _ => ?_)) | (refine auto ?_) | (refine NewX_intro (fun _ => ?_)) | (refine autoI ⟨(by first | omega | (simp only [go_sem]; omega)), (by first | omega | (simp only [go_sem]; omega))⟩ ?_) | (simp -dsimp (disch := omega) only [wrap_i64, wrap_u64, wrap_i32, wrap_u8])))
    refine BldSX_intro (E := eU8) (xs := [(k : Int)]) (by rfl) (by rfl) (fun e _ => ?_)
    (repeat (first | (simp -dsimp only [go_sem, sX_seq, Nat.reduceBEq, Int.reduceEq, Int.reduceNe, Int.reduceLT, Int.reduceLE, Nat.reduceAdd, Nat.reduceMul, Nat.reduceLeDiff, e1, e2, c']) | (refine thawX_none ?_; simp -dsimp only [go_sem, sX_seq, Nat.reduceBEq, Int.reduceEq, Int.reduceNe, Int.reduceLT, Int.reduceLE, Nat.reduceAdd, Nat.reduceMul, Nat.reduceLeDiff, e1, e2, c']; first | refine auto ?_ | refine NewX_intro (fun _ => ?_)) | (refine auto ?_) | (refine NewX_intro (fun _ => ?_)) | (refine autoI ⟨(by first | omega | (simp only [go_sem]; omega)), (by first | omega | (simp only [go_sem]; omega))⟩ ?_) | (simp -dsimp (disch := omega) only [wrap_i64, wrap_u64, wrap_i32, wrap_u8])))
    refine AppX_take (E := eU8) (xs := o) (ys := [(k : Int)]) (by rfl) (by rfl) (by simp only [List.length_singleton]; omega) (by simp only [List.length_singleton]; omega) (fun w' o1 => ?_)
    (repeat (first | (simp -dsimp only [go_sem, sX_seq, Nat.reduceBEq, Int.reduceEq, Int.reduceNe, Int.reduceLT, Int.reduceLE, Nat.reduceAdd, Nat.reduceMul, Nat.reduceLeDiff, e1, e2, c']) | (refine thawX_none ?_; simp -dsimp only [go_sem, sX_seq, Nat.reduceBEq, Int.reduceEq, Int.reduceNe, Int.reduceLT, Int.reduceLE, Nat.reduceAdd, Nat.reduceMul, Nat.reduceLeDiff, e1, e2, c']; first | refine auto ?_ | refine NewX_intro (fun _ => ?_)) | (refine auto ?_) | (refine NewX_intro (fun _ => ?_)) | (refine autoI ⟨(by first | omega | (simp only [go_sem]; omega)), (by first | omega | (simp only [go_sem]; omega))⟩ ?_) | (simp -dsimp (disch := omega) only [wrap_i64, wrap_u64, wrap_i32, wrap_u8])))
    have hk' := hk w' o1
    rw [ho, numL_small (by omega)] at hk'
    exact ⟨_, Ent.auto, hk'⟩

theorem num_spec {L : List Chunk} {K : KVL} {v : Nat} (hv : v < 18446744073709551616) (hk : ∀ o, OneV o → K o (⟨o, sliceC eU8 (numL v)⟩ :: L)) :
    CallW Try.prog 31 [.int .u64 v] L K := by
  refine CallW.ret ?_
  refine callX_of (by kernel_rfl) Try.func31 e31 (by exact Nat.le_of_ble_eq_true rfl) ?_
  (repeat (first | (simp -dsimp only [go_sem, sX_seq, Nat.reduceBEq, Int.reduceEq, Int.reduceNe, Int.reduceLT, Int.reduceLE, Nat.reduceAdd, Nat.reduceMul, Nat.reduceLeDiff]) | (refine thawX_none ?_; simp -dsimp only [go_sem, sX_seq, Nat.reduceBEq, Int.reduceEq, Int.reduceNe, Int.reduceLT, Int.reduceLE, Nat.reduceAdd, Nat.reduceMul, Nat.reduceLeDiff]; first | refine auto ?_ | refine NewX_intro (fun _ => ?_)) | (refine auto ?_) | (refine NewX_intro (fun _ => ?_)) | (refine autoI ⟨(by first | omega | (simp only [go_sem]; omega)), (by first | omega | (simp only [go_sem]; omega))⟩ ?_) | (simp -dsimp (disch := omega) only [wrap_i64, wrap_u64, wrap_i32, wrap_u8])))
  refine loopX_at [] [0, 3] (fun k vs L' => ∃ (u : Nat) (w : Value) (o : List Int), vs = [.int .u64 u, w] ∧ k = u ∧ u ≤ v ∧ OneV w ∧ numL v = o ++ numL u ∧
      L' = ⟨w, sliceC eU8 o⟩ :: L) _ (by rfl) ⟨_, Ent.nilS (E := eU8), v, _, [], rfl, rfl, by omega, OneV.slice, rfl, rfl⟩ ?_
  rintro k vs L' f ⟨_, w, o, rfl, rfl, hu, ow, ho, rfl⟩
  have hlo : (numL v).length ≤ 10 := numL_len 9 v (by omega)
  have hol : o.length ≤ 10 := by rw [ho, List.length_append] at hlo; omega
  (repeat (first | (simp -dsimp only [go_sem, sX_seq, Nat.reduceBEq, Int.reduceEq, Int.reduceNe, Int.reduceLT, Int.reduceLE, Nat.reduceAdd, Nat.reduceMul, Nat.reduceLeDiff]) | (refine thawX_none ?_; simp -dsimp only [go_sem, sX_seq, Nat.reduceBEq, Int.reduceEq, Int.reduceNe, Int.reduceLT, Int.reduceLE, Nat.reduceAdd, Nat.reduceMul, Nat.reduceLeDiff]; first | refine auto ?_ | refine NewX_intro (fun _ => ?_)) | (refine auto ?_) | (refine NewX_intro (fun _ => ?_)) | (refine autoI ⟨(by first | omega | (simp only [go_sem]; omega)), (by first | omega | (simp only [go_sem]; omega))⟩ ?_) | (simp -dsimp (disch := omega) only [wrap_i64, wrap_u64, wrap_i32, wrap_u8])))
  first | refine condX_dec (fun c c' => ?_) (fun c c' => ?_) | refine condX_not (fun c c' => ?_) (fun c c' => ?_) | refine condX_mk (fun c' => ?_) (fun c' => ?_)
  · (repeat (first | (simp -dsimp only [go_sem, sX_seq, Nat.reduceBEq, Int.reduceEq, Int.reduceNe, Int.reduceLT, Int.reduceLE, Nat.reduceAdd, Nat.reduceMul, Nat.reduceLeDiff, c']) | (refine thawX_none ?_; simp -dsimp only [go_sem, sX_seq, Nat.reduceBEq, Int.reduceEq, Int.reduceNe, Int.reduceLT, Int.reduceLE, Nat.reduceAdd, Nat.reduceMul, Nat.reduceLeDiff, c']; first | refine auto ?_ | refine NewX_intro (fun _ => ?_)) | (refine auto ?_) | (refine NewX_intro (fun _ => ?_)) | (refine autoI ⟨(by first | omega | (simp only [go_sem]; omega)), (by first | omega | (simp only [go_sem]; omega))⟩ ?_) | (simp -dsimp (disch := omega) only [wrap_i64, wrap_u64, wrap_i32, wrap_u8])))
    refine BldSX_intro (E := eU8) (xs := [((k % 128 + 128 : Nat) : Int)]) (by rfl) (by rfl) (fun e _ => ?_)
    (repeat (first | (simp -dsimp only [go_sem, sX_seq, Nat.reduceBEq, Int.reduceEq, Int.reduceNe, Int.reduceLT, Int.reduceLE, Nat.reduceAdd, Nat.reduceMul, Nat.reduceLeDiff, c']) | (refine thawX_none ?_; simp -dsimp only [go_sem, sX_seq, Nat.reduceBEq, Int.reduceEq, Int.reduceNe, Int.reduceLT, Int.reduceLE, Nat.reduceAdd, Nat.reduceMul, Nat.reduceLeDiff, c']; first | refine auto ?_ | refine NewX_intro (fun _ => ?_)) | (refine auto ?_) | (refine NewX_intro (fun _ => ?_)) | (refine autoI ⟨(by first | omega | (simp only [go_sem]; omega)), (by first | omega | (simp only [go_sem]; omega))⟩ ?_) | (simp -dsimp (disch := omega) only [wrap_i64, wrap_u64, wrap_i32, wrap_u8])))
    refine AppX_take (E := eU8) (xs := o) (ys := [((k % 128 + 128 : Nat) : Int)]) (by rfl) (by rfl) (by simp only [List.length_singleton]; omega) (by simp only [List.length_singleton]; omega) (fun w' o1 => ?_)
    (repeat (first | (simp -dsimp only [go_sem, sX_seq, Nat.reduceBEq, Int.reduceEq, Int.reduceNe, Int.reduceLT, Int.reduceLE, Nat.reduceAdd, Nat.reduceMul, Nat.reduceLeDiff, c']) | (refine thawX_none ?_; simp -dsimp only [go_sem, sX_seq, Nat.reduceBEq, Int.reduceEq, Int.reduceNe, Int.reduceLT, Int.reduceLE, Nat.reduceAdd, Nat.reduceMul, Nat.reduceLeDiff, c']; first | refine auto ?_ | refine NewX_intro (fun _ => ?_)) | (refine auto ?_) | (refine NewX_intro (fun _ => ?_)) | (refine autoI ⟨(by first | omega | (simp only [go_sem]; omega)), (by first | omega | (simp only [go_sem]; omega))⟩ ?_) | (simp -dsimp (disch := omega) only [wrap_i64, wrap_u64, wrap_i32, wrap_u8])))
    refine ⟨_, ?_, _, Ent.refl _, k / 128, w', o ++ [((k % 128 + 128 : Nat) : Int)], by simp, rfl, by omega, o1, ?_, rfl⟩
    · omega
    · rw [ho, numL_big (by omega : ¬ k < 128)]; simp
  · (repeat (first | (simp -dsimp only [go_sem, sX_seq, Nat.reduceBEq, Int.reduceEq, Int.reduceNe, Int.reduceLT, Int.reduceLE, Nat.reduceAdd, Nat.reduceMul, Nat.reduceLeDiff, c']) | (refine thawX_none ?_; simp -dsimp only [go_sem, sX_seq, Nat.reduceBEq, Int.reduceEq, Int.reduceNe, Int.reduceLT, Int.reduceLE, Nat.reduceAdd, Nat.reduceMul, Nat.reduceLeDiff, c']; first | refine auto ?_ | refine NewX_intro (fun _ => ?_)) | (refine auto ?_) | (refine NewX_intro (fun _ => ?_)) | (refine autoI ⟨(by first | omega | (simp only [go_sem]; omega)), (by first | omega | (simp only [go_sem]; omega))⟩ ?_) | (simp -dsimp (disch := omega) only [wrap_i64, wrap_u64, wrap_i32, wrap_u8])))
    refine BldSX_intro (E := eU8) (xs := [(k : Int)]) (by rfl) (by rfl) (fun e _ => ?_)
    (repeat (first | (simp -dsimp only [go_sem, sX_seq, Nat.reduceBEq, Int.reduceEq, Int.reduceNe, Int.reduceLT, Int.reduceLE, Nat.reduceAdd, Nat.reduceMul, Nat.reduceLeDiff, c']) | (refine thawX_none ?_; simp -dsimp only [go_sem, sX_seq, Nat.reduceBEq, Int.reduceEq, Int.reduceNe, Int.reduceLT, Int.reduceLE, Nat.reduceAdd, Nat.reduceMul, Nat.reduceLeDiff, c']; first | refine auto ?_ | refine NewX_intro (fun _ => ?_)) | (refine auto ?_) | (refine NewX_intro (fun _ => ?_)) | (refine autoI ⟨(by first | omega | (simp only [go_sem]; omega)), (by first | omega | (simp only [go_sem]; omega))⟩ ?_) | (simp -dsimp (disch := omega) only [wrap_i64, wrap_u64, wrap_i32, wrap_u8])))
    refine AppX_take (E := eU8) (xs := o) (ys := [(k : Int)]) (by rfl) (by rfl) (by simp only [List.length_singleton]; omega) (by simp only [List.length_singleton]; omega) (fun w' o1 => ?_)
    (repeat (first | (simp -dsimp only [go_sem, sX_seq, Nat.reduceBEq, Int.reduceEq, Int.reduceNe, Int.reduceLT, Int.reduceLE, Nat.reduceAdd, Nat.reduceMul, Nat.reduceLeDiff, c']) | (refine thawX_none ?_; simp -dsimp only [go_sem, sX_seq, Nat.reduceBEq, Int.reduceEq, Int.reduceNe, Int.reduceLT, Int.reduceLE, Nat.reduceAdd, Nat.reduceMul, Nat.reduceLeDiff, c']; first | refine auto ?_ | refine NewX_intro (fun _ => ?_)) | (refine auto ?_) | (refine NewX_intro (fun _ => ?_)) | (refine autoI ⟨(by first | omega | (simp only [go_sem]; omega)), (by first | omega | (simp only [go_sem]; omega))⟩ ?_) | (simp -dsimp (disch := omega) only [wrap_i64, wrap_u64, wrap_i32, wrap_u8])))
    have hk' := hk w' o1
    rw [ho, numL_small (by omega)] at hk'
    exact ⟨_, Ent.auto, hk'⟩

end Go.SL
