/- The reader of numbers: what its functions come to. -/
import Derived.Test.YtebcdnnfjcaofaaReadPure
import Derived.Test.YtebcdnnfjcaofaaCodeLook
set_option linter.unusedSimpArgs false
set_option linter.unusedVariables false
set_option maxRecDepth 100000
namespace Go.SL
open Go.Proofs

theorem and127 : ∀ n, n < 256 → (BitVec.ofNat 8 n &&& 127#8).toNat = n % 128 := by decide
theorem binV_and127 {c : Nat} (h : c < 256) : binV .and (.int .u8 c) (.int .u8 127) = some (.int .u8 ((c % 128 : Nat) : Int)) := by
  have h8 : BitVec.ofInt 8 (c : Int) = BitVec.ofNat 8 c := BitVec.ofInt_natCast _ _
  have e : (BitVec.ofInt IntKind.u8.bits c &&& BitVec.ofInt IntKind.u8.bits 127).toNat = c % 128 := by
    show (BitVec.ofInt 8 (c : Int) &&& 127#8).toNat = _
    rw [h8]; exact and127 c h
  show (if IntKind.u8 = IntKind.u8 then some (Value.int .u8 (IntKind.u8.wrap _)) else none) = _
  rw [if_pos rfl, e, wrap_u8 (by omega) (by omega)]
theorem binV_shl7 {d n : Nat} (h : n ≤ 9) : binV .shl (.int .u64 d) (.int .i64 (7 * (n : Int))) = some (.int .u64 (IntKind.u64.wrap ((d * 128 ^ n : Nat) : Int))) := by
  show (if 0 ≤ 7 * (n : Int) then some (Value.int .u64 (IntKind.u64.wrap ((d : Int) * 2 ^ (min (7 * (n : Int)).toNat 64)))) else none) = _
  rw [if_pos (by omega), show (min (7 * (n : Int)).toNat 64) = 7 * n from by omega, Int.natCast_mul, Int.natCast_pow]
  rw [show (2 : Int) ^ (7 * n) = ((128 : Nat) : Int) ^ n from by rw [Int.pow_mul]; rfl]
theorem or_add {v d n : Nat} (h : v < 128 ^ n) (h2 : v + 128 ^ n * d < 18446744073709551616) : (BitVec.ofInt 64 (v : Int) ||| BitVec.ofInt 64 ((d * 128 ^ n : Nat) : Int)).toNat = v + 128 ^ n * d := by
  have e : (128 : Nat) ^ n = 2 ^ (7 * n) := by rw [Nat.pow_mul]
  rw [BitVec.ofInt_natCast, BitVec.ofInt_natCast, BitVec.toNat_or, BitVec.toNat_ofNat, BitVec.toNat_ofNat, Nat.mod_eq_of_lt (by omega), Nat.mod_eq_of_lt (by rw [Nat.mul_comm]; omega)]
  rw [Nat.or_comm, Nat.mul_comm, e]
  rw [e] at h
  rw [← Nat.two_pow_add_eq_or_of_lt h d]; omega

theorem gath_lt {n v d : Nat} (hn : n ≤ 9) (hv : v < 128 ^ n) (hd : d < 128) : v + 128 ^ n * d < 128 ^ (n + 1) := by
  have : 128 ^ n * d ≤ 128 ^ n * 127 := Nat.mul_le_mul_left _ (by omega)
  rw [Nat.pow_succ]; omega
theorem gath_64 {n v d : Nat} (hn : n ≤ 9) (hv : v < 128 ^ n) (hd : d < 128) (h9 : n = 9 → d ≤ 1) : v + 128 ^ n * d < 18446744073709551616 := by
  by_cases h : n = 9
  · subst h
    have e : (128 : Nat) ^ 9 = 9223372036854775808 := by decide
    rw [e] at hv ⊢
    have := h9 rfl
    have : 9223372036854775808 * d ≤ 9223372036854775808 * 1 := Nat.mul_le_mul_left _ this
    omega
  · have h1 := gath_lt hn hv hd
    have h2 : (128 : Nat) ^ (n + 1) ≤ 128 ^ 9 := Nat.pow_le_pow_right (by omega) (by omega)
    have e : (128 : Nat) ^ 9 = 9223372036854775808 := by decide
    omega
theorem gath_or {n v d : Nat} (hn : n ≤ 9) (hv : v < 128 ^ n) (hd : d < 128) : ∃ rr : Int, binV .or (.int .u64 v) (.int .u64 (IntKind.u64.wrap ((d * 128 ^ n : Nat) : Int))) = some (.int .u64 rr) ∧ ((n = 9 → d ≤ 1) → rr = ((v + 128 ^ n * d : Nat) : Int)) := by
  refine ⟨_, rfl, fun h9 => ?_⟩
  have hb := gath_64 hn hv hd h9
  have hw : IntKind.u64.wrap ((d * 128 ^ n : Nat) : Int) = ((d * 128 ^ n : Nat) : Int) := wrap_u64 (by omega) (by rw [Nat.mul_comm]; omega)
  rw [hw]
  have := or_add hv hb
  show IntKind.u64.wrap ((BitVec.ofInt 64 (v : Int) ||| BitVec.ofInt 64 ((d * 128 ^ n : Nat) : Int)).toNat : Int) = _
  rw [this, wrap_u64 (by omega) (by omega)]

theorem look_spec {R : List Chunk} {K : KVL} {r bv : Value} {bs : List Int} {at' : Nat} {e : Int} (hb : ∀ b ∈ bs, 0 ≤ b ∧ b ≤ 255) (ha : at' ≤ bs.length) (hl : bs.length ≤ 2000000000)
    (h1 : ∀ v rest, v < 18446744073709551616 → bs.drop at' = numL v ++ rest → K (.tuple #[.int .u64 v, .int .i64 ((at' + (numL v).length : Nat) : Int), .int .i64 0]) (⟨r, cellsC [bv, .int .i64 at', .int .i64 e]⟩ :: ⟨bv, sliceC eU8 bs⟩ :: R))
    (h0 : (∀ v rest, v < 18446744073709551616 → bs.drop at' ≠ numL v ++ rest) → ∀ e' : Int, e' ≠ 0 → K (.tuple #[.int .u64 0, .int .i64 0, .int .i64 e']) (⟨r, cellsC [bv, .int .i64 at', .int .i64 e]⟩ :: ⟨bv, sliceC eU8 bs⟩ :: R)) :
    CallW Try.prog 56 [r] (⟨r, cellsC [bv, .int .i64 at', .int .i64 e]⟩ :: ⟨bv, sliceC eU8 bs⟩ :: R) K := by
  refine CallW.ret ?_
  refine callX_of (by kernel_rfl) Try.func56 e56 (by exact Nat.le_of_ble_eq_true rfl) ?_
  (repeat (first | (simp -dsimp only [go_sem, sX_seq, Nat.reduceBEq, Int.reduceEq, Int.reduceNe, Int.reduceLT, Int.reduceLE, Nat.reduceAdd, Nat.reduceMul, Nat.reduceLeDiff]) | (refine thawX_none ?_; simp -dsimp only [go_sem, sX_seq, Nat.reduceBEq, Int.reduceEq, Int.reduceNe, Int.reduceLT, Int.reduceLE, Nat.reduceAdd, Nat.reduceMul, Nat.reduceLeDiff]; first | refine auto ?_ | refine NewX_intro (fun _ => ?_)) | (refine auto ?_) | (refine NewX_intro (fun _ => ?_)) | (refine autoI ⟨(by first | omega | (simp only [go_sem]; omega)), (by first | omega | (simp only [go_sem]; omega))⟩ ?_) | (simp -dsimp (disch := omega) only [wrap_i64, wrap_u64, wrap_i32, wrap_u8])))
  refine loopX_at [0] [5, 8] (fun k vs L' => ∃ (n v : Nat), vs = [.int .u64 v, .int .i64 n] ∧ k = 10 - n ∧ n ≤ 9 ∧ v < 128 ^ n ∧ Gath (bs.drop at') n v ∧
      L' = ⟨r, cellsC [bv, .int .i64 at', .int .i64 e]⟩ :: ⟨bv, sliceC eU8 bs⟩ :: R) _ (by rfl) ⟨_, Ent.auto, 0, 0, rfl, rfl, by omega, by simp, Gath.zero _, rfl⟩ ?_
  rintro k vs L' f ⟨n, v, rfl, rfl, hn, hv, G, rfl⟩
  have hdl : (bs.drop at').length = bs.length - at' := List.length_drop
  (repeat (first | (simp -dsimp only [go_sem, sX_seq, Nat.reduceBEq, Int.reduceEq, Int.reduceNe, Int.reduceLT, Int.reduceLE, Nat.reduceAdd, Nat.reduceMul, Nat.reduceLeDiff]) | (refine thawX_none ?_; simp -dsimp only [go_sem, sX_seq, Nat.reduceBEq, Int.reduceEq, Int.reduceNe, Int.reduceLT, Int.reduceLE, Nat.reduceAdd, Nat.reduceMul, Nat.reduceLeDiff]; first | refine auto ?_ | refine NewX_intro (fun _ => ?_)) | (refine auto ?_) | (refine NewX_intro (fun _ => ?_)) | (refine autoI ⟨(by first | omega | (simp only [go_sem]; omega)), (by first | omega | (simp only [go_sem]; omega))⟩ ?_) | (simp -dsimp (disch := omega) only [wrap_i64, wrap_u64, wrap_i32, wrap_u8])))
  first | refine condX_dec (fun c0 c0' => ?_) (fun c0 c0' => absurd c0 (by omega)) | refine condX_not (fun c0 c0' => ?_) (fun c0 c0' => absurd c0 (by omega))
  (repeat (first | (simp -dsimp only [go_sem, sX_seq, Nat.reduceBEq, Int.reduceEq, Int.reduceNe, Int.reduceLT, Int.reduceLE, Nat.reduceAdd, Nat.reduceMul, Nat.reduceLeDiff, c0']) | (refine thawX_none ?_; simp -dsimp only [go_sem, sX_seq, Nat.reduceBEq, Int.reduceEq, Int.reduceNe, Int.reduceLT, Int.reduceLE, Nat.reduceAdd, Nat.reduceMul, Nat.reduceLeDiff, c0']; first | refine auto ?_ | refine NewX_intro (fun _ => ?_)) | (refine auto ?_) | (refine NewX_intro (fun _ => ?_)) | (refine autoI ⟨(by first | omega | (simp only [go_sem]; omega)), (by first | omega | (simp only [go_sem]; omega))⟩ ?_) | (simp -dsimp (disch := omega) only [wrap_i64, wrap_u64, wrap_i32, wrap_u8])))
  first | refine condX_dec (fun c1 c1' => ?_) (fun c1 c1' => ?_) | refine condX_not (fun c1 c1' => ?_) (fun c1 c1' => ?_) | refine condX_mk (fun c1' => ?_) (fun c1' => ?_)
  · (repeat (first | (simp -dsimp only [go_sem, sX_seq, Nat.reduceBEq, Int.reduceEq, Int.reduceNe, Int.reduceLT, Int.reduceLE, Nat.reduceAdd, Nat.reduceMul, Nat.reduceLeDiff, c0', c1']) | (refine thawX_none ?_; simp -dsimp only [go_sem, sX_seq, Nat.reduceBEq, Int.reduceEq, Int.reduceNe, Int.reduceLT, Int.reduceLE, Nat.reduceAdd, Nat.reduceMul, Nat.reduceLeDiff, c0', c1']; first | refine auto ?_ | refine NewX_intro (fun _ => ?_)) | (refine auto ?_) | (refine NewX_intro (fun _ => ?_)) | (refine autoI ⟨(by first | omega | (simp only [go_sem]; omega)), (by first | omega | (simp only [go_sem]; omega))⟩ ?_) | (simp -dsimp (disch := omega) only [wrap_i64, wrap_u64, wrap_i32, wrap_u8])))
    exact ⟨_, Ent.auto, h0 (fun w rest _ => G.short (by omega)) 9 (by decide)⟩
  (repeat (first | (simp -dsimp only [go_sem, sX_seq, Nat.reduceBEq, Int.reduceEq, Int.reduceNe, Int.reduceLT, Int.reduceLE, Nat.reduceAdd, Nat.reduceMul, Nat.reduceLeDiff, c0', c1']) | (refine thawX_none ?_; simp -dsimp only [go_sem, sX_seq, Nat.reduceBEq, Int.reduceEq, Int.reduceNe, Int.reduceLT, Int.reduceLE, Nat.reduceAdd, Nat.reduceMul, Nat.reduceLeDiff, c0', c1']; first | refine auto ?_ | refine NewX_intro (fun _ => ?_)) | (refine auto ?_) | (refine NewX_intro (fun _ => ?_)) | (refine autoI ⟨(by first | omega | (simp only [go_sem]; omega)), (by first | omega | (simp only [go_sem]; omega))⟩ ?_) | (simp -dsimp (disch := omega) only [wrap_i64, wrap_u64, wrap_i32, wrap_u8])))
  first | refine LdX_elem (by rfl) ⟨(by first | omega | (simp only [go_sem]; omega)), (by first | omega | (simp only [go_sem]; omega))⟩ (fun x hx_ => ?_) | refine LdX_elemAt (by rfl) ⟨(by first | omega | (simp only [go_sem]; omega)), (by first | omega | (simp only [go_sem]; omega))⟩ (by decide) (fun x hx_ => ?_) | refine LdX_elem0 (by rfl) ⟨(by first | omega | (simp only [go_sem]; omega)), (by first | omega | (simp only [go_sem]; omega))⟩ (by decide) (fun x hx_ => ?_)
  rw [show (at' : Int) + (n : Int) = ((at' + n : Nat) : Int) from rfl, toNat_nat_] at hx_
  have hx0 := hb x (List.mem_of_getElem? hx_)
  obtain ⟨c, rfl⟩ : ∃ c : Nat, x = c := ⟨x.toNat, by omega⟩
  have hD : (bs.drop at')[n]? = some (c : Int) := by rw [List.getElem?_drop]; exact hx_
  have hand := binV_and127 (c := c) (by omega)
  have hshl := binV_shl7 (d := c % 128) hn
  obtain ⟨rr, hor, hrr⟩ := gath_or (d := c % 128) hn hv (by omega)
  (repeat (first | (simp -dsimp only [go_sem, sX_seq, Nat.reduceBEq, Int.reduceEq, Int.reduceNe, Int.reduceLT, Int.reduceLE, Nat.reduceAdd, Nat.reduceMul, Nat.reduceLeDiff, c0', c1', hand, hshl, hor]) | (refine thawX_none ?_; simp -dsimp only [go_sem, sX_seq, Nat.reduceBEq, Int.reduceEq, Int.reduceNe, Int.reduceLT, Int.reduceLE, Nat.reduceAdd, Nat.reduceMul, Nat.reduceLeDiff, c0', c1', hand, hshl, hor]; first | refine auto ?_ | refine NewX_intro (fun _ => ?_)) | (refine auto ?_) | (refine NewX_intro (fun _ => ?_)) | (refine autoI ⟨(by first | omega | (simp only [go_sem]; omega)), (by first | omega | (simp only [go_sem]; omega))⟩ ?_) | (simp -dsimp (disch := omega) only [wrap_i64, wrap_u64, wrap_i32, wrap_u8])))
  refine condX_dec (fun d1 q1 => ?_) (fun d1 q1 => ?_)
  (repeat (first | (simp -dsimp only [go_sem, sX_seq, Nat.reduceBEq, Int.reduceEq, Int.reduceNe, Int.reduceLT, Int.reduceLE, Nat.reduceAdd, Nat.reduceMul, Nat.reduceLeDiff, c0', c1', hand, hshl, hor, q1]) | (refine thawX_none ?_; simp -dsimp only [go_sem, sX_seq, Nat.reduceBEq, Int.reduceEq, Int.reduceNe, Int.reduceLT, Int.reduceLE, Nat.reduceAdd, Nat.reduceMul, Nat.reduceLeDiff, c0', c1', hand, hshl, hor, q1]; first | refine auto ?_ | refine NewX_intro (fun _ => ?_)) | (refine auto ?_) | (refine NewX_intro (fun _ => ?_)) | (refine autoI ⟨(by first | omega | (simp only [go_sem]; omega)), (by first | omega | (simp only [go_sem]; omega))⟩ ?_) | (simp -dsimp (disch := omega) only [wrap_i64, wrap_u64, wrap_i32, wrap_u8])))
  refine condX_dec (fun d2 q2 => ?_) (fun d2 q2 => ?_)
  (repeat (first | (simp -dsimp only [go_sem, sX_seq, Nat.reduceBEq, Int.reduceEq, Int.reduceNe, Int.reduceLT, Int.reduceLE, Nat.reduceAdd, Nat.reduceMul, Nat.reduceLeDiff, c0', c1', hand, hshl, hor, q1, q2]) | (refine thawX_none ?_; simp -dsimp only [go_sem, sX_seq, Nat.reduceBEq, Int.reduceEq, Int.reduceNe, Int.reduceLT, Int.reduceLE, Nat.reduceAdd, Nat.reduceMul, Nat.reduceLeDiff, c0', c1', hand, hshl, hor, q1, q2]; first | refine auto ?_ | refine NewX_intro (fun _ => ?_)) | (refine auto ?_) | (refine NewX_intro (fun _ => ?_)) | (refine autoI ⟨(by first | omega | (simp only [go_sem]; omega)), (by first | omega | (simp only [go_sem]; omega))⟩ ?_) | (simp -dsimp (disch := omega) only [wrap_i64, wrap_u64, wrap_i32, wrap_u8])))
  obtain rfl : n = 9 := by omega
  exact ⟨_, Ent.auto, h0 (fun w rest hw hd => by have := G.big hD (by omega) hd; omega) 10 (by decide)⟩
  (repeat (first | (simp -dsimp only [go_sem, sX_seq, Nat.reduceBEq, Int.reduceEq, Int.reduceNe, Int.reduceLT, Int.reduceLE, Nat.reduceAdd, Nat.reduceMul, Nat.reduceLeDiff, c0', c1', hand, hshl, hor, q1, q2]) | (refine thawX_none ?_; simp -dsimp only [go_sem, sX_seq, Nat.reduceBEq, Int.reduceEq, Int.reduceNe, Int.reduceLT, Int.reduceLE, Nat.reduceAdd, Nat.reduceMul, Nat.reduceLeDiff, c0', c1', hand, hshl, hor, q1, q2]; first | refine auto ?_ | refine NewX_intro (fun _ => ?_)) | (refine auto ?_) | (refine NewX_intro (fun _ => ?_)) | (refine autoI ⟨(by first | omega | (simp only [go_sem]; omega)), (by first | omega | (simp only [go_sem]; omega))⟩ ?_) | (simp -dsimp (disch := omega) only [wrap_i64, wrap_u64, wrap_i32, wrap_u8])))
  rotate_left
  (repeat (first | (simp -dsimp only [go_sem, sX_seq, Nat.reduceBEq, Int.reduceEq, Int.reduceNe, Int.reduceLT, Int.reduceLE, Nat.reduceAdd, Nat.reduceMul, Nat.reduceLeDiff, c0', c1', hand, hshl, hor, q1]) | (refine thawX_none ?_; simp -dsimp only [go_sem, sX_seq, Nat.reduceBEq, Int.reduceEq, Int.reduceNe, Int.reduceLT, Int.reduceLE, Nat.reduceAdd, Nat.reduceMul, Nat.reduceLeDiff, c0', c1', hand, hshl, hor, q1]; first | refine auto ?_ | refine NewX_intro (fun _ => ?_)) | (refine auto ?_) | (refine NewX_intro (fun _ => ?_)) | (refine autoI ⟨(by first | omega | (simp only [go_sem]; omega)), (by first | omega | (simp only [go_sem]; omega))⟩ ?_) | (simp -dsimp (disch := omega) only [wrap_i64, wrap_u64, wrap_i32, wrap_u8])))
  all_goals
    have hb9 : n = 9 → c % 128 ≤ 1 := by omega
    have hr2 := hrr hb9
    clear hrr
    subst hr2
    refine condX_dec (fun d3 q3 => ?_) (fun d3 q3 => ?_)
    rotate_left
    · (repeat (first | (simp -dsimp only [go_sem, sX_seq, Nat.reduceBEq, Int.reduceEq, Int.reduceNe, Int.reduceLT, Int.reduceLE, Nat.reduceAdd, Nat.reduceMul, Nat.reduceLeDiff, c0', c1', hand, hshl, hor, q3]) | (refine thawX_none ?_; simp -dsimp only [go_sem, sX_seq, Nat.reduceBEq, Int.reduceEq, Int.reduceNe, Int.reduceLT, Int.reduceLE, Nat.reduceAdd, Nat.reduceMul, Nat.reduceLeDiff, c0', c1', hand, hshl, hor, q3]; first | refine auto ?_ | refine NewX_intro (fun _ => ?_)) | (refine auto ?_) | (refine NewX_intro (fun _ => ?_)) | (refine autoI ⟨(by first | omega | (simp only [go_sem]; omega)), (by first | omega | (simp only [go_sem]; omega))⟩ ?_) | (simp -dsimp (disch := omega) only [wrap_i64, wrap_u64, wrap_i32, wrap_u8])))
      have hn9 : n ≠ 9 := by omega
      have e1 : c % 128 = c - 128 := by omega
      have G2 := G.step hD (by omega) (by omega)
      have hv2 := gath_lt hn hv (d := c % 128) (by omega)
      rw [e1] at hv2 ⊢
      refine ⟨_, ?_, _, Ent.auto, n + 1, v + 128 ^ n * (c - 128), by simp, rfl, by omega, hv2, G2, rfl⟩
      omega
    have hm : c % 128 = c := by omega
    rw [hm]
    have fin : (n = 0 ∨ 1 ≤ c) → K (.tuple #[.int .u64 ((v + 128 ^ n * c : Nat) : Int), .int .i64 ((at' : Int) + n + 1), .int .i64 0]) (⟨r, cellsC [bv, .int .i64 at', .int .i64 e]⟩ :: ⟨bv, sliceC eU8 bs⟩ :: R) := fun h2 => by
      have hok := G.ok hD (by omega) h2
      have hlen : (numL (v + 128 ^ n * c)).length = n + 1 := by
        have h3 := congrArg List.length hok
        simp only [List.length_append, List.length_drop] at h3
        omega
      have h4 := h1 _ _ (gath_64 hn hv (by omega) (by omega)) hok
      rw [hlen, show ((at' + (n + 1) : Nat) : Int) = (at' : Int) + n + 1 from by omega] at h4
      exact h4
    (repeat (first | (simp -dsimp only [go_sem, sX_seq, Nat.reduceBEq, Int.reduceEq, Int.reduceNe, Int.reduceLT, Int.reduceLE, Nat.reduceAdd, Nat.reduceMul, Nat.reduceLeDiff, c0', c1', hand, hshl, hor, q3]) | (refine thawX_none ?_; simp -dsimp only [go_sem, sX_seq, Nat.reduceBEq, Int.reduceEq, Int.reduceNe, Int.reduceLT, Int.reduceLE, Nat.reduceAdd, Nat.reduceMul, Nat.reduceLeDiff, c0', c1', hand, hshl, hor, q3]; first | refine auto ?_ | refine NewX_intro (fun _ => ?_)) | (refine auto ?_) | (refine NewX_intro (fun _ => ?_)) | (refine autoI ⟨(by first | omega | (simp only [go_sem]; omega)), (by first | omega | (simp only [go_sem]; omega))⟩ ?_) | (simp -dsimp (disch := omega) only [wrap_i64, wrap_u64, wrap_i32, wrap_u8])))
    refine condX_dec (fun d4 q4 => ?_) (fun d4 q4 => ?_)
    · (repeat (first | (simp -dsimp only [go_sem, sX_seq, Nat.reduceBEq, Int.reduceEq, Int.reduceNe, Int.reduceLT, Int.reduceLE, Nat.reduceAdd, Nat.reduceMul, Nat.reduceLeDiff, c0', c1', hand, hshl, hor, q3, q4]) | (refine thawX_none ?_; simp -dsimp only [go_sem, sX_seq, Nat.reduceBEq, Int.reduceEq, Int.reduceNe, Int.reduceLT, Int.reduceLE, Nat.reduceAdd, Nat.reduceMul, Nat.reduceLeDiff, c0', c1', hand, hshl, hor, q3, q4]; first | refine auto ?_ | refine NewX_intro (fun _ => ?_)) | (refine auto ?_) | (refine NewX_intro (fun _ => ?_)) | (refine autoI ⟨(by first | omega | (simp only [go_sem]; omega)), (by first | omega | (simp only [go_sem]; omega))⟩ ?_) | (simp -dsimp (disch := omega) only [wrap_i64, wrap_u64, wrap_i32, wrap_u8])))
      refine condX_dec (fun d5 q5 => ?_) (fun d5 q5 => ?_)
      · (repeat (first | (simp -dsimp only [go_sem, sX_seq, Nat.reduceBEq, Int.reduceEq, Int.reduceNe, Int.reduceLT, Int.reduceLE, Nat.reduceAdd, Nat.reduceMul, Nat.reduceLeDiff, c0', c1', hand, hshl, hor, q3, q4, q5]) | (refine thawX_none ?_; simp -dsimp only [go_sem, sX_seq, Nat.reduceBEq, Int.reduceEq, Int.reduceNe, Int.reduceLT, Int.reduceLE, Nat.reduceAdd, Nat.reduceMul, Nat.reduceLeDiff, c0', c1', hand, hshl, hor, q3, q4, q5]; first | refine auto ?_ | refine NewX_intro (fun _ => ?_)) | (refine auto ?_) | (refine NewX_intro (fun _ => ?_)) | (refine autoI ⟨(by first | omega | (simp only [go_sem]; omega)), (by first | omega | (simp only [go_sem]; omega))⟩ ?_) | (simp -dsimp (disch := omega) only [wrap_i64, wrap_u64, wrap_i32, wrap_u8])))
        obtain rfl : c = 0 := by omega
        exact ⟨_, Ent.auto, h0 (fun w rest _ => G.naught hD (by omega)) 10 (by decide)⟩
      · (repeat (first | (simp -dsimp only [go_sem, sX_seq, Nat.reduceBEq, Int.reduceEq, Int.reduceNe, Int.reduceLT, Int.reduceLE, Nat.reduceAdd, Nat.reduceMul, Nat.reduceLeDiff, c0', c1', hand, hshl, hor, q3, q4, q5]) | (refine thawX_none ?_; simp -dsimp only [go_sem, sX_seq, Nat.reduceBEq, Int.reduceEq, Int.reduceNe, Int.reduceLT, Int.reduceLE, Nat.reduceAdd, Nat.reduceMul, Nat.reduceLeDiff, c0', c1', hand, hshl, hor, q3, q4, q5]; first | refine auto ?_ | refine NewX_intro (fun _ => ?_)) | (refine auto ?_) | (refine NewX_intro (fun _ => ?_)) | (refine autoI ⟨(by first | omega | (simp only [go_sem]; omega)), (by first | omega | (simp only [go_sem]; omega))⟩ ?_) | (simp -dsimp (disch := omega) only [wrap_i64, wrap_u64, wrap_i32, wrap_u8])))
        exact ⟨_, Ent.auto, fin (.inl (by omega))⟩
    · (repeat (first | (simp -dsimp only [go_sem, sX_seq, Nat.reduceBEq, Int.reduceEq, Int.reduceNe, Int.reduceLT, Int.reduceLE, Nat.reduceAdd, Nat.reduceMul, Nat.reduceLeDiff, c0', c1', hand, hshl, hor, q3, q4]) | (refine thawX_none ?_; simp -dsimp only [go_sem, sX_seq, Nat.reduceBEq, Int.reduceEq, Int.reduceNe, Int.reduceLT, Int.reduceLE, Nat.reduceAdd, Nat.reduceMul, Nat.reduceLeDiff, c0', c1', hand, hshl, hor, q3, q4]; first | refine auto ?_ | refine NewX_intro (fun _ => ?_)) | (refine auto ?_) | (refine NewX_intro (fun _ => ?_)) | (refine autoI ⟨(by first | omega | (simp only [go_sem]; omega)), (by first | omega | (simp only [go_sem]; omega))⟩ ?_) | (simp -dsimp (disch := omega) only [wrap_i64, wrap_u64, wrap_i32, wrap_u8])))
      exact ⟨_, Ent.auto, fin (.inr (by omega))⟩

end Go.SL
