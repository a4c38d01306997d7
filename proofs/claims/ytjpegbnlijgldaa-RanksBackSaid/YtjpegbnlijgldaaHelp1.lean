/- The laws' helpers, of ints: what they come to. -/
import Derived.Test.YtjpegbnlijgldaaCodeR1
import Derived.Test.YtjpegbnlijgldaaLoop
set_option linter.unusedSimpArgs false
set_option linter.unusedVariables false
namespace Go.SL
open Go.Proofs

theorem same_int_spec {L : List Chunk} {a b : Value} {xs ys : List Int} {K : KVL} [RdS L a eInt xs] [RdS L b eInt ys] (hl : xs.length ≤ 2000000000) (hk : K (.bool (decide (xs = ys))) L) :
    CallW Try.prog 13 [a, b, .func (.func 14) #[] #[]] L K := by
  refine callX_of (by kernel_rfl) Try.func13 e13 (by exact Nat.le_of_ble_eq_true rfl) ?_
  simp -dsimp only [go_sem, Nat.reduceBEq, Int.reduceEq, Int.reduceLT, Int.reduceLE]
  refine LenX_slice ?_
  simp -dsimp only [go_sem, Nat.reduceBEq, Int.reduceEq, Int.reduceLT, Int.reduceLE]
  refine LenX_slice ?_
  simp -dsimp only [go_sem, Nat.reduceBEq, Int.reduceEq, Int.reduceLT, Int.reduceLE]
  refine condX_not (fun h h' => ?_) (fun h h' => ?_)
  · simp -dsimp only [go_sem, Nat.reduceBEq, Int.reduceEq, Int.reduceLT, Int.reduceLE]
    rw [show decide (xs = ys) = false from decide_eq_false fun e => h (by rw [e])] at hk
    exact hk
  · simp -dsimp only [go_sem, Nat.reduceBEq, Int.reduceEq, Int.reduceLT, Int.reduceLE]
    have hlen : xs.length = ys.length := by omega
    refine loopX_intro [0, 1, 2] [7] (fun m vs L' => ∃ i : Nat, vs = [.int .i64 i] ∧ m = xs.length - i ∧ i ≤ xs.length ∧ xs.take i = ys.take i ∧ L' = L) _ (by rfl) ⟨0, rfl, rfl, by omega, rfl, rfl⟩ ?_
    rintro m vs L' f ⟨i, rfl, rfl, hi, ht, rfl⟩
    simp -dsimp only [go_sem, Nat.reduceBEq, Int.reduceEq, Int.reduceLT, Int.reduceLE]
    refine LenX_slice ?_
    simp -dsimp only [go_sem, Nat.reduceBEq, Int.reduceEq, Int.reduceLT, Int.reduceLE]
    refine condX_dec (fun h1 h1' => ?_) (fun h1 h1' => ?_)
    · simp -dsimp only [go_sem, Nat.reduceBEq, Int.reduceEq, Int.reduceLT, Int.reduceLE]
      refine IxsX_slice ⟨by omega, h1⟩ ?_
      simp -dsimp only [go_sem, Nat.reduceBEq, Int.reduceEq, Int.reduceLT, Int.reduceLE]
      refine LdX_elem0 (k := 1) rfl ⟨by omega, h1⟩ (by omega) (fun x hx => ?_)
      simp -dsimp only [go_sem, Nat.reduceBEq, Int.reduceEq, Int.reduceLT, Int.reduceLE]
      refine IxsX_slice ⟨by omega, by omega⟩ ?_
      simp -dsimp only [go_sem, Nat.reduceBEq, Int.reduceEq, Int.reduceLT, Int.reduceLE]
      refine LdX_elem0 (k := 1) rfl ⟨by omega, by omega⟩ (by omega) (fun y hy => ?_)
      have hx' : xs[i]? = some x := by simpa using hx
      have hy' : ys[i]? = some y := by simpa using hy
      simp -dsimp only [go_sem, Nat.reduceBEq, Int.reduceEq, Int.reduceLT, Int.reduceLE]
      refine callFnX.of ?_
      show CallW _ _ [_, _] _ _
      refine callX_of (by kernel_rfl) Try.func14 e14 (by exact Nat.le_of_ble_eq_true rfl) ?_
      simp -dsimp only [go_sem, Nat.reduceBEq, Int.reduceEq, Int.reduceLT, Int.reduceLE]
      refine condX_mk (fun h2 => ?_) (fun h2 => ?_)
      · simp -dsimp only [go_sem, Nat.reduceBEq, Int.reduceEq, Int.reduceLT, Int.reduceLE]
        have hne : x ≠ y := by simpa using h2
        rw [show decide (xs = ys) = false from decide_eq_false fun e => hne (by subst e; rw [hx'] at hy'; cases hy'; rfl)] at hk
        exact hk
      · simp -dsimp only [go_sem, Nat.reduceBEq, Int.reduceEq, Int.reduceLT, Int.reduceLE]
        have he : x = y := by simpa using h2
        subst he
        refine ⟨_, ?_, i + 1, ?_, rfl, by omega, ?_, trivial⟩
        · omega
        · rw [wrap_i64 (by omega) (by omega)]; rfl
        · rw [List.take_add_one, List.take_add_one, hx', hy', ht]
    · simp -dsimp only [go_sem, Nat.reduceBEq, Int.reduceEq, Int.reduceLT, Int.reduceLE]
      have : i = xs.length := by omega
      subst this
      rw [List.take_length, hlen, List.take_length] at ht
      rw [decide_eq_true ht] at hk
      exact hk

theorem plain_int_spec {L : List Chunk} {a b : Value} {xs ys : List Int} {K : KVL} [RdS L a eInt xs] [RdS L b eInt ys] (hl : xs.length ≤ 2000000000) (hk : K (.bool (decide (xs = ys))) L) :
    CallW Try.prog 12 [a, b] L K := by
  refine callX_of (by kernel_rfl) Try.func12 e12 (by exact Nat.le_of_ble_eq_true rfl) ?_
  simp -dsimp only [go_sem, Nat.reduceBEq, Int.reduceEq, Int.reduceLT, Int.reduceLE]
  refine CallX.of (same_int_spec hl ?_)
  simp -dsimp only [go_sem, Nat.reduceBEq, Int.reduceEq, Int.reduceLT, Int.reduceLE]
  exact hk

theorem own_int_spec {L : List Chunk} {a : Value} {xs : List Int} {z : Int} {K : KVL} [RdS L a eInt xs] (hl : xs.length ≤ 2000000000)
    (hk : ∀ b : Nat, K (.slice (some ⟨b, 0, none⟩) xs.length (xs.length + 3)) (⟨.pointer (some ⟨b, 0, none⟩), arrC eInt (xs ++ [z, z, z])⟩ :: L)) :
    CallW Try.prog 7 [a, .int .i64 z] L K := by
  refine callX_of (by kernel_rfl) Try.func7 e7 (by exact Nat.le_of_ble_eq_true rfl) ?_
  simp -dsimp only [go_sem, Nat.reduceBEq, Int.reduceEq, Int.reduceLT, Int.reduceLE]
  refine LenX_slice ?_
  simp -dsimp only [go_sem, Nat.reduceBEq, Int.reduceEq, Int.reduceLT, Int.reduceLE]
  rw [wrap_i64 (by omega) (by omega)]
  refine MksX_arr eInt 0 rfl rfl ⟨by omega, by omega⟩ (by omega) (by omega) (fun b => ?_)
  simp -dsimp only [go_sem, Nat.reduceBEq, Int.reduceEq, Int.reduceLT, Int.reduceLE]
  have e3 : ((xs.length : Int) + 3).toNat = xs.length + 3 := by omega
  rw [e3]
  refine AppX_arr (by rfl) ?_ ?_ (fun zs hzs => ?_)
  · show 0 + xs.length ≤ _; omega
  · simp
  have hz0 : zs = xs ++ [0, 0, 0] := by rw [hzs, List.drop_replicate]; simp [List.replicate_succ]
  subst hz0
  simp -dsimp only [go_sem, Nat.reduceBEq, Int.reduceEq, Int.reduceLT, Int.reduceLE]
  refine LenX_slice ?_
  simp -dsimp only [go_sem, Nat.reduceBEq, Int.reduceEq, Int.reduceLT, Int.reduceLE]
  rw [wrap_i64 (by omega) (by omega)]
  refine SlcX_hi ⟨by omega, by omega⟩ ?_
  simp -dsimp only [go_sem, Nat.reduceBEq, Int.reduceEq, Int.reduceLT, Int.reduceLE]
  refine LenX_slice ?_
  simp -dsimp only [go_sem, Nat.reduceBEq, Int.reduceEq, Int.reduceLT, Int.reduceLE]
  have e0 : 0 + xs.length = xs.length := by simp
  rw [e0, e3]
  refine loopX_intro [1, 5, 6] [7] (fun m vs L' => ∃ j : Nat, j ≤ 3 ∧ vs = [.int .i64 (xs.length + j)] ∧ m = 3 - j ∧ L' = ⟨.pointer (some ⟨b, 0, none⟩), arrC eInt (xs ++ List.replicate j z ++ List.replicate (3 - j) 0)⟩ :: L) _ (by rfl) ⟨0, by omega, by simp [go_sem], rfl, by simp [List.replicate_succ]⟩ ?_
  rintro m vs L' f ⟨j, hj, rfl, rfl, rfl⟩
  simp -dsimp only [go_sem, Nat.reduceBEq, Int.reduceEq, Int.reduceLT, Int.reduceLE]
  refine LenX_lit ?_
  simp -dsimp only [go_sem, Nat.reduceBEq, Int.reduceEq, Int.reduceLT, Int.reduceLE]
  refine condX_dec (fun h1 h1' => ?_) (fun h1 h1' => ?_)
  · simp -dsimp only [go_sem, Nat.reduceBEq, Int.reduceEq, Int.reduceLT, Int.reduceLE]
    refine IxsX_lit ⟨by omega, by omega⟩ ?_
    simp -dsimp only [go_sem, Nat.reduceBEq, Int.reduceEq, Int.reduceLT, Int.reduceLE]
    refine StX_arr (z := z) (by rfl) ⟨by omega, by simp; omega⟩ (by rfl) (by rfl) (by rfl) ?_
    simp -dsimp only [go_sem, Nat.reduceBEq, Int.reduceEq, Int.reduceLT, Int.reduceLE]
    refine ⟨_, ?_, j + 1, ?_, ?_, rfl, ?_⟩
    · omega
    · omega
    · rw [wrap_i64 (by omega) (by omega)]; simp [Int.add_assoc]
    · have hj3 : j < 3 := by omega
      have : ((xs.length : Int) + j).toNat = xs.length + j := by omega
      rw [this]
      congr 3
      match j, hj3 with
      | 0, _ => simp [List.replicate_succ]
      | 1, _ => simp [List.replicate_succ]
      | 2, _ => simp [List.replicate_succ]
  · simp -dsimp only [go_sem, Nat.reduceBEq, Int.reduceEq, Int.reduceLT, Int.reduceLE]
    have : j = 3 := by omega
    subst this
    rw [show xs ++ List.replicate 3 z ++ List.replicate (3 - 3) 0 = xs ++ [z, z, z] from by simp [List.replicate_succ]]
    exact hk b

theorem kept_int_spec {L R : List Chunk} {a : Value} {xs : List Int} {z : Int} {b n c : Nat} {K : KVL} [H : OwnA L b eInt (xs ++ [z, z, z]) R] [RdS L a eInt xs] (hl : xs.length ≤ 2000000000) (hn : n = xs.length) (hc : c = xs.length + 3)
    (hk : K (.bool true) L) : CallW Try.prog 11 [.slice (some ⟨b, 0, none⟩) n c, a, .int .i64 z] L K := by
  subst hn hc
  haveI h1 : RdS L (.slice (some ⟨b, 0, none⟩) xs.length (xs.length + 3)) eInt xs := H.rd (by simp) (by simp)
  haveI h2 : RdS L (.slice (some ⟨b, 0, none⟩) (xs.length + 3) (xs.length + 3)) eInt (xs ++ [z, z, z]) := H.rd (by simp) (by rw [List.take_of_length_le]; simp)
  refine callX_of (by kernel_rfl) Try.func11 e11 (by exact Nat.le_of_ble_eq_true rfl) ?_
  simp -dsimp only [go_sem, Nat.reduceBEq, Int.reduceEq, Int.reduceLT, Int.reduceLE]
  refine CallX.of (plain_int_spec hl ?_)
  rw [decide_eq_true rfl]
  simp -dsimp only [go_sem, Nat.reduceBEq, Int.reduceEq, Int.reduceLT, Int.reduceLE]
  refine CapX_lit ?_
  simp -dsimp only [go_sem, Nat.reduceBEq, Int.reduceEq, Int.reduceLT, Int.reduceLE]
  refine LenX_slice ?_
  simp -dsimp only [go_sem, Nat.reduceBEq, Int.reduceEq, Int.reduceLT, Int.reduceLE]
  rw [wrap_i64 (by omega) (by omega)]
  refine condX_dec (fun h h' => ?_) (fun h h' => ?_)
  · omega
  · simp -dsimp only [go_sem, Nat.reduceBEq, Int.reduceEq, Int.reduceLT, Int.reduceLE]
    refine LenX_slice ?_
    simp -dsimp only [go_sem, Nat.reduceBEq, Int.reduceEq, Int.reduceLT, Int.reduceLE]
    rw [wrap_i64 (by omega) (by omega)]
    refine SlcX_hi ⟨by omega, by omega⟩ ?_
    simp -dsimp only [go_sem, Nat.reduceBEq, Int.reduceEq, Int.reduceLT, Int.reduceLE]
    have e3 : ((xs.length : Int) + 3).toNat = xs.length + 3 := by omega
    rw [e3]
    refine LenX_slice ?_
    simp -dsimp only [go_sem, Nat.reduceBEq, Int.reduceEq, Int.reduceLT, Int.reduceLE]
    refine loopX_intro [2, 7] [8] (fun m vs L' => ∃ j : Nat, j ≤ 3 ∧ vs = [.int .i64 (xs.length + j)] ∧ m = 3 - j ∧ L' = L) _ (by rfl) ⟨0, by omega, by simp [go_sem], rfl, rfl⟩ ?_
    rintro m vs L' f ⟨j, hj, rfl, rfl, rfl⟩
    simp -dsimp only [go_sem, Nat.reduceBEq, Int.reduceEq, Int.reduceLT, Int.reduceLE]
    refine LenX_lit ?_
    simp -dsimp only [go_sem, Nat.reduceBEq, Int.reduceEq, Int.reduceLT, Int.reduceLE]
    refine condX_dec (fun h1 h1' => ?_) (fun h1 h1' => ?_)
    · simp -dsimp only [go_sem, Nat.reduceBEq, Int.reduceEq, Int.reduceLT, Int.reduceLE]
      refine IxsX_lit ⟨by omega, by omega⟩ ?_
      simp -dsimp only [go_sem, Nat.reduceBEq, Int.reduceEq, Int.reduceLT, Int.reduceLE]
      refine LdX_elem0 (k := 1) rfl ⟨by omega, by simp; omega⟩ (by omega) (fun x hx => ?_)
      have hj3 : j < 3 := by omega
      have hxz : x = z := by
        have : ((xs.length : Int) + j).toNat = xs.length + j := by omega
        rw [this, List.getElem?_append_right (by omega), Nat.add_sub_cancel_left] at hx
        match j, hj3 with
        | 0, _ => simpa using hx.symm
        | 1, _ => simpa using hx.symm
        | 2, _ => simpa using hx.symm
      subst hxz
      simp -dsimp only [go_sem, Nat.reduceBEq, Int.reduceEq, Int.reduceLT, Int.reduceLE]
      refine ⟨_, ?_, j + 1, ?_, ?_, rfl, trivial⟩
      · omega
      · omega
      · rw [wrap_i64 (by omega) (by omega)]; simp [Int.add_assoc]
    · simp -dsimp only [go_sem, Nat.reduceBEq, Int.reduceEq, Int.reduceLT, Int.reduceLE]
      exact hk

end Go.SL
