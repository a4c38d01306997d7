/- The laws RanksBack and RanksTurned: what they come to. -/
import Derived.Test.YtjpegbnlijgldaaRanks2
set_option linter.unusedSimpArgs false
set_option linter.unusedVariables false
namespace Go.SL
open Go.Proofs

theorem pigeon : ∀ (n : Nat) (l : List Int), l.Nodup → (∀ v ∈ l, 0 ≤ v ∧ v < (n : Int)) → l.length ≤ n
  | 0, [], _, _ => Nat.le_refl _
  | 0, v :: l, _, h => by have := h v (by simp); omega
  | n + 1, l, hd, h => by
    by_cases hm : (n : Int) ∈ l
    · have := pigeon n (l.erase n) (hd.erase _) (fun v hv => by
        have h1 := (hd.mem_erase_iff).1 hv
        have h2 := h v h1.2
        have : v ≠ (n : Int) := h1.1
        omega)
      rw [List.length_erase_of_mem hm] at this
      omega
    · have := pigeon n l hd (fun v hv => by
        have h2 := h v hv
        have : v ≠ (n : Int) := fun e => hm (e ▸ hv)
        omega)
      omega

theorem ord_all {l : List Int} {n : Int} (h : isOrd l n = true) {v : Int} (h0 : 0 ≤ v) (h1 : v < n) : ∃ j : Nat, l[j]? = some v := by
  obtain ⟨hl, h2, h3⟩ := isOrd_iff.1 h
  by_cases hm : v ∈ l
  · exact List.getElem?_of_mem hm
  · have := pigeon n.toNat (v :: l) (List.nodup_cons.2 ⟨hm, h3⟩) (fun w hw => by
      rcases List.mem_cons.1 hw with rfl | hw
      · omega
      · have := h2 w hw; omega)
    simp at this
    omega

theorem PlaceTo.inv {l ranks : List Int} (S : PlaceTo l l.length ranks) {j : Nat} {v : Int} (hj : l[j]? = some v) : ranks[v.toNat]? = some (j : Int) :=
  S.at_ j v (List.getElem?_eq_some_iff.1 hj).1 hj

theorem PlaceTo.ord {l ranks : List Int} (S : PlaceTo l l.length ranks) (h : isOrd l l.length = true) : isOrd ranks ranks.length = true := by
  obtain ⟨_, h2, h3⟩ := isOrd_iff.1 h
  have hl := S.len
  have each : ∀ i : Nat, i < ranks.length → ∃ j : Nat, l[j]? = some (i : Int) ∧ ranks[i]? = some (j : Int) := fun i hi => by
    obtain ⟨j, hj⟩ := ord_all h (v := i) (by omega) (by omega)
    exact ⟨j, hj, by simpa using S.inv hj⟩
  refine isOrd_iff.2 ⟨rfl, fun v hv => ?_, ?_⟩
  · obtain ⟨i, hi⟩ := List.getElem?_of_mem hv
    obtain ⟨j, hj, hr⟩ := each i (List.getElem?_eq_some_iff.1 hi).1
    rw [hi] at hr; cases hr
    have := (List.getElem?_eq_some_iff.1 hj).1
    omega
  · refine List.pairwise_iff_getElem.2 fun a b ha hb hab e => ?_
    obtain ⟨j, hj, hr⟩ := each a ha
    obtain ⟨k, hk, hs⟩ := each b hb
    rw [List.getElem?_eq_getElem ha] at hr
    rw [List.getElem?_eq_getElem hb] at hs
    have : (j : Int) = k := by rw [← Option.some.inj hr, ← Option.some.inj hs]; exact e
    have : j = k := by omega
    subst this
    rw [hj] at hk
    have := Option.some.inj hk
    omega

theorem ranksBack_spec {L : List Chunk} {order : Value} {l : List Int} {K : KVL} [RdS L order eInt l] (hk : K (.bool true) L) :
    CallW Try.prog 4 [order] L K := by
  refine CallW.ret ?_
  refine callX_of (by kernel_rfl) Try.func4 e4 (by exact Nat.le_of_ble_eq_true rfl) ?_
  simp -dsimp only [go_sem, Nat.reduceBEq, Int.reduceEq, Int.reduceLT, Int.reduceLE]
  refine LenX_slice ?_
  simp -dsimp only [go_sem, Nat.reduceBEq, Int.reduceEq, Int.reduceLT, Int.reduceLE]
  refine condX_dec (fun h h' => ?_) (fun h h' => ?_)
  · simp -dsimp only [go_sem, Nat.reduceBEq, Int.reduceEq, Int.reduceLT, Int.reduceLE]
    refine CallX.of (awake_spec ?_)
    simp -dsimp only [go_sem, Nat.reduceBEq, Int.reduceEq, Int.reduceLT, Int.reduceLE]
    exact ⟨L, Ent.refl _, hk⟩
  simp -dsimp only [go_sem, Nat.reduceBEq, Int.reduceEq, Int.reduceLT, Int.reduceLE]
  refine CallX.of (of_spec (l := l) (by omega) (fun ho => ?_) (fun ho v ranks S => ?_))
  · simp -dsimp only [go_sem, Nat.reduceBEq, Int.reduceEq, Int.reduceLT, Int.reduceLE]
    refine CallX.of (awake_spec ?_)
    simp -dsimp only [go_sem, Nat.reduceBEq, Int.reduceEq, Int.reduceLT, Int.reduceLE]
    refine CallX.of (awake_spec ?_)
    simp -dsimp only [go_sem, Nat.reduceBEq, Int.reduceEq, Int.reduceLT, Int.reduceLE]
    exact ⟨L, Ent.refl _, hk⟩
  · simp -dsimp only [go_sem, Nat.reduceBEq, Int.reduceEq, Int.reduceLT, Int.reduceLE]
    refine CallX.of (awake_spec ?_)
    simp -dsimp only [go_sem, Nat.reduceBEq, Int.reduceEq, Int.reduceLT, Int.reduceLE]
    have hlen := S.len
    have ho2 := S.ord ho
    refine CallX.of (of_spec (l := ranks) (by omega) (fun hn => by rw [ho2] at hn; cases hn) (fun _ v2 r2 S2 => ?_))
    simp -dsimp only [go_sem, Nat.reduceBEq, Int.reduceEq, Int.reduceLT, Int.reduceLE]
    refine LenX_slice ?_
    simp -dsimp only [go_sem, Nat.reduceBEq, Int.reduceEq, Int.reduceLT, Int.reduceLE]
    refine CallX.of (right_spec (l := ranks) (by omega) ?_)
    rw [hlen] at ho2
    simp -dsimp only [go_sem, Nat.reduceBEq, Int.reduceEq, Int.reduceLT, Int.reduceLE, ho2]
    have hlen2 := S2.len
    refine CallX.of (plain_int_spec (xs := r2) (ys := l) (by omega) ?_)
    have he : r2 = l := by
      refine List.ext_getElem? fun i => ?_
      by_cases hi : i < l.length
      · have h1 := List.getElem?_eq_getElem hi
        have h2 := S.inv h1
        have hb := (isOrd_iff.1 ho).2.1 l[i] (List.getElem_mem hi)
        have h3 := S2.inv h2
        rw [h1]
        simp at h3
        rw [h3]; congr 1; omega
      · rw [List.getElem?_eq_none (by omega), List.getElem?_eq_none (by omega)]
    rw [decide_eq_true he]
    simp -dsimp only [go_sem, Nat.reduceBEq, Int.reduceEq, Int.reduceLT, Int.reduceLE]
    exact ⟨L, Ent.tail.trans Ent.tail, hk⟩

/-- So far turned. -/
structure TurnTo (l : List Int) (i : Nat) (t : List Int) : Prop where
  le : i ≤ l.length
  len : t.length = l.length
  at_ : ∀ j x, j < i → l[j]? = some x → t[l.length - 1 - j]? = some x
theorem TurnTo.zero (l : List Int) : TurnTo l 0 (List.replicate l.length 0) := ⟨Nat.zero_le _, by simp, fun j x h => absurd h (Nat.not_lt_zero _)⟩
theorem TurnTo.step {l t : List Int} {i : Nat} (S : TurnTo l i t) {v : Int} (hv : l[i]? = some v) : TurnTo l (i + 1) (t.set (l.length - 1 - i) v) := by
  have hi := (List.getElem?_eq_some_iff.1 hv).1
  refine ⟨hi, by simp [S.len], fun j x hj hx => ?_⟩
  have hlen := S.len
  rw [List.getElem?_set]
  by_cases e : j = i
  · subst e
    rw [hv] at hx; cases hx
    rw [if_pos rfl, if_pos (by omega)]
  · rw [if_neg (by omega)]
    exact S.at_ j x (by omega) hx
theorem TurnTo.done {l t : List Int} (S : TurnTo l l.length t) : t = l.reverse := by
  refine List.ext_getElem? fun i => ?_
  by_cases hi : i < l.length
  · have h1 : l[l.length - 1 - i]? = some l[l.length - 1 - i] := List.getElem?_eq_getElem (by omega)
    have := S.at_ (l.length - 1 - i) _ (by omega) h1
    rw [show l.length - 1 - (l.length - 1 - i) = i from by omega] at this
    rw [this, List.getElem?_reverse hi, h1]
  · have := S.len
    rw [List.getElem?_eq_none (by omega), List.getElem?_eq_none (by simp; omega)]
theorem nodup_rev (l : List Int) : l.reverse.Nodup ↔ l.Nodup := by
  unfold List.Nodup
  rw [List.pairwise_reverse]
  exact ⟨fun h => h.imp Ne.symm, fun h => h.imp Ne.symm⟩
theorem isOrd_reverse (l : List Int) (n : Int) : isOrd l.reverse n = isOrd l n := by
  unfold isOrd
  simp [nodup_rev]

theorem ranksTurned_spec {L : List Chunk} {order : Value} {l : List Int} {K : KVL} [RdS L order eInt l] (hk : K (.bool true) L) :
    CallW Try.prog 5 [order] L K := by
  refine CallW.ret ?_
  refine callX_of (by kernel_rfl) Try.func5 e5 (by exact Nat.le_of_ble_eq_true rfl) ?_
  simp -dsimp only [go_sem, Nat.reduceBEq, Int.reduceEq, Int.reduceLT, Int.reduceLE]
  refine LenX_slice ?_
  simp -dsimp only [go_sem, Nat.reduceBEq, Int.reduceEq, Int.reduceLT, Int.reduceLE]
  refine condX_dec (fun h h' => ?_) (fun h h' => ?_)
  · simp -dsimp only [go_sem, Nat.reduceBEq, Int.reduceEq, Int.reduceLT, Int.reduceLE, h']
    refine CallX.of (awake_spec ?_)
    simp -dsimp only [go_sem, Nat.reduceBEq, Int.reduceEq, Int.reduceLT, Int.reduceLE]
    exact ⟨L, Ent.refl _, hk⟩
  simp -dsimp only [go_sem, Nat.reduceBEq, Int.reduceEq, Int.reduceLT, Int.reduceLE, h']
  refine CallX.of (awake_spec ?_)
  simp -dsimp only [go_sem, Nat.reduceBEq, Int.reduceEq, Int.reduceLT, Int.reduceLE, h']
  refine LenX_slice ?_
  simp -dsimp only [go_sem, Nat.reduceBEq, Int.reduceEq, Int.reduceLT, Int.reduceLE]
  refine MksX_intro eInt 0 rfl rfl (by omega) (by omega) (by omega) (fun t => ?_)
  simp -dsimp only [go_sem, Nat.reduceBEq, Int.reduceEq, Int.reduceLT, Int.reduceLE]
  refine LenX_slice ?_
  simp -dsimp only [go_sem, Nat.reduceBEq, Int.reduceEq, Int.reduceLT, Int.reduceLE]
  refine loopX_intro [0, 3, 4, 24] [25] (fun m vs L' => ∃ (i : Nat) (ts : List Int), vs = [.int .i64 i] ∧ m = l.length - i ∧ TurnTo l i ts ∧ L' = ⟨t, sliceC eInt ts⟩ :: L) _ (by rfl) ⟨0, _, rfl, rfl, TurnTo.zero l, rfl⟩ ?_
  rintro m vs L' f ⟨i, ts, rfl, rfl, S, rfl⟩
  have hlen := S.len
  have hle := S.le
  simp -dsimp only [go_sem, Nat.reduceBEq, Int.reduceEq, Int.reduceLT, Int.reduceLE]
  refine condX_dec (fun h1 h1' => ?_) (fun h1 h1' => ?_)
  · simp -dsimp only [go_sem, Nat.reduceBEq, Int.reduceEq, Int.reduceLT, Int.reduceLE]
    refine IxsX_slice ⟨by omega, h1⟩ ?_
    simp -dsimp only [go_sem, Nat.reduceBEq, Int.reduceEq, Int.reduceLT, Int.reduceLE]
    refine LdX_elem0 (k := 1) rfl ⟨by omega, h1⟩ (by omega) (fun v hv => ?_)
    have hv' : l[i]? = some v := by simpa using hv
    simp -dsimp only [go_sem, Nat.reduceBEq, Int.reduceEq, Int.reduceLT, Int.reduceLE]
    rw [wrap_i64 (n := (l.length : Int) - 1) (by omega) (by omega), wrap_i64 (by omega) (by omega)]
    refine IxsX_slice ⟨by omega, by omega⟩ ?_
    simp -dsimp only [go_sem, Nat.reduceBEq, Int.reduceEq, Int.reduceLT, Int.reduceLE]
    refine StX_elem (k := 1) (z := v) rfl ⟨by omega, by omega⟩ (by rfl) (by rfl) (by rfl) (by rfl) ?_
    simp -dsimp only [go_sem, Nat.reduceBEq, Int.reduceEq, Int.reduceLT, Int.reduceLE]
    rw [show ((l.length : Int) - 1 - i).toNat = l.length - 1 - i from by omega]
    refine ⟨_, ?_, i + 1, _, ?_, rfl, S.step hv', rfl⟩
    · omega
    · rw [wrap_i64 (by omega) (by omega)]; rfl
  · simp -dsimp only [go_sem, Nat.reduceBEq, Int.reduceEq, Int.reduceLT, Int.reduceLE]
    have hi : i = l.length := by omega
    subst hi
    have ht := S.done
    subst ht
    have hrl : l.reverse.length = l.length := by simp
    haveI hin : RdS (⟨t, sliceC eInt l.reverse⟩ :: L) order eInt l := RdS.tail
    refine CallX.of (of_spec (l := l) (by omega) (fun ho => ?_) (fun ho v ranks P1 => ?_))
    · simp -dsimp only [go_sem, Nat.reduceBEq, Int.reduceEq, Int.reduceLT, Int.reduceLE]
      refine CallX.of (of_spec (l := l.reverse) (by omega) (fun _ => ?_) (fun ho2 => ?_))
      · simp -dsimp only [go_sem, Nat.reduceBEq, Int.reduceEq, Int.reduceLT, Int.reduceLE]
        refine LenX_nil ?_
        simp -dsimp only [go_sem, Nat.reduceBEq, Int.reduceEq, Int.reduceLT, Int.reduceLE]
        refine LenX_nil ?_
        simp -dsimp only [go_sem, Nat.reduceBEq, Int.reduceEq, Int.reduceLT, Int.reduceLE]
        rw [wrap_i64 (n := 0 + 0) (by omega) (by omega)]
        exact ⟨L, Ent.tail, hk⟩
      · rw [isOrd_reverse, hrl, ho] at ho2; cases ho2
    · simp -dsimp only [go_sem, Nat.reduceBEq, Int.reduceEq, Int.reduceLT, Int.reduceLE]
      refine CallX.of (of_spec (l := l.reverse) (by omega) (fun ho2 => ?_) (fun ho2 v2 r2 P2 => ?_))
      · rw [isOrd_reverse, hrl, ho] at ho2; cases ho2
      · simp -dsimp only [go_sem, Nat.reduceBEq, Int.reduceEq, Int.reduceLT, Int.reduceLE]
        have q1 := P1.len
        have q2 := P2.len
        refine loopX_intro [3, 6, 8] [10] (fun m vs L' => ∃ i : Nat, i ≤ l.length ∧ vs = [.int .i64 i] ∧ m = l.length - i ∧ L' = ⟨v2, sliceC eInt r2⟩ :: ⟨v, sliceC eInt ranks⟩ :: ⟨t, sliceC eInt l.reverse⟩ :: L) _ (by rfl) ⟨0, by omega, by simp [go_sem], rfl, rfl⟩ ?_
        rintro m vs L' f ⟨i, hi, rfl, rfl, rfl⟩
        simp -dsimp only [go_sem, Nat.reduceBEq, Int.reduceEq, Int.reduceLT, Int.reduceLE]
        refine condX_dec (fun h2 h2' => ?_) (fun h2 h2' => ?_)
        · simp -dsimp only [go_sem, Nat.reduceBEq, Int.reduceEq, Int.reduceLT, Int.reduceLE]
          refine IxsX_slice ⟨by omega, by omega⟩ ?_
          simp -dsimp only [go_sem, Nat.reduceBEq, Int.reduceEq, Int.reduceLT, Int.reduceLE]
          refine LdX_elem0 (k := 1) rfl ⟨by omega, by omega⟩ (by omega) (fun x hx => ?_)
          simp -dsimp only [go_sem, Nat.reduceBEq, Int.reduceEq, Int.reduceLT, Int.reduceLE]
          refine IxsX_slice ⟨by omega, by omega⟩ ?_
          simp -dsimp only [go_sem, Nat.reduceBEq, Int.reduceEq, Int.reduceLT, Int.reduceLE]
          refine LdX_elem0 (k := 1) rfl ⟨by omega, by omega⟩ (by omega) (fun y hy => ?_)
          obtain ⟨j, hj⟩ := ord_all ho (v := i) (by omega) (by omega)
          have hjl := (List.getElem?_eq_some_iff.1 hj).1
          obtain rfl : x = j := by rw [P1.inv hj] at hx; cases hx; rfl
          have hj2 : l.reverse[l.length - 1 - j]? = some (i : Int) := by
            rw [List.getElem?_reverse (by omega), show l.length - 1 - (l.length - 1 - j) = j from by omega]
            exact hj
          obtain rfl : y = ((l.length - 1 - j : Nat) : Int) := by rw [P2.inv hj2] at hy; cases hy; rfl
          simp -dsimp only [go_sem, Nat.reduceBEq, Int.reduceEq, Int.reduceLT, Int.reduceLE]
          rw [wrap_i64 (n := (j : Int) + _) (by omega) (by omega), wrap_i64 (n := (l.length : Int) - 1) (by omega) (by omega)]
          refine condX_not (fun h3 h3' => absurd (by omega) h3) (fun h3 h3' => ?_)
          simp -dsimp only [go_sem, Nat.reduceBEq, Int.reduceEq, Int.reduceLT, Int.reduceLE]
          refine ⟨_, ?_, i + 1, ?_, ?_, rfl, trivial⟩
          · omega
          · omega
          · rw [wrap_i64 (by omega) (by omega)]; rfl
        · simp -dsimp only [go_sem, Nat.reduceBEq, Int.reduceEq, Int.reduceLT, Int.reduceLE]
          exact ⟨L, Ent.tail.trans (Ent.tail.trans Ent.tail), hk⟩

end Go.SL
