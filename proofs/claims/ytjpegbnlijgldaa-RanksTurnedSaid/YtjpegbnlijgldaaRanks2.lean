/- The laws of ranks: what their helpers come to. -/
import Derived.Test.YtjpegbnlijgldaaRanks
import Derived.Test.YtjpegbnlijgldaaHelp1
set_option linter.unusedSimpArgs false
set_option linter.unusedVariables false
namespace Go.SL
open Go.Proofs

theorem lawright_spec {L : List Chunk} {order : Value} {l : List Int} {n : Int} {K : KVL} [RdS L order eInt l] (hl : l.length ≤ 2000000000) (hk : K (.bool (isOrd l n)) L) :
    CallW Try.prog 9 [order, .int .i64 n] L K := by
  refine CallW.ret ?_
  refine callX_of (by kernel_rfl) Try.func9 e9 (by exact Nat.le_of_ble_eq_true rfl) ?_
  simp -dsimp only [go_sem, Nat.reduceBEq, Int.reduceEq, Int.reduceLT, Int.reduceLE]
  refine LenX_slice ?_
  simp -dsimp only [go_sem, Nat.reduceBEq, Int.reduceEq, Int.reduceLT, Int.reduceLE]
  refine condX_not (fun h h' => ?_) (fun h h' => ?_)
  · simp -dsimp only [go_sem, Nat.reduceBEq, Int.reduceEq, Int.reduceLT, Int.reduceLE]
    refine ⟨L, Ent.refl _, ?_⟩
    rw [show isOrd l n = false from decide_eq_false fun x => h x.1] at hk
    exact hk
  · simp -dsimp only [go_sem, Nat.reduceBEq, Int.reduceEq, Int.reduceLT, Int.reduceLE]
    refine LenX_slice ?_
    simp -dsimp only [go_sem, Nat.reduceBEq, Int.reduceEq, Int.reduceLT, Int.reduceLE]
    refine MksX_intro eBool false rfl rfl (by omega) (by omega) (by omega) (fun seen => ?_)
    simp -dsimp only [go_sem, Nat.reduceBEq, Int.reduceEq, Int.reduceLT, Int.reduceLE]
    have hln : l.length = n.toNat := by omega
    refine loopX_intro [0, 5] [6] (fun m vs L' => ∃ (i : Nat) (marks : List Bool), vs = [.int .i64 i] ∧ m = l.length - i ∧ SeenTo l n i marks ∧ L' = ⟨seen, sliceC eBool marks⟩ :: L) _ (by rfl) ⟨0, _, rfl, rfl, SeenTo.zero l n, by simp [hln]⟩ ?_
    rintro m vs L' f ⟨i, marks, rfl, rfl, S, rfl⟩
    have hlen := S.len
    have hle := S.le
    simp -dsimp only [go_sem, Nat.reduceBEq, Int.reduceEq, Int.reduceLT, Int.reduceLE]
    refine LenX_slice ?_
    simp -dsimp only [go_sem, Nat.reduceBEq, Int.reduceEq, Int.reduceLT, Int.reduceLE]
    refine condX_dec (fun h1 h1' => ?_) (fun h1 h1' => ?_)
    · simp -dsimp only [go_sem, Nat.reduceBEq, Int.reduceEq, Int.reduceLT, Int.reduceLE]
      refine IxsX_slice ⟨by omega, h1⟩ ?_
      simp -dsimp only [go_sem, Nat.reduceBEq, Int.reduceEq, Int.reduceLT, Int.reduceLE]
      refine LdX_elem0 (k := 1) rfl ⟨by omega, h1⟩ (by omega) (fun v hv => ?_)
      have hv' : l[i]? = some v := by simpa using hv
      simp -dsimp only [go_sem, Nat.reduceBEq, Int.reduceEq, Int.reduceLT, Int.reduceLE]
      have no : isOrd l n = false → ∃ M, Ent (⟨seen, sliceC eBool marks⟩ :: L) M ∧ K (.bool false) M := fun e => ⟨L, Ent.tail, by rw [e] at hk; exact hk⟩
      refine condX_dec (fun h2 h2' => ?_) (fun h2 h2' => ?_)
      · simp -dsimp only [go_sem, Nat.reduceBEq, Int.reduceEq, Int.reduceLT, Int.reduceLE, h2']
        exact no (S.bad hv' (.inl fun x => by omega))
      · simp -dsimp only [go_sem, Nat.reduceBEq, Int.reduceEq, Int.reduceLT, Int.reduceLE, h2']
        refine IxsX_slice ⟨by omega, h1⟩ ?_
        simp -dsimp only [go_sem, Nat.reduceBEq, Int.reduceEq, Int.reduceLT, Int.reduceLE]
        refine LdX_elem0 (k := 1) rfl ⟨by omega, h1⟩ (by omega) (fun v2 hv2 => ?_)
        obtain rfl : v2 = v := by rw [hv] at hv2; cases hv2; rfl
        simp -dsimp only [go_sem, Nat.reduceBEq, Int.reduceEq, Int.reduceLT, Int.reduceLE]
        refine LenX_slice ?_
        simp -dsimp only [go_sem, Nat.reduceBEq, Int.reduceEq, Int.reduceLT, Int.reduceLE]
        refine condX_dec (fun h3 h3' => ?_) (fun h3 h3' => ?_)
        · simp -dsimp only [go_sem, Nat.reduceBEq, Int.reduceEq, Int.reduceLT, Int.reduceLE, h2', h3']
          exact no (S.bad hv' (.inl fun x => by omega))
        · simp -dsimp only [go_sem, Nat.reduceBEq, Int.reduceEq, Int.reduceLT, Int.reduceLE, h2', h3']
          refine IxsX_slice ⟨by omega, h1⟩ ?_
          simp -dsimp only [go_sem, Nat.reduceBEq, Int.reduceEq, Int.reduceLT, Int.reduceLE]
          refine LdX_elem0 (k := 1) rfl ⟨by omega, h1⟩ (by omega) (fun v3 hv3 => ?_)
          obtain rfl : v3 = v2 := by rw [hv] at hv3; cases hv3; rfl
          simp -dsimp only [go_sem, Nat.reduceBEq, Int.reduceEq, Int.reduceLT, Int.reduceLE]
          refine IxsX_slice ⟨by omega, by omega⟩ ?_
          simp -dsimp only [go_sem, Nat.reduceBEq, Int.reduceEq, Int.reduceLT, Int.reduceLE]
          refine LdX_elem0 (k := 1) rfl ⟨by omega, by omega⟩ (by omega) (fun b hb => ?_)
          simp -dsimp only [go_sem, Nat.reduceBEq, Int.reduceEq, Int.reduceLT, Int.reduceLE]
          refine condX_mk (fun h4 => ?_) (fun h4 => ?_)
          · subst h4
            simp -dsimp only [go_sem, Nat.reduceBEq, Int.reduceEq, Int.reduceLT, Int.reduceLE]
            exact no (S.bad hv' (.inr hb))
          · subst h4
            simp -dsimp only [go_sem, Nat.reduceBEq, Int.reduceEq, Int.reduceLT, Int.reduceLE]
            refine IxsX_slice ⟨by omega, h1⟩ ?_
            simp -dsimp only [go_sem, Nat.reduceBEq, Int.reduceEq, Int.reduceLT, Int.reduceLE]
            refine LdX_elem0 (k := 1) rfl ⟨by omega, h1⟩ (by omega) (fun v4 hv4 => ?_)
            obtain rfl : v4 = v3 := by rw [hv] at hv4; cases hv4; rfl
            simp -dsimp only [go_sem, Nat.reduceBEq, Int.reduceEq, Int.reduceLT, Int.reduceLE]
            refine IxsX_slice ⟨by omega, by omega⟩ ?_
            simp -dsimp only [go_sem, Nat.reduceBEq, Int.reduceEq, Int.reduceLT, Int.reduceLE]
            refine StX_elem (k := 1) (z := true) rfl ⟨by omega, by omega⟩ (by rfl) (by rfl) (by rfl) (by rfl) ?_
            simp -dsimp only [go_sem, Nat.reduceBEq, Int.reduceEq, Int.reduceLT, Int.reduceLE]
            refine ⟨_, ?_, i + 1, _, ?_, rfl, S.step hv' (by omega) (by omega) hb, rfl⟩
            · omega
            · rw [wrap_i64 (by omega) (by omega)]; rfl
    · simp -dsimp only [go_sem, Nat.reduceBEq, Int.reduceEq, Int.reduceLT, Int.reduceLE]
      refine ⟨L, Ent.tail, ?_⟩
      rw [S.done h h1] at hk
      exact hk

theorem awake_spec {L : List Chunk} {K : KVL} (hk : K (.bool true) L) : CallW Try.prog 6 [] L K := by
  refine CallW.ret ?_
  refine callX_of (by kernel_rfl) Try.func6 e6 (by exact Nat.le_of_ble_eq_true rfl) ?_
  simp -dsimp only [go_sem, Nat.reduceBEq, Int.reduceEq, Int.reduceLT, Int.reduceLE]
  refine bldX_elems (E := eInt) [2, 0, 1] (by rfl) (by rfl) (fun a => ?_)
  simp -dsimp only [go_sem, Nat.reduceBEq, Int.reduceEq, Int.reduceLT, Int.reduceLE]
  refine CallX.of (of_spec ?_ ?_ ?_)
  · simp
  · exact fun h => absurd h (by decide)
  intro _ v ranks S
  simp -dsimp only [go_sem, Nat.reduceBEq, Int.reduceEq, Int.reduceLT, Int.reduceLE]
  have h0 : ranks[0]? = some 1 := S.at_ 1 0 (by simp) rfl
  have hl : ranks.length = 3 := S.len
  refine LenX_slice ?_
  simp -dsimp only [go_sem, Nat.reduceBEq, Int.reduceEq, Int.reduceLT, Int.reduceLE]
  refine condX_dec (fun h h' => ?_) (fun h h' => absurd (by omega) h)
  simp -dsimp only [go_sem, Nat.reduceBEq, Int.reduceEq, Int.reduceLT, Int.reduceLE, h']
  refine IxsX_slice ⟨by omega, by omega⟩ ?_
  simp -dsimp only [go_sem, Nat.reduceBEq, Int.reduceEq, Int.reduceLT, Int.reduceLE]
  refine LdX_elem0 (k := 1) rfl ⟨by omega, by omega⟩ (by omega) (fun x hx => ?_)
  obtain rfl : x = 1 := by rw [show Int.toNat 0 = 0 from rfl, h0] at hx; cases hx; rfl
  simp -dsimp only [go_sem, Nat.reduceBEq, Int.reduceEq, Int.reduceLT, Int.reduceLE]
  refine bldX_elems (E := eInt) [1, 0] (by rfl) (by rfl) (fun a2 => ?_)
  simp -dsimp only [go_sem, Nat.reduceBEq, Int.reduceEq, Int.reduceLT, Int.reduceLE]
  refine CallX.of (right_spec (l := [1, 0]) (by simp) ?_)
  simp -dsimp only [go_sem, Nat.reduceBEq, Int.reduceEq, Int.reduceLT, Int.reduceLE]
  exact ⟨L, Ent.tail.trans (Ent.tail.trans Ent.tail), hk⟩

theorem ranksTell_spec {L : List Chunk} {order : Value} {l : List Int} {n : Int} {K : KVL} [RdS L order eInt l] (hk : K (.bool true) L) :
    CallW Try.prog 3 [order, .int .i64 n] L K := by
  refine CallW.ret ?_
  refine callX_of (by kernel_rfl) Try.func3 e3 (by exact Nat.le_of_ble_eq_true rfl) ?_
  simp -dsimp only [go_sem, Nat.reduceBEq, Int.reduceEq, Int.reduceLT, Int.reduceLE]
  refine LenX_slice ?_
  simp -dsimp only [go_sem, Nat.reduceBEq, Int.reduceEq, Int.reduceLT, Int.reduceLE]
  refine condX_dec (fun h h' => ?_) (fun h h' => ?_)
  · simp -dsimp only [go_sem, Nat.reduceBEq, Int.reduceEq, Int.reduceLT, Int.reduceLE]
    refine CallX.of (awake_spec ?_)
    simp -dsimp only [go_sem, Nat.reduceBEq, Int.reduceEq, Int.reduceLT, Int.reduceLE]
    exact ⟨L, Ent.refl _, hk⟩
  simp -dsimp only [go_sem, Nat.reduceBEq, Int.reduceEq, Int.reduceLT, Int.reduceLE]
  refine CallX.of (own_int_spec (by omega) (fun b => ?_))
  simp -dsimp only [go_sem, Nat.reduceBEq, Int.reduceEq, Int.reduceLT, Int.reduceLE]
  haveI hin : RdS (⟨.pointer (some ⟨b, 0, none⟩), arrC eInt (l ++ [71, 71, 71])⟩ :: L) (.slice (some ⟨b, 0, none⟩) l.length (l.length + 3)) eInt l := OwnA.head.rd (by simp) (by simp)
  have same : (!(isOrd l n == isOrd l n)) = false := by simp
  refine CallX.of (of_spec (l := l) (by omega) (fun ho => ?_) (fun ho v ranks S => ?_))
  · simp -dsimp only [go_sem, Nat.reduceBEq, Int.reduceEq, Int.reduceLT, Int.reduceLE]
    refine LenX_slice ?_
    simp -dsimp only [go_sem, Nat.reduceBEq, Int.reduceEq, Int.reduceLT, Int.reduceLE]
    refine CallX.of (lawright_spec (l := l) (by omega) ?_)
    simp -dsimp only [go_sem, Nat.reduceBEq, Int.reduceEq, Int.reduceLT, Int.reduceLE]
    refine CallX.of (awake_spec ?_)
    simp -dsimp only [go_sem, Nat.reduceBEq, Int.reduceEq, Int.reduceLT, Int.reduceLE]
    refine CallX.of (right_spec (l := l) (by omega) ?_)
    simp -dsimp only [go_sem, Nat.reduceBEq, Int.reduceEq, Int.reduceLT, Int.reduceLE]
    refine CallX.of (lawright_spec (l := l) (by omega) ?_)
    simp -dsimp only [go_sem, Nat.reduceBEq, Int.reduceEq, Int.reduceLT, Int.reduceLE, ho]
    refine CallX.of (kept_int_spec (xs := l) (z := 71) (by omega) rfl rfl ?_)
    simp -dsimp only [go_sem, Nat.reduceBEq, Int.reduceEq, Int.reduceLT, Int.reduceLE, ho]
    refine LenX_nil ?_
    simp -dsimp only [go_sem, Nat.reduceBEq, Int.reduceEq, Int.reduceLT, Int.reduceLE]
    exact ⟨L, Ent.tail, hk⟩
  · haveI hin2 : RdS (⟨v, sliceC eInt ranks⟩ :: ⟨.pointer (some ⟨b, 0, none⟩), arrC eInt (l ++ [71, 71, 71])⟩ :: L) (.slice (some ⟨b, 0, none⟩) l.length (l.length + 3)) eInt l := RdS.tail
    simp -dsimp only [go_sem, Nat.reduceBEq, Int.reduceEq, Int.reduceLT, Int.reduceLE]
    refine LenX_slice ?_
    simp -dsimp only [go_sem, Nat.reduceBEq, Int.reduceEq, Int.reduceLT, Int.reduceLE]
    refine CallX.of (lawright_spec (l := l) (by omega) ?_)
    simp -dsimp only [go_sem, Nat.reduceBEq, Int.reduceEq, Int.reduceLT, Int.reduceLE]
    refine CallX.of (awake_spec ?_)
    simp -dsimp only [go_sem, Nat.reduceBEq, Int.reduceEq, Int.reduceLT, Int.reduceLE]
    refine CallX.of (right_spec (l := l) (by omega) ?_)
    simp -dsimp only [go_sem, Nat.reduceBEq, Int.reduceEq, Int.reduceLT, Int.reduceLE]
    refine CallX.of (lawright_spec (l := l) (by omega) ?_)
    simp -dsimp only [go_sem, Nat.reduceBEq, Int.reduceEq, Int.reduceLT, Int.reduceLE, ho]
    refine CallX.of (kept_int_spec (xs := l) (z := 71) (by omega) rfl rfl ?_)
    simp -dsimp only [go_sem, Nat.reduceBEq, Int.reduceEq, Int.reduceLT, Int.reduceLE]
    have hlen := S.len
    simp -dsimp only [go_sem, Nat.reduceBEq, Int.reduceEq, Int.reduceLT, Int.reduceLE, ho]
    refine loopX_intro [0, 6] [9] (fun m vs L' => ∃ i : Nat, i ≤ l.length ∧ vs = [.int .i64 i] ∧ m = l.length - i ∧ L' = ⟨v, sliceC eInt ranks⟩ :: ⟨.pointer (some ⟨b, 0, none⟩), arrC eInt (l ++ [71, 71, 71])⟩ :: L) _ (by rfl) ⟨0, by omega, by simp [go_sem], rfl, rfl⟩ ?_
    rintro m vs L' f ⟨i, hi, rfl, rfl, rfl⟩
    simp -dsimp only [go_sem, Nat.reduceBEq, Int.reduceEq, Int.reduceLT, Int.reduceLE]
    refine LenX_slice ?_
    simp -dsimp only [go_sem, Nat.reduceBEq, Int.reduceEq, Int.reduceLT, Int.reduceLE]
    refine condX_dec (fun h1 h1' => ?_) (fun h1 h1' => ?_)
    · simp -dsimp only [go_sem, Nat.reduceBEq, Int.reduceEq, Int.reduceLT, Int.reduceLE]
      refine LenX_slice ?_
      simp -dsimp only [go_sem, Nat.reduceBEq, Int.reduceEq, Int.reduceLT, Int.reduceLE]
      refine LenX_slice ?_
      simp -dsimp only [go_sem, Nat.reduceBEq, Int.reduceEq, Int.reduceLT, Int.reduceLE]
      refine condX_not (fun h2 h2' => absurd (by omega) h2) (fun h2 h2' => ?_)
      simp -dsimp only [go_sem, Nat.reduceBEq, Int.reduceEq, Int.reduceLT, Int.reduceLE, h2']
      refine IxsX_slice ⟨by omega, h1⟩ ?_
      simp -dsimp only [go_sem, Nat.reduceBEq, Int.reduceEq, Int.reduceLT, Int.reduceLE]
      refine LdX_elem0 (k := 1) rfl ⟨by omega, h1⟩ (by omega) (fun x hx => ?_)
      have hx' : l[i]? = some x := by simpa using hx
      have hb := (isOrd_iff.1 ho).2.1 x (List.mem_of_getElem? hx')
      simp -dsimp only [go_sem, Nat.reduceBEq, Int.reduceEq, Int.reduceLT, Int.reduceLE]
      refine IxsX_slice ⟨by omega, by omega⟩ ?_
      simp -dsimp only [go_sem, Nat.reduceBEq, Int.reduceEq, Int.reduceLT, Int.reduceLE]
      refine LdX_elem0 (k := 1) rfl ⟨by omega, by omega⟩ (by omega) (fun y hy => ?_)
      obtain rfl : y = i := by rw [S.at_ i x (by omega) hx'] at hy; cases hy; rfl
      simp -dsimp only [go_sem, Nat.reduceBEq, Int.reduceEq, Int.reduceLT, Int.reduceLE]
      refine ⟨_, ?_, i + 1, ?_, ?_, rfl, trivial⟩
      · omega
      · omega
      · rw [wrap_i64 (by omega) (by omega)]; rfl
    · simp -dsimp only [go_sem, Nat.reduceBEq, Int.reduceEq, Int.reduceLT, Int.reduceLE]
      exact ⟨L, Ent.tail.trans Ent.tail, hk⟩

end Go.SL
