/- Package ranks: what Right and Of come to. -/
import Derived.Test.YtjpegbnlijgldaaCodeR1
import Derived.Test.YtjpegbnlijgldaaLoop
set_option linter.unusedSimpArgs false
set_option linter.unusedVariables false
namespace Go.SL
open Go.Proofs

/-- An order of n things: the numbers from 0 on, each once. -/
def isOrd (l : List Int) (n : Int) : Bool := decide ((l.length : Int) = n ∧ (∀ v ∈ l, 0 ≤ v ∧ v < n) ∧ l.Nodup)

theorem take_succ_mem {α : Type} {l : List α} {i : Nat} {x : α} (h : l[i]? = some x) : l.take (i + 1) = l.take i ++ [x] := by
  obtain ⟨hi, rfl⟩ := List.getElem?_eq_some_iff.1 h
  exact List.take_succ_eq_append_getElem hi

/-- What has been seen of an order so far. -/
structure SeenTo (l : List Int) (n : Int) (i : Nat) (marks : List Bool) : Prop where
  le : i ≤ l.length
  len : marks.length = n.toNat
  mark : ∀ v, v < n.toNat → marks[v]? = some (decide ((v : Int) ∈ l.take i))
  in_ : ∀ v ∈ l.take i, 0 ≤ v ∧ v < n
  nodup : (l.take i).Nodup

theorem SeenTo.zero (l : List Int) (n : Int) : SeenTo l n 0 (List.replicate n.toNat false) :=
  ⟨Nat.zero_le _, by simp, fun v hv => by simp [hv], by simp, by simp⟩

theorem SeenTo.bad {l : List Int} {n : Int} {i : Nat} {marks : List Bool} (S : SeenTo l n i marks) {v : Int} (hv : l[i]? = some v) (h : ¬ (0 ≤ v ∧ v < n) ∨ marks[v.toNat]? = some true) : isOrd l n = false := by
  unfold isOrd
  refine decide_eq_false fun ⟨_, h2, h3⟩ => ?_
  have hm : v ∈ l := List.mem_of_getElem? hv
  have hb := h2 v hm
  rcases h with h | h
  · exact h hb
  · have := S.mark v.toNat (by omega)
    rw [h] at this
    have hin : ((v.toNat : Nat) : Int) ∈ l.take i := by simpa using this
    rw [Int.toNat_of_nonneg hb.1] at hin
    have h4 : (l.take (i + 1)).Nodup := h3.sublist (List.take_sublist _ _)
    rw [take_succ_mem hv] at h4
    exact (List.nodup_append.1 h4).2.2 v hin v (by simp) rfl

theorem SeenTo.step {l : List Int} {n : Int} {i : Nat} {marks : List Bool} (S : SeenTo l n i marks) {v : Int} (hv : l[i]? = some v) (h0 : 0 ≤ v) (h1 : v < n) (h : marks[v.toNat]? = some false) :
    SeenTo l n (i + 1) (marks.set v.toNat true) := by
  have hi := (List.getElem?_eq_some_iff.1 hv).1
  have ht := take_succ_mem hv
  have hnin : v ∉ l.take i := fun hin => by
    have := S.mark v.toNat (by omega)
    rw [h] at this
    have h2 : ¬ ((v.toNat : Nat) : Int) ∈ l.take i := by simpa using this
    rw [Int.toNat_of_nonneg h0] at h2
    exact h2 hin
  refine ⟨hi, by simp [S.len], fun w hw => ?_, fun w hw => ?_, ?_⟩
  · rw [List.getElem?_set, ht]
    by_cases e : v.toNat = w
    · have : (w : Int) = v := by omega
      simp [e, this, S.len, hw]
    · rw [if_neg e, S.mark w hw]
      have : ¬ ((w : Int) = v) := by omega
      simp [this]
  · rw [ht] at hw
    rcases List.mem_append.1 hw with hw | hw
    · exact S.in_ w hw
    · simp at hw; subst hw; exact ⟨h0, h1⟩
  · rw [ht]
    refine List.nodup_append.2 ⟨S.nodup, by simp, ?_⟩
    intro a ha b hb
    simp at hb; subst hb
    exact fun e => hnin (e ▸ ha)

theorem SeenTo.done {l : List Int} {n : Int} {i : Nat} {marks : List Bool} (S : SeenTo l n i marks) (hn : (l.length : Int) = n) (hi : ¬ (i : Int) < l.length) : isOrd l n = true := by
  have h : i = l.length := by have := S.le; omega
  subst h
  unfold isOrd
  have h1 := S.in_
  have h2 := S.nodup
  rw [List.take_length] at h1 h2
  exact decide_eq_true ⟨hn, h1, h2⟩

theorem right_spec {L : List Chunk} {order : Value} {l : List Int} {n : Int} {K : KVL} [RdS L order eInt l] (hl : l.length ≤ 2000000000) (hk : K (.bool (isOrd l n)) L) :
    CallW Try.prog 10 [order, .int .i64 n] L K := by
  refine CallW.ret ?_
  refine callX_of (by kernel_rfl) Try.func10 e10 (by exact Nat.le_of_ble_eq_true rfl) ?_
  simp -dsimp only [go_sem, Nat.reduceBEq, Int.reduceEq, Int.reduceLT, Int.reduceLE]
  refine LenX_slice ?_
  simp -dsimp only [go_sem, Nat.reduceBEq, Int.reduceEq, Int.reduceLT, Int.reduceLE]
  refine condX_not (fun h h' => ?_) (fun h h' => ?_)
  · simp -dsimp only [go_sem, Nat.reduceBEq, Int.reduceEq, Int.reduceLT, Int.reduceLE]
    refine ⟨L, Ent.refl _, ?_⟩
    rw [show isOrd l n = false from decide_eq_false fun x => h x.1] at hk
    exact hk
  · simp -dsimp only [go_sem, Nat.reduceBEq, Int.reduceEq, Int.reduceLT, Int.reduceLE]
    refine MksX_intro eBool false rfl rfl (by omega) (by omega) (by omega) (fun seen => ?_)
    simp -dsimp only [go_sem, Nat.reduceBEq, Int.reduceEq, Int.reduceLT, Int.reduceLE]
    refine LenX_slice ?_
    simp -dsimp only [go_sem, Nat.reduceBEq, Int.reduceEq, Int.reduceLT, Int.reduceLE]
    refine loopX_intro [0, 1, 5, 14, 15] [16] (fun m vs L' => ∃ (i : Nat) (marks : List Bool), vs = [.int .i64 i] ∧ m = l.length - i ∧ SeenTo l n i marks ∧ L' = ⟨seen, sliceC eBool marks⟩ :: L) _ (by rfl) ⟨0, _, rfl, rfl, SeenTo.zero l n, rfl⟩ ?_
    rintro m vs L' f ⟨i, marks, rfl, rfl, S, rfl⟩
    have hlen := S.len
    have hle := S.le
    simp -dsimp only [go_sem, Nat.reduceBEq, Int.reduceEq, Int.reduceLT, Int.reduceLE]
    refine condX_dec (fun h1 h1' => ?_) (fun h1 h1' => ?_)
    · simp -dsimp only [go_sem, Nat.reduceBEq, Int.reduceEq, Int.reduceLT, Int.reduceLE]
      refine IxsX_slice ⟨by omega, h1⟩ ?_
      simp -dsimp only [go_sem, Nat.reduceBEq, Int.reduceEq, Int.reduceLT, Int.reduceLE]
      refine LdX_elem0 (k := 1) rfl ⟨by omega, h1⟩ (by omega) (fun v hv => ?_)
      have hv' : l[i]? = some v := by simpa using hv
      simp -dsimp only [go_sem, Nat.reduceBEq, Int.reduceEq, Int.reduceLT, Int.reduceLE]
      have no : isOrd l n = false → ∃ M, Ent (⟨seen, sliceC eBool marks⟩ :: L) M ∧ K (.bool false) M := fun e => ⟨L, Ent.tail, by rw [e] at hk; exact hk⟩
      refine condX_dec (fun h2 h2' => ?_) (fun h2 h2' => ?_)
      · simp -dsimp only [go_sem, Nat.reduceBEq, Int.reduceEq, Int.reduceLT, Int.reduceLE, h2']
        exact no (S.bad hv' (.inl fun x => by omega))
      · simp -dsimp only [go_sem, Nat.reduceBEq, Int.reduceEq, Int.reduceLT, Int.reduceLE, h2']
        refine condX_dec (fun h3 h3' => ?_) (fun h3 h3' => ?_)
        · simp -dsimp only [go_sem, Nat.reduceBEq, Int.reduceEq, Int.reduceLT, Int.reduceLE, h2', h3']
          exact no (S.bad hv' (.inl fun x => by omega))
        · simp -dsimp only [go_sem, Nat.reduceBEq, Int.reduceEq, Int.reduceLT, Int.reduceLE, h2', h3']
          refine IxsX_slice ⟨by omega, by omega⟩ ?_
          simp -dsimp only [go_sem, Nat.reduceBEq, Int.reduceEq, Int.reduceLT, Int.reduceLE]
          refine LdX_elem0 (k := 1) rfl ⟨by omega, by omega⟩ (by omega) (fun b hb => ?_)
          simp -dsimp only [go_sem, Nat.reduceBEq, Int.reduceEq, Int.reduceLT, Int.reduceLE]
          refine condX_mk (fun h4 => ?_) (fun h4 => ?_)
          · subst h4
            simp -dsimp only [go_sem, Nat.reduceBEq, Int.reduceEq, Int.reduceLT, Int.reduceLE]
            exact no (S.bad hv' (.inr hb))
          · subst h4
            simp -dsimp only [go_sem, Nat.reduceBEq, Int.reduceEq, Int.reduceLT, Int.reduceLE]
            refine IxsX_slice ⟨by omega, by omega⟩ ?_
            simp -dsimp only [go_sem, Nat.reduceBEq, Int.reduceEq, Int.reduceLT, Int.reduceLE]
            refine StX_elem (k := 1) (z := true) rfl ⟨by omega, by omega⟩ (by rfl) (by rfl) (by rfl) (by rfl) ?_
            simp -dsimp only [go_sem, Nat.reduceBEq, Int.reduceEq, Int.reduceLT, Int.reduceLE]
            refine ⟨_, ?_, i + 1, _, ?_, rfl, S.step hv' (by omega) (by omega) hb, rfl⟩
            · omega
            · rw [wrap_i64 (by omega) (by omega)]; rfl
    · simp -dsimp only [go_sem, Nat.reduceBEq, Int.reduceEq, Int.reduceLT, Int.reduceLE]
      refine ⟨L, Ent.tail, ?_⟩
      rw [S.done h h1] at hk
      exact hk

/-- Each thing's place. -/
structure PlaceTo (l : List Int) (i : Nat) (ranks : List Int) : Prop where
  le : i ≤ l.length
  len : ranks.length = l.length
  at_ : ∀ j x, j < i → l[j]? = some x → ranks[x.toNat]? = some (j : Int)

theorem isOrd_iff {l : List Int} {n : Int} : isOrd l n = true ↔ ((l.length : Int) = n ∧ (∀ v ∈ l, 0 ≤ v ∧ v < n) ∧ l.Nodup) := by
  unfold isOrd; exact decide_eq_true_iff

theorem PlaceTo.zero (l : List Int) : PlaceTo l 0 (List.replicate l.length 0) := ⟨Nat.zero_le _, by simp, fun j x h => absurd h (Nat.not_lt_zero _)⟩
theorem PlaceTo.step {l : List Int} {i : Nat} {ranks : List Int} (S : PlaceTo l i ranks) (o : isOrd l l.length = true) {v : Int} (hv : l[i]? = some v) : PlaceTo l (i + 1) (ranks.set v.toNat i) := by
  obtain ⟨_, h2, h3⟩ := isOrd_iff.1 o
  have hi := (List.getElem?_eq_some_iff.1 hv).1
  refine ⟨hi, by simp [S.len], fun j x hj hx => ?_⟩
  have hb := h2 v (List.mem_of_getElem? hv)
  have hbx := h2 x (List.mem_of_getElem? hx)
  have hlen := S.len
  rw [List.getElem?_set]
  by_cases e : v.toNat = x.toNat
  · have e2 : v = x := by omega
    subst e2
    have hji : j = i := by
      have h4 : ∀ a b, a < b → b < l.length → l[a]? ≠ l[b]? := fun a b hab hb => by
        rw [List.getElem?_eq_getElem (Nat.lt_trans hab hb), List.getElem?_eq_getElem hb]
        exact fun e => List.pairwise_iff_getElem.1 h3 a b (Nat.lt_trans hab hb) hb hab (Option.some.inj e)
      rcases Nat.lt_trichotomy j i with h | h | h
      · exact absurd (hx.trans hv.symm) (h4 j i h hi)
      · exact h
      · omega
    subst hji
    rw [if_pos e, if_pos (by omega)]
  · rw [if_neg e]
    have : j ≠ i := fun h => e (by subst h; rw [hv] at hx; cases hx; rfl)
    exact S.at_ j x (by omega) hx

theorem of_spec {L : List Chunk} {order : Value} {l : List Int} {K : KVL} [RdS L order eInt l] (hl : l.length ≤ 2000000000) (h0 : isOrd l l.length = false → K (.tuple #[.slice none 0 0, .int .i64 1]) L)
    (h1 : isOrd l l.length = true → ∀ v ranks, PlaceTo l l.length ranks → K (.tuple #[v, .int .i64 0]) (⟨v, sliceC eInt ranks⟩ :: L)) :
    CallW Try.prog 8 [order] L K := by
  refine CallW.ret ?_
  refine callX_of (by kernel_rfl) Try.func8 e8 (by exact Nat.le_of_ble_eq_true rfl) ?_
  simp -dsimp only [go_sem, Nat.reduceBEq, Int.reduceEq, Int.reduceLT, Int.reduceLE]
  refine LenX_slice ?_
  simp -dsimp only [go_sem, Nat.reduceBEq, Int.reduceEq, Int.reduceLT, Int.reduceLE]
  refine CallX.of (right_spec hl ?_)
  simp -dsimp only [go_sem, Nat.reduceBEq, Int.reduceEq, Int.reduceLT, Int.reduceLE]
  refine condX_mk (fun h => ?_) (fun h => ?_)
  · simp -dsimp only [go_sem, Nat.reduceBEq, Int.reduceEq, Int.reduceLT, Int.reduceLE]
    exact ⟨L, Ent.refl _, h0 (by simpa using h)⟩
  · have ho : isOrd l l.length = true := by simpa using h
    simp -dsimp only [go_sem, Nat.reduceBEq, Int.reduceEq, Int.reduceLT, Int.reduceLE]
    refine LenX_slice ?_
    simp -dsimp only [go_sem, Nat.reduceBEq, Int.reduceEq, Int.reduceLT, Int.reduceLE]
    refine MksX_intro eInt 0 rfl rfl (by omega) (by omega) (by omega) (fun seen => ?_)
    simp -dsimp only [go_sem, Nat.reduceBEq, Int.reduceEq, Int.reduceLT, Int.reduceLE]
    refine LenX_slice ?_
    simp -dsimp only [go_sem, Nat.reduceBEq, Int.reduceEq, Int.reduceLT, Int.reduceLE]
    refine loopX_intro [0, 4, 15, 16] [17] (fun m vs L' => ∃ (i : Nat) (ranks : List Int), vs = [.int .i64 i] ∧ m = l.length - i ∧ PlaceTo l i ranks ∧ L' = ⟨seen, sliceC eInt ranks⟩ :: L) _ (by rfl) ⟨0, _, rfl, rfl, by simpa using PlaceTo.zero l, rfl⟩ ?_
    rintro m vs L' f ⟨i, ranks, rfl, rfl, S, rfl⟩
    have hlen := S.len
    have hle := S.le
    simp -dsimp only [go_sem, Nat.reduceBEq, Int.reduceEq, Int.reduceLT, Int.reduceLE]
    refine condX_dec (fun h1' h1'' => ?_) (fun h1' h1'' => ?_)
    · simp -dsimp only [go_sem, Nat.reduceBEq, Int.reduceEq, Int.reduceLT, Int.reduceLE]
      refine IxsX_slice ⟨by omega, h1'⟩ ?_
      simp -dsimp only [go_sem, Nat.reduceBEq, Int.reduceEq, Int.reduceLT, Int.reduceLE]
      refine LdX_elem0 (k := 1) rfl ⟨by omega, h1'⟩ (by omega) (fun v hv => ?_)
      have hv' : l[i]? = some v := by simpa using hv
      have hb := (isOrd_iff.1 ho).2.1 v (List.mem_of_getElem? hv')
      simp -dsimp only [go_sem, Nat.reduceBEq, Int.reduceEq, Int.reduceLT, Int.reduceLE]
      refine IxsX_slice ⟨by omega, by omega⟩ ?_
      simp -dsimp only [go_sem, Nat.reduceBEq, Int.reduceEq, Int.reduceLT, Int.reduceLE]
      refine StX_elem (k := 1) (z := (i : Int)) rfl ⟨by omega, by omega⟩ (by rfl) (by rfl) (by rfl) (by rfl) ?_
      simp -dsimp only [go_sem, Nat.reduceBEq, Int.reduceEq, Int.reduceLT, Int.reduceLE]
      refine ⟨_, ?_, i + 1, _, ?_, rfl, S.step ho hv', rfl⟩
      · omega
      · rw [wrap_i64 (by omega) (by omega)]; rfl
    · simp -dsimp only [go_sem, Nat.reduceBEq, Int.reduceEq, Int.reduceLT, Int.reduceLE]
      have : i = l.length := by omega
      subst this
      exact ⟨_, Ent.refl _, h1 ho _ _ S⟩

end Go.SL
