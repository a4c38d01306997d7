/- From a call over chunks to a law's row: what the call leaves of the world that it began in; arguments that are read. -/
import Derived.Test.YtebcdnnfjcaofaaLoop
import Derived.Below
import Derived.ChangeSlices
namespace Go.SL
open Go.RowKit

theorem calls_below {P : Program} {f : FuncId} {args : List Value} {W : World} (h : CallW P f args [⟨undef, baseC W⟩] fun v L' => v = .bool true ∧ L' = [⟨undef, baseC W⟩]) :
    Calls P f args.toArray W fun e W' => e = .returned (.bool true) ∧ Below W.heap.size W W' := by
  have h0 : St W W ([⟨undef, baseC W⟩] ++ []) := ⟨Quiet.refl W, hpOf W, fun _ => none, fun _ => .inr rfl, Hp.le.refl _, fun _ _ e => (by cases e), fun b => rfl, trivial⟩
  refine (h.2 [] W W h0).mono fun e w' ⟨v, L', he, hs, hv, hL⟩ => ?_
  subst hv hL
  refine ⟨he, ?_⟩
  obtain ⟨hq, h1, h2, hd, l1, l2, hb, _⟩ := hs
  have hblk : ∀ k, k < W.heap.size → w'.heap[k]? = W.heap[k]? := fun k hk => by
    have e1 : h1 k = W.heap[k]? := hb k
    rw [Array.getElem?_eq_getElem hk] at e1 ⊢
    exact l1 k _ e1
  refine ⟨hq.os, hq.tape, hq.output, ?_, hblk⟩
  rcases Nat.eq_zero_or_pos W.heap.size with hz | hz
  · omega
  · have := hblk (W.heap.size - 1) (by omega)
    rw [Array.getElem?_eq_getElem (by omega : W.heap.size - 1 < W.heap.size)] at this
    have := (Array.getElem?_eq_some_iff.1 this).1
    omega

theorem cell_block {W : World} {a : Addr} {v : Value} (h : W.cell? a = some v) : ∃ b off cs t fz, a = ⟨b, off, none⟩ ∧ W.heap[b]? = some (.cells cs t fz) ∧ cs[off]? = some v := by
  obtain ⟨b, off, sp⟩ := a
  simp only [World.cell?] at h
  split at h
  · rename_i c t fz hb
    cases sp with
    | some s => simp at h
    | none => exact ⟨b, off, c, t, fz, rfl, hb, by simpa using h⟩
  · cases h

/-- A slice of an argument, as it is read: its elements' cells. -/
theorem ro_slice {W : World} {α : Type} {E : Enc α} {xs : List α} {a : Addr} {len cap : Nat} (hlc : len ≤ cap) (hl : xs.length = len) (h : ∀ i x, xs[i]? = some x → ∀ j y, (E.enc x)[j]? = some y → W.cell? (a.add (i * E.k + j)) = some y) (hk : 0 < E.k) :
    RoS W (.slice (some a) len cap) E xs := by
  refine ⟨?_⟩
  subst hl
  rcases Nat.eq_zero_or_pos xs.length with hz | hz
  · exact .inl ⟨List.eq_nil_of_length_eq_zero hz, some a, cap, by rw [hz]⟩
  · have h0 : xs[0]? = some xs[0] := List.getElem?_eq_getElem hz
    have hy : (E.enc xs[0])[0]? = some ((E.enc xs[0])[0]'(by rw [E.len]; exact hk)) := List.getElem?_eq_getElem _
    obtain ⟨b, off, cs, t, fz, ha, hb, _⟩ := cell_block (h 0 _ h0 0 _ hy)
    have ha0 : a.add (0 * E.k + 0) = a := by simp [Addr.add]
    rw [ha0] at ha
    subst ha
    refine .inr ⟨_, off, cap - xs.length, cs, t, fz, by rw [show xs.length + (cap - xs.length) = cap from by omega], hb, fun i x hi j y hj => ?_⟩
    have := h i x hi j y hj
    rw [addr_add] at this
    simpa [World.cell?, hb, Nat.add_assoc] using this

section
variable {H : Type} {enc : TypeId × Value → H} {P : Program} {w : World} {base : Nat} {spare : Nat → Bool} {held : Bool}
theorem ro_ints {t e : TypeId} {a : Option Addr} {len cap : Nat} {d : DataW H} {ps : List MemPlace} (ht : P.underlying t = some (.slice e)) (he : P.underlying e = some (.int .i64)) (hc : P.cellsOf e = 1)
    (h : DataW.Trod enc P w base spare held t (.slice a len cap) d ps) : ∃ xs : List Int, RoS w (.slice a len cap) eInt xs ∧ xs.length = len ∧ len ≤ maxLen ∧ ∀ n ∈ xs, (Lit.int .i64 n).wf = true := by
  obtain ⟨fuel, hf⟩ := h
  rcases ChangeShapes.open_ints ht he hc hf with ⟨hcs, _⟩ | ⟨x, l, c, zs, hcs, _, hl, hm, hz, _, hcell, hwz⟩
  · simp [Value.cells] at hcs
    obtain ⟨rfl, rfl, rfl⟩ := hcs
    exact ⟨[], ⟨.inl ⟨rfl, none, 0, rfl⟩⟩, rfl, by simp [maxLen], by simp⟩
  · simp [Value.cells] at hcs
    obtain ⟨rfl, rfl, rfl⟩ := hcs
    have hlz : len ≤ zs.length := by rw [hz]; split <;> omega
    refine ⟨zs.take len, ro_slice (by omega) (by rw [List.length_take]; omega) (fun i y hi j u hj => ?_) (Nat.one_pos), by rw [List.length_take]; omega, by omega, fun n hn => hwz n (List.mem_of_mem_take hn)⟩
    have hil : i < len := by have := (List.getElem?_eq_some_iff.1 hi).1; rw [List.length_take] at this; omega
    have hzi : zs[i]? = some y := by rw [List.getElem?_take, if_pos hil] at hi; exact hi
    have hj0 : j = 0 := by
      have := (List.getElem?_eq_some_iff.1 hj).1
      have h2 : (eInt.enc y).length = 1 := rfl
      omega
    subst hj0
    cases hj
    have := hcell i (by omega)
    rw [show i * eInt.k + 0 = i from by show i * 1 + 0 = i; omega, this, List.getD_eq_getElem?_getD, hzi]
    rfl
end

end Go.SL
