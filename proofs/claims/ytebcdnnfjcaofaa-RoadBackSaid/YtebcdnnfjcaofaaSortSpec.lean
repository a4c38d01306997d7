/- slices.SortFunc over chunks: out of the library's own contract for structs of whatever length. -/
import Derived.Test.YtebcdnnfjcaofaaRulesS
import Derived.Shelf.SlSortCmp.NoneTotal
set_option linter.unusedVariables false
namespace Go.SL
open Go.Shelf Go.Sort Go.Proofs

/-- A call that holds over whatever is there: it lays blocks and draws, and no more. -/
theorem grown_of {P : Program} {g : Nat} {args : List Value} {v : Value} (h : ∀ (L : List Chunk) (K : KVL), K v L → CallW P g args L K) (W : World) :
    Calls P g args.toArray W fun e w' => e = .returned v ∧ ∃ q os, w' = grow (W.drewN q) os := by
  have h0 : St W W ([⟨undef, baseC W⟩] ++ []) := ⟨Quiet.refl W, hpOf W, fun _ => none, fun _ => .inr rfl, Hp.le.refl _, fun _ _ e => (by cases e), fun b => rfl, trivial⟩
  refine ((h [⟨undef, baseC W⟩] (fun v' L' => v' = v ∧ L' = [⟨undef, baseC W⟩]) ⟨rfl, rfl⟩).2 [] W W h0).mono fun e w' ⟨v', L', he, hs, hv, hL⟩ => ?_
  subst hv hL
  refine ⟨he, w'.drawn - W.drawn, w'.heap.extract W.heap.size w'.heap.size, ?_⟩
  obtain ⟨hq, h1, h2, hd, l1, l2, hb, _⟩ := hs
  have hblk : ∀ k, k < W.heap.size → w'.heap[k]? = W.heap[k]? := fun k hk => by
    have e1 : h1 k = W.heap[k]? := hb k
    rw [Array.getElem?_eq_getElem hk] at e1 ⊢
    exact l1 k _ e1
  have hsz : W.heap.size ≤ w'.heap.size := by
    rcases Nat.eq_zero_or_pos W.heap.size with hz | hz
    · omega
    · have := hblk (W.heap.size - 1) (by omega)
      rw [Array.getElem?_eq_getElem (by omega : W.heap.size - 1 < W.heap.size)] at this
      have := (Array.getElem?_eq_some_iff.1 this).1
      omega
  have hheap : w'.heap = W.heap ++ w'.heap.extract W.heap.size w'.heap.size := by
    apply Array.ext_getElem?
    intro k
    rw [Array.getElem?_append]
    by_cases hk : k < W.heap.size
    · rw [if_pos hk, hblk k hk]
    · rw [if_neg hk, Array.getElem?_extract]
      simp only [Nat.min_self]
      by_cases hk2 : k < w'.heap.size
      · rw [if_pos (by omega)]; congr 1; omega
      · rw [if_neg (by omega), Array.getElem?_eq_none (by omega)]
  have hdr := hq.drawn
  cases w' with
  | mk heap tape drawn os output =>
    simp only [grow, World.drewN]
    congr 1
    · exact hq.tape
    · simp only at hdr ⊢; omega
    · exact hq.os
    · exact hq.output

theorem flatK_flatMap {α : Type} [Inhabited α] (E : Enc α) (xs : List α) : flatK E.enc E.k xs.toArray = (xs.flatMap E.enc).toArray := by
  refine ext_get! (by rw [size_flatK]; simp only [List.size_toArray]; rw [flatMap_len]) fun t ht => ?_
  have ht' : t < xs.length * E.k := by simpa using ht
  rw [get_flatK _ _ _ t (by simpa using ht')]
  have hk : 0 < E.k := by rcases Nat.eq_zero_or_pos E.k with h | h
                          · rw [h] at ht'; simp at ht'
                          · exact h
  have htk : t / E.k < xs.length := Nat.div_lt_of_lt_mul (by rw [Nat.mul_comm]; exact ht')
  have h1 : t < (xs.flatMap E.enc).length := by rw [flatMap_len]; exact ht'
  obtain ⟨i, x, r, hx, hr, he⟩ := flatMap_get E xs t _ (List.getElem?_eq_getElem h1)
  have hrk : r < E.k := by rw [← E.len x]; exact (List.getElem?_eq_some_iff.1 hr).1
  have hi : t / E.k = i := by
    rw [he]
    exact Nat.div_eq_of_lt_le (by omega) (by rw [Nat.add_mul]; omega)
  have hrr : t % E.k = r := by
    have := Nat.div_add_mod t E.k
    rw [hi, Nat.mul_comm] at this; omega
  rw [hi, hrr]
  have hxi : xs.toArray[i]! = x := by
    have := (List.getElem?_eq_some_iff.1 hx)
    simp [getElem!_def, hx]
  rw [hxi]
  have hxr : (E.enc x)[r]! = (xs.flatMap E.enc)[t] := by
    rw [getElem!_def, hr]
  rw [hxr]
  simp [getElem!_def, List.getElem?_eq_getElem h1]

/-- slices.SortFunc: what is held is put in order. -/
theorem sortFunc_of {P : Program} {ρ : Ren} (Ly : Go.Proofs.SlLaysF0.n6 P ρ) {α : Type} [Inhabited α] (E : Enc α) (aE : ∀ w, (isAgg (ρ.t 24)).run P w = .ok true w) (zE : ∀ w, (Go.sizeOf (ρ.t 24)).run P w = .ok E.k w)
    (cf : α → α → Int) (hO : SWO (ltOf cf)) (g : Nat) (eg : ∀ args w, (callFunc g args).run P w = .ok (.enter g args) w)
    (hcmp : ∀ x y (L : List Chunk) (K : KVL), K (.int .i64 (cf x y)) L → CallW P g [.agg (E.enc x).toArray, .agg (E.enc y).toArray] L K)
    {f : FuncId} (hf : f = ρ.f 6) (hcal : callable P f) {v : Value} {xs : List α} {R : List Chunk} {K : KVL} (hlen : xs.length < 4611686018427387904)
    (h : ∀ ys : List α, ys.Perm xs → (∀ (i j : Nat) (a b : α), i < j → ys[i]? = some a → ys[j]? = some b → ltOf cf b a = false) → K (.tuple #[]) (⟨v, sliceC E ys⟩ :: R)) :
    CallW P f [v, .func (.func g) #[] #[]] (⟨v, sliceC E xs⟩ :: R) K := by
  subst hf
  refine ⟨hcal, fun F W w hw => ?_⟩
  have hnone : xs = [] → ∀ p c, v = .slice p 0 c → Calls P (ρ.f 6) [v, .func (.func g) #[] #[]].toArray w fun e w' => ∃ v' L', e = .returned v' ∧ St W w' (L' ++ F) ∧ K v' L' := fun hx p c hv => by
    subst hx
    have := AnyF.slices_SortFunc_none Ly p c (.func (.func g) #[] #[]) w
    rw [← hv] at this
    exact this.mono fun e w' ⟨he, hww⟩ => ⟨_, _, he, by rw [hww]; exact hw, h [] (List.Perm.refl _) (fun i j a b _ ha => by simp at ha)⟩
  obtain ⟨hq, h1, h2, hd, l1, l2, hc, hr⟩ := id hw
  rcases hc with ⟨hv, hx⟩ | ⟨b, t, pre, spare, m, hv, hs, he⟩
  · exact hnone hx _ _ hv
  · have hv' : v = .slice (some ⟨b, pre.length, none⟩) xs.length (xs.length + m) := hv
    by_cases hx : xs = []
    · exact hnone hx _ _ (by rw [hv', hx]; rfl)
    obtain ⟨hb, hM⟩ := holds_wo_of he hd l1 l2 hr
    have hbh : w.heap[b]? = some (.cells (pre ++ xs.flatMap E.enc ++ spare).toArray t (0, 0)) := hb
    have hblk : b < w.heap.size := (Array.getElem?_eq_some_iff.1 hbh).1
    have hH : HoldsK E.enc E.k w b pre.length xs.toArray := by
      unfold HoldsK
      rw [flatK_flatMap]
      intro j hj
      have hj' : j < (xs.flatMap E.enc).length := by simpa using hj
      have hget : (pre ++ xs.flatMap E.enc ++ spare)[pre.length + j]? = some (xs.flatMap E.enc)[j] := by
        rw [List.append_assoc, List.getElem?_append_right (by omega), List.getElem?_append_left (by omega), show pre.length + j - pre.length = j from by omega]
        exact List.getElem?_eq_getElem hj'
      refine ⟨?_, by simp [World.frozen?, hbh]⟩
      simp only [World.cell?, hbh]
      simp only [List.getElem?_toArray, Option.isSome_none, Bool.false_eq_true, if_false]
      rw [hget]
      simp [getElem!_def, List.getElem?_eq_getElem hj']
    have hcm : CmpLays P g #[] E.enc E.k cf b pre.length xs.toArray.size w := fun m os dk _ x y => by
      have := grown_of (hcmp x y) (sortWorldK E.enc E.k w b pre.length m dk os)
      simpa using this
    have hcon := AnyQ.slices_SortFunc Ly E.k aE zE E.enc E.len (fun x v hv => List.all_eq_true.1 (E.one x) v hv) cf hO g #[] b pre.length (xs.length + m) xs.toArray w eg hcm hH hblk (by simpa using hlen)
    have hargs : [v, Value.func (.func g) #[] #[]].toArray = #[.slice (some ⟨b, pre.length, none⟩) xs.toArray.size (xs.length + m), .func (.func g) #[] #[]] := by rw [hv']; simp
    rw [hargs]
    refine hcon.mono fun e w' ⟨hen, d', n, os, hp, hso, hw'⟩ => ?_
    have hds : d'.size = xs.length := by have := hp.1; simpa using this
    have hperm : d'.toList.Perm xs := by
      have := hp.2.2
      have e1 : (d'.extract 0 xs.toArray.size).toList = d'.toList := by
        rw [Array.toList_extract, List.extract_eq_take_drop]
        simp [hds, List.take_of_length_le]
      have e2 : (xs.toArray.extract 0 xs.toArray.size).toList = xs := by simp
      rw [e1, e2] at this; exact this
    refine ⟨_, ⟨v, sliceC E d'.toList⟩ :: R, hen, ?_, h d'.toList hperm fun i j a c hij ha hc => ?_⟩
    · -- the world
      have hfl : flatK E.enc E.k d' = (d'.toList.flatMap E.enc).toArray := by
        have := flatK_flatMap E d'.toList
        simpa using this
      have hlf : (d'.toList.flatMap E.enc).length = (xs.flatMap E.enc).length := by rw [flatMap_len, flatMap_len, Array.length_toList, hds]
      have hheap : ∀ k, hpOf w' k = if k = b then some (.cells (pre ++ d'.toList.flatMap E.enc ++ spare).toArray t (0, 0)) else if k < w.heap.size then hpOf w k else hpOf w' k := by
        intro k
        have e0 : w'.heap = (putRow id (Go.Sort.ahead w n) b pre.length (flatK E.enc E.k d')).heap ++ os := by rw [hw']; rfl
        have hszp : (putRow id (Go.Sort.ahead w n) b pre.length (flatK E.enc E.k d')).heap.size = w.heap.size := by rw [Go.Sort.size_putRow]; rfl
        have e1 : ∀ k, k < w.heap.size → w'.heap[k]? = (putRow id (Go.Sort.ahead w n) b pre.length (flatK E.enc E.k d')).heap[k]? := fun k hk => by
          rw [e0, Array.getElem?_append_left (by rw [hszp]; exact hk)]
        by_cases hkb : k = b
        · subst hkb
          rw [if_pos rfl]
          show w'.heap[k]? = _
          rw [e1 k hblk]
          show ((Go.Sort.ahead w n).heap.modify k (onCells (putCells id pre.length (flatK E.enc E.k d'))))[k]? = _
          rw [Array.getElem?_modify, if_pos rfl]
          rw [show (Go.Sort.ahead w n).heap[k]? = w.heap[k]? from rfl, hbh]
          simp only [Option.map_some, onCells]
          congr 2
          apply Array.toList_inj.1
          apply List.ext_getElem?
          intro q
          simp only [putCells, Array.getElem?_toList, Array.getElem?_mapIdx, List.getElem?_toArray]
          rw [hfl, List.size_toArray]
          by_cases c1 : pre.length ≤ q
          · by_cases c2 : q < pre.length + (d'.toList.flatMap E.enc).length
            · have hq1 : (pre ++ xs.flatMap E.enc ++ spare)[q]? = some ((pre ++ xs.flatMap E.enc ++ spare)[q]'(by simp only [List.length_append]; omega)) := List.getElem?_eq_getElem _
              rw [hq1, Option.map_some, if_pos ⟨c1, c2⟩]
              rw [List.append_assoc pre, List.getElem?_append_right c1, List.getElem?_append_left (by omega)]
              have : q - pre.length < (d'.toList.flatMap E.enc).length := by omega
              simp [getElem!_def, List.getElem?_eq_getElem this]
            · rw [show (pre ++ d'.toList.flatMap E.enc ++ spare)[q]? = (pre ++ xs.flatMap E.enc ++ spare)[q]? from by
                rw [List.getElem?_append_right (by simp only [List.length_append]; omega), List.getElem?_append_right (by simp only [List.length_append]; omega)]
                simp only [List.length_append, hlf]]
              cases hq : (pre ++ xs.flatMap E.enc ++ spare)[q]? with
              | none => rfl
              | some z => rw [Option.map_some, if_neg (fun c => c2 c.2)]
          · rw [show (pre ++ d'.toList.flatMap E.enc ++ spare)[q]? = (pre ++ xs.flatMap E.enc ++ spare)[q]? from by
              rw [List.append_assoc, List.append_assoc, List.getElem?_append_left (by omega), List.getElem?_append_left (by omega)]]
            cases hq : (pre ++ xs.flatMap E.enc ++ spare)[q]? with
            | none => rfl
            | some z => rw [Option.map_some, if_neg (fun c => c1 c.1)]
        · rw [if_neg hkb]
          by_cases hk : k < w.heap.size
          · rw [if_pos hk]
            show w'.heap[k]? = w.heap[k]?
            rw [e1 k hk]
            show ((Go.Sort.ahead w n).heap.modify b (onCells (putCells id pre.length (flatK E.enc E.k d'))))[k]? = _
            rw [Array.getElem?_modify, if_neg (Ne.symm hkb)]
            rfl
          · rw [if_neg hk]
      refine ⟨⟨?_, ?_, ?_, ?_⟩, holds_one b _ (.inr ⟨b, t, pre, spare, m, ?_, hs, rfl⟩) ?_ ?_⟩
      · rw [hw']; exact hq.os
      · rw [hw']; exact hq.tape
      · rw [hw']; exact hq.output
      · rw [hw']
        show W.drawn ≤ w.drawn + n
        have := hq.drawn
        omega
      · have hl : d'.toList.length = xs.length := by rw [Array.length_toList, hds]
        rw [hl]; exact hv'
      · rw [hheap, if_pos rfl]
      · refine hM.mono fun c o ho => ?_
        unfold Hp.wo at ho ⊢
        split at ho
        · cases ho
        · rename_i hcb
          rw [if_neg hcb, hheap, if_neg hcb]
          have hc2 : c < w.heap.size := by
            have : w.heap[c]? = some o := ho
            exact (Array.getElem?_eq_some_iff.1 this).1
          rw [if_pos hc2]; exact ho
    · have hi : i < d'.size := by rw [← Array.length_toList]; exact (List.getElem?_eq_some_iff.1 ha).1
      have hj : j < d'.size := by rw [← Array.length_toList]; exact (List.getElem?_eq_some_iff.1 hc).1
      have := hso i j (Nat.zero_le _) hij (by simpa [hds] using hj)
      have hda : d'[i]! = a := by rw [getElem!_def]; rw [← Array.getElem?_toList, ha]
      have hdc : d'[j]! = c := by rw [getElem!_def]; rw [← Array.getElem?_toList, hc]
      rw [hda, hdc] at this
      exact this

end Go.SL
