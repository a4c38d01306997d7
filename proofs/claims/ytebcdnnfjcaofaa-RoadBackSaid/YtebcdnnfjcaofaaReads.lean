/- A part of the proofs' own ground: arguments that are read: slices of plain structs, structs by their fields. -/
import Derived.Test.YtebcdnnfjcaofaaClose
import Derived.Test.YtebcdnnfjcaofaaRulesS
import Derived.Deep.Slices
import Derived.Deep.Fields
namespace Go.SL
open Go.RowKit Go.ChangeShapes Go.WideShapes Go.Deep

def isKindB (P : Program) (k : IntKind) (t : TypeId) : Bool := match P.underlying t with | some (.int k') => decide (k' = k) | _ => false
def kindsB (P : Program) : List Field → List IntKind → Bool
  | [], [] => true
  | f :: fs, k :: ks => isKindB P k f.type && kindsB P fs ks
  | _, _ => false

theorem kinds_get {P : Program} : ∀ {fs : List Field} {ks : List IntKind}, kindsB P fs ks = true → fs.length = ks.length ∧ ∀ (j : Nat) (f : Field), fs[j]? = some f → ∃ k, ks[j]? = some k ∧ P.underlying f.type = some (.int k)
  | [], [], _ => ⟨rfl, fun j f h => by simp at h⟩
  | [], _ :: _, h => by simp [kindsB] at h
  | _ :: _, [], h => by simp [kindsB] at h
  | f :: fs, k :: ks, h => by
    simp only [kindsB, Bool.and_eq_true] at h
    obtain ⟨h1, h2⟩ := h
    obtain ⟨h3, h4⟩ := kinds_get h2
    refine ⟨by simp [h3], fun j g hj => ?_⟩
    cases j with
    | zero =>
      simp at hj; subst hj
      unfold isKindB at h1
      split at h1
      · rename_i k' hk'
        exact ⟨k, rfl, by rw [hk', of_decide_eq_true h1]⟩
      · cases h1
    | succ j => simpa using h4 j g (by simpa using hj)

/-- A number of a kind is one that the kind has. -/
def WfL (ks : List IntKind) (l : List Int) : Prop := l.length = ks.length ∧ ∀ (j : Nat) (k : IntKind) (m : Int), ks[j]? = some k → l[j]? = some m → (Lit.int k m).wf = true

theorem wf_i64 {m : Int} (h : (Lit.int .i64 m).wf = true) : -9223372036854775808 ≤ m ∧ m ≤ 9223372036854775807 := by
  simp [Lit.wf, IntKind.min, IntKind.max, IntKind.bits, IntKind.signed] at h
  omega
theorem wf_i32 {m : Int} (h : (Lit.int .i32 m).wf = true) : -2147483648 ≤ m ∧ m ≤ 2147483647 := by
  simp [Lit.wf, IntKind.min, IntKind.max, IntKind.bits, IntKind.signed] at h
  omega
theorem wf_u8 {m : Int} (h : (Lit.int .u8 m).wf = true) : 0 ≤ m ∧ m ≤ 255 := by
  simp [Lit.wf, IntKind.min, IntKind.max, IntKind.bits, IntKind.signed] at h
  omega

/-- How rows of numbers are told as things. -/
structure FlatE {α : Type} (E : Enc α) (ks : List IntKind) (Good : α → Prop) : Prop where
  k : E.k = ks.length
  conv : ∀ l : List Int, WfL ks l → ∃ x, Good x ∧ E.enc x = List.zipWith Value.int ks l

section
variable {H : Type} {enc : TypeId × Value → H} {P : Program} {w : World} {base : Nat} {spare : Nat → Bool} {held : Bool}

/-- A struct of numbers, by its cells. -/
theorem trod_flat {e : TypeId} {fs : Array Field} {ks : List IntKind} (he : P.underlying e = some (.struct fs)) (hk : kindsB P fs.toList ks = true) (hone : oneCellFields P fs = true) (hC : P.cellsOf e = fs.size)
    {n : Nat} {cs : List Value} {x : DataW H × List MemPlace} (h : DataW.trod enc P w base spare held n e cs = some x) : ∃ l : List Int, WfL ks l ∧ cs = List.zipWith Value.int ks l := by
  obtain ⟨xs, m, _, _, hl, hxs, hf⟩ := DataW.trod_struct he h
  obtain ⟨hlen, hget⟩ := kinds_get hk
  have hfl : fs.toList.length = fs.size := Array.length_toList
  have each : ∀ j (hj : j < ks.length), ∃ v : Int, cs[j]? = some (.int ks[j] v) ∧ (Lit.int ks[j] v).wf = true := fun j hj => by
    have hjf : j < fs.size := by omega
    have hfj : fs[j]? = some fs[j] := Array.getElem?_eq_getElem hjf
    obtain ⟨k, hk1, hk2⟩ := hget j fs[j] (by rw [Array.getElem?_toList]; exact hfj)
    obtain ⟨ho, hc1⟩ := hone_of hone j _ hfj
    have h1 := hf j _ hfj
    rw [ho, hc1, take1_drop cs j default (by omega)] at h1
    have hxj : xs[j]? = some (xs[j]'(by omega)) := List.getElem?_eq_getElem _
    rw [hxj] at h1
    obtain ⟨v, hv, _, hwf⟩ := DataW.trod_int hk2 h1
    have hkj : ks[j] = k := by rw [List.getElem?_eq_getElem hj] at hk1; exact Option.some.inj hk1
    refine ⟨v, ?_, by rw [hkj]; exact hwf⟩
    have hcj : cs[j]? = some (cs[j]'(by omega)) := List.getElem?_eq_getElem _
    simp only [List.getD_eq_getElem?_getD, hcj, Option.getD_some, List.cons.injEq, and_true] at hv
    rw [hcj, hv, hkj]
  have : ∃ l : List Int, l.length = ks.length ∧ ∀ j (hj : j < ks.length), ∃ v, l[j]? = some v ∧ cs[j]? = some (.int ks[j] v) ∧ (Lit.int ks[j] v).wf = true := by
    refine ⟨(List.range ks.length).map fun j => if hj : j < ks.length then (each j hj).choose else 0, by simp, fun j hj => ?_⟩
    refine ⟨(each j hj).choose, by simp [hj], (each j hj).choose_spec⟩
  obtain ⟨l, hll, hl2⟩ := this
  refine ⟨l, ⟨hll, fun j k m hk hm => ?_⟩, ?_⟩
  · have hj : j < ks.length := (List.getElem?_eq_some_iff.1 hk).1
    obtain ⟨v, h1, _, h3⟩ := hl2 j hj
    rw [hm] at h1; cases h1
    rw [List.getElem?_eq_getElem hj] at hk; cases hk
    exact h3
  · apply List.ext_getElem?
    intro j
    by_cases hj : j < ks.length
    · obtain ⟨v, h1, h2, _⟩ := hl2 j hj
      rw [h2, List.getElem?_zipWith, List.getElem?_eq_getElem hj, h1]
    · rw [List.getElem?_eq_none (by omega), List.getElem?_eq_none (by simp; omega)]

theorem ro_flat {t e : TypeId} {fs : Array Field} {ks : List IntKind} {α : Type} {E : Enc α} {Good : α → Prop} (hE : FlatE E ks Good) (hpos : 0 < ks.length) (ht : P.underlying t = some (.slice e)) (he : P.underlying e = some (.struct fs)) (hk : kindsB P fs.toList ks = true) (hone : oneCellFields P fs = true) (hC : P.cellsOf e = fs.size)
    {n : Nat} {cs : List Value} {x : DataW H × List MemPlace} (h : DataW.trod enc P w base spare held n t cs = some x) :
    ∃ a len cap, cs = [.slice a len cap] ∧ ∃ xs : List α, RoS w (.slice a len cap) E xs ∧ xs.length = len ∧ len ≤ maxLen ∧ ∀ y ∈ xs, Good y := by
  have hlen := (kinds_get hk).1
  have hfl : fs.toList.length = fs.size := Array.length_toList
  rcases open_slice ht h with ⟨rfl, _⟩ | ⟨a, len, cap, m, n, D, Pl, rfl, hb, hl, hm, hmm, _, hi⟩
  · exact ⟨none, 0, 0, rfl, [], ⟨.inl ⟨rfl, none, 0, rfl⟩⟩, rfl, by simp [maxLen], by simp⟩
  · have hml : len ≤ m := by rw [hmm]; split <;> omega
    have each : ∀ i, i < len → ∃ y : α, Good y ∧ ∀ (j : Nat) (v : Value), (E.enc y)[j]? = some v → w.cell? (a.add (i * E.k + j)) = some v := fun i hi' => by
      obtain ⟨cs', hc, ht'⟩ := hi i (by omega)
      obtain ⟨l, hwf, hcs⟩ := trod_flat he hk hone hC ht'
      obtain ⟨y, hg, hy⟩ := hE.conv l hwf
      refine ⟨y, hg, fun j v hv => ?_⟩
      obtain ⟨_, hcl, hat⟩ := World.cells?_some hc
      have hjk : j < E.k := by rw [← E.len y]; exact (List.getElem?_eq_some_iff.1 hv).1
      have := hat j (by rw [hC, ← hfl, hlen, ← hE.k]; exact hjk)
      rw [hE.k, ← hlen, hfl, ← hC]
      rw [hcs, ← hy, hv, Go.Deep.add_add] at this
      exact this
    have : ∃ xs : List α, xs.length = len ∧ ∀ i, i < len → ∃ y, xs[i]? = some y ∧ Good y ∧ ∀ (j : Nat) (v : Value), (E.enc y)[j]? = some v → w.cell? (a.add (i * E.k + j)) = some v := by
      refine ⟨(List.range len).pmap (fun i hi => (each i hi).choose) (fun i hi => List.mem_range.1 hi), by simp, fun i hi => ?_⟩
      exact ⟨(each i hi).choose, by simp [List.getElem?_pmap, hi], (each i hi).choose_spec⟩
    obtain ⟨xs, hxl, hx⟩ := this
    refine ⟨some a, len, cap, rfl, xs, ro_slice hl hxl (fun i y hy j v hv => ?_) (by rw [hE.k]; exact hpos), hxl, by omega, fun y hy => ?_⟩
    · have hil : i < len := by rw [← hxl]; exact (List.getElem?_eq_some_iff.1 hy).1
      obtain ⟨y', h1, _, h3⟩ := hx i hil
      rw [hy] at h1; cases h1
      exact h3 j v hv
    · obtain ⟨i, hi⟩ := List.getElem?_of_mem hy
      have hil : i < len := by rw [← hxl]; exact (List.getElem?_eq_some_iff.1 hi).1
      obtain ⟨y', h1, h2, _⟩ := hx i hil
      rw [hi] at h1; cases h1
      exact h2

theorem ro_flatT {t e : TypeId} {fs : Array Field} {ks : List IntKind} {α : Type} {E : Enc α} {Good : α → Prop} (hE : FlatE E ks Good) (hpos : 0 < ks.length) (ht : P.underlying t = some (.slice e)) (he : P.underlying e = some (.struct fs)) (hk : kindsB P fs.toList ks = true) (hone : oneCellFields P fs = true) (hC : P.cellsOf e = fs.size)
    {a : Option Addr} {len cap : Nat} {d : DataW H} {ps : List MemPlace} (h : DataW.Trod enc P w base spare held t (.slice a len cap) d ps) :
    ∃ xs : List α, RoS w (.slice a len cap) E xs ∧ xs.length = len ∧ len ≤ maxLen ∧ ∀ y ∈ xs, Good y := by
  obtain ⟨fuel, hf⟩ := h
  obtain ⟨a', len', cap', hcs, xs, h1, h2, h3, h4⟩ := ro_flat hE hpos ht he hk hone hC hf
  simp [Value.cells] at hcs
  obtain ⟨rfl, rfl, rfl⟩ := hcs
  exact ⟨xs, h1, h2, h3, h4⟩

theorem ro_bytes {t e : TypeId} {a : Option Addr} {len cap : Nat} {d : DataW H} {ps : List MemPlace} (ht : P.underlying t = some (.slice e)) (he : P.underlying e = some (.int .u8)) (hc : P.cellsOf e = 1)
    (h : DataW.Trod enc P w base spare held t (.slice a len cap) d ps) : ∃ xs : List Int, RoS w (.slice a len cap) eU8 xs ∧ xs.length = len ∧ len ≤ maxLen ∧ ∀ n ∈ xs, 0 ≤ n ∧ n ≤ 255 := by
  obtain ⟨fuel, hf⟩ := h
  rcases ChangeShapes.open_ints ht he hc hf with ⟨hcs, _⟩ | ⟨x, l, c, zs, hcs, _, hl, hm, hz, _, hcell, hwz⟩
  · simp [Value.cells] at hcs
    obtain ⟨rfl, rfl, rfl⟩ := hcs
    exact ⟨[], ⟨.inl ⟨rfl, none, 0, rfl⟩⟩, rfl, by simp [maxLen], by simp⟩
  · simp [Value.cells] at hcs
    obtain ⟨rfl, rfl, rfl⟩ := hcs
    have hlz : len ≤ zs.length := by rw [hz]; split <;> omega
    refine ⟨zs.take len, ro_slice (by omega) (by rw [List.length_take]; omega) (fun i y hi j u hj => ?_) (Nat.one_pos), by rw [List.length_take]; omega, by omega, fun n hn => wf_u8 (hwz n (List.mem_of_mem_take hn))⟩
    have hil : i < len := by have := (List.getElem?_eq_some_iff.1 hi).1; rw [List.length_take] at this; omega
    have hzi : zs[i]? = some y := by rw [List.getElem?_take, if_pos hil] at hi; exact hi
    have hj0 : j = 0 := by
      have := (List.getElem?_eq_some_iff.1 hj).1
      have h2 : (eU8.enc y).length = 1 := rfl
      omega
    subst hj0
    cases hj
    have := hcell i (by omega)
    rw [show i * eU8.k + 0 = i from by show i * 1 + 0 = i; omega, this, List.getD_eq_getElem?_getD, hzi]
    rfl

/-- A struct of numbers, by value. -/
theorem flat_val {t : TypeId} {fs : Array Field} {ks : List IntKind} {α : Type} {E : Enc α} {Good : α → Prop} (hE : FlatE E ks Good) (ht : P.underlying t = some (.struct fs)) (hk : kindsB P fs.toList ks = true) (hone : oneCellFields P fs = true) (hC : P.cellsOf t = fs.size)
    {r : Reach} {b0 : Nat} {v : Value} {d : DataW H} {ps : List MemPlace} (hval : Value.okWide P w r b0 t v) (h : DataW.Trod enc P w base spare held t v d ps) : ∃ x : α, Good x ∧ v = .agg (E.enc x).toArray := by
  obtain ⟨fuel, hf⟩ := h
  obtain ⟨l, hl, hc⟩ := trod_flat ht hk hone hC hf
  obtain ⟨x, hg, hx⟩ := hE.conv l hl
  unfold Value.okWide at hval
  rw [ht] at hval
  obtain ⟨cs, rfl, _, _⟩ := hval
  refine ⟨x, hg, ?_⟩
  rw [hx, ← hc]; rfl

/-- A struct of a number and a slice of structs, by value. -/
theorem net_val {t e : TypeId} {f0 f1 : Field} {fs : Array Field} {ks : List IntKind} {α : Type} {E : Enc α} {Good : α → Prop} (hE : FlatE E ks Good) (hpos : 0 < ks.length) (ht : P.underlying t = some (.struct #[f0, f1])) (ho : oneCellFields P #[f0, f1] = true) (hC2 : P.cellsOf t = 2)
    (h0 : P.underlying f0.type = some (.int .i64)) (h1 : P.underlying f1.type = some (.slice e)) (he : P.underlying e = some (.struct fs)) (hk : kindsB P fs.toList ks = true) (hone : oneCellFields P fs = true) (hC : P.cellsOf e = fs.size)
    {r : Reach} {b0 : Nat} {v : Value} {d : DataW H} {ps : List MemPlace} (hval : Value.okWide P w r b0 t v) (h : DataW.Trod enc P w base spare held t v d ps) :
    ∃ (n : Int) (a : Option Addr) (len cap : Nat) (xs : List α), v = .agg #[.int .i64 n, .slice a len cap] ∧ (-9223372036854775808 ≤ n ∧ n ≤ 9223372036854775807) ∧ RoS w (.slice a len cap) E xs ∧ xs.length = len ∧ len ≤ maxLen ∧ len ≤ cap ∧ ∀ y ∈ xs, Good y := by
  obtain ⟨fuel, hf⟩ := h
  unfold Value.okWide at hval
  rw [ht] at hval
  obtain ⟨cs, rfl, hcs, _⟩ := hval
  obtain ⟨xs, m, _, _, hl, hxs, hg⟩ := DataW.trod_struct ht hf
  have hw := hone_of ho
  have g0 := hg 0 f0 rfl
  have g1 := hg 1 f1 rfl
  obtain ⟨o0, c0⟩ := hw 0 f0 rfl
  obtain ⟨o1, c1⟩ := hw 1 f1 rfl
  have hsz : (Value.agg cs).cells.toList.length = 2 := by rw [hl, hC2]
  have hcc : (Value.agg cs).cells = cs := rfl
  rw [o0, c0] at g0
  rw [o1, c1] at g1
  simp only [List.size_toArray, List.length_cons, List.length_nil] at hxs
  rw [List.getElem?_eq_getElem (by omega)] at g0 g1
  obtain ⟨n, hn, _, hnw⟩ := DataW.trod_int h0 g0
  obtain ⟨a, len, cap, hs, ys, h2, h3, h4, h5⟩ := ro_flat hE hpos h1 he hk hone hC g1
  have hcap : len ≤ cap := by
    rcases open_slice h1 g1 with ⟨hh, _⟩ | ⟨a', len', cap', m', n', D, Pl, hh, _, hle, _⟩
    · rw [hs] at hh; cases hh; exact Nat.le_refl _
    · rw [hs] at hh; cases hh; exact hle
  refine ⟨n, a, len, cap, ys, ?_, wf_i64 hnw, h2, h3, h4, hcap, h5⟩
  rw [hcc] at hn hs hsz
  congr 1
  apply Array.toList_inj.1
  match hcl : cs.toList, hsz with
  | [x, y], _ =>
    rw [hcl] at hn hs
    simp at hn hs
    rw [hn, hs]

theorem wf2_32 {l : List Int} (h : WfL [.i32, .i32] l) : ∃ a b, l = [a, b] ∧ (-2147483648 ≤ a ∧ a ≤ 2147483647) ∧ (-2147483648 ≤ b ∧ b ≤ 2147483647) := by
  obtain ⟨hl, h⟩ := h
  match l, hl with
  | [a, b], _ => exact ⟨a, b, rfl, wf_i32 (h 0 _ _ rfl rfl), wf_i32 (h 1 _ _ rfl rfl)⟩

theorem wf3 {l : List Int} (h : WfL [.i64, .i64, .i64] l) : ∃ a b c, l = [a, b, c] ∧ (-9223372036854775808 ≤ a ∧ a ≤ 9223372036854775807) ∧ (-9223372036854775808 ≤ b ∧ b ≤ 9223372036854775807) ∧ (-9223372036854775808 ≤ c ∧ c ≤ 9223372036854775807) := by
  obtain ⟨hl, h⟩ := h
  match l, hl with
  | [a, b, c], _ => exact ⟨a, b, c, rfl, wf_i64 (h 0 _ _ rfl rfl), wf_i64 (h 1 _ _ rfl rfl), wf_i64 (h 2 _ _ rfl rfl)⟩
end

end Go.SL
