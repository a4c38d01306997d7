/- A part of the proofs' own ground: the types' tables pay the shapes that the small code asks for. -/
import Derived.Test.YtebcdnnfjcaofaaErase
import Derived.MapKept
import Derived.WideKeyRuns
namespace Go.SL

theorem run_sizeOf' {P : Program} {t : TypeId} {s : Nat} (h : sizeOfT P t = some s) : SzS P t s := by
  intro w
  unfold sizeOfT at h
  cases hi : P.info? t with
  | none => simp [hi] at h
  | some i => simp [hi] at h; subst h; simp [sizeOf, run_typeInfo w hi]

theorem run_zero' {P : Program} {t : TypeId} {z : Value} (h : zeroOf P t = some z) (w : World) : (zeroValue t).run P w = .ok z w := by
  unfold zeroOf at h
  cases hi : P.info? t with
  | none => simp [hi] at h
  | some i => simp [hi] at h; simp [zeroValue, run_typeInfo w hi, h]

theorem zeroS_of {P : Program} {t : TypeId} {z : List Value} (h : zeroL P t = some z) : ZeroS P t z := by
  unfold zeroL at h
  cases hz : zeroOf P t with
  | none => simp [hz] at h
  | some v => simp [hz] at h; exact ⟨v, h, run_zero' hz⟩

theorem unS_of {P : Program} {t : TypeId} {d : TypeDesc} (h : P.underlying t = some d) : UnS P t d := fun w => run_underlying h w

theorem elS_of {P : Program} {e : TypeId} {k b : Nat} {z : List Value} (h : elOf P e = some (k, b, z)) : ElS P e k b z := by
  unfold elOf at h
  cases hi : P.info? e with
  | none => simp [hi] at h
  | some i =>
    cases hz : i.zero with
    | none => simp [hi, hz] at h
    | some v =>
      simp [hi, hz] at h
      obtain ⟨rfl, rfl, rfl⟩ := h
      exact ⟨run_sizeOf' (by simp [sizeOfT, hi]), ⟨i, rfl, fun w => run_typeInfo w hi⟩, ⟨v, rfl, run_zero' (by simp [zeroOf, hi, hz])⟩⟩

theorem ldS_of {P : Program} {t : TypeId} {n : Option Nat} (h : aggN P t = some n) : LdS P t n := by
  unfold aggN at h
  cases hu : P.underlying t with
  | none => simp [hu] at h
  | some d =>
    cases hi : P.info? t with
    | none => simp [hu, hi] at h; try (cases d <;> simp at h)
    | some i =>
      cases d <;> simp [hu, hi] at h <;> subst h <;> simp [LdS, isAgg, run_underlying hu, sizeOf, run_typeInfo _ hi]

/-- The places of a struct's fields, run. -/
theorem run_places {P : Program} : ∀ {fs : List Field} {pl : List (Nat × Nat)}, placesOf P fs = some pl → ∀ w : World,
    (fs.mapM (fun f => do pure (f.offset, ← sizeOf f.type) : Field → Sem (Nat × Nat))).run P w = .ok pl w
  | [], pl, h, w => by simp [placesOf] at h; subst h; simp
  | f :: fs, pl, h, w => by
    unfold placesOf at h
    cases hs : sizeOfT P f.type with
    | none => simp [hs] at h
    | some s =>
      cases hp : placesOf P fs with
      | none => simp [hs, hp] at h
      | some r =>
        simp [hs, hp] at h; subst h
        have ih := run_places hp w
        simp only [List.mapM_cons, Sem.run_bind, run_sizeOf' hs w, Result.andThen_ok, Sem.run_pure, ih]

theorem setCells_length (z : List Value) : ∀ (cs : List Value) (off : Nat), (setCells z off cs).length = z.length := by
  intro cs
  induction cs generalizing z with
  | nil => intro off; rfl
  | cons c cs ih => intro off; simp [setCells, ih]

theorem foldl_set (cs : List Value) : ∀ (z : Array Value) (off j0 : Nat),
    ((cs.zipIdx j0).foldl (fun a (p : Value × Nat) => a.setIfInBounds (off + p.2) p.1) z).toList = setCells z.toList (off + j0) cs := by
  induction cs with
  | nil => intro z off j0; rfl
  | cons c cs ih =>
    intro z off j0
    simp only [List.zipIdx_cons, List.foldl_cons, setCells]
    rw [ih]
    simp [Nat.add_assoc]

theorem fill_sound (ev : Opd → Value) (place : Nat → Option (Nat × Nat)) : ∀ (ps : List (Nat × Value)) (qs : List (Nat × Nat × Opd)) (z : List Value) (cs : List Value),
    ps.length = qs.length → (∀ i, i < ps.length → ∃ p q, ps[i]? = some p ∧ qs[i]? = some q ∧ place p.1 = some (q.1, q.2.1) ∧ p.2 = ev q.2.2) →
    fillV ev z qs = some cs → Instr.fill place z.toArray ps = some cs.toArray
  | [], [], z, cs, _, _, h => by simp [fillV] at h; subst h; rfl
  | p :: ps, q :: qs, z, cs, hl, hall, h => by
    obtain ⟨i, v⟩ := p
    obtain ⟨off, size, x⟩ := q
    obtain ⟨p', q', e1, e2, e3, e4⟩ := hall 0 (by simp)
    simp at e1 e2; subst e1; subst e2
    simp only [fillV] at h
    split at h
    · rename_i hc
      obtain ⟨hc1, hc2⟩ := hc
      simp only at e3 e4
      subst e4
      have hsz : (ev x).cells.size = size := by simpa [Value.cellsL] using hc1
      simp only [Instr.fill, e3]
      rw [if_neg (by simp [hsz]; omega)]
      have hz : (Array.foldl (fun cs (x : Value × Nat) => cs.setIfInBounds (off + x.2) x.1) z.toArray (ev x).cells.zipIdx) = (setCells z off (Value.cellsL (ev x))).toArray := by
        apply Array.toList_inj.1
        rw [← Array.foldl_toList, Array.toList_zipIdx]
        have := foldl_set (ev x).cells.toList z.toArray off 0
        simpa [Value.cellsL] using this
      have := fill_sound ev place ps qs _ cs (by simpa using hl) (fun i hi => by
        obtain ⟨p, q, a, b, c, d⟩ := hall (i + 1) (by simpa using hi)
        exact ⟨p, q, by simpa using a, by simpa using b, c, d⟩) h
      rw [← hz] at this
      exact this
    · cases h
  | [], _ :: _, _, _, hl, _, _ => by simp at hl
  | _ :: _, [], _, _, hl, _, _ => by simp at hl

theorem partsOf_spec (pl : List (Nat × Nat)) (ρ : Operand → Value) (ev : Opd → Value) : ∀ (parts : List (Nat × Operand)) (qs : List (Nat × Nat × Opd)), partsOf pl parts = some qs →
    (∀ p ∈ parts, ρ p.2 = ev (opdOf p.2)) → parts.length = qs.length ∧ ∀ i, i < parts.length → ∃ p q, parts[i]? = some p ∧ qs[i]? = some q ∧ pl[p.1]? = some (q.1, q.2.1) ∧ ρ p.2 = ev q.2.2
  | [], qs, h, _ => by simp [partsOf] at h; subst h; simp
  | (i, x) :: parts, qs, h, hr => by
    unfold partsOf at h
    cases hp : pl[i]? with
    | none => simp [hp] at h
    | some os =>
      obtain ⟨off, size⟩ := os
      cases hq : partsOf pl parts with
      | none => simp [hp, hq] at h
      | some r =>
        simp [hp, hq] at h; subst h
        obtain ⟨l, s⟩ := partsOf_spec pl ρ ev parts r hq (fun p hp => hr p (by simp [hp]))
        refine ⟨by simp [l], fun j hj => ?_⟩
        cases j with
        | zero => exact ⟨(i, x), (off, size, opdOf x), by simp, by simp, by simpa using hp, hr (i, x) (by simp)⟩
        | succ j => obtain ⟨p, q, a, b, c, d⟩ := s j (by simpa using hj); exact ⟨p, q, by simpa using a, by simpa using b, c, d⟩

/-! ### flat types -/

theorem eqCells_kinds : ∀ {xs ys : List Value} {r : Bool}, eqCells xs ys = some r → xs.length = ys.length ∧ ∀ i, i < xs.length → ∃ k a b, xs[i]? = some (.int k a) ∧ ys[i]? = some (.int k b)
  | [], [], r, _ => by simp
  | .int k a :: xs, .int k' b :: ys, r, h => by
    simp only [eqCells] at h
    split at h
    · rename_i hk; subst hk
      cases hr : eqCells xs ys with
      | none => simp [hr] at h
      | some r' =>
        obtain ⟨l, s⟩ := eqCells_kinds hr
        refine ⟨by simp [l], fun i hi => ?_⟩
        cases i with
        | zero => exact ⟨k, a, b, by simp, by simp⟩
        | succ i => obtain ⟨k, a, b, x, y⟩ := s i (by simpa using hi); exact ⟨k, a, b, by simpa using x, by simpa using y⟩
    · cases h
  | [], _ :: _, r, h => by simp [eqCells] at h
  | v :: _, [], r, h => by cases v <;> simp [eqCells] at h
  | .int _ _ :: _, v :: _, r, h => by cases v <;> first | (simp [eqCells] at h; done) | (rename_i k a xs ys k' b; exact (by
      simp only [eqCells] at h
      split at h
      · rename_i hk; subst hk
        cases hr : eqCells xs ys with
        | none => simp [hr] at h
        | some r' =>
          obtain ⟨l, s⟩ := eqCells_kinds hr
          refine ⟨by simp [l], fun i hi => ?_⟩
          cases i with
          | zero => exact ⟨k, a, b, by simp, by simp⟩
          | succ i => obtain ⟨k, a, b, x, y⟩ := s i (by simpa using hi); exact ⟨k, a, b, by simpa using x, by simpa using y⟩
      · cases h))
  | .bool _ :: _, _ :: _, r, h | .float _ _ :: _, _ :: _, r, h | .complex _ _ _ :: _, _ :: _, r, h | .string _ :: _, _ :: _, r, h | .pointer _ :: _, _ :: _, r, h | .slice _ _ _ :: _, _ :: _, r, h | .map _ :: _, _ :: _, r, h
  | .chan _ :: _, _ :: _, r, h | .func _ _ _ :: _, _ :: _, r, h | .nilFunc :: _, _ :: _, r, h | .iface _ _ :: _, _ :: _, r, h | .nilIface :: _, _ :: _, r, h | .agg _ :: _, _ :: _, r, h | .tuple _ :: _, _ :: _, r, h => by simp [eqCells] at h

theorem isIntT_spec {P : Program} {t : TypeId} (h : isIntT P t = true) : ∃ k, P.underlying t = some (.int k) := by
  unfold isIntT at h
  split at h
  · rename_i k hk; exact ⟨k, hk⟩
  · cases h

theorem run_part_int {P : Program} {t : TypeId} (h : isIntT P t = true) {xs : Array Value} {off : Nat} {v : Value} (hx : xs[off]? = some v) (w : World) : (part t xs off).run P w = .ok v w := by
  obtain ⟨k, hk⟩ := isIntT_spec h
  simp [part, isAgg, run_underlying hk, hx]

theorem run_eqFields_flat {P : Program} (w : World) (d : Nat) (xs ys : Array Value) : ∀ (fs : List Field) (i : Nat) (r : Bool), flatFields P fs i = true → (xs.toList.drop i).length = fs.length →
    eqCells (xs.toList.drop i) (ys.toList.drop i) = some r → (Op.eqFields (d + 1) xs ys fs).run P w = .ok r w
  | [], i, r, _, hl, h => by
    have h1 : xs.toList.drop i = [] := List.length_eq_zero_iff.1 (by simpa using hl)
    rw [h1] at h
    cases h2 : ys.toList.drop i with
    | nil => rw [h2] at h; simp [eqCells] at h; subst h; simp [Op.eqFields]
    | cons y ys' => rw [h2] at h; simp [eqCells] at h
  | f :: fs, i, r, hf, hl, h => by
    simp only [flatFields, Bool.and_eq_true] at hf
    obtain ⟨⟨⟨hn, ho⟩, hi⟩, hr⟩ := hf
    have ho' : f.offset = i := Nat.eq_of_beq_eq_true ho
    have hn' : f.name ≠ "_" := by simpa using hn
    obtain ⟨l, s⟩ := eqCells_kinds h
    obtain ⟨k, a, b, x, y⟩ := s 0 (by rw [hl]; simp)
    have hx : xs[f.offset]? = some (.int k a) := by rw [ho']; simpa [List.getElem?_drop] using x
    have hy : ys[f.offset]? = some (.int k b) := by rw [ho']; simpa [List.getElem?_drop] using y
    obtain ⟨k', hk'⟩ := isIntT_spec hi
    have ex : xs.toList.drop i = .int k a :: xs.toList.drop (i + 1) := by
      rw [List.drop_eq_getElem_cons (by simp at hl; simp; omega)]
      congr 1
      have : xs.toList[i]? = some (.int k a) := by rw [← ho']; simpa using hx
      exact (List.getElem?_eq_some_iff.1 this).2
    have ey : ys.toList.drop i = .int k b :: ys.toList.drop (i + 1) := by
      have hyl : (ys.toList.drop i).length = fs.length + 1 := by rw [← l, hl]; rfl
      rw [List.drop_eq_getElem_cons (by simp at hyl; simp; omega)]
      congr 1
      have : ys.toList[i]? = some (.int k b) := by rw [← ho']; simpa using hy
      exact (List.getElem?_eq_some_iff.1 this).2
    rw [ex, ey] at h
    simp only [eqCells, if_true] at h
    cases hrr : eqCells (xs.toList.drop (i + 1)) (ys.toList.drop (i + 1)) with
    | none => simp [hrr] at h
    | some r' =>
      simp [hrr] at h
      have ih := run_eqFields_flat w d xs ys fs (i + 1) r' hr (by rw [ex] at hl; simpa using hl) hrr
      simp only [Op.eqFields, hn', ne_eq, not_false_eq_true, if_true, Sem.run_bind, run_part_int hi hx w, run_part_int hi hy w, Result.andThen_ok, run_equalIn_int w d f.type k k' a b hk']
      by_cases hab : a = b
      · subst hab
        simp at h
        subst h
        simpa using ih
      · simp [hab] at h
        subst h
        simp [hab]

theorem run_eqItems_flat {P : Program} (w : World) (d : Nat) {e : TypeId} (he : isIntT P e = true) (xs ys : Array Value) : ∀ (m i : Nat) (r : Bool), (xs.toList.drop i).length = m →
    eqCells (xs.toList.drop i) (ys.toList.drop i) = some r → (Op.eqItems (d + 1) e 1 xs ys (List.range' i m)).run P w = .ok r w
  | 0, i, r, hl, h => by
    have h1 : xs.toList.drop i = [] := List.length_eq_zero_iff.1 hl
    rw [h1] at h
    cases h2 : ys.toList.drop i with
    | nil => rw [h2] at h; simp [eqCells] at h; subst h; simp [Op.eqItems]
    | cons y ys' => rw [h2] at h; simp [eqCells] at h
  | m + 1, i, r, hl, h => by
    obtain ⟨l, s⟩ := eqCells_kinds h
    obtain ⟨k, a, b, x, y⟩ := s 0 (by rw [hl]; simp)
    have hx : xs[i * 1]? = some (.int k a) := by rw [Nat.mul_one]; simpa [List.getElem?_drop] using x
    have hy : ys[i * 1]? = some (.int k b) := by rw [Nat.mul_one]; simpa [List.getElem?_drop] using y
    obtain ⟨k', hk'⟩ := isIntT_spec he
    have ex : xs.toList.drop i = .int k a :: xs.toList.drop (i + 1) := by
      rw [List.drop_eq_getElem_cons (by simp at hl; simp; omega)]
      congr 1
      have : xs.toList[i]? = some (.int k a) := by simpa using hx
      exact (List.getElem?_eq_some_iff.1 this).2
    have ey : ys.toList.drop i = .int k b :: ys.toList.drop (i + 1) := by
      have hyl : (ys.toList.drop i).length = m + 1 := by rw [← l, hl]
      rw [List.drop_eq_getElem_cons (by simp at hyl; simp; omega)]
      congr 1
      have : ys.toList[i]? = some (.int k b) := by simpa using hy
      exact (List.getElem?_eq_some_iff.1 this).2
    rw [ex, ey] at h
    simp only [eqCells, if_true] at h
    cases hrr : eqCells (xs.toList.drop (i + 1)) (ys.toList.drop (i + 1)) with
    | none => simp [hrr] at h
    | some r' =>
      simp [hrr] at h
      have ih := run_eqItems_flat w d he xs ys m (i + 1) r' (by rw [ex] at hl; simpa using hl) hrr
      simp only [List.range'_succ, Op.eqItems, Sem.run_bind, run_part_int he hx w, run_part_int he hy w, Result.andThen_ok, run_equalIn_int w d e k k' a b hk']
      by_cases hab : a = b
      · subst hab
        simp at h
        subst h
        simpa using ih
      · simp [hab] at h
        subst h
        simp [hab]

/-- '==' at a flat type: whatever the cells, if they are integers of like kinds and as many as the type has. -/
theorem run_equalIn_flat {P : Program} (w : World) (d : Nat) {t : TypeId} (ht : flatT P t = true) {xs ys : Array Value} {r : Bool} (hl : xs.size = flatLen P t) (h : eqCells xs.toList ys.toList = some r) :
    (Op.equalIn (d + 2) t (.agg xs) (.agg ys)).run P w = .ok r w := by
  unfold flatT at ht
  unfold flatLen at hl
  split at ht
  · rename_i fs hu
    simp only [Bool.and_eq_true] at ht
    have hfs : P.fieldsOf t = fs := by simp [Program.fieldsOf, hu]
    have hst : P.stoodInHeld t = false := by simpa using ht.2
    rw [run_equalIn_struct w (d + 1) t xs ys (by rw [hfs]; exact hu) hst, hfs]
    simp only [hu] at hl
    exact run_eqFields_flat w d xs ys fs.toList 0 r ht.1 (by simpa using hl) (by simpa using h)
  · rename_i n e hu
    simp only [Bool.and_eq_true] at ht
    simp only [hu] at hl
    cases hs : sizeOfT P e with
    | none => simp [hs] at ht
    | some s =>
      have hs1 : s = 1 := by have := ht.2; simp [hs] at this; exact this
      subst hs1
      unfold sizeOfT at hs
      cases hi : P.info? e with
      | none => simp [hi] at hs
      | some i =>
        have hc : P.cellsOf e = 1 := by simp [hi] at hs; simp [Program.cellsOf, hi, hs]
        rw [run_equalIn_array w (d + 1) xs ys hu hi, hc, List.range_eq_range']
        exact run_eqItems_flat w d ht.1 xs ys n 0 r (by simpa using hl) (by simpa using h)
  · cases ht

end Go.SL
