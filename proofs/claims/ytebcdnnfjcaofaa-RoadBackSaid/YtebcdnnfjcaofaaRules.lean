/- A part of the proofs' own ground: what chunks say, and the rules by which a walk goes on where it stops. -/
import Derived.Test.YtebcdnnfjcaofaaWalk
namespace Go.SL

/-! ### What chunks say -/

/-- A block of cells: a struct, a variable. -/
def cellsC (vs : List Value) : Con := fun v h => ∃ b t, v = .pointer (some ⟨b, 0, none⟩) ∧ h = Hp.one b (.cells vs.toArray t (0, 0))

/-- How elements lie in cells. -/
structure Enc (α : Type) where
  enc : α → List Value
  k : Nat
  len : ∀ x, (enc x).length = k
  dec : List Value → Option α
  back : ∀ cs x, dec cs = some x → enc x = cs
  one : ∀ x, (enc x).all Value.oneCell' = true

/-- A slice that is owned whole: what lies ahead of it, its elements, room behind. -/
def sliceC {α : Type} (E : Enc α) (xs : List α) : Con := fun v h =>
  (v = .slice none 0 0 ∧ xs = []) ∨
  ∃ b t pre spare m, v = .slice (some ⟨b, pre.length, none⟩) xs.length (xs.length + m) ∧ spare.length = m * E.k ∧ h = Hp.one b (.cells (pre ++ xs.flatMap E.enc ++ spare).toArray t (0, 0))

/-- A slice as it is read. -/
def sliceAt {α : Type} (E : Enc α) (xs : List α) (v : Value) (h : Hp) : Prop :=
  (xs = [] ∧ ∃ a c, v = .slice a 0 c) ∨
  ∃ b off c cs t fz, v = .slice (some ⟨b, off, none⟩) xs.length (xs.length + c) ∧ h b = some (.cells cs t fz) ∧ ∀ i x, xs[i]? = some x → ∀ j y, (E.enc x)[j]? = some y → cs[off + i * E.k + j]? = some y

theorem sliceAt.mono {α : Type} {E : Enc α} {xs : List α} {v : Value} {h k : Hp} (l : h.le k) (H : sliceAt E xs v h) : sliceAt E xs v k := by
  rcases H with H | ⟨b, off, c, cs, t, fz, h1, h2, h3⟩
  · exact .inl H
  · exact .inr ⟨b, off, c, cs, t, fz, h1, l _ _ h2, h3⟩

/-- All that was there when the call began. -/
def baseC (W : World) : Con := fun _ h => ∀ b, h b = W.heap[b]?

/-! ### Finding chunks -/

class Own (L : List Chunk) (v : Value) (c : outParam Con) (R : outParam (List Chunk)) : Prop where
  perm : L.Perm (⟨v, c⟩ :: R)
instance Own.head {v : Value} {c : Con} {L : List Chunk} : Own (⟨v, c⟩ :: L) v c L := ⟨.refl _⟩
instance (priority := low) Own.tail {d : Chunk} {v : Value} {c : Con} {L R : List Chunk} [h : Own L v c R] : Own (d :: L) v c (d :: R) := ⟨(h.perm.cons d).trans (.swap _ _ _)⟩

class OwnC (L : List Chunk) (v : Value) (vs : outParam (List Value)) (R : outParam (List Chunk)) : Prop where
  perm : L.Perm (⟨v, cellsC vs⟩ :: R)
instance OwnC.head {v : Value} {vs : List Value} {L : List Chunk} : OwnC (⟨v, cellsC vs⟩ :: L) v vs L := ⟨.refl _⟩
instance (priority := low) OwnC.tail {d : Chunk} {v : Value} {vs : List Value} {L R : List Chunk} [h : OwnC L v vs R] : OwnC (d :: L) v vs (d :: R) := ⟨(h.perm.cons d).trans (.swap _ _ _)⟩

class OwnS (L : List Chunk) (v : Value) {α : outParam Type} (E : outParam (Enc α)) (xs : outParam (List α)) (R : outParam (List Chunk)) : Prop where
  perm : L.Perm (⟨v, sliceC E xs⟩ :: R)
instance OwnS.head {v : Value} {α : Type} {E : Enc α} {xs : List α} {L : List Chunk} : OwnS (⟨v, sliceC E xs⟩ :: L) v E xs L := ⟨.refl _⟩
instance (priority := low) OwnS.tail {d : Chunk} {v : Value} {α : Type} {E : Enc α} {xs : List α} {L R : List Chunk} [h : OwnS L v E xs R] : OwnS (d :: L) v E xs (d :: R) := ⟨(h.perm.cons d).trans (.swap _ _ _)⟩

class RdC (L : List Chunk) (v : Value) (vs : outParam (List Value)) : Prop where
  rd : ∀ h, Holds L h → ∃ b t fz, v = .pointer (some ⟨b, 0, none⟩) ∧ h b = some (.cells vs.toArray t fz)
instance RdC.head {v : Value} {vs : List Value} {L : List Chunk} : RdC (⟨v, cellsC vs⟩ :: L) v vs := ⟨by
  rintro h ⟨h1, h2, _, l1, _, ⟨b, t, hv, rfl⟩, _⟩
  exact ⟨b, t, _, hv, Hp.one_le.1 l1⟩⟩
instance (priority := low) RdC.tail {d : Chunk} {v : Value} {vs : List Value} {L : List Chunk} [H : RdC L v vs] : RdC (d :: L) v vs := ⟨fun h hh => H.rd h hh.tail⟩

class RdS (L : List Chunk) (v : Value) {α : outParam Type} (E : outParam (Enc α)) (xs : outParam (List α)) : Prop where
  rd : ∀ h, Holds L h → sliceAt E xs v h
instance RdS.head {v : Value} {α : Type} {E : Enc α} {xs : List α} {L : List Chunk} : RdS (⟨v, sliceC E xs⟩ :: L) v E xs := ⟨by
  rintro h ⟨h1, h2, _, l1, _, hc, _⟩
  rcases hc with ⟨hv, hx⟩ | ⟨b, t, pre, spare, m, hv, hs, rfl⟩
  · exact .inl ⟨hx, _, _, hv⟩
  · refine .inr ⟨b, pre.length, _, _, t, _, hv, Hp.one_le.1 l1, fun i x hi j y hj => ?_⟩
    have key : ∀ (xs : List α) (i : Nat), xs[i]? = some x → (xs.flatMap E.enc)[i * E.k + j]? = some y := by
      intro xs
      induction xs with
      | nil => intro i hi; simp at hi
      | cons z zs ih =>
        intro i hi
        have hl := E.len z
        have hjl : j < E.k := by rw [← E.len x]; exact (List.getElem?_eq_some_iff.1 hj).1
        cases i with
        | zero =>
          simp at hi; subst hi
          rw [List.flatMap_cons, Nat.zero_mul, Nat.zero_add, List.getElem?_append_left (by omega)]
          exact hj
        | succ i =>
          rw [List.flatMap_cons, List.getElem?_append_right (by rw [hl, Nat.succ_mul]; omega)]
          rw [show (i + 1) * E.k + j - (E.enc z).length = i * E.k + j from by rw [hl, Nat.succ_mul]; omega]
          exact ih i (by simpa using hi)
    have h1 := key _ _ hi
    have hlt := (List.getElem?_eq_some_iff.1 h1).1
    have : (pre ++ List.flatMap E.enc xs ++ spare)[pre.length + i * E.k + j]? = some y := by
      rw [List.append_assoc, List.getElem?_append_right (by omega), List.getElem?_append_left (by omega)]
      rw [show pre.length + i * E.k + j - pre.length = i * E.k + j from by omega]
      exact h1
    simpa using this⟩
instance (priority := low) RdS.tail {d : Chunk} {v : Value} {α : Type} {E : Enc α} {xs : List α} {L : List Chunk} [H : RdS L v E xs] : RdS (d :: L) v E xs := ⟨fun h hh => H.rd h hh.tail⟩

/-- What the world had when the call began, and still has. -/
class RoS (W : World) (v : Value) {α : outParam Type} (E : outParam (Enc α)) (xs : outParam (List α)) : Prop where
  ro : sliceAt E xs v (hpOf W)
instance RdS.base {u v : Value} {W : World} {α : Type} {E : Enc α} {xs : List α} {L : List Chunk} [H : RoS W v E xs] : RdS (⟨u, baseC W⟩ :: L) v E xs := ⟨by
  rintro h ⟨h1, h2, _, l1, _, hb, _⟩
  exact H.ro.mono fun b o e => l1 b o ((hb b).trans e)⟩

theorem RdS.at {L F : List Chunk} {v : Value} {α : Type} {E : Enc α} {xs : List α} (H : RdS L v E xs) {W w : World} (hw : St W w (L ++ F)) : sliceAt E xs v (hpOf w) := H.rd _ hw.left.holds

/-! ### Places -/

/-- The place of an element of a slice. -/
def elP (v : Value) (k : Nat) (i : Int) : Value := elemP v (i.toNat * k)

theorem Addr.add_zero' (a : Addr) : a.add 0 = a := by simp [Addr.add]
theorem addr_add (b o n : Nat) : (Addr.add ⟨b, o, none⟩ n) = ⟨b, o + n, none⟩ := by unfold Addr.add; split <;> simp_all
theorem addP_cell {v : Value} {b : Nat} (hv : v = .pointer (some ⟨b, 0, none⟩)) (n : Nat) : addP v n = .pointer (some ⟨b, n, none⟩) := by
  subst hv
  show Value.pointer (some (Addr.add ⟨b, 0, none⟩ n)) = _
  rw [addr_add, Nat.zero_add]
theorem elP_at {v : Value} {b o c d : Nat} (hv : v = .slice (some ⟨b, o, none⟩) c d) (k : Nat) (i : Int) : elP v k i = .pointer (some ⟨b, o + i.toNat * k, none⟩) := by
  subst hv
  show Value.pointer (some (Addr.add ⟨b, o, none⟩ (i.toNat * k))) = _
  rw [addr_add]
theorem addP_elP {v : Value} {b o c d : Nat} (hv : v = .slice (some ⟨b, o, none⟩) c d) (k : Nat) (i : Int) (n : Nat) : addP (elP v k i) n = .pointer (some ⟨b, o + i.toNat * k + n, none⟩) := by
  rw [elP_at hv]
  show Value.pointer (some (Addr.add ⟨b, _, none⟩ n)) = _
  rw [addr_add]
theorem run_load1 {P : Program} {t : TypeId} {a : Addr} {w : World} {x : Value} (hS : LdS P t none) (h : w.cell? a = some x) : (Instr.loadAt t (.pointer (some a))).run P w = .ok x w := by
  show (loadVar t a).run P w = _
  simp [loadVar, hS w, h]
theorem run_loadN {P : Program} {t : TypeId} {a : Addr} {w : World} {n : Nat} {ys : List Value} (hS : LdS P t (some n)) (h : (loadCells a n).run P w = .ok ys.toArray w) : (Instr.loadAt t (.pointer (some a))).run P w = .ok (.agg ys.toArray) w := by
  show (loadVar t a).run P w = _
  simp [loadVar, (hS w).1, (hS w).2, h]

/-! ### Rules: what only reads -/

section
variable {L : List Chunk} {K : Value → Prop}

theorem NnW_cells {v : Value} {vs : List Value} {A : Prop} [H : RdC L v vs] (h : A) : NnW v L A :=
  ⟨fun W w hw => by obtain ⟨b, t, fz, hv, _⟩ := H.rd _ hw.holds; exact ⟨_, hv⟩, h⟩
theorem NnW_elem {v : Value} {α : Type} {E : Enc α} {xs : List α} {k : Nat} {i : Int} {A : Prop} [H : RdS L v E xs] (hi : 0 ≤ i ∧ i < xs.length) (h : A) : NnW (elP v k i) L A :=
  ⟨fun W w hw => by
    rcases H.rd _ hw.holds with ⟨h0, _⟩ | ⟨b, off, c, cs, t, fz, hv, _⟩
    · subst h0; simp at hi; omega
    · exact ⟨_, by rw [hv]; rfl⟩, h⟩
theorem NilW_cells {v : Value} {vs : List Value} {K : Bool → Prop} [H : RdC L v vs] (h : K false) : NilW .ptr v L K :=
  ⟨false, fun W w hw => by obtain ⟨b, t, fz, hv, _⟩ := H.rd _ hw.holds; exact .inr ⟨⟨_, hv⟩, rfl⟩, h⟩
theorem NilW_nil {K : Bool → Prop} (h : K true) : NilW .ptr (.pointer none) L K := ⟨true, fun _ _ _ => .inl ⟨rfl, rfl⟩, h⟩

theorem LdW_cell0 {v : Value} {vs : List Value} {x : Value} [H : RdC L v vs] (hx : vs[0]? = some x) (h : K x) : LdW none v L K :=
  ⟨x, fun P t hS W w hw => by
    obtain ⟨b, t, fz, hv, hb⟩ := H.rd _ hw.holds
    have hb' : w.heap[b]? = some (.cells vs.toArray t fz) := hb
    rw [hv]
    exact run_load1 hS (by simp [World.cell?, hb', hx]), h⟩

theorem LdW_cell {v : Value} {vs : List Value} {n : Nat} {x : Value} [H : RdC L v vs] (hx : vs[n]? = some x) (h : K x) : LdW none (addP v n) L K :=
  ⟨x, fun P t hS W w hw => by
    obtain ⟨b, t, fz, hv, hb⟩ := H.rd _ hw.holds
    have hb' : w.heap[b]? = some (.cells vs.toArray t fz) := hb
    rw [addP_cell hv]
    exact run_load1 hS (by simp [World.cell?, hb', hx]), h⟩

theorem run_loadCells_at {P : Program} {w : World} {b off : Nat} {cs : Array Value} {t : TypeId} {fz : Nat × Nat} (hb : w.heap[b]? = some (.cells cs t fz)) (ys : List Value) (h : ∀ j y, ys[j]? = some y → cs[off + j]? = some y) :
    (loadCells ⟨b, off, none⟩ ys.length).run P w = .ok ys.toArray w := by
  have key : ∀ (n i : Nat) (acc : Array Value), i + n = ys.length → acc.toList = ys.take i → (loadCellsFrom ⟨b, off, none⟩ i n acc).run P w = .ok ys.toArray w := by
    intro n
    induction n with
    | zero =>
      intro i acc hi ha
      simp only [loadCellsFrom, Sem.run_pure]
      congr 1
      apply Array.toList_inj.1
      rw [ha, List.take_of_length_le (by omega)]
    | succ n ih =>
      intro i acc hi ha
      have hil : i < ys.length := by omega
      have hc : w.cell? ⟨b, off + i, none⟩ = some ys[i] := by
        have := h i ys[i] (List.getElem?_eq_getElem hil)
        simp [World.cell?, hb, this]
      simp only [loadCellsFrom, Sem.run_bind, run_load, addr_add, hc, Result.andThen_ok]
      exact ih (i + 1) (acc.push ys[i]) (by omega) (by rw [Array.toList_push, ha, List.take_succ_eq_append_getElem hil])
  unfold loadCells
  exact key ys.length 0 #[] (by omega) (by simp)

theorem LdW_cells {v : Value} {vs : List Value} {n : Nat} [H : RdC L v vs] (hn : vs.length = n) (h : K (.agg vs.toArray)) : LdW (some n) v L K :=
  ⟨_, fun P t hS W w hw => by
    obtain ⟨b, t, fz, hv, hb⟩ := H.rd _ hw.holds
    have hr := run_loadCells_at (P := P) (w := w) (off := 0) hb vs (fun j y hj => by simpa using hj)
    rw [hn] at hr
    rw [hv]
    exact run_loadN hS hr, h⟩

theorem LdW_cellsAt {v : Value} {vs ys : List Value} {n off : Nat} [H : RdC L v vs] (hn : (vs.drop off).take n = ys) (hl : ys.length = n) (h : K (.agg ys.toArray)) : LdW (some n) (addP v off) L K :=
  ⟨_, fun P t hS W w hw => by
    obtain ⟨b, t, fz, hv, hb⟩ := H.rd _ hw.holds
    have hr := run_loadCells_at (P := P) (w := w) (off := off) hb ys (fun j y hj => by
      have hjl : j < ys.length := (List.getElem?_eq_some_iff.1 hj).1
      rw [← hn, List.getElem?_take, if_pos (by omega), List.getElem?_drop] at hj
      simpa using hj)
    rw [hl] at hr
    rw [addP_cell hv]
    exact run_loadN hS hr, h⟩

theorem LenW_slice {v : Value} {α : Type} {E : Enc α} {xs : List α} [H : RdS L v E xs] (h : K (.int .i64 xs.length)) : LenW v L K :=
  ⟨_, fun P t e ty hu W w hw => by
    rcases H.rd _ hw.holds with ⟨h0, a, c, hv⟩ | ⟨b, off, c, cs, t, fz, hv, _⟩
    · subst h0; simp [hv, Builtin.len_, hu w, goInt]
    · simp [hv, Builtin.len_, hu w, goInt], h⟩
theorem LenW_nil (h : K (.int .i64 0)) : LenW (.slice none 0 0) L K :=
  ⟨_, fun P t e ty hu W w hw => by simp [Builtin.len_, hu w, goInt], h⟩

theorem IxsW_slice {v : Value} {α : Type} {E : Enc α} {xs : List α} {k : Nat} {ik : IntKind} {i : Int} [H : RdS L v E xs] (hi : 0 ≤ i ∧ i < xs.length) (h : K (elP v k i)) : IxsW k v (.int ik i) L K :=
  ⟨_, fun P t e hu hs W w hw => by
    rcases H.rd _ hw.holds with ⟨h0, a, c, hv⟩ | ⟨b, off, c, cs, t, fz, hv, _⟩
    · subst h0; simp at hi; omega
    · simp [hv, Instr.indexAt, asIntOf, hu w, hs w, hi.1, hi.2, elP, elemP], h⟩

/-- An element, and one of its cells. -/
theorem LdW_elem0 {v : Value} {α : Type} {E : Enc α} {xs : List α} {k : Nat} {i : Int} [H : RdS L v E xs] (hk : E.k = k) (hi : 0 ≤ i ∧ i < xs.length) (hn : 0 < k)
    (h : ∀ x, xs[i.toNat]? = some x → K ((E.enc x).getD 0 undef)) : LdW none (elP v k i) L K := by
  have hlt : i.toNat < xs.length := by omega
  obtain ⟨x, hx⟩ : ∃ x, xs[i.toNat]? = some x := ⟨_, List.getElem?_eq_getElem hlt⟩
  obtain ⟨y, hy⟩ : ∃ y, (E.enc x)[0]? = some y := ⟨_, List.getElem?_eq_getElem (by rw [E.len]; omega)⟩
  refine ⟨y, fun P t hS W w hw => ?_, by have := h _ hx; rw [List.getD_eq_getElem?_getD, hy] at this; exact this⟩
  rcases H.rd _ hw.holds with ⟨h0, _⟩ | ⟨b, off, c, cs, t, fz, hv, hb, hc⟩
  · subst h0; simp at hlt
  · have := hc _ _ hx 0 _ hy
    have hb' : w.heap[b]? = some (.cells cs t fz) := hb
    rw [elP_at hv]
    rw [hk] at this
    exact run_load1 hS (by simpa [World.cell?, hb'] using this)

theorem LdW_elemAt {v : Value} {α : Type} {E : Enc α} {xs : List α} {k : Nat} {i : Int} {n : Nat} [H : RdS L v E xs] (hk : E.k = k) (hi : 0 ≤ i ∧ i < xs.length) (hn : n < k)
    (h : ∀ x, xs[i.toNat]? = some x → K ((E.enc x).getD n undef)) : LdW none (addP (elP v k i) n) L K := by
  have hlt : i.toNat < xs.length := by omega
  obtain ⟨x, hx⟩ : ∃ x, xs[i.toNat]? = some x := ⟨_, List.getElem?_eq_getElem hlt⟩
  obtain ⟨y, hy⟩ : ∃ y, (E.enc x)[n]? = some y := ⟨_, List.getElem?_eq_getElem (by rw [E.len]; omega)⟩
  refine ⟨y, fun P t hS W w hw => ?_, by have := h _ hx; rw [List.getD_eq_getElem?_getD, hy] at this; exact this⟩
  rcases H.rd _ hw.holds with ⟨h0, _⟩ | ⟨b, off, c, cs, t, fz, hv, hb, hc⟩
  · subst h0; simp at hlt
  · have := hc _ _ hx n _ hy
    have hb' : w.heap[b]? = some (.cells cs t fz) := hb
    rw [addP_elP hv]
    rw [hk] at this
    exact run_load1 hS (by simpa [World.cell?, hb'] using this)

theorem LdW_elem {v : Value} {α : Type} {E : Enc α} {xs : List α} {k : Nat} {i : Int} [H : RdS L v E xs] (hk : E.k = k) (hi : 0 ≤ i ∧ i < xs.length)
    (h : ∀ x, xs[i.toNat]? = some x → K (.agg (E.enc x).toArray)) : LdW (some k) (elP v k i) L K := by
  have hlt : i.toNat < xs.length := by omega
  have hx := List.getElem?_eq_getElem hlt
  refine ⟨_, fun P t hS W w hw => ?_, h _ hx⟩
  rcases H.rd _ hw.holds with ⟨h0, _⟩ | ⟨b, off, c, cs, t, fz, hv, hb, hc⟩
  · subst h0; simp at hlt
  · have hr := run_loadCells_at (P := P) (w := w) (off := off + i.toNat * k) hb (E.enc xs[i.toNat]) (fun j y hj => by
      have := hc _ _ hx j y hj
      rw [hk] at this; exact this)
    rw [E.len, hk] at hr
    rw [elP_at hv]
    exact run_loadN hS hr

end

/-! ### Rules: what acts -/

section
variable {L R : List Chunk} {K : Value → List Chunk → Prop}

theorem St.own {W w : World} {v : Value} {c : Con} {F : List Chunk} (H : Own L v c R) (hw : St W w (L ++ F)) : St W w (⟨v, c⟩ :: (R ++ F)) :=
  hw.perm (H.perm.append_right F)

theorem St.ownC {W w : World} {v : Value} {vs : List Value} {F : List Chunk} (H : OwnC L v vs R) (hw : St W w (L ++ F)) : St W w (⟨v, cellsC vs⟩ :: (R ++ F)) :=
  hw.perm (H.perm.append_right F)
theorem St.ownS {W w : World} {v : Value} {α : Type} {E : Enc α} {xs : List α} {F : List Chunk} (H : OwnS L v E xs R) (hw : St W w (L ++ F)) : St W w (⟨v, sliceC E xs⟩ :: (R ++ F)) :=
  hw.perm (H.perm.append_right F)

theorem NewW_intro {cs : List Value} (h : ∀ p, K p (⟨p, cellsC cs⟩ :: L)) : NewW cs L K := by
  intro P elem F W w hw
  refine ⟨.pointer (some ⟨w.heap.size, 0, none⟩), w.alloc (.cells cs.toArray elem), _, ?_, ?_, h _⟩
  · simp [newRow]
  · exact hw.alloc _ _ _ ⟨w.heap.size, elem, rfl, rfl⟩

/-- The cells of a block, opened. -/
theorem St.cells {W w : World} {v : Value} {vs : List Value} {M : List Chunk} (hw : St W w (⟨v, cellsC vs⟩ :: M)) :
    ∃ b t, v = .pointer (some ⟨b, 0, none⟩) ∧ w.heap[b]? = some (.cells vs.toArray t (0, 0)) ∧ Holds M ((hpOf w).wo b) := by
  obtain ⟨hq, h1, h2, hd, l1, l2, ⟨b, t, hv, he⟩, hr⟩ := hw
  obtain ⟨hb, hh⟩ := holds_wo_of he hd l1 l2 hr
  exact ⟨b, t, hv, hb, hh⟩

theorem St.setCells {W w : World} {M : List Chunk} {b : Nat} {cs : Array Value} {t : TypeId} (hq : Quiet W w) (hb : w.heap[b]? = some (.cells cs t (0, 0))) (hM : Holds M ((hpOf w).wo b)) (P : Program) :
    ∀ (ys : List Value) (off i : Nat), (∀ y ∈ ys, y.oneCell' = true) → off + i + ys.length ≤ cs.size →
      ∃ w', (storeCells ⟨b, off, none⟩ ys i).run P w = .ok () w' ∧ Quiet W w' ∧ Holds M ((hpOf w').wo b) ∧ w'.heap[b]? = some (.cells (Go.SL.setCells cs.toList (off + i) ys).toArray t (0, 0)) := by
  intro ys
  induction ys generalizing w cs with
  | nil => intro off i _ _; exact ⟨w, rfl, hq, hM, by simpa [Go.SL.setCells] using hb⟩
  | cons y ys ih =>
    intro off i h1 h2
    have hlt : off + i < cs.size := by simp at h2; omega
    have hc : w.cell? ⟨b, off + i, none⟩ = some cs[off + i] := by simp [World.cell?, hb, hlt]
    have hf : w.frozen? ⟨b, off + i, none⟩ = false := by simp [World.frozen?, hb]
    have hb1 : (w.setCell ⟨b, off + i, none⟩ y).heap[b]? = some (.cells (cs.setIfInBounds (off + i) y) t (0, 0)) := by
      have := congrFun (hpOf_setCell w b (off + i) y cs t (0, 0) hb) b
      simpa [hpOf, Hp.set] using this
    have hM1 : Holds M ((hpOf (w.setCell ⟨b, off + i, none⟩ y)).wo b) := by rw [hpOf_setCell w b (off + i) y cs t (0, 0) hb, Hp.wo_set]; exact hM
    obtain ⟨w', hr, hq', hM', hb'⟩ := ih (w := w.setCell ⟨b, off + i, none⟩ y) (cs := cs.setIfInBounds (off + i) y) ⟨hq.os, hq.tape, hq.output, hq.drawn⟩ hb1 hM1 off (i + 1) (fun z hz => h1 z (by simp [hz])) (by simp at h2 ⊢; omega)
    refine ⟨w', ?_, hq', hM', ?_⟩
    · simp only [storeCells, Sem.run_bind, addr_add]
      rw [run_store P w _ y _ (h1 y (by simp)), hc]
      simp only [hf, Bool.false_eq_true, if_false, Result.andThen_ok]
      exact hr
    · rw [hb']
      simp [Go.SL.setCells, Nat.add_assoc]

theorem setCells_all (zs : List Value) : ∀ (ys pre post : List Value), zs.length = ys.length → setCells (pre ++ zs ++ post) pre.length ys = pre ++ ys ++ post := by
  induction zs with
  | nil => intro ys pre post h; simp at h; rw [List.length_eq_zero_iff.1 h.symm]; rfl
  | cons z zs ih =>
    intro ys pre post h
    cases ys with
    | nil => simp at h
    | cons y ys =>
      simp only [setCells]
      have : (pre ++ z :: zs ++ post).set pre.length y = (pre ++ [y]) ++ zs ++ post := by simp
      rw [this]
      have h2 := ih ys (pre ++ [y]) post (by simpa using h)
      simp only [List.length_append, List.length_singleton] at h2
      rw [h2]; simp

def oneC (y : Value) : Bool := y.oneCell'

/-- A store into a cell of a block. -/
theorem StW_cell {v x : Value} {vs : List Value} {n : Nat} {K : List Chunk → Prop} [H : OwnC L v vs R] (hx : x.oneCell' = true) (hc : Value.cellsL x = [x]) (hn : n < vs.length) (h : K (⟨v, cellsC (vs.set n x)⟩ :: R)) :
    StW 1 (addP v n) x L K := by
  intro P t hS F W w hw
  obtain ⟨b, tt, hv, hb, hM⟩ := (St.ownC H hw).cells
  have hcs : x.cells.toList = [x] := hc
  obtain ⟨w', hr, hq', hM', hb'⟩ := St.setCells hw.quiet hb hM P [x] n 0 (by simpa using hx) (by simp; omega)
  refine ⟨(), w', _, ?_, ?_, h⟩
  · have hsz : x.cells.size = 1 := by rw [← Array.length_toList, hcs]; rfl
    rw [addP_cell hv]
    simp only [Instr.storeAt, Instr.sureAddr, storeVar, Sem.run_bind, Sem.run_pure, Result.andThen_ok, hS w, hsz, ne_eq, not_true_eq_false, if_false, hcs]
    exact hr
  · refine ⟨hq', holds_one b _ ⟨b, tt, hv, rfl⟩ ?_ hM'⟩
    rw [show hpOf w' b = w'.heap[b]? from rfl, hb']
    simp [Go.SL.setCells]

theorem StW_cell0 {v x : Value} {vs : List Value} {K : List Chunk → Prop} [H : OwnC L v vs R] (hx : x.oneCell' = true) (hc : Value.cellsL x = [x]) (hn : 0 < vs.length) (h : K (⟨v, cellsC (vs.set 0 x)⟩ :: R)) :
    StW 1 v x L K := by
  intro P t hS F W w hw
  have := StW_cell (L := L) (n := 0) hx hc hn h P t hS F W w hw
  obtain ⟨b, tt, hv, hb, hM⟩ := (St.ownC H hw).cells
  rw [addP_cell hv, ← hv] at this
  exact this

/-- A store into a whole block. -/
theorem StW_cells {v : Value} {vs xs : List Value} {n : Nat} {K : List Chunk → Prop} [H : OwnC L v vs R] (hx : xs.all Value.oneCell' = true) (hl : vs.length = n) (hn : xs.length = n) (h : K (⟨v, cellsC xs⟩ :: R)) :
    StW n v (.agg xs.toArray) L K := by
  intro P t hS F W w hw
  obtain ⟨b, tt, hv, hb, hM⟩ := (St.ownC H hw).cells
  obtain ⟨w', hr, hq', hM', hb'⟩ := St.setCells hw.quiet hb hM P xs 0 0 (by simpa using hx) (by simp; omega)
  refine ⟨(), w', _, ?_, ?_, h⟩
  · simp only [hv, Instr.storeAt, Instr.sureAddr, storeVar, Sem.run_bind, Sem.run_pure, Result.andThen_ok, hS w, Value.cells, List.size_toArray, hn, ne_eq, not_true_eq_false, if_false]
    exact hr
  · refine ⟨hq', holds_one b _ ⟨b, tt, hv, rfl⟩ ?_ hM'⟩
    rw [show hpOf w' b = w'.heap[b]? from rfl, hb']
    have := setCells_all vs xs [] [] (by omega)
    simp at this
    simp [this]

theorem flatMap_len {α : Type} (E : Enc α) (xs : List α) : (xs.flatMap E.enc).length = xs.length * E.k := by
  induction xs with
  | nil => simp
  | cons x xs ih => simp [List.flatMap_cons, ih, E.len, Nat.succ_mul]; omega

/-- A slice that is owned, opened: there is an element. -/
theorem St.slice {W w : World} {v : Value} {α : Type} {E : Enc α} {xs : List α} {M : List Chunk} (hne : xs ≠ []) (hw : St W w (⟨v, sliceC E xs⟩ :: M)) :
    ∃ b t pre spare m, v = .slice (some ⟨b, pre.length, none⟩) xs.length (xs.length + m) ∧ spare.length = m * E.k ∧ w.heap[b]? = some (.cells (pre ++ xs.flatMap E.enc ++ spare).toArray t (0, 0)) ∧ Holds M ((hpOf w).wo b) := by
  obtain ⟨hq, h1, h2, hd, l1, l2, hc, hr⟩ := hw
  rcases hc with ⟨_, hx⟩ | ⟨b, t, pre, spare, m, hv, hs, he⟩
  · exact absurd hx hne
  · obtain ⟨hb, hh⟩ := holds_wo_of he hd l1 l2 hr
    exact ⟨b, t, pre, spare, m, hv, hs, hb, hh⟩

theorem setCells_append (pre zs post : List Value) : ∀ (ys : List Value) (n : Nat), n + ys.length ≤ zs.length → setCells (pre ++ zs ++ post) (pre.length + n) ys = pre ++ setCells zs n ys ++ post := by
  intro ys
  induction ys generalizing zs with
  | nil => intro n _; rfl
  | cons y ys ih =>
    intro n h
    simp only [setCells]
    have h1 : (pre ++ zs ++ post).set (pre.length + n) y = pre ++ zs.set n y ++ post := by
      simp at h
      rw [List.append_assoc, List.set_append_right _ _ (by omega), List.append_assoc]
      congr 1
      rw [show pre.length + n - pre.length = n from by omega, List.set_append_left _ _ (by omega)]
    rw [h1, Nat.add_assoc]
    exact ih (zs.set n y) (n + 1) (by simp at h ⊢; omega)

/-- Some cells of an element are written: the element is another one. -/
theorem StW_elemL {v : Value} {α : Type} {E : Enc α} {xs : List α} {k : Nat} {i : Int} {off n : Nat} {x : Value} {K : List Chunk → Prop} [H : OwnS L v E xs R] (hk : E.k = k) (hi : 0 ≤ i ∧ i < xs.length)
    (hx : (Value.cellsL x).all Value.oneCell' = true) (hn : (Value.cellsL x).length = n) (ho : off + n ≤ k) {a : Value} (ha : ∀ b o c d, v = .slice (some ⟨b, o, none⟩) c d → a = .pointer (some ⟨b, o + i.toNat * k + off, none⟩))
    (h : ∀ y, xs[i.toNat]? = some y → ∃ z, E.dec (setCells (E.enc y) off (Value.cellsL x)) = some z ∧ K (⟨v, sliceC E (xs.set i.toNat z)⟩ :: R)) : StW n a x L K := by
  intro P t hS F W w hw
  have hlt : i.toNat < xs.length := by omega
  obtain ⟨b, tt, pre, spare, m, hv, hsp, hb, hM⟩ := (St.ownS H hw).slice (by intro e; subst e; simp at hlt)
  obtain ⟨z, hz, hK⟩ := h _ (List.getElem?_eq_getElem hlt)
  have hez := E.back _ _ hz
  -- the row, cut at the element
  have hcut : xs = xs.take i.toNat ++ xs[i.toNat] :: xs.drop (i.toNat + 1) := by
    rw [List.getElem_cons_drop, List.take_append_drop]
  have hfl : xs.flatMap E.enc = (xs.take i.toNat).flatMap E.enc ++ E.enc xs[i.toNat] ++ (xs.drop (i.toNat + 1)).flatMap E.enc := by
    conv => lhs; rw [hcut]
    rw [List.flatMap_append, List.flatMap_cons, List.append_assoc]
  have hsz : (pre ++ xs.flatMap E.enc ++ spare).toArray.size = pre.length + xs.length * k + spare.length := by
    rw [List.size_toArray, List.length_append, List.length_append, flatMap_len, hk]
  have hik : i.toNat * k + k ≤ xs.length * k := by
    have : (i.toNat + 1) * k ≤ xs.length * k := Nat.mul_le_mul_right k hlt
    rw [Nat.succ_mul] at this; exact this
  obtain ⟨w', hr, hq', hM', hb'⟩ := St.setCells hw.quiet hb hM P (Value.cellsL x) (pre.length + i.toNat * k + off) 0 (fun y hy => List.all_eq_true.1 hx y hy) (by rw [hsz]; omega)
  refine ⟨(), w', _, ?_, ?_, hK⟩
  · rw [ha _ _ _ _ hv]
    have hsz : x.cells.size = n := by rw [← Array.length_toList]; exact hn
    simp only [Instr.storeAt, Instr.sureAddr, storeVar, Sem.run_bind, Sem.run_pure, Result.andThen_ok, hS w, hsz, ne_eq, not_true_eq_false, if_false]
    exact hr
  · refine ⟨hq', holds_one b _ (.inr ⟨b, tt, pre, spare, m, by simpa using hv, hsp, rfl⟩) ?_ hM'⟩
    rw [show hpOf w' b = w'.heap[b]? from rfl, hb']
    congr 3
    have hset : (xs.set i.toNat z).flatMap E.enc = (xs.take i.toNat).flatMap E.enc ++ E.enc z ++ (xs.drop (i.toNat + 1)).flatMap E.enc := by
      conv => lhs; rw [hcut]
      rw [List.set_append_right _ _ (by rw [List.length_take]; omega)]
      simp only [List.length_take, Nat.min_eq_left (Nat.le_of_lt hlt), Nat.sub_self, List.set_cons_zero]
      rw [List.flatMap_append, List.flatMap_cons, List.append_assoc]
    rw [hset, hfl, hez]
    have hpl : ((xs.take i.toNat).flatMap E.enc).length = i.toNat * k := by rw [flatMap_len, hk]; simp [Nat.min_eq_left (Nat.le_of_lt hlt)]
    have := setCells_append (pre ++ (xs.take i.toNat).flatMap E.enc) (E.enc xs[i.toNat]) ((xs.drop (i.toNat + 1)).flatMap E.enc ++ spare) (Value.cellsL x) off (by rw [E.len]; omega)
    simp only [List.length_append, hpl] at this
    simp only [List.append_assoc] at this ⊢
    simpa using this

theorem StW_elem {v : Value} {α : Type} {E : Enc α} {xs : List α} {k : Nat} {i : Int} {n : Nat} {x : Value} {K : List Chunk → Prop} [H : OwnS L v E xs R] (hk : E.k = k) (hi : 0 ≤ i ∧ i < xs.length)
    (hx : (Value.cellsL x).all Value.oneCell' = true) (hn : (Value.cellsL x).length = n) (hnk : n = k) {z : α} (hz : E.dec (Value.cellsL x) = some z) (h : K (⟨v, sliceC E (xs.set i.toNat z)⟩ :: R)) : StW n (elP v k i) x L K :=
  StW_elemL (off := 0) hk hi hx hn (by omega) (fun _ _ _ _ hv => by rw [elP_at hv]; rfl) fun y _ => ⟨z, by
    have := setCells_all (E.enc y) (Value.cellsL x) [] [] (by rw [E.len]; omega)
    simp at this
    rw [this]; exact hz, h⟩

theorem StW_elemAt {v : Value} {α : Type} {E : Enc α} {xs : List α} {k : Nat} {i : Int} {n off : Nat} {x : Value} {K : List Chunk → Prop} [H : OwnS L v E xs R] (hk : E.k = k) (hi : 0 ≤ i ∧ i < xs.length)
    (hx : (Value.cellsL x).all Value.oneCell' = true) (hn : (Value.cellsL x).length = n) (ho : off + n ≤ k)
    (h : ∀ y, xs[i.toNat]? = some y → ∃ z, E.dec (setCells (E.enc y) off (Value.cellsL x)) = some z ∧ K (⟨v, sliceC E (xs.set i.toNat z)⟩ :: R)) : StW n (addP (elP v k i) off) x L K :=
  StW_elemL hk hi hx hn ho (fun _ _ _ _ hv => addP_elP hv k i off) h

end

end Go.SL
