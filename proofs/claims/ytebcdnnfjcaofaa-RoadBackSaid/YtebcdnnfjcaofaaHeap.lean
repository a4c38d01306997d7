/- A part of the proofs' own ground: heaps as partial maps, chunks, and what a list of chunks says of a heap. -/
import Derived.Calls
import Derived.Below
import Derived.Laws.Sem
import Derived.Laws.World
namespace Go.SL

/-- A part of a heap: block numbers to objects. -/
abbrev Hp := Nat → Option Obj
def hpOf (w : World) : Hp := fun b => w.heap[b]?
def Hp.disj (h k : Hp) : Prop := ∀ b, h b = none ∨ k b = none
def Hp.le (h k : Hp) : Prop := ∀ b o, h b = some o → k b = some o
/-- Without a block. -/
def Hp.wo (h : Hp) (b : Nat) : Hp := fun c => if c = b then none else h c
def Hp.set (h : Hp) (b : Nat) (o : Obj) : Hp := fun c => if c = b then some o else h c

theorem Hp.le.refl (h : Hp) : h.le h := fun _ _ e => e
theorem Hp.le.trans {h k l : Hp} (a : h.le k) (b : k.le l) : h.le l := fun x o e => b x o (a x o e)
theorem Hp.wo_le (h : Hp) (b : Nat) : (h.wo b).le h := fun c o e => by
  unfold Hp.wo at e; split at e
  · cases e
  · exact e

/-- What is told of a value: of the part of the heap that it owns. -/
abbrev Con := Value → Hp → Prop

structure Chunk where
  key : Value
  con : Con

/-- Each chunk owns a part of its own; what is left over is nobody's. -/
def Holds : List Chunk → Hp → Prop
  | [], _ => True
  | c :: L, h => ∃ h1 h2 : Hp, Hp.disj h1 h2 ∧ h1.le h ∧ h2.le h ∧ c.con c.key h1 ∧ Holds L h2

theorem Holds.mono {L : List Chunk} {h k : Hp} (hk : h.le k) (H : Holds L h) : Holds L k := by
  cases L with
  | nil => trivial
  | cons c L =>
    obtain ⟨h1, h2, hd, l1, l2, hc, hr⟩ := H
    exact ⟨h1, h2, hd, l1.trans hk, l2.trans hk, hc, hr⟩

theorem Hp.disj.symm {h k : Hp} (d : h.disj k) : k.disj h := fun b => (d b).symm

theorem Hp.disj.of_le {h k l : Hp} (d : h.disj k) (hl : l.le k) : h.disj l := fun b => by
  rcases d b with e | e
  · exact .inl e
  · right
    cases hb : l b with
    | none => rfl
    | some o => rw [hl b o hb] at e; cases e

theorem Hp.disj.of_le2 {h k l m : Hp} (d : h.disj k) (hl : l.le h) (hm : m.le k) : l.disj m :=
  ((d.of_le hm).symm.of_le hl).symm

def Hp.add (h k : Hp) : Hp := fun b => match h b with | some o => some o | none => k b

theorem Hp.le_add_left (h k : Hp) : h.le (h.add k) := fun b o e => by simp [Hp.add, e]
theorem Hp.le_add_right {h k : Hp} (d : h.disj k) : k.le (h.add k) := fun b o e => by
  rcases d b with x | x
  · simp [Hp.add, x, e]
  · rw [x] at e; cases e
theorem Hp.add_le {h k l : Hp} (a : h.le l) (b : k.le l) : (h.add k).le l := fun x o e => by
  unfold Hp.add at e
  split at e
  · rename_i o' ho; cases e; exact a x _ ho
  · exact b x o e
theorem Hp.disj_add {h k l : Hp} (a : h.disj l) (b : k.disj l) : (h.add k).disj l := fun x => by
  rcases b x with e | e
  · rcases a x with e' | e'
    · left; simp [Hp.add, e, e']
    · exact .inr e'
  · exact .inr e

theorem Holds.swap {c d : Chunk} {L : List Chunk} {h : Hp} (H : Holds (c :: d :: L) h) : Holds (d :: c :: L) h := by
  obtain ⟨h1, h2, hd, l1, l2, hc, k1, k2, kd, m1, m2, hdd, hr⟩ := H
  have d1 : h1.disj k1 := hd.of_le m1
  have d2 : h1.disj k2 := hd.of_le m2
  exact ⟨k1, h1.add k2, (Hp.disj_add d1 kd.symm).symm, m1.trans l2, Hp.add_le l1 (m2.trans l2), hdd,
    h1, k2, d2, Hp.le_add_left _ _, Hp.le_add_right d2, hc, hr⟩

theorem Holds.perm {L M : List Chunk} (p : L.Perm M) : ∀ {h : Hp}, Holds L h → Holds M h := by
  induction p with
  | nil => exact fun H => H
  | cons c p ih =>
    rintro h ⟨h1, h2, hd, l1, l2, hc, hr⟩
    exact ⟨h1, h2, hd, l1, l2, hc, ih hr⟩
  | swap c d L => exact fun H => Holds.swap H
  | trans p q ih1 ih2 => exact fun H => ih2 (ih1 H)

theorem Holds.tail {c : Chunk} {L : List Chunk} {h : Hp} (H : Holds (c :: L) h) : Holds L h := by
  obtain ⟨h1, h2, hd, l1, l2, hc, hr⟩ := H
  exact hr.mono l2

theorem Holds.append {L M : List Chunk} : ∀ {h k l : Hp}, h.disj k → h.le l → k.le l → Holds L h → Holds M k → Holds (L ++ M) l := by
  induction L with
  | nil => intro h k l d a b _ hm; exact hm.mono b
  | cons c L ih =>
    rintro h k l d a b ⟨h1, h2, hd, l1, l2, hc, hr⟩ hm
    have d2 : h2.disj k := d.of_le2 l2 (Hp.le.refl _)
    have d1 : h1.disj k := d.of_le2 l1 (Hp.le.refl _)
    refine ⟨h1, h2.add k, ?_, l1.trans a, Hp.add_le (l2.trans a) b, hc, ih d2 (Hp.le_add_left _ _) (Hp.le_add_right d2) hr hm⟩
    exact (Hp.disj_add hd.symm d1.symm).symm

theorem Holds.split {L M : List Chunk} : ∀ {l : Hp}, Holds (L ++ M) l → ∃ h k : Hp, h.disj k ∧ h.le l ∧ k.le l ∧ Holds L h ∧ Holds M k := by
  induction L with
  | nil => intro l H; exact ⟨fun _ => none, l, fun _ => .inl rfl, fun _ _ e => (by cases e), Hp.le.refl _, trivial, H⟩
  | cons c L ih =>
    rintro l ⟨h1, h2, hd, l1, l2, hc, hr⟩
    obtain ⟨a, b, dab, ha, hb, HL, HM⟩ := ih hr
    have d1 : h1.disj a := hd.of_le ha
    have d2 : h1.disj b := hd.of_le hb
    exact ⟨h1.add a, b, Hp.disj_add d2 dab, Hp.add_le l1 (ha.trans l2), hb.trans l2,
      ⟨h1, a, d1, Hp.le_add_left _ _, Hp.le_add_right d1, hc, HL⟩, HM⟩

/-- A part of one block. -/
def Hp.one (b : Nat) (o : Obj) : Hp := fun c => if c = b then some o else none

theorem Hp.one_le {h : Hp} {b : Nat} {o : Obj} : (Hp.one b o).le h ↔ h b = some o := by
  constructor
  · intro H; exact H b o (by simp [Hp.one])
  · intro H c p e
    unfold Hp.one at e; split at e
    · subst_vars; cases e; exact H
    · cases e

theorem Hp.one_disj {h : Hp} {b : Nat} {o : Obj} : (Hp.one b o).disj h ↔ h b = none := by
  constructor
  · intro H
    rcases H b with e | e
    · simp [Hp.one] at e
    · exact e
  · intro H c
    by_cases e : c = b
    · subst e; exact .inr H
    · left; simp [Hp.one, e]

/-- One chunk that owns just one block: what the list says. -/
theorem holds_one {v : Value} {c : Con} {L : List Chunk} {h : Hp} (b : Nat) (o : Obj) (hc : c v (Hp.one b o)) (hb : h b = some o)
    (H : Holds L (h.wo b)) : Holds (⟨v, c⟩ :: L) h :=
  ⟨Hp.one b o, h.wo b, Hp.one_disj.2 (by simp [Hp.wo]), Hp.one_le.2 hb, Hp.wo_le _ _, hc, H⟩

theorem holds_wo_of {h1 h2 h : Hp} {b : Nat} {o : Obj} (e : h1 = Hp.one b o) (d : h1.disj h2) (l1 : h1.le h) (l2 : h2.le h) {L : List Chunk} (H : Holds L h2) :
    h b = some o ∧ Holds L (h.wo b) := by
  subst e
  refine ⟨Hp.one_le.1 l1, H.mono fun c p e => ?_⟩
  have hb := Hp.one_disj.1 d
  unfold Hp.wo
  by_cases x : c = b
  · subst x; rw [hb] at e; cases e
  · simp [x, l2 c p e]

theorem Hp.wo_set (h : Hp) (b : Nat) (o : Obj) : (h.set b o).wo b = h.wo b := by
  funext c; unfold Hp.wo Hp.set; split <;> simp_all

theorem Hp.set_same (h : Hp) (b : Nat) (o : Obj) : h.set b o b = some o := by simp [Hp.set]

/-- The world's heap, where a new block comes. -/
theorem hpOf_push (w : World) (o : Obj) : hpOf (w.alloc o) = (hpOf w).set w.heap.size o := by
  funext c
  show (w.heap.push o)[c]? = _
  unfold Hp.set hpOf
  rw [Array.getElem?_push]

theorem hpOf_fresh (w : World) : hpOf w w.heap.size = none := by simp [hpOf]

theorem Hp.le_set_fresh {h : Hp} {b : Nat} {o : Obj} (hb : h b = none) : h.le (h.set b o) := fun c p e => by
  unfold Hp.set
  split
  · subst_vars; rw [hb] at e; cases e
  · exact e

theorem Hp.wo_fresh {h : Hp} {b : Nat} (hb : h b = none) : h.wo b = h := by
  funext c; unfold Hp.wo; split
  · subst_vars; exact hb.symm
  · rfl

theorem hpOf_setIf (w : World) (r : Nat) (o o' : Obj) (hr : w.heap[r]? = some o) : hpOf { w with heap := w.heap.setIfInBounds r o' } = (hpOf w).set r o' := by
  funext c
  show (w.heap.setIfInBounds r o')[c]? = _
  unfold Hp.set hpOf
  rw [Array.getElem?_setIfInBounds]
  have : r < w.heap.size := (Array.getElem?_eq_some_iff.1 hr).1
  by_cases e : c = r
  · subst e; simp [this]
  · simp [e, Ne.symm e]

theorem hpOf_setCell (w : World) (b i : Nat) (v : Value) (c : Array Value) (t : TypeId) (fz : Nat × Nat) (hb : w.heap[b]? = some (.cells c t fz)) :
    hpOf (w.setCell ⟨b, i, none⟩ v) = (hpOf w).set b (.cells (c.setIfInBounds i v) t fz) := by
  funext x
  show (w.setCell ⟨b, i, none⟩ v).heap[x]? = _
  unfold Hp.set hpOf World.setCell
  rw [Array.getElem?_modify]
  by_cases e : x = b
  · subst e; simp [hb]
  · simp [e, Ne.symm e]

/-- What the calls of a law leave alone of a world: the streams and the tape. -/
structure Quiet (W w : World) : Prop where
  os : w.os = W.os
  tape : w.tape = W.tape
  output : w.output = W.output
  drawn : W.drawn ≤ w.drawn

theorem Quiet.refl (W : World) : Quiet W W := ⟨rfl, rfl, rfl, Nat.le_refl _⟩
theorem Quiet.trans {a b c : World} (h : Quiet a b) (k : Quiet b c) : Quiet a c := ⟨k.os.trans h.os, k.tape.trans h.tape, k.output.trans h.output, Nat.le_trans h.drawn k.drawn⟩

/-- The state of a run: quiet since W, and the chunks hold. -/
structure St (W w : World) (L : List Chunk) : Prop where
  quiet : Quiet W w
  holds : Holds L (hpOf w)

theorem St.perm {W w : World} {L M : List Chunk} (p : L.Perm M) (H : St W w L) : St W w M := ⟨H.quiet, H.holds.perm p⟩
theorem St.tail {W w : World} {c : Chunk} {L : List Chunk} (H : St W w (c :: L)) : St W w L := ⟨H.quiet, H.holds.tail⟩
theorem St.drew {W w : World} {L : List Chunk} (H : St W w L) : St W { w with drawn := w.drawn + 1 } L := ⟨⟨H.quiet.os, H.quiet.tape, H.quiet.output, Nat.le_succ_of_le H.quiet.drawn⟩, H.holds⟩

/-- A new block that one chunk owns. -/
theorem St.alloc {W w : World} {L : List Chunk} (H : St W w L) (o : Obj) (v : Value) (c : Con) (hc : c v (Hp.one w.heap.size o)) :
    St W (w.alloc o) (⟨v, c⟩ :: L) := by
  refine ⟨⟨H.quiet.os, H.quiet.tape, H.quiet.output, H.quiet.drawn⟩, holds_one w.heap.size o hc ?_ ?_⟩
  · rw [hpOf_push]; exact Hp.set_same _ _ _
  · rw [hpOf_push, Hp.wo_set, Hp.wo_fresh (hpOf_fresh w)]; exact H.holds

/-- A block that one chunk owns is written anew. -/
theorem St.put {W w w' : World} {L : List Chunk} {b : Nat} {o : Obj} {v : Value} {c : Con} (hq : Quiet w w') (H : Holds L ((hpOf w).wo b)) (hQ : Quiet W w)
    (hw : hpOf w' = (hpOf w).set b o) (hc : c v (Hp.one b o)) : St W w' (⟨v, c⟩ :: L) := by
  refine ⟨hQ.trans hq, holds_one b o hc ?_ ?_⟩
  · rw [hw]; exact Hp.set_same _ _ _
  · rw [hw, Hp.wo_set]; exact H

/-- A chunk that stands for others. -/
theorem Holds.open_ {v : Value} {c : Con} {L M : List Chunk} {h : Hp} (hc : ∀ k, c v k → Holds M k) (H : Holds (⟨v, c⟩ :: L) h) : Holds (M ++ L) h := by
  obtain ⟨h1, h2, hd, l1, l2, k1, hr⟩ := H
  exact Holds.append hd l1 l2 (hc _ k1) hr
theorem Holds.shut_ {v : Value} {c : Con} {L M : List Chunk} {h : Hp} (hc : ∀ k, Holds M k → c v k) (H : Holds (M ++ L) h) : Holds (⟨v, c⟩ :: L) h := by
  obtain ⟨a, b, d, la, lb, HM, HL⟩ := H.split
  exact ⟨a, b, d, la, lb, hc _ HM, HL⟩

end Go.SL
