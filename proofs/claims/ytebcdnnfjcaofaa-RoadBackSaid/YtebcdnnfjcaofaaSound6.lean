/- A part of the proofs' own ground: a region that draws its order, by a plan. -/
import Derived.Test.YtebcdnnfjcaofaaSound5
namespace Go.SL

def predsOf (o : Oper) : List Nat := (o.after.toList.filter fun e => Region.binds .any e).map (·.on)

/-- All that must be done ahead of each operation, as bits. -/
def ancGo : List Oper → List Nat → List Nat
  | [], acc => acc
  | o :: l, acc => ancGo l (acc ++ [(predsOf o).foldl (fun s e => s ||| 2 ^ e ||| acc.getD e 0) 0])

/-- Which operation writes a slot. -/
def wr : List Oper → Nat → Nat → Option Nat
  | [], _, _ => none
  | o :: l, i, s => match o.dst with
    | some d => if Nat.beq d s then some i else wr l (i + 1) s
    | none => wr l (i + 1) s

def heapRd : SOp → Bool
  | .ld .. | .str .. | .ixs .. | .slc .. | .len .. | .lenm .. | .cap .. | .look .. | .ent .. | .eqnil .. => true
  | _ => false

/-- What must hold of each operation of such a region. -/
def opOk (N : Nat) (G : List Nat) (all : List Oper) (i : Nat) (o : Oper) : Bool :=
  (predsOf o).all (fun e => Nat.blt e i) &&
  (slotsOf o.op).all (fun s => match wr all 0 s with
    | some j => elemN j (predsOf o) || ((match all[j]? with | some p => elemN i (predsOf p) | none => false) && elemN s G)
    | none => elemN s G) &&
  (match o.guard with
    | none => true
    | some (j, _) => elemN j (predsOf o) && (match all[j]? with
      | some p => match p.dst with
        | some d => match wr all 0 d with | some j' => Nat.beq j j' | none => false
        | none => false
      | none => false)) &&
  okDst N o && (match o.dst with | some d => (match wr all 0 d with | some j => Nat.beq j i | none => false) | none => true)

def opsOk (N : Nat) (G : List Nat) (all : List Oper) : List Oper → Nat → Bool
  | [], _ => true
  | o :: l, i => opOk N G all i o && opsOk N G all l (i + 1)

/-- An operation that may be read again: nobody behind it writes what it looks at. -/
def pendOk (all : List Oper) (r : Nat) : Bool := match all[r]? with
  | some o => (slotsOf o.op).all (fun s => match wr all 0 s with | some j => elemN j (predsOf o) | none => true) && o.dst.isSome
  | none => false
/-- It has been done when i is done, or what has been done already. -/
def covOk (anc : List Nat) (i : Nat) (X : List Nat) (r : Nat) : Bool :=
  (match anc[i]? with | some m => m.testBit r | none => false) || X.any fun j => Nat.beq r j || (match anc[j]? with | some m => m.testBit r | none => false)

def planOk (all : List Oper) (sl : List SOpr) (anc : List Nat) : Plan → List Nat → List Nat → List Nat → Bool
  | .done, V, seen, _ => (match seen with | [] => true | _ => false) && (List.range all.length).all fun j => elemN j V
  | .rd i p, V, seen, X => (match seen with | [] => true | _ => false) && !elemN i V && (match all[i]? with
      | some o => (predsOf o).all (fun e => elemN e V) && planOk all sl anc p (i :: V) [] X
      | none => false)
  | .eff i pend p alts, V, seen, X => !elemN i V && (match all[i]? with
      | some o => (predsOf o).all (fun e => elemN e V) && (V.all fun r => match sl[r]? with
          | some s => !heapRd s.op || covOk anc i X r || (elemN r pend && pendOk all r)
          | none => false) && planOk all sl anc p (i :: V) [] (i :: X)
      | none => false) && planOk all sl anc alts V (i :: seen) X
  | .nomore, V, seen, _ => (match seen with | [] => false | _ => true) && (List.range all.length).all fun j => elemN j V || elemN j seen || (match all[j]? with
      | some o => !((predsOf o).all fun e => elemN e V)
      | none => true)

/-! ### ancestors -/

theorem ancGo_append : ∀ (l : List Oper) (acc : List Nat), ∃ r, ancGo l acc = acc ++ r ∧ r.length = l.length
  | [], acc => ⟨[], by simp [ancGo]⟩
  | o :: l, acc => by
    obtain ⟨r, h, hl⟩ := ancGo_append l (acc ++ [(predsOf o).foldl (fun s e => s ||| 2 ^ e ||| acc.getD e 0) 0])
    exact ⟨_ :: r, by rw [ancGo, h, List.append_assoc]; rfl, by simp [hl]⟩

theorem ancGo_get : ∀ (l : List Oper) (acc : List Nat) (i : Nat) (o : Oper), l[i]? = some o →
    (ancGo l acc)[acc.length + i]? = some ((predsOf o).foldl (fun s e => s ||| 2 ^ e ||| ((ancGo l acc).take (acc.length + i)).getD e 0) 0)
  | [], _, i, o, h => by simp at h
  | p :: l, acc, 0, o, h => by
    simp at h; subst h
    obtain ⟨r, hr, _⟩ := ancGo_append l (acc ++ [(predsOf p).foldl (fun s e => s ||| 2 ^ e ||| acc.getD e 0) 0])
    rw [ancGo, hr]
    simp
  | p :: l, acc, i + 1, o, h => by
    have ih := ancGo_get l (acc ++ [(predsOf p).foldl (fun s e => s ||| 2 ^ e ||| acc.getD e 0) 0]) i o (by simpa using h)
    rw [ancGo]
    simp only [List.length_append, List.length_singleton] at ih
    rw [show acc.length + (i + 1) = acc.length + 1 + i from by omega]
    exact ih

theorem testBit_fold (f : Nat → Nat) (j : Nat) : ∀ (l : List Nat) (s : Nat), (l.foldl (fun s e => s ||| 2 ^ e ||| f e) s).testBit j = true → s.testBit j = true ∨ ∃ e ∈ l, j = e ∨ (f e).testBit j = true
  | [], s, h => .inl h
  | e :: l, s, h => by
    rcases testBit_fold f j l _ h with h | ⟨e', he, h⟩
    · simp only [Nat.testBit_or, Bool.or_eq_true, Nat.testBit_two_pow, decide_eq_true_eq] at h
      rcases h with (h | h) | h
      · exact .inl h
      · exact .inr ⟨e, by simp, .inl h.symm⟩
      · exact .inr ⟨e, by simp, .inr h⟩
    · exact .inr ⟨e', by simp [he], h⟩

theorem anc_closed {all : List Oper} {D : Nat → Prop} (hD : ∀ j, D j → ∀ o, all[j]? = some o → ∀ k ∈ predsOf o, D k) :
    ∀ (i : Nat) (o : Oper), all[i]? = some o → (∀ k ∈ predsOf o, D k) → ∀ m, (ancGo all [])[i]? = some m → ∀ r, m.testBit r = true → D r := by
  intro i
  induction i using Nat.strongRecOn with
  | _ i ih =>
    intro o ho hp m hm r hr
    have h := ancGo_get all [] i o ho
    simp only [List.length_nil, Nat.zero_add] at h
    rw [h] at hm
    cases hm
    rcases testBit_fold _ r _ _ hr with h0 | ⟨e, he, h1 | h1⟩
    · simp at h0
    · subst h1; exact hp _ he
    · have hei : e < i := by
        by_cases x : e < i
        · exact x
        · rw [List.getD_eq_getElem?_getD, List.getElem?_take, if_neg x] at h1; simp at h1
      rw [List.getD_eq_getElem?_getD, List.getElem?_take, if_pos hei] at h1
      cases hme : (ancGo all [])[e]? with
      | none => rw [hme] at h1; simp at h1
      | some me =>
        rw [hme] at h1
        have hoe : e < all.length := by
          obtain ⟨r', hr', hl⟩ := ancGo_append all []
          have := (List.getElem?_eq_some_iff.1 hme).1
          rw [hr'] at this; simp [hl] at this; exact this
        exact ih e hei all[e] (List.getElem?_eq_getElem hoe) (hD e (hp e he) _ (List.getElem?_eq_getElem hoe)) me hme r h1

/-! ### environments, by what has been done -/

/-- The slots behind the operations of p, each with its value. -/
def envP (all : List Oper) (p : Nat → Bool) (val : Nat → Value) (e0 : Env) : Env := fun s =>
  match wr all 0 s with
  | some i => bif p i then val i else e0 s
  | none => e0 s

theorem wr_spec : ∀ (l : List Oper) (i s j : Nat), wr l i s = some j → ∃ o, i ≤ j ∧ l[j - i]? = some o ∧ o.dst = some s
  | [], i, s, j, h => by simp [wr] at h
  | o :: l, i, s, j, h => by
    simp only [wr] at h
    split at h
    · rename_i d hd
      split at h
      · rename_i hb
        cases h
        exact ⟨o, Nat.le_refl _, by simp, by rw [hd, Nat.eq_of_beq_eq_true hb]⟩
      · obtain ⟨o', h1, h2, h3⟩ := wr_spec l (i + 1) s j h
        exact ⟨o', by omega, by rw [show j - i = (j - (i + 1)) + 1 from by omega]; simpa using h2, h3⟩
    · obtain ⟨o', h1, h2, h3⟩ := wr_spec l (i + 1) s j h
      exact ⟨o', by omega, by rw [show j - i = (j - (i + 1)) + 1 from by omega]; simpa using h2, h3⟩

theorem opsOk_get {N : Nat} {G : List Nat} {all : List Oper} : ∀ (l : List Oper) (i : Nat), opsOk N G all l i = true → ∀ j o, l[j]? = some o → opOk N G all (i + j) o = true
  | [], _, _, j, o, h => by simp at h
  | p :: l, i, h, j, o, ho => by
    simp only [opsOk, Bool.and_eq_true] at h
    cases j with
    | zero => simp at ho; subst ho; exact h.1
    | succ j => have := opsOk_get l (i + 1) h.2 j o (by simpa using ho); rw [show i + (j + 1) = i + 1 + j from by omega]; exact this

/-- What is asked of an operation, taken apart. -/
structure OpFacts (N : Nat) (G : List Nat) (all : List Oper) (i : Nat) (o : Oper) : Prop where
  preds : ∀ e ∈ predsOf o, e < i
  slots : ∀ s ∈ slotsOf o.op, (∃ j, wr all 0 s = some j ∧ (j ∈ predsOf o ∨ ((∃ p, all[j]? = some p ∧ i ∈ predsOf p) ∧ s ∈ G))) ∨ (wr all 0 s = none ∧ s ∈ G)
  guard : ∀ j w, o.guard = some (j, w) → j ∈ predsOf o ∧ ∃ p d, all[j]? = some p ∧ p.dst = some d ∧ wr all 0 d = some j
  dstN : okDst N o = true
  dst : ∀ d, o.dst = some d → wr all 0 d = some i

theorem opFacts {N : Nat} {G : List Nat} {all : List Oper} {i : Nat} {o : Oper} (h : opOk N G all i o = true) : OpFacts N G all i o := by
  simp only [opOk, Bool.and_eq_true] at h
  obtain ⟨⟨⟨⟨h1, h2⟩, h3⟩, h4⟩, h5⟩ := h
  refine ⟨fun e he => by simpa [Nat.blt_eq] using List.all_eq_true.1 h1 e he, fun s hs => ?_, fun j w hg => ?_, h4, fun d hd => ?_⟩
  · have := List.all_eq_true.1 h2 s hs
    split at this
    · rename_i j hj
      left
      refine ⟨j, hj, ?_⟩
      simp only [Bool.or_eq_true, Bool.and_eq_true, elemN_iff] at this
      rcases this with h | ⟨h, hG⟩
      · exact .inl h
      · right
        split at h
        · rename_i p hp; exact ⟨⟨p, hp, elemN_iff.1 h⟩, hG⟩
        · cases h
    · rename_i hj
      exact .inr ⟨hj, elemN_iff.1 this⟩
  · simp only [hg, Bool.and_eq_true, elemN_iff] at h3
    refine ⟨h3.1, ?_⟩
    have h3' := h3.2
    split at h3'
    · rename_i p hp
      split at h3'
      · rename_i d hd
        split at h3'
        · rename_i j' hj'
          exact ⟨p, d, hp, hd, by rw [hj', Nat.eq_of_beq_eq_true h3']⟩
        · cases h3'
      · cases h3'
    · cases h3'
  · simp only [hd] at h5
    split at h5
    · rename_i j hj; rw [hj, Nat.eq_of_beq_eq_true h5]
    · cases h5

theorem envP_upd {N : Nat} {G : List Nat} {all : List Oper} {p : Nat → Bool} {val : Nat → Value} {e0 : Env} {i : Nat} {o : Oper} (hf : OpFacts N G all i o) (ho : all[i]? = some o) (hp : p i = false) (v : Value) :
    envP all (fun j => Nat.beq j i || p j) (fun j => bif Nat.beq j i then v else val j) e0 = updO (envP all p val e0) o.dst v := by
  funext s
  cases hd : o.dst with
  | none =>
    simp only [updO, envP]
    cases hw : wr all 0 s with
    | none => rfl
    | some j =>
      have hji : Nat.beq j i = false := by
        cases hb : Nat.beq j i with
        | false => rfl
        | true =>
          have := Nat.eq_of_beq_eq_true hb
          subst this
          obtain ⟨o', _, h2, h3⟩ := wr_spec all 0 s j hw
          simp [ho] at h2; subst h2; rw [hd] at h3; cases h3
      simp [hji]
  | some d =>
    have hwd := hf.dst d hd
    simp only [updO, upd_at, envP]
    by_cases hs : s = d
    · subst hs; simp [hwd, Nat.beq_refl]
    · simp only [hs, if_false]
      cases hw : wr all 0 s with
      | none => rfl
      | some j =>
        have hji : Nat.beq j i = false := by
          cases hb : Nat.beq j i with
          | false => rfl
          | true =>
            have := Nat.eq_of_beq_eq_true hb
            subst this
            obtain ⟨o', _, h2, h3⟩ := wr_spec all 0 s j hw
            simp [ho] at h2; subst h2; rw [hd] at h3; cases h3; exact absurd rfl hs
        simp [hji]

/-- The operands of an operation read alike in any two states in which all ahead of it is done, and nothing that comes behind it. -/
theorem envP_slots {N : Nat} {G : List Nat} {all : List Oper} {p q : Nat → Bool} {val : Nat → Value} {e0 : Env} {i : Nat} {o : Oper} (hf : OpFacts N G all i o)
    (hp : ∀ k ∈ predsOf o, p k = true) (hq : ∀ k ∈ predsOf o, q k = true)
    (cp : ∀ j o', all[j]? = some o' → i ∈ predsOf o' → p j = false) (cq : ∀ j o', all[j]? = some o' → i ∈ predsOf o' → q j = false) :
    ∀ s ∈ slotsOf o.op, envP all p val e0 s = envP all q val e0 s := by
  intro s hs
  unfold envP
  rcases hf.slots s hs with ⟨j, hj, h | ⟨⟨o', ho', hi⟩, _⟩⟩ | ⟨hj, _⟩
  · rw [hj]; simp [hp j h, hq j h]
  · rw [hj]; simp [cp j o' ho' hi, cq j o' ho' hi]
  · rw [hj]

end Go.SL
