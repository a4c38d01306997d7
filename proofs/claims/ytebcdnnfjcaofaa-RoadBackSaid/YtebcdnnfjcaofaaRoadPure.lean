/- Networks, plain: which may be, in which order their arcs come; with no program in sight. -/
import Derived.Test.YtebcdnnfjcaofaaHelpRoad
import Derived.Test.YtebcdnnfjcaofaaSortSpec
namespace Go.SL

structure ArcOk (n : Int) (a : Arc3) : Prop where
  f0 : 0 ≤ a.f
  f1 : a.f < n
  t0 : 0 ≤ a.t
  t1 : a.t < n
  ne : a.f ≠ a.t
  w0 : 1 ≤ a.w
  w1 : a.w ≤ 1048576
def Apart (a b : Arc3) : Prop := ¬ (a.f = b.f ∧ a.t = b.t)
/-- A network that may be. -/
structure MayP (n : Int) (l : List Arc3) : Prop where
  n0 : 1 ≤ n
  n1 : n ≤ 4194304
  len : l.length ≤ 4194304
  arc : ∀ a ∈ l, ArcOk n a
  apart : l.Pairwise Apart

theorem Apart.symm {a b : Arc3} (h : Apart a b) : Apart b a := fun ⟨x, y⟩ => h ⟨x.symm, y.symm⟩
theorem MayP.perm {n : Int} {l m : List Arc3} (h : MayP n l) (p : m.Perm l) : MayP n m :=
  ⟨h.n0, h.n1, by rw [p.length_eq]; exact h.len, fun a ha => h.arc a (p.mem_iff.1 ha), (p.pairwise_iff (fun {a b} h => Apart.symm h)).2 h.apart⟩

theorem ArcOk.ends {n : Int} {a : Arc3} (h : ArcOk n a) (hn : n ≤ 4194304) : endsA a = (a.f, a.t) := by
  have h1 := h.f0; have h2 := h.f1; have h3 := h.t0; have h4 := h.t1
  unfold endsA
  rw [wrap_i32 (by omega) (by omega), wrap_i32 (by omega) (by omega)]

theorem ltA.irrefl (a : Arc3) : ¬ ltA a a := by unfold ltA; omega
theorem ltA.trans {a b c : Arc3} (h : ltA a b) (k : ltA b c) : ltA a c := by unfold ltA at *; omega
theorem ltA.asymm {a b : Arc3} (h : ltA a b) : ¬ ltA b a := by unfold ltA at *; omega
theorem ltA.total {a b : Arc3} (h : Apart a b) (k : ¬ ltA b a) : ltA a b := by unfold ltA Apart at *; omega
theorem ltT.asymm {a b : Arc3} (h : ltT a b) : ¬ ltT b a := by unfold ltT at *; omega
theorem ltT.total {a b : Arc3} (h : Apart a b) (k : ¬ ltT b a) : ltT a b := by unfold ltT Apart at *; omega

/-- There is one list in order. -/
theorem sorted_unique' {α : Type} {lt : α → α → Prop} (ha : ∀ a b, lt a b → ¬ lt b a) : ∀ {l m : List α}, l.Pairwise lt → m.Pairwise lt → l.Perm m → l = m
  | [], m, _, _, p => (List.Perm.nil_eq p)
  | a :: l, [], _, _, p => by simp at p
  | a :: l, b :: m, h, k, p => by
    obtain ⟨h1, h2⟩ := List.pairwise_cons.1 h
    obtain ⟨k1, k2⟩ := List.pairwise_cons.1 k
    have hab : a = b := by
      have ha' : a ∈ b :: m := p.mem_iff.1 (by simp)
      have hb' : b ∈ a :: l := p.mem_iff.2 (by simp)
      rcases List.mem_cons.1 ha' with e | e
      · exact e
      · rcases List.mem_cons.1 hb' with e' | e'
        · exact e'.symm
        · exact absurd (h1 b e') (ha _ _ (k1 a e))
    subst hab
    rw [sorted_unique' ha h2 k2 (List.perm_cons a |>.1 p)]

/-- Pairwise, by places. -/
theorem pairwise_get {α : Type} {R : α → α → Prop} {l : List α} : l.Pairwise R ↔ ∀ (i j : Nat) a b, i < j → l[i]? = some a → l[j]? = some b → R a b := by
  rw [List.pairwise_iff_getElem]
  constructor
  · intro h i j a b hij ha hb
    obtain ⟨hi, rfl⟩ := List.getElem?_eq_some_iff.1 ha
    obtain ⟨hj, rfl⟩ := List.getElem?_eq_some_iff.1 hb
    exact h i j hi hj hij
  · intro h i j hi hj hij
    exact h i j _ _ hij (List.getElem?_eq_getElem hi) (List.getElem?_eq_getElem hj)

theorem ltOf_cfA (a b : Arc3) : Go.Proofs.ltOf cfA a b = decide (ltA a b) := by
  unfold Go.Proofs.ltOf; exact decide_eq_decide.2 (cfA_lt a b)
theorem ltOf_ctA (a b : Arc3) : Go.Proofs.ltOf ctA a b = decide (ltT a b) := by
  unfold Go.Proofs.ltOf; exact decide_eq_decide.2 (ctA_lt a b)
theorem swo_cfA : Go.Sort.SWO (Go.Proofs.ltOf cfA) := ⟨fun x => by rw [ltOf_cfA]; exact decide_eq_false (ltA.irrefl x),
  fun x y z h1 h2 => by rw [ltOf_cfA] at *; exact decide_eq_true ((of_decide_eq_true h1).trans (of_decide_eq_true h2)),
  fun x y z h1 h2 => by
    rw [ltOf_cfA] at *
    have h1 := of_decide_eq_false h1; have h2 := of_decide_eq_false h2
    refine decide_eq_false ?_
    unfold ltA at *; omega⟩
theorem swo_ctA : Go.Sort.SWO (Go.Proofs.ltOf ctA) := ⟨fun x => by rw [ltOf_ctA]; refine decide_eq_false ?_; unfold ltT; omega,
  fun x y z h1 h2 => by
    rw [ltOf_ctA] at *
    have h1 := of_decide_eq_true h1; have h2 := of_decide_eq_true h2
    refine decide_eq_true ?_
    unfold ltT at *; omega,
  fun x y z h1 h2 => by
    rw [ltOf_ctA] at *
    have h1 := of_decide_eq_false h1; have h2 := of_decide_eq_false h2
    refine decide_eq_false ?_
    unfold ltT at *; omega⟩

/-- A block of a list in order of a key is what a filter leaves. -/
theorem filter_block {α : Type} (key : α → Int) {l : List α} (hs : l.Pairwise fun a b => key a ≤ key b) {v : Int} {i j : Nat} (hij : i ≤ j) (hj : j ≤ l.length)
    (h1 : ∀ q a, q < i → l[q]? = some a → key a < v) (h2 : ∀ q a, i ≤ q → q < j → l[q]? = some a → key a = v) (h3 : ∀ a, l[j]? = some a → v < key a) :
    (l.drop i).take (j - i) = l.filter fun a => decide (key a = v) := by
  have hcut : l = l.take i ++ ((l.drop i).take (j - i) ++ l.drop j) := by
    have : (l.drop i).drop (j - i) = l.drop j := by rw [List.drop_drop]; congr 1; omega
    rw [← this, List.take_append_drop, List.take_append_drop]
  conv => rhs; rw [hcut]
  rw [List.filter_append, List.filter_append]
  have e1 : (l.take i).filter (fun a => decide (key a = v)) = [] := by
    refine List.filter_eq_nil_iff.2 fun a ha => ?_
    obtain ⟨q, hq⟩ := List.getElem?_of_mem ha
    rw [List.getElem?_take] at hq
    split at hq
    · rename_i c
      have := h1 q a c hq
      simp; omega
    · cases hq
  have e2 : ((l.drop i).take (j - i)).filter (fun a => decide (key a = v)) = (l.drop i).take (j - i) := by
    refine List.filter_eq_self.2 fun a ha => ?_
    obtain ⟨q, hq⟩ := List.getElem?_of_mem ha
    rw [List.getElem?_take] at hq
    split at hq
    · rename_i c
      rw [List.getElem?_drop] at hq
      exact decide_eq_true (h2 (i + q) a (by omega) (by omega) hq)
    · cases hq
  have e3 : (l.drop j).filter (fun a => decide (key a = v)) = [] := by
    refine List.filter_eq_nil_iff.2 fun a ha => ?_
    obtain ⟨q, hq⟩ := List.getElem?_of_mem ha
    rw [List.getElem?_drop] at hq
    have hjl : j < l.length := by have := (List.getElem?_eq_some_iff.1 hq).1; omega
    have hb := h3 _ (List.getElem?_eq_getElem hjl)
    rcases Nat.eq_zero_or_pos q with e | e
    · subst e
      rw [Nat.add_zero, List.getElem?_eq_getElem hjl] at hq
      cases hq
      simp; omega
    · have := pairwise_get.1 hs j (j + q) _ _ (by omega) (List.getElem?_eq_getElem hjl) hq
      simp; omega
  rw [e1, e2, e3]; simp

/-- The weight of an arc. -/
def wOf (l : List Arc3) (p : PairI) : Option Int := (l.find? fun a => decide (a.f = p.1 ∧ a.t = p.2)).map (·.w)
theorem wOf_some {l : List Arc3} (h : l.Pairwise Apart) {a : Arc3} (ha : a ∈ l) : wOf l (a.f, a.t) = some a.w := by
  unfold wOf
  induction l with
  | nil => cases ha
  | cons b l ih =>
    obtain ⟨h1, h2⟩ := List.pairwise_cons.1 h
    rw [List.find?_cons]
    by_cases c : b.f = a.f ∧ b.t = a.t
    · rw [decide_eq_true c]
      rcases List.mem_cons.1 ha with e | e
      · rw [e]; rfl
      · exact absurd c (h1 a e)
    · rw [decide_eq_false c]
      rcases List.mem_cons.1 ha with e | e
      · exact absurd ⟨by rw [e], by rw [e]⟩ c
      · exact ih h2 e
theorem wOf_none {l : List Arc3} {p : PairI} : wOf l p = none ↔ ∀ a ∈ l, ¬ (a.f = p.1 ∧ a.t = p.2) := by
  unfold wOf
  rw [Option.map_eq_none_iff, List.find?_eq_none]
  constructor
  · intro h a ha c; exact h a ha (decide_eq_true c)
  · intro h a ha c; exact h a ha (of_decide_eq_true c)
theorem wOf_mem {l : List Arc3} {p : PairI} {w : Int} (h : wOf l p = some w) : (⟨p.1, p.2, w⟩ : Arc3) ∈ l := by
  unfold wOf at h
  cases hf : l.find? (fun a => decide (a.f = p.1 ∧ a.t = p.2)) with
  | none => rw [hf] at h; cases h
  | some a =>
    rw [hf] at h; cases h
    have h1 := List.find?_some hf
    have h2 := List.mem_of_find?_eq_some hf
    obtain ⟨c1, c2⟩ := of_decide_eq_true h1
    rw [← c1, ← c2]; exact h2
theorem wOf_perm {l m : List Arc3} (h : l.Pairwise Apart) (p : m.Perm l) : wOf m = wOf l := by
  have hm : m.Pairwise Apart := (p.pairwise_iff (fun {a b} h => Apart.symm h)).2 h
  funext q
  cases hl : wOf l q with
  | some w => exact wOf_some hm (p.mem_iff.2 (wOf_mem hl))
  | none =>
    rw [wOf_none] at hl ⊢
    exact fun a ha => hl a (p.mem_iff.1 ha)

end Go.SL
