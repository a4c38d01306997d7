/- A part of the proofs' own ground: maps. -/
import Derived.Test.YtebcdnnfjcaofaaRules2
import Derived.MapKept
namespace Go.SL

theorem lget0' {α : Type} (a : α) (l : List α) : (a :: l)[0]? = some a := rfl
theorem lget1' {α : Type} (a b : α) (l : List α) : (a :: b :: l)[1]? = some b := rfl

/-- How keys are told apart. -/
structure KEnc (κ : Type) [DecidableEq κ] where
  enc : κ → Value
  kk : KK
  good : ∀ x, kk.good (enc x)
  eq : ∀ x y, eqKey (enc x) (enc y) = decide (x = y)
  same : ∀ x, Instr.sameBits 10000 (enc x) (enc x) = true

theorem KEnc.inj {κ : Type} [DecidableEq κ] (KE : KEnc κ) {x y : κ} (h : KE.enc x = KE.enc y) : x = y := by
  have h1 := KE.eq x y
  rw [← h, KE.eq x x, decide_eq_true rfl] at h1
  exact of_decide_eq_true h1.symm

def updF {κ ν : Type} [DecidableEq κ] (f : κ → Option ν) (x : κ) (y : ν) : κ → Option ν := fun z => if z = x then some y else f z
def delF {κ ν : Type} [DecidableEq κ] (f : κ → Option ν) (x : κ) : κ → Option ν := fun z => if z = x then none else f z

theorem find_cases (k : Value) : ∀ (es : List MapEntry) (i : Nat), (findE k es i = none ∧ ∀ (j : Nat) (e : MapEntry), es[j]? = some e → eqKey k e.key = false) ∨ ∃ (j : Nat) (e : MapEntry), es[j]? = some e ∧ eqKey k e.key = true ∧ findE k es i = some (i + j, e.val)
  | [], i => .inl ⟨rfl, fun j e h => by simp at h⟩
  | e :: es, i => by
    cases h : eqKey k e.key with
    | true => exact .inr ⟨0, e, rfl, h, by simp [findE, h]⟩
    | false =>
      rcases find_cases k es (i + 1) with ⟨h1, h2⟩ | ⟨j, d, h1, h2, h3⟩
      · refine .inl ⟨by simp [findE, h, h1], fun j d hj => ?_⟩
        cases j with
        | zero => simp at hj; subst hj; exact h
        | succ j => exact h2 j d (by simpa using hj)
      · exact .inr ⟨j + 1, d, by simpa using h1, h2, by simp [findE, h, h3]; omega⟩

/-- A map's entries. -/
structure MapIs {κ ν : Type} [DecidableEq κ] (KE : KEnc κ) (VE : ν → Value) (es : List MapEntry) (clock : Nat) (f : κ → Option ν) : Prop where
  at_ : ∀ (j : Nat) (e : MapEntry), es[j]? = some e → ∃ x y, e.key = KE.enc x ∧ e.val = VE y ∧ f x = some y ∧ e.born < clock
  all : ∀ x y, f x = some y → ∃ (j : Nat) (e : MapEntry), es[j]? = some e ∧ e.key = KE.enc x
  one : ∀ (i j : Nat) (d e : MapEntry), es[i]? = some d → es[j]? = some e → d.key = e.key → i = j
  born : ∀ (i j : Nat) (d e : MapEntry), es[i]? = some d → es[j]? = some e → d.born = e.born → i = j

section
variable {κ ν : Type} [DecidableEq κ] {KE : KEnc κ} {VE : ν → Value} {es : List MapEntry} {clock : Nat} {f : κ → Option ν}

theorem MapIs.find (M : MapIs KE VE es clock f) (x : κ) : (f x = none ∧ findE (KE.enc x) es 0 = none) ∨ ∃ (j : Nat) (e : MapEntry) (y : ν), es[j]? = some e ∧ e.key = KE.enc x ∧ e.val = VE y ∧ f x = some y ∧ findE (KE.enc x) es 0 = some (j, VE y) := by
  rcases find_cases (KE.enc x) es 0 with ⟨h1, h2⟩ | ⟨j, e, h1, h2, h3⟩
  · refine .inl ⟨?_, h1⟩
    cases hf : f x with
    | none => rfl
    | some y =>
      obtain ⟨j, e, hj, hk⟩ := M.all x y hf
      have := h2 j e hj
      rw [hk, KE.eq, decide_eq_true rfl] at this
      cases this
  · obtain ⟨x', y, hk, hv, hf, _⟩ := M.at_ j e h1
    rw [hk, KE.eq] at h2
    have : x = x' := of_decide_eq_true h2
    subst this
    exact .inr ⟨j, e, y, h1, hk, hv, hf, by rw [h3, hv, Nat.zero_add]⟩

theorem MapIs.good (M : MapIs KE VE es clock f) : ∀ e ∈ es, KE.kk.good e.key := fun e he => by
  obtain ⟨j, hj⟩ := List.getElem?_of_mem he
  obtain ⟨x, _, hk, _⟩ := M.at_ j e hj
  rw [hk]; exact KE.good x

theorem MapIs.empty : MapIs KE VE [] 0 (fun _ => none) := ⟨fun j e h => (by simp at h), fun x y h => (by cases h), fun i j d e h => (by simp at h), fun i j d e h => (by simp at h)⟩

theorem MapIs.set (M : MapIs KE VE es clock f) {j : Nat} {d : MapEntry} {x : κ} (hj : es[j]? = some d) (hk : d.key = KE.enc x) (y : ν) : MapIs KE VE (es.set j { d with key := KE.enc x, val := VE y }) clock (updF f x y) := by
  have hlt := (List.getElem?_eq_some_iff.1 hj).1
  have old : ∀ (i : Nat) (e : MapEntry), (es.set j { d with key := KE.enc x, val := VE y })[i]? = some e → ∃ e0 : MapEntry, es[i]? = some e0 ∧ e.key = e0.key ∧ e.born = e0.born ∧ (i ≠ j → e = e0) ∧ (i = j → e.val = VE y) := fun i e h => by
    rw [List.getElem?_set] at h
    by_cases c : j = i
    · subst c
      rw [if_pos rfl, if_pos hlt] at h
      cases h
      exact ⟨d, hj, hk.symm, rfl, fun n => absurd rfl n, fun _ => rfl⟩
    · rw [if_neg c] at h
      exact ⟨e, h, rfl, rfl, fun _ => rfl, fun n => absurd n.symm c⟩
  refine ⟨fun i e h => ?_, fun z w hz => ?_, fun a b p q ha hb e => ?_, fun a b p q ha hb e => ?_⟩
  · obtain ⟨e0, h0, h1, h2, h3, h4⟩ := old i e h
    by_cases c : i = j
    · subst c
      rw [hj] at h0; cases h0
      obtain ⟨_, _, _, _, _, hb⟩ := M.at_ i d hj
      exact ⟨x, y, h1.trans hk, h4 rfl, by simp [updF], h2 ▸ hb⟩
    · have := h3 c
      subst this
      obtain ⟨x', y', e1, e2, e3, e4⟩ := M.at_ i e h0
      refine ⟨x', y', e1, e2, ?_, e4⟩
      have : x' ≠ x := fun n => c (M.one i j e d h0 hj (by rw [e1, hk, n]))
      simp [updF, this, e3]
  · by_cases c : z = x
    · subst c
      exact ⟨j, _, by rw [List.getElem?_set, if_pos rfl, if_pos hlt], rfl⟩
    · simp [updF, c] at hz
      obtain ⟨i, e, hi, he⟩ := M.all z w hz
      have : j ≠ i := fun n => c (by subst n; rw [hj] at hi; cases hi; exact KE.inj (he.symm.trans hk))
      exact ⟨i, e, by rw [List.getElem?_set, if_neg this]; exact hi, he⟩
  · obtain ⟨p0, h0, h1, _⟩ := old a p ha
    obtain ⟨q0, g0, g1, _⟩ := old b q hb
    exact M.one a b p0 q0 h0 g0 (by rw [← h1, ← g1]; exact e)
  · obtain ⟨p0, h0, _, h1, _⟩ := old a p ha
    obtain ⟨q0, g0, _, g1, _⟩ := old b q hb
    exact M.born a b p0 q0 h0 g0 (by rw [← h1, ← g1]; exact e)

theorem MapIs.push (M : MapIs KE VE es clock f) {x : κ} (hx : f x = none) (y : ν) : MapIs KE VE (es ++ [{ key := KE.enc x, val := VE y, born := clock }]) (clock + 1) (updF f x y) := by
  have old : ∀ (i : Nat) (e : MapEntry), (es ++ [({ key := KE.enc x, val := VE y, born := clock } : MapEntry)])[i]? = some e → es[i]? = some e ∨ i = es.length ∧ e = { key := KE.enc x, val := VE y, born := clock } := fun i e h => by
    by_cases c : i < es.length
    · rw [List.getElem?_append_left c] at h; exact .inl h
    · rw [List.getElem?_append_right (by omega)] at h
      have hi : i - es.length = 0 := by
        have := (List.getElem?_eq_some_iff.1 h).1
        simp at this; omega
      rw [hi] at h
      simp at h
      exact .inr ⟨by omega, h.symm⟩
  refine ⟨fun i e h => ?_, fun z w hz => ?_, fun a b p q ha hb e => ?_, fun a b p q ha hb e => ?_⟩
  · rcases old i e h with h | ⟨_, rfl⟩
    · obtain ⟨x', y', e1, e2, e3, e4⟩ := M.at_ i e h
      have : x' ≠ x := fun n => by subst n; rw [hx] at e3; cases e3
      exact ⟨x', y', e1, e2, by simp [updF, this, e3], by omega⟩
    · exact ⟨x, y, rfl, rfl, by simp [updF], by show clock < clock + 1; omega⟩
  · by_cases c : z = x
    · subst c
      exact ⟨es.length, { key := KE.enc z, val := VE y, born := clock }, by simp, rfl⟩
    · simp [updF, c] at hz
      obtain ⟨i, e, hi, he⟩ := M.all z w hz
      exact ⟨i, e, by rw [List.getElem?_append_left (List.getElem?_eq_some_iff.1 hi).1]; exact hi, he⟩
  · rcases old a p ha with h | ⟨h, rfl⟩ <;> rcases old b q hb with g | ⟨g, rfl⟩
    · exact M.one a b p q h g e
    · obtain ⟨x', y', e1, _, e3, _⟩ := M.at_ a p h
      have : x' = x := KE.inj (e1.symm.trans e)
      subst this; rw [hx] at e3; cases e3
    · obtain ⟨x', y', e1, _, e3, _⟩ := M.at_ b q g
      have : x' = x := KE.inj (e1.symm.trans e.symm)
      subst this; rw [hx] at e3; cases e3
    · omega
  · rcases old a p ha with h | ⟨h, rfl⟩ <;> rcases old b q hb with g | ⟨g, rfl⟩
    · exact M.born a b p q h g e
    · obtain ⟨_, _, _, _, _, e4⟩ := M.at_ a p h
      have : p.born = clock := e
      omega
    · obtain ⟨_, _, _, _, _, e4⟩ := M.at_ b q g
      have : clock = q.born := e
      omega
    · omega

theorem MapIs.erase (M : MapIs KE VE es clock f) {j : Nat} {d : MapEntry} {x : κ} (hj : es[j]? = some d) (hk : d.key = KE.enc x) : MapIs KE VE (es.eraseIdx j) clock (delF f x) := by
  have old : ∀ (i : Nat) (e : MapEntry), (es.eraseIdx j)[i]? = some e → ∃ i', es[i']? = some e ∧ i' ≠ j ∧ i' = (if i < j then i else i + 1) := fun i e h => by
    rw [List.getElem?_eraseIdx] at h
    by_cases c : i < j
    · rw [if_pos c] at h; exact ⟨i, h, by omega, by simp [c]⟩
    · rw [if_neg c] at h; exact ⟨i + 1, h, by omega, by simp [c]⟩
  refine ⟨fun i e h => ?_, fun z w hz => ?_, fun a b p q ha hb e => ?_, fun a b p q ha hb e => ?_⟩
  · obtain ⟨i', hi, hn, _⟩ := old i e h
    obtain ⟨x', y', e1, e2, e3, e4⟩ := M.at_ i' e hi
    have : x' ≠ x := fun n => hn (M.one i' j e d hi hj (by rw [e1, hk, n]))
    exact ⟨x', y', e1, e2, by simp [delF, this, e3], e4⟩
  · by_cases c : z = x
    · simp [delF, c] at hz
    · simp [delF, c] at hz
      obtain ⟨i, e, hi, he⟩ := M.all z w hz
      have hne : i ≠ j := fun n => c (by subst n; rw [hj] at hi; cases hi; exact KE.inj (he.symm.trans hk))
      by_cases l : i < j
      · exact ⟨i, e, by rw [List.getElem?_eraseIdx, if_pos l]; exact hi, he⟩
      · exact ⟨i - 1, e, by rw [List.getElem?_eraseIdx, if_neg (by omega), show i - 1 + 1 = i from by omega]; exact hi, he⟩
  · obtain ⟨a', ha', _, ea⟩ := old a p ha
    obtain ⟨b', hb', _, eb⟩ := old b q hb
    have := M.one a' b' p q ha' hb' e
    split at ea <;> split at eb <;> omega
  · obtain ⟨a', ha', _, ea⟩ := old a p ha
    obtain ⟨b', hb', _, eb⟩ := old b q hb
    have := M.born a' b' p q ha' hb' e
    split at ea <;> split at eb <;> omega

theorem delF_none {x : κ} (h : f x = none) : delF f x = f := by
  funext z
  unfold delF
  split
  · rename_i e; rw [e, h]
  · rfl
end

/-- A map, by what it tells of each key. -/
def mapC {κ ν : Type} [DecidableEq κ] (KE : KEnc κ) (VE : ν → Value) (f : κ → Option ν) : Con := fun v h =>
  ∃ b es clock, v = .map (some b) ∧ h = Hp.one b (.map es clock) ∧ MapIs KE VE es.toList clock f
/-- A map between an entry's look and its store: the entry of the key x was born at n. -/
def mapE {κ ν : Type} [DecidableEq κ] (KE : KEnc κ) (VE : ν → Value) (f : κ → Option ν) (x : κ) (n : Nat) : Con := fun v h =>
  ∃ b es clock, v = .map (some b) ∧ h = Hp.one b (.map es clock) ∧ MapIs KE VE es.toList clock f ∧ ∃ (j : Nat) (e : MapEntry), es[j]? = some e ∧ e.key = KE.enc x ∧ e.born = n

class OwnM (L : List Chunk) (m : Value) {κ ν : outParam Type} {dk : outParam (DecidableEq κ)} (KE : outParam (@KEnc κ dk)) (VE : outParam (ν → Value)) (f : outParam (κ → Option ν)) (R : outParam (List Chunk)) : Prop where
  perm : L.Perm (⟨m, mapC KE VE f⟩ :: R)
instance OwnM.head {L : List Chunk} {m : Value} {κ ν : Type} {dk : DecidableEq κ} {KE : KEnc κ} {VE : ν → Value} {f : κ → Option ν} : OwnM (⟨m, mapC KE VE f⟩ :: L) m KE VE f L := ⟨.refl _⟩
instance (priority := low) OwnM.tail {d : Chunk} {L R : List Chunk} {m : Value} {κ ν : Type} {dk : DecidableEq κ} {KE : KEnc κ} {VE : ν → Value} {f : κ → Option ν} [h : OwnM L m KE VE f R] : OwnM (d :: L) m KE VE f (d :: R) := ⟨(h.perm.cons d).trans (.swap _ _ _)⟩

section
variable {κ ν : Type} {dk : DecidableEq κ} {KE : KEnc κ} {VE : ν → Value} {f : κ → Option ν} {L R M : List Chunk} {m : Value}

theorem St.map {W w : World} (hw : St W w (⟨m, mapC KE VE f⟩ :: M)) : ∃ b es clock, m = .map (some b) ∧ w.heap[b]? = some (.map es clock) ∧ MapIs KE VE es.toList clock f ∧ Holds M ((hpOf w).wo b) := by
  obtain ⟨hq, h1, h2, hd, l1, l2, ⟨b, es, clock, hv, he, hm⟩, hr⟩ := hw
  obtain ⟨hb, hh⟩ := holds_wo_of he hd l1 l2 hr
  exact ⟨b, es, clock, hv, hb, hm, hh⟩

theorem St.mapPut {W w : World} {b : Nat} {o o' : Obj} {v : Value} {c : Con} (hq : Quiet W w) (hb : w.heap[b]? = some o) (hM : Holds M ((hpOf w).wo b)) (hc : c v (Hp.one b o')) : St W { w with heap := w.heap.setIfInBounds b o' } (⟨v, c⟩ :: M) := by
  have h1 := hpOf_setIf w b o o' hb
  refine ⟨⟨hq.os, hq.tape, hq.output, hq.drawn⟩, holds_one b o' hc ?_ ?_⟩
  · rw [h1, Hp.set_same]
  · rw [h1, Hp.wo_set]; exact hM

theorem MkmW_intro {K : Value → List Chunk → Prop} (KE : KEnc κ) (VE : ν → Value) (h : ∀ b : Nat, K (.map (some b)) (⟨.map (some b), mapC KE VE fun _ => none⟩ :: L)) : MkmW L K := by
  intro P F W w hw
  refine ⟨.map (some w.heap.size), w.alloc (.map #[] 0), _, by simp [newObj, Sem.run], hw.alloc _ _ _ ⟨w.heap.size, #[], 0, rfl, rfl, MapIs.empty⟩, h _⟩

theorem LookW_map {K : Value → Prop} {z k : Value} {x : κ} {ok : Bool} {kk : KK} [H : OwnM L m KE VE f R] (hkk : KE.kk = kk) (hk : KE.enc x = k)
    (h1 : ∀ y, f x = some y → K (if ok then .tuple #[VE y, .bool true] else VE y)) (h2 : f x = none → K (if ok then .tuple #[z, .bool false] else z)) : LookW kk z m k ok L K := by
  subst hkk hk
  have hKv : K (match f x with | some y => (if ok then .tuple #[VE y, .bool true] else VE y) | none => (if ok then .tuple #[z, .bool false] else z)) := by
    cases e : f x with
    | none => exact h2 e
    | some y => exact h1 y e
  refine ⟨_, fun P t ke e ht hS hz W w hw => ?_, hKv⟩
  obtain ⟨b, es, clock, hv, hb, hm, _⟩ := (hw.perm H.perm).map
  have hc : ∀ em, (Instr.checkKey em 10000 ke (KE.enc x)).run P w = .ok () w := fun em => hS.check em _ w (KE.good x)
  have hf := hS.find (KE.enc x) es.toList w (KE.good x) hm.good
  have hg : (getObj b).run P w = .ok (.map es clock) w := MapKept.run_getObj_map hb
  rcases hm.find x with ⟨e1, e2⟩ | ⟨j, en, y, _, _, _, e1, e2⟩
  · rw [e2] at hf
    rw [hv, e1]
    simp only [Instr.lookup, Sem.run_bind, ht w, Result.andThen_ok, hg, Sem.run_pure, hc, hf, hz w]
  · rw [e2] at hf
    rw [hv, e1]
    simp only [Instr.lookup, Sem.run_bind, ht w, Result.andThen_ok, hg, Sem.run_pure, hc, hf]

theorem UpmW_map {K : List Chunk → Prop} {k v : Value} {x : κ} {y : ν} {kk : KK} [H : OwnM L m KE VE f R] (hkk : KE.kk = kk) (hk : KE.enc x = k) (hv : VE y = v) (h : K (⟨m, mapC KE VE (updF f x y)⟩ :: R)) : UpmW kk m k v L K := by
  subst hkk hk hv
  intro P t ke e ht hS F W w hw
  have hw1 : St W w (⟨m, mapC KE VE f⟩ :: (R ++ F)) := hw.perm (H.perm.append_right F)
  obtain ⟨b, es, clock, hv, hb, hm, hM⟩ := hw1.map
  have hc : (Instr.checkKey false 10000 ke (KE.enc x)).run P w = .ok () w := hS.check _ _ w (KE.good x)
  have hf := hS.find (KE.enc x) es.toList w (KE.good x) hm.good
  have hg : (getObj b).run P w = .ok (.map es clock) w := MapKept.run_getObj_map hb
  rcases hm.find x with ⟨e1, e2⟩ | ⟨j, en, y0, hj, hk, _, e1, e2⟩
  · rw [e2] at hf
    refine ⟨(), _, ⟨m, mapC KE VE (updF f x y)⟩ :: R, ?_, St.mapPut (o' := .map (es.push { key := KE.enc x, val := VE y, born := clock }) (clock + 1)) hw1.quiet hb hM ⟨b, _, _, hv, rfl, ?_⟩, h⟩
    · rw [hv]
      simp only [Instr.mapUpdate, Sem.run_bind, ht w, Result.andThen_ok, hg, hc, hf]
      exact MapKept.run_setObj_map _ hb
    · rw [Array.toList_push]; exact hm.push e1 y
  · rw [e2] at hf
    have hj' : es[j]? = some en := by rw [← Array.getElem?_toList]; exact hj
    have hkey : ((es[j]?).map (·.key)).getD (KE.enc x) = KE.enc x := by rw [hj']; exact hk
    have hst : (Instr.keyThatStays (KE.enc x) (KE.enc x)).run P w = .ok (KE.enc x) w := by simp [Instr.keyThatStays, KE.same]
    refine ⟨(), _, ⟨m, mapC KE VE (updF f x y)⟩ :: R, ?_, St.mapPut (o' := .map (es.modify j fun e => { e with key := KE.enc x, val := VE y }) clock) hw1.quiet hb hM ⟨b, _, _, hv, rfl, ?_⟩, h⟩
    · rw [hv]
      simp only [Instr.mapUpdate, Sem.run_bind, ht w, Result.andThen_ok, hg, hc, hf, hkey, hst]
      exact MapKept.run_setObj_map _ hb
    · have : (es.modify j fun e => { e with key := KE.enc x, val := VE y }).toList = es.toList.set j { en with key := KE.enc x, val := VE y } := by
        apply List.ext_getElem?
        intro i
        rw [Array.getElem?_toList, Array.getElem?_modify, List.getElem?_set, Array.getElem?_toList]
        by_cases c : j = i
        · subst c
          have hlt := (Array.getElem?_eq_some_iff.1 hj').1
          rw [if_pos rfl, if_pos rfl, if_pos (by rw [Array.length_toList]; exact hlt), hj']
          rfl
        · simp [c]
      rw [this]; exact hm.set hj hk y

theorem DelW_map {K : Value → List Chunk → Prop} {k : Value} {x : κ} {kk : KK} [H : OwnM L m KE VE f R] (hkk : KE.kk = kk) (hk : KE.enc x = k) (h : K (.tuple #[]) (⟨m, mapC KE VE (delF f x)⟩ :: R)) : DelW kk m k L K := by
  subst hkk hk
  intro P t u ke e ty ht hS F W w hw
  have hw1 : St W w (⟨m, mapC KE VE f⟩ :: (R ++ F)) := hw.perm (H.perm.append_right F)
  obtain ⟨b, es, clock, hv, hb, hm, hM⟩ := hw1.map
  have hc : ∀ em, (Instr.checkKey em 10000 ke (KE.enc x)).run P w = .ok () w := fun em => hS.check em _ w (KE.good x)
  have hf := hS.find (KE.enc x) es.toList w (KE.good x) hm.good
  have hg : (getObj b).run P w = .ok (.map es clock) w := MapKept.run_getObj_map hb
  rcases hm.find x with ⟨e1, e2⟩ | ⟨j, en, y0, hj, hk, _, e1, e2⟩
  · rw [e2] at hf
    refine ⟨.tuple #[], _, ⟨m, mapC KE VE (delF f x)⟩ :: R, ?_, St.mapPut (o' := .map es clock) hw1.quiet hb hM ⟨b, _, _, hv, rfl, ?_⟩, h⟩
    · rw [hv]
      simp only [Builtin.delete_, List.getElem?_toArray, lget0', lget1', Sem.run_bind, ht w, Result.andThen_ok, hg, hc, hf, MapKept.run_setObj_map _ hb, Sem.run_pure]
    · rw [delF_none e1]; exact hm
  · rw [e2] at hf
    refine ⟨.tuple #[], _, ⟨m, mapC KE VE (delF f x)⟩ :: R, ?_, St.mapPut (o' := .map (es.eraseIdxIfInBounds j) clock) hw1.quiet hb hM ⟨b, _, _, hv, rfl, ?_⟩, h⟩
    · rw [hv]
      simp only [Builtin.delete_, List.getElem?_toArray, lget0', lget1', Sem.run_bind, ht w, Result.andThen_ok, hg, hc, hf, MapKept.run_setObj_map _ hb, Sem.run_pure]
    · have hlt := (List.getElem?_eq_some_iff.1 hj).1
      have : (es.eraseIdxIfInBounds j).toList = es.toList.eraseIdx j := by simp
      rw [this]; exact hm.erase hj hk

theorem updF_same {x : κ} {y : ν} (h : f x = some y) : updF f x y = f := by
  funext z
  unfold updF
  split
  · rename_i e; rw [e, h]
  · rfl
theorem updF_upd (x : κ) (y y' : ν) : updF (updF f x y) x y' = updF f x y' := by
  funext z
  unfold updF
  split <;> rfl
theorem updF_at (x : κ) (y : ν) : updF f x y x = some y := by simp [updF]
theorem updF_ne {x z : κ} (y : ν) (h : z ≠ x) : updF f x y z = f z := by simp [updF, h]
theorem delF_at (x : κ) : delF f x x = none := by simp [delF]
theorem delF_ne {x z : κ} (h : z ≠ x) : delF f x z = f z := by simp [delF, h]

/-- m[k] op= v: the look. -/
theorem MentW_map {K : Value → List Chunk → Prop} {z k : Value} {x : κ} {kk : KK} (z0 : ν) [H : OwnM L m KE VE f R] (hkk : KE.kk = kk) (hk : KE.enc x = k) (hz : VE z0 = z)
    (h : ∀ n : Nat, K (.tuple #[VE ((f x).getD z0), .int .i64 n]) (⟨m, mapE KE VE (updF f x ((f x).getD z0)) x n⟩ :: R)) : MentW kk z m k L K := by
  subst hkk hk hz
  intro P t ke e ht hS hzz F W w hw
  have hw1 : St W w (⟨m, mapC KE VE f⟩ :: (R ++ F)) := hw.perm (H.perm.append_right F)
  obtain ⟨b, es, clock, hv, hb, hm, hM⟩ := hw1.map
  have hc : (Instr.checkKey false 10000 ke (KE.enc x)).run P w = .ok () w := hS.check _ _ w (KE.good x)
  have hf := hS.find (KE.enc x) es.toList w (KE.good x) hm.good
  have hg : (getObj b).run P w = .ok (.map es clock) w := MapKept.run_getObj_map hb
  rcases hm.find x with ⟨e1, e2⟩ | ⟨j, en, y0, hj, hk, hve, e1, e2⟩
  · rw [e2] at hf
    have h0 := h clock
    rw [e1] at h0
    refine ⟨_, _, _, ?_, St.mapPut (o' := .map (es.push { key := KE.enc x, val := VE z0, born := clock }) (clock + 1)) hw1.quiet hb hM ⟨b, _, _, hv, rfl, ?_, es.size, { key := KE.enc x, val := VE z0, born := clock }, ?_, rfl, rfl⟩, h0⟩
    · rw [hv]
      simp only [Instr.mapEntry, Sem.run_bind, ht w, Result.andThen_ok, hg, hc, hf, hzz w, MapKept.run_setObj_map _ hb, Sem.run_pure, goInt]
      rfl
    · rw [Array.toList_push]; exact hm.push e1 z0
    · simp
  · rw [e2] at hf
    have hj' : es[j]? = some en := by rw [← Array.getElem?_toList]; exact hj
    have hkey : ((es[j]?).map (·.key)).getD (KE.enc x) = KE.enc x := by rw [hj']; exact hk
    have hborn : ((es[j]?).map fun e => (e.born : Int)).getD 0 = en.born := by rw [hj']; rfl
    have hst : (Instr.keyThatStays (KE.enc x) (KE.enc x)).run P w = .ok (KE.enc x) w := by simp [Instr.keyThatStays, KE.same]
    have h0 := h en.born
    rw [e1] at h0
    have hlt := (Array.getElem?_eq_some_iff.1 hj').1
    have hmod : (es.modify j fun e => { e with key := KE.enc x }).toList = es.toList.set j { en with key := KE.enc x, val := VE y0 } := by
      apply List.ext_getElem?
      intro i
      rw [Array.getElem?_toList, Array.getElem?_modify, List.getElem?_set, Array.getElem?_toList]
      by_cases c : j = i
      · subst c
        rw [if_pos rfl, if_pos rfl, if_pos (by rw [Array.length_toList]; exact hlt), hj', ← hve]
        rfl
      · simp [c]
    refine ⟨_, _, _, ?_, St.mapPut (o' := .map (es.modify j fun e => { e with key := KE.enc x }) clock) hw1.quiet hb hM ⟨b, _, _, hv, rfl, ?_, j, { en with key := KE.enc x, val := VE y0 }, ?_, rfl, rfl⟩, h0⟩
    · rw [hv]
      simp only [Instr.mapEntry, Sem.run_bind, ht w, Result.andThen_ok, hg, hc, hf, hkey, hborn, hst, MapKept.run_setObj_map _ hb, Sem.run_pure, goInt]
      rfl
    · rw [hmod]; exact hm.set hj hk y0
    · rw [← Array.getElem?_toList, hmod, List.getElem?_set, if_pos rfl, if_pos (by rw [Array.length_toList]; exact hlt)]

end

class OwnE (L : List Chunk) (m : Value) {κ ν : outParam Type} {dk : outParam (DecidableEq κ)} (KE : outParam (@KEnc κ dk)) (VE : outParam (ν → Value)) (f : outParam (κ → Option ν)) (x : outParam κ) (n : outParam Nat) (R : outParam (List Chunk)) : Prop where
  perm : L.Perm (⟨m, mapE KE VE f x n⟩ :: R)
instance OwnE.head {L : List Chunk} {m : Value} {κ ν : Type} {dk : DecidableEq κ} {KE : KEnc κ} {VE : ν → Value} {f : κ → Option ν} {x : κ} {n : Nat} : OwnE (⟨m, mapE KE VE f x n⟩ :: L) m KE VE f x n L := ⟨.refl _⟩
instance (priority := low) OwnE.tail {d : Chunk} {L R : List Chunk} {m : Value} {κ ν : Type} {dk : DecidableEq κ} {KE : KEnc κ} {VE : ν → Value} {f : κ → Option ν} {x : κ} {n : Nat} [h : OwnE L m KE VE f x n R] : OwnE (d :: L) m KE VE f x n (d :: R) := ⟨(h.perm.cons d).trans (.swap _ _ _)⟩

section
variable {κ ν : Type} {dk : DecidableEq κ} {KE : KEnc κ} {VE : ν → Value} {f : κ → Option ν} {L R M : List Chunk} {m : Value}
/-- m[k] op= v: the store. -/
theorem MstW_map {K : List Chunk → Prop} {v : Value} {x : κ} {y : ν} {n n' : Nat} [H : OwnE L m KE VE f x n R] (hn : n' = n) (hv : VE y = v) (h : K (⟨m, mapC KE VE (updF f x y)⟩ :: R)) : MstW m (.int .i64 n') v L K := by
  subst hn hv
  intro P t F W w hw
  have hw1 : St W w (⟨m, mapE KE VE f x n'⟩ :: (R ++ F)) := hw.perm (H.perm.append_right F)
  obtain ⟨hq, h1, h2, hd, l1, l2, ⟨b, es, clock, hv, he, hm, j, en, hj, hk, hbn⟩, hr⟩ := hw1
  obtain ⟨hb, hM⟩ := holds_wo_of he hd l1 l2 hr
  have hb' : w.heap[b]? = some (.map es clock) := hb
  have hv' : m = .map (some b) := hv
  have hg : (getObj b).run P w = .ok (.map es clock) w := MapKept.run_getObj_map hb'
  have hjl : es.toList[j]? = some en := by rw [Array.getElem?_toList]; exact hj
  have hlt := (Array.getElem?_eq_some_iff.1 hj).1
  have hidx : es.findIdx? (fun e => (e.born : Int) == (n' : Int)) = some j := by
    rw [Array.findIdx?_eq_some_iff_getElem]
    refine ⟨hlt, ?_, fun i hi => ?_⟩
    · have := (Array.getElem?_eq_some_iff.1 hj).2
      rw [this, hbn]; simp
    · have hi2 : es.toList[i]? = some es[i] := by rw [Array.getElem?_toList, Array.getElem?_eq_getElem (by omega)]
      intro hc
      have hc' : (es[i].born : Int) = n' := by simpa using hc
      have := hm.born i j _ _ hi2 hjl (by omega)
      omega
  have hmod : (es.modify j fun e => { e with val := VE y }).toList = es.toList.set j { en with key := KE.enc x, val := VE y } := by
    apply List.ext_getElem?
    intro i
    rw [Array.getElem?_toList, Array.getElem?_modify, List.getElem?_set, Array.getElem?_toList]
    by_cases c : j = i
    · subst c
      rw [if_pos rfl, if_pos rfl, if_pos (by rw [Array.length_toList]; exact hlt), hj, ← hk]
      rfl
    · simp [c]
  refine ⟨(), _, ⟨m, mapC KE VE (updF f x y)⟩ :: R, ?_, St.mapPut (o' := .map (es.modify j fun e => { e with val := VE y }) clock) hq hb' hM ⟨b, _, _, hv', rfl, ?_⟩, h⟩
  · rw [hv']
    simp only [Instr.entryStore, Sem.run_bind, Result.andThen_ok, hg, asInt, asIntOf, Sem.run_pure, hidx]
    exact MapKept.run_setObj_map _ hb'
  · rw [hmod]; exact hm.set hjl hk y
end

/-! ### kinds of keys -/

theorem eqCells_int (k : IntKind) : ∀ (xs ys : List Int), (eqCells (xs.map (Value.int k)) (ys.map (Value.int k))).getD false = decide (xs = ys)
  | [], [] => rfl
  | [], y :: ys => by simp [eqCells]
  | x :: xs, [] => by simp [eqCells]
  | x :: xs, y :: ys => by
    have ih := eqCells_int k xs ys
    have e : (eqCells ((x :: xs).map (Value.int k)) ((y :: ys).map (Value.int k))).getD false = (decide (x = y) && (eqCells (xs.map (Value.int k)) (ys.map (Value.int k))).getD false) := by
      simp only [List.map_cons, eqCells, if_true]
      cases eqCells (xs.map (Value.int k)) (ys.map (Value.int k)) <;> simp
    rw [e, ih]
    by_cases h1 : x = y <;> by_cases h2 : xs = ys <;> simp [h1, h2]
def kInt : KEnc Int := ⟨fun n => .int .i64 n, .one .i64, fun n => ⟨n, rfl⟩, fun _ _ => rfl, fun n => by simp [Instr.sameBits]⟩
@[go_sem] theorem kInt_enc (n : Int) : kInt.enc n = .int .i64 n := rfl
def vInt : Int → Value := fun n => .int .i64 n
@[go_sem] theorem vInt_at (n : Int) : vInt n = .int .i64 n := rfl

end Go.SL
