/- A part of the proofs' own ground: a region that draws its order, by a plan: the theorem. -/
import Derived.Test.YtebcdnnfjcaofaaSound6
namespace Go.SL

theorem eraseOps_get {P : Program} {all : List Oper} : ∀ (l : List Oper) (sl : List SOpr), eraseOps P all l = some sl → sl.length = l.length ∧ ∀ (i : Nat) (o : Oper), l[i]? = some o → ∃ s, sl[i]? = some s ∧ eraseOper P all o = some s
  | [], sl, h => by simp [eraseOps] at h; subst h; simp
  | o :: l, sl, h => by
    simp only [eraseOps] at h
    cases ho : eraseOper P all o with
    | none => simp [ho] at h
    | some s =>
      cases hr : eraseOps P all l with
      | none => simp [ho, hr] at h
      | some sr =>
        simp [ho, hr] at h; subst h
        obtain ⟨hl, hg⟩ := eraseOps_get l sr hr
        refine ⟨by simp [hl], fun i o' hi => ?_⟩
        cases i with
        | zero => simp at hi; subst hi; exact ⟨s, by simp, ho⟩
        | succ i => obtain ⟨s', a, b⟩ := hg i o' (by simpa using hi); exact ⟨s', by simpa using a, b⟩

theorem eraseOper_spec {P : Program} {all : List Oper} {o : Oper} {s : SOpr} (h : eraseOper P all o = some s) : s.dst = o.dst ∧ eraseOp P o.op = some s.op ∧ eraseG all o.guard = some s.guard := by
  unfold eraseOper at h
  cases h1 : eraseOp P o.op with
  | none => simp [h1] at h
  | some a =>
    cases h2 : eraseG all o.guard with
    | none => simp [h1, h2] at h
    | some g => simp [h1, h2] at h; subst h; exact ⟨rfl, rfl, rfl⟩

/-- Readers that ask nothing of memory read the same whatever the chunks. -/
theorem rdOp_free {s : SOp} (hf : heapRd s = false) {ev : Opd → Value} {F : List Chunk} {K : Value → Prop} {W w : World} (hw : St W w F) (h : rdOp s ev F K) : rdOp s ev [] K := by
  cases s <;> simp only [heapRd, Bool.true_eq_false] at hf <;> first
    | exact h
    | (obtain ⟨h1, h2⟩ := h; obtain ⟨a, ha⟩ := h1 W w hw; exact ⟨fun _ _ _ => ⟨a, ha⟩, h2⟩)

def wantedE (g : Option (Nat × Bool)) (e : Env) : Bool :=
  match g with
  | none => true
  | some (s, want) => match e s with
    | .bool b => b == want
    | _ => false

/-- A reader that has been reckoned ahead of its time. -/
def Stable (P : Program) (_all : List Oper) (o : Oper) (s : SOpr) (e : Env) (v : Value) (Fz : List Chunk) : Prop :=
  (wantedE s.guard e = true ∧ ∀ a : Act, (∀ x ∈ slotsOf o.op, a.tmps.getD x undef = e x) → readsV P a.eval o.op v Fz) ∨ (wantedE s.guard e = false ∧ v = undef)

theorem guardW_cases {g : Option (Nat × Bool)} {e : Env} {A B : Prop} (h : guardW g e A B) : (wantedE g e = true ∧ A) ∨ (wantedE g e = false ∧ B) := by
  cases g with
  | none => exact .inl ⟨rfl, h⟩
  | some sw =>
    obtain ⟨s, want⟩ := sw
    simp only [guardW] at h
    simp only [wantedE]
    cases hed : e s <;> simp only [hed] at h ⊢ <;> try (exact .inr ⟨trivial, h⟩)
    rename_i b
    cases want <;> simp only [cond_true, cond_false, condW] at h <;> cases b <;> simp at h ⊢ <;> exact h

theorem wanted_eq {all : List Oper} {ops : Array Oper} (hops : ops.toList = all) {a : Act} {o : Oper} {g : Option (Nat × Bool)} (hg : eraseG all o.guard = some g) {e : Env}
    (he : ∀ d w, g = some (d, w) → a.tmps[d]? = some (e d)) : Region.wanted o (yielded ops a.tmps) = wantedE g e := by
  subst hops
  unfold Region.wanted
  cases ho : o.guard with
  | none =>
    rw [ho] at hg
    simp only [eraseG, Option.some.injEq] at hg
    subst hg
    rfl
  | some jw =>
    obtain ⟨j, want⟩ := jw
    rw [ho] at hg
    simp only [eraseG] at hg
    cases hp : ops.toList[j]? with
    | none => simp [hp] at hg
    | some p =>
      simp only [hp] at hg
      cases hd : p.dst with
      | none => simp [hd] at hg
      | some d =>
        simp only [hd, Option.some.injEq] at hg
        subst hg
        have hget := he d want rfl
        have hy : yielded ops a.tmps j = match e d with | .bool b => some b | _ => none := by
          have hp' : ops[j]? = some p := by simpa using hp
          simp only [yielded, hp', Option.bind_some, hd, hget]
          cases e d <;> rfl
        show (yielded ops a.tmps j == some want) = wantedE (some (d, want)) e
        rw [hy]
        simp only [wantedE]
        cases e d <;> simp

/-- Where the run stands within a region: what has been done (listed), what has been reckoned (V), and what is known. -/
structure Inv (P : Program) (ops : Array Oper) (sl : List SOpr) (N : Nat) (G : List Nat) (e0 : Env) (W : World) (Fr : List Chunk)
    (fuel : Nat) (listed : Array Bool) (V : List Nat) (val : Nat → Value) (e : Env) (F L : List Chunk) (a : Act) (w : World) (X : List Nat) : Prop where
  exec : ∀ j, elemN j X = true → listed.getD j false = true
  size : listed.size = ops.size
  todo : ∃ U : List Nat, U.length ≤ fuel ∧ ∀ j, j < ops.size → listed.getD j false = false → j ∈ U
  sub : ∀ j, listed.getD j false = true → elemN j V = true
  closedD : ∀ j, listed.getD j false = true → ∀ o, ops.toList[j]? = some o → ∀ k ∈ predsOf o, listed.getD k false = true
  closedV : ∀ j, elemN j V = true → ∀ o, ops.toList[j]? = some o → ∀ k ∈ predsOf o, elemN k V = true
  env : e = envP ops.toList (fun j => elemN j V) val e0
  tmps : a.tmps.size = N
  defers : a.defers = []
  agree : ∀ s, (s ∈ G ∨ ∃ j, wr ops.toList 0 s = some j ∧ listed.getD j false = true) → a.tmps.getD s undef = envP ops.toList (fun j => listed.getD j false) val e0 s
  stable : ∀ j, elemN j V = true → listed.getD j false = false → ∃ o s, ops.toList[j]? = some o ∧ sl[j]? = some s ∧ Stable P ops.toList o s (envP ops.toList (fun k => elemN k (predsOf o)) val e0) (val j) (bif heapRd s.op then F else [])
  st : St W w (L ++ (F ++ Fr))

theorem getD_set {l : Array Bool} {i j : Nat} (hi : i < l.size) : (l.setIfInBounds i true).getD j false = (Nat.beq j i || l.getD j false) := by
  simp only [Array.getD_eq_getD_getElem?]
  rw [Array.getElem?_setIfInBounds]
  by_cases h : i = j
  · subst h; simp [hi, Nat.beq_refl]
  · have : Nat.beq j i = false := by
      cases hb : Nat.beq j i with
      | false => rfl
      | true => exact absurd (Nat.eq_of_beq_eq_true hb).symm h
    simp [h, this]

theorem elemN_cons (j i : Nat) (V : List Nat) : elemN j (i :: V) = (Nat.beq j i || elemN j V) := rfl

theorem ready_spec {ops : Array Oper} {listed : Array Bool} {i : Nat} (hs : listed.size = ops.size) (h : i ∈ Region.ready .any ops listed) :
    ∃ o, ops.toList[i]? = some o ∧ i < ops.size ∧ listed.getD i false = false ∧ ∀ k ∈ predsOf o, listed.getD k false = true := by
  simp only [Region.ready, List.mem_filter, List.mem_range, Bool.and_eq_true, Bool.not_eq_true'] at h
  obtain ⟨hi, h1, h2⟩ := h
  have ho : ops[i]? = some ops[i] := Array.getElem?_eq_getElem hi
  refine ⟨ops[i], by simp [hi], hi, ?_, ?_⟩
  · have : i < listed.size := by omega
    rw [Array.getD_eq_getD_getElem?, Array.getElem?_eq_getElem this] at h1 ⊢
    exact h1
  · rw [ho] at h2
    simp only [Option.map_some, Option.getD_some, Array.all_eq_true_iff_forall_mem] at h2
    intro k hk
    unfold predsOf at hk
    obtain ⟨ed, hed, rfl⟩ := List.mem_map.1 hk
    have := h2 ed (by simpa using (List.mem_filter.1 hed).1)
    have hb := (List.mem_filter.1 hed).2
    simpa [hb] using this

theorem ready_nil {ops : Array Oper} {listed : Array Bool} {N : Nat} {G : List Nat} (hok : opsOk N G ops.toList ops.toList 0 = true) (hs : listed.size = ops.size) (h : Region.ready .any ops listed = []) :
    ∀ j, j < ops.size → listed.getD j false = true := by
  intro j
  induction j using Nat.strongRecOn with
  | _ j ih =>
    intro hj
    cases hl : listed.getD j false with
    | true => rfl
    | false =>
      exfalso
      have ho : ops.toList[j]? = some ops[j] := by simp [hj]
      have hf := opFacts (by simpa using opsOk_get ops.toList 0 hok j _ ho)
      have : j ∈ Region.ready .any ops listed := by
        simp only [Region.ready, List.mem_filter, List.mem_range, Bool.and_eq_true, Bool.not_eq_true']
        refine ⟨hj, ?_, ?_⟩
        · have hjl : j < listed.size := by omega
          rw [Array.getD_eq_getD_getElem?, Array.getElem?_eq_getElem hjl] at hl ⊢
          exact hl
        · rw [Array.getElem?_eq_getElem hj]
          simp only [Option.map_some, Option.getD_some, Array.all_eq_true_iff_forall_mem, Bool.or_eq_true, Bool.not_eq_true']
          intro ed hed
          cases hb : Region.binds .any ed with
          | false => exact .inl rfl
          | true =>
            right
            have hk : ed.on ∈ predsOf ops[j] := List.mem_map.2 ⟨ed, List.mem_filter.2 ⟨by simpa using hed, hb⟩, rfl⟩
            have := hf.preds _ hk
            exact ih ed.on this (by omega)
      rw [h] at this; cases this


/-- The slots of an operation that is ready, in the run. -/
theorem Inv.slots {P : Program} {ops : Array Oper} {sl : List SOpr} {N : Nat} {G : List Nat} {e0 : Env} {W : World} {Fr : List Chunk} {fuel : Nat} {listed : Array Bool} {V : List Nat} {val : Nat → Value} {e : Env}
    {F L : List Chunk} {a : Act} {w : World} {X : List Nat} (I : Inv P ops sl N G e0 W Fr fuel listed V val e F L a w X) {i : Nat} {o : Oper} (hf : OpFacts N G ops.toList i o)
    (hi : listed.getD i false = false) (hr : ∀ k ∈ predsOf o, listed.getD k false = true) {q : Nat → Bool} (hq : ∀ k ∈ predsOf o, q k = true) (cq : ∀ j o', ops.toList[j]? = some o' → i ∈ predsOf o' → q j = false) :
    ∀ s ∈ slotsOf o.op, a.tmps.getD s undef = envP ops.toList q val e0 s := by
  intro s hs
  have h1 := I.agree s (by
    rcases hf.slots s hs with ⟨j, hj, h | ⟨_, hG⟩⟩ | ⟨_, hG⟩
    · exact .inr ⟨j, hj, hr j h⟩
    · exact .inl hG
    · exact .inl hG)
  rw [h1]
  refine envP_slots hf hr hq (fun j o' ho' hi' => ?_) cq s hs
  cases hl : listed.getD j false with
  | false => rfl
  | true => have := I.closedD j hl o' ho' i hi'; rw [hi] at this; cases this

theorem guard_slot {P : Program} {ops : Array Oper} {sl : List SOpr} {N : Nat} {G : List Nat} {e0 : Env} {W : World} {Fr : List Chunk} {fuel : Nat} {listed : Array Bool} {V : List Nat} {val : Nat → Value} {e : Env}
    {F L : List Chunk} {a : Act} {w : World} {X : List Nat} (hok : opsOk N G ops.toList ops.toList 0 = true) (I : Inv P ops sl N G e0 W Fr fuel listed V val e F L a w X) {i : Nat} {o : Oper} (hf : OpFacts N G ops.toList i o)
    (hr : ∀ k ∈ predsOf o, listed.getD k false = true) {q : Nat → Bool} (hq : ∀ k ∈ predsOf o, q k = true) {g : Option (Nat × Bool)} (hg : eraseG ops.toList o.guard = some g) :
    ∀ d w, g = some (d, w) → a.tmps[d]? = some (envP ops.toList q val e0 d) := by
  rintro d w rfl
  cases hgo : o.guard with
  | none => rw [hgo] at hg; simp [eraseG] at hg
  | some jw =>
    obtain ⟨j, want⟩ := jw
    obtain ⟨hjp, p, d', hp, hd, hw⟩ := hf.guard j want hgo
    rw [hgo] at hg
    simp only [eraseG, hp, hd, Option.some.injEq, Prod.mk.injEq] at hg
    obtain ⟨rfl, rfl⟩ := hg
    have hfp := opFacts (by simpa using opsOk_get ops.toList 0 hok j p hp)
    have hdN : d' < N := by have := hfp.dstN; simp only [okDst, hd] at this; simpa [Nat.blt_eq] using this
    have h1 := I.agree d' (.inr ⟨j, hw, hr j hjp⟩)
    have h2 : envP ops.toList q val e0 d' = envP ops.toList (fun j => listed.getD j false) val e0 d' := by
      unfold envP; rw [hw]; simp [hq j hjp, hr j hjp]
    rw [h2, ← h1, Array.getD_eq_getD_getElem?, Array.getElem?_eq_getElem (show d' < a.tmps.size from I.tmps ▸ hdN)]
    rfl

theorem agree_put {all : List Oper} {N : Nat} {G : List Nat} {listed : Array Bool} {val : Nat → Value} {e0 : Env} {a : Act} {i : Nat} {o : Oper} (hf : OpFacts N G all i o) (ho : all[i]? = some o)
    (hN : a.tmps.size = N) (hi : i < listed.size) (hl : listed.getD i false = false) (v : Value)
    (h : ∀ s, (s ∈ G ∨ ∃ j, wr all 0 s = some j ∧ listed.getD j false = true) → a.tmps.getD s undef = envP all (fun j => listed.getD j false) val e0 s) :
    ∀ s, (s ∈ G ∨ ∃ j, wr all 0 s = some j ∧ (listed.setIfInBounds i true).getD j false = true) →
      (a.put o.dst v).tmps.getD s undef = envP all (fun j => (listed.setIfInBounds i true).getD j false) (fun j => bif Nat.beq j i then v else val j) e0 s := by
  intro s hs
  have hp : (fun j => (listed.setIfInBounds i true).getD j false) = (fun j => Nat.beq j i || listed.getD j false) := by funext j; exact getD_set hi
  rw [hp, envP_upd (p := fun j => listed.getD j false) hf ho hl v]
  cases hd : o.dst with
  | none =>
    simp only [updO]
    refine h s ?_
    rcases hs with hs | ⟨j, hj, hlj⟩
    · exact .inl hs
    · refine .inr ⟨j, hj, ?_⟩
      rw [getD_set hi] at hlj
      simp only [Bool.or_eq_true] at hlj
      rcases hlj with hb | hlj
      · have := Nat.eq_of_beq_eq_true hb
        subst this
        obtain ⟨o', _, h2, h3⟩ := wr_spec all 0 s j hj
        simp [ho] at h2; subst h2; rw [hd] at h3; cases h3
      · exact hlj
  | some d =>
    have hdN : d < a.tmps.size := by have := hf.dstN; simp only [okDst, hd] at this; rw [hN]; simpa [Nat.blt_eq] using this
    rw [put_getD hdN]
    simp only [updO, upd_at]
    by_cases hsd : s = d
    · simp [hsd]
    · simp only [hsd, if_false]
      refine h s ?_
      rcases hs with hs | ⟨j, hj, hlj⟩
      · exact .inl hs
      · refine .inr ⟨j, hj, ?_⟩
        rw [getD_set hi] at hlj
        simp only [Bool.or_eq_true] at hlj
        rcases hlj with hb | hlj
        · have := Nat.eq_of_beq_eq_true hb
          subst this
          obtain ⟨o', _, h2, h3⟩ := wr_spec all 0 s j hj
          simp [ho] at h2; subst h2; rw [hd] at h3; cases h3; exact absurd rfl hsd
        · exact hlj

theorem todo_step {ops : Array Oper} {fuel : Nat} {listed : Array Bool} {i : Nat} (hi : i < listed.size) (hin : i < ops.size) (hl : listed.getD i false = false)
    (h : ∃ U : List Nat, U.length ≤ fuel + 1 ∧ ∀ j, j < ops.size → listed.getD j false = false → j ∈ U) :
    ∃ U : List Nat, U.length ≤ fuel ∧ ∀ j, j < ops.size → (listed.setIfInBounds i true).getD j false = false → j ∈ U := by
  obtain ⟨U, hU, hall⟩ := h
  refine ⟨U.erase i, ?_, fun j hj hlj => ?_⟩
  · rw [List.length_erase_of_mem (hall i hin hl)]; omega
  · rw [getD_set hi] at hlj
    simp only [Bool.or_eq_false_iff] at hlj
    have hne : j ≠ i := fun e => by subst e; rw [Nat.beq_refl] at hlj; exact absurd hlj.1 (by simp)
    exact (List.mem_erase_of_ne hne).2 (hall j hj hlj.2)

theorem closedD_step {ops : Array Oper} {listed : Array Bool} {i : Nat} {o : Oper} (ho : ops.toList[i]? = some o) (hi : i < listed.size) (hr : ∀ k ∈ predsOf o, listed.getD k false = true)
    (h : ∀ j, listed.getD j false = true → ∀ o, ops.toList[j]? = some o → ∀ k ∈ predsOf o, listed.getD k false = true) :
    ∀ j, (listed.setIfInBounds i true).getD j false = true → ∀ o, ops.toList[j]? = some o → ∀ k ∈ predsOf o, (listed.setIfInBounds i true).getD k false = true := by
  intro j hj o' ho' k hk
  rw [getD_set hi] at hj ⊢
  simp only [Bool.or_eq_true] at hj ⊢
  right
  rcases hj with hb | hj
  · have := Nat.eq_of_beq_eq_true hb
    subst this
    rw [ho] at ho'; cases ho'
    exact hr k hk
  · exact h j hj o' ho' k hk

end Go.SL
