/- A part of the proofs' own ground: regions, in the text's order and in any order. -/
import Derived.Test.YtebcdnnfjcaofaaSound4
namespace Go.SL

def elemN (x : Nat) : List Nat → Bool
  | [] => false
  | y :: l => Nat.beq x y || elemN x l
theorem elemN_iff {x : Nat} {l : List Nat} : elemN x l = true ↔ x ∈ l := by
  induction l with
  | nil => simp [elemN]
  | cons y l ih =>
    simp only [elemN, Bool.or_eq_true, ih, List.mem_cons]
    constructor
    · rintro (h | h)
      · exact .inl (Nat.eq_of_beq_eq_true h)
      · exact .inr h
    · rintro (h | h)
      · subst h; exact .inl (Nat.beq_refl x)
      · exact .inr h

def slotsOf (op : Op) : List Nat := op.operands.toList.filterMap fun | .tmp t => some t | _ => none

def eraseG (all : List Oper) (g : Option (Nat × Bool)) : Option (Option (Nat × Bool)) :=
  match g with
  | none => some none
  | some (j, want) => match all[j]? with
    | some o => match o.dst with
      | some d => some (some (d, want))
      | none => none
    | none => none

def eraseOper (P : Program) (all : List Oper) (o : Oper) : Option SOpr :=
  match eraseOp P o.op, eraseG all o.guard with
  | some s, some g => some ⟨o.dst, s, g⟩
  | _, _ => none

def eraseOps (P : Program) (all : List Oper) : List Oper → Option (List SOpr)
  | [] => some []
  | o :: l => match eraseOper P all o, eraseOps P all l with
    | some s, some r => some (s :: r)
    | _, _ => none

def dstsOf : List Oper → List Nat
  | [] => []
  | o :: l => match o.dst with
    | some d => d :: dstsOf l
    | none => dstsOf l

def okDst (N : Nat) (o : Oper) : Bool := match o.dst with | some d => Nat.blt d N | none => true
def okGuard (all : List Oper) (known : Nat → Bool) (N : Nat) (o : Oper) : Bool :=
  match o.guard with
  | none => true
  | some (j, _) => match all[j]? with
    | some p => match p.dst with
      | some d => known d && Nat.blt d N
      | none => false
    | none => false

/-- In the text's order: what is read is known. -/
def textOk (N : Nat) (G : List Nat) (all : List Oper) : List Oper → List Nat → Bool
  | [], _ => true
  | o :: rest, acc => (slotsOf o.op).all (fun s => elemN s G || elemN s acc) && okGuard all (fun s => elemN s G || elemN s acc) N o && okDst N o && textOk N G all rest (o.dst.toList ++ acc)

theorem ev_k (e : Env) (v : Value) : ev e (.k v) = v := rfl

theorem eval_of_slots {a : Act} {e : Env} {op : Op} (h : ∀ s ∈ slotsOf op, a.tmps.getD s undef = e s) : ∀ x ∈ op.operands, a.eval x = ev e (opdOf x) := by
  intro x hx
  cases x with
  | tmp t => exact h t (by unfold slotsOf; exact List.mem_filterMap.2 ⟨.tmp t, Array.mem_toList_iff.2 hx, rfl⟩)
  | const v => rfl
  | global g => rfl
  | func f => rfl

theorem put_tmps {a : Act} {N : Nat} (hs : a.tmps.size = N) (hd : a.defers = []) (dst : Option Tmp) (v : Value) : (a.put dst v).tmps.size = N ∧ (a.put dst v).defers = [] := by
  cases dst with
  | none => exact ⟨hs, hd⟩
  | some d => simp [Act.put, hs, hd]

theorem put_getD {a : Act} {d : Nat} (hd : d < a.tmps.size) (v : Value) (s : Nat) : (a.put (some d) v).tmps.getD s undef = if s = d then v else a.tmps.getD s undef := by
  simp only [Act.put, Array.getD_eq_getD_getElem?]
  rw [Array.getElem?_setIfInBounds]
  by_cases h : d = s
  · subst h; simp [hd]
  · simp [h, Ne.symm h]

theorem upd_at (e : Env) (d : Nat) (v : Value) (s : Nat) : upd e d v s = if s = d then v else e s := by
  unfold upd
  by_cases h : s = d
  · subst h; simp [Nat.beq_refl]
  · have : Nat.beq s d = false := by
      cases hb : Nat.beq s d with
      | false => rfl
      | true => exact absurd (Nat.eq_of_beq_eq_true hb) h
    simp [this, h]

/-- The guard, as the model asks it. -/
theorem wanted_guard {ops : Array Oper} {a : Act} {o : Oper} {N : Nat} (hs : a.tmps.size = N) {g : Option (Nat × Bool)} (hg : eraseG ops.toList o.guard = some g) {known : Nat → Bool}
    (hk : okGuard ops.toList known N o = true) {e : Env} (he : ∀ s, known s = true → a.tmps.getD s undef = e s) {A B : Prop} (h : guardW g e A B) :
    (Region.wanted o (yielded ops a.tmps) = true ∧ A) ∨ (Region.wanted o (yielded ops a.tmps) = false ∧ B) := by
  unfold Region.wanted
  cases ho : o.guard with
  | none =>
    rw [ho] at hg
    simp only [eraseG, Option.some.injEq] at hg
    subst hg
    exact .inl ⟨rfl, h⟩
  | some jw =>
    obtain ⟨j, want⟩ := jw
    rw [ho] at hg
    simp only [eraseG] at hg
    simp only [okGuard, ho] at hk
    cases hp : ops.toList[j]? with
    | none => simp [hp] at hg
    | some p =>
      simp only [hp] at hg hk
      cases hd : p.dst with
      | none => simp [hd] at hg
      | some d =>
        simp only [hd, Option.some.injEq, Bool.and_eq_true] at hg hk
        subst hg
        have hdN : d < N := by simpa [Nat.blt_eq] using hk.2
        have hv := he d hk.1
        have hdl : d < a.tmps.size := hs ▸ hdN
        have hget : a.tmps[d]? = some (e d) := by
          rw [← hv, Array.getD_eq_getD_getElem?, Array.getElem?_eq_getElem hdl]; rfl
        have hy : yielded ops a.tmps j = match e d with | .bool b => some b | _ => none := by
          have hp' : ops[j]? = some p := by simpa using hp
          simp only [yielded, hp', Option.bind_some, hd, hget]
          cases e d <;> rfl
        simp only [guardW] at h
        show (yielded ops a.tmps j == some want) = true ∧ A ∨ (yielded ops a.tmps j == some want) = false ∧ B
        rw [hy]
        cases hed : e d <;> simp only [hed] at h ⊢ <;> try (exact .inr ⟨rfl, h⟩)
        rename_i b
        cases want <;> simp only [cond_true, cond_false, condW] at h <;> cases b <;> simp at h ⊢ <;> exact h

theorem regText {P : Program} {ops : Array Oper} {N : Nat} {G : List Nat} {Q : Exit → Act → World → Prop} {W : World} {F : List Chunk} {K : Env → List Chunk → Prop} :
    ∀ (l : List Oper) (sl : List SOpr) (acc : List Nat) (e : Env) (L : List Chunk) (a : Act) (w : World),
      eraseOps P ops.toList l = some sl → textOk N G ops.toList l acc = true → a.tmps.size = N → a.defers = [] → (∀ s, s ∈ G ∨ s ∈ acc → a.tmps.getD s undef = e s) →
      opsW P sl e L K → St W w (L ++ F) →
      (∀ e' a' L' w', K e' L' → St W w' (L' ++ F) → a'.tmps.size = N → a'.defers = [] → (∀ s, s ∈ G ∨ s ∈ acc ∨ s ∈ dstsOf l → a'.tmps.getD s undef = e' s) → (∀ s, s ∉ dstsOf l → e' s = e s) → Q .normal a' w') →
      wpList P ops Q l a w
  | [], sl, acc, e, L, a, w, hs, _, hN, hD, hag, hk, hw, hQ => by
    simp [eraseOps] at hs; subst hs
    exact hQ e a L w hk hw hN hD (fun s h => hag s (by simpa [dstsOf] using h)) (fun _ _ => rfl)
  | o :: l, sl, acc, e, L, a, w, hs, hok, hN, hD, hag, hk, hw, hQ => by
    simp only [eraseOps] at hs
    cases ho : eraseOper P ops.toList o with
    | none => simp [ho] at hs
    | some s =>
      cases hr : eraseOps P ops.toList l with
      | none => simp [ho, hr] at hs
      | some sr =>
        simp [ho, hr] at hs; subst hs
        unfold eraseOper at ho
        cases hop : eraseOp P o.op with
        | none => simp [hop] at ho
        | some sop =>
          cases hg : eraseG ops.toList o.guard with
          | none => simp [hop, hg] at ho
          | some g =>
            simp [hop, hg] at ho; subst ho
            simp only [textOk, Bool.and_eq_true] at hok
            obtain ⟨⟨⟨hrd, hgd⟩, hdst⟩, hrest⟩ := hok
            have hkn : ∀ s, (elemN s G || elemN s acc) = true → a.tmps.getD s undef = e s := fun s h => hag s (by simpa [elemN_iff] using h)
            have hev : ∀ x ∈ o.op.operands, a.eval x = ev e (opdOf x) := eval_of_slots fun s h => hkn s (List.all_eq_true.1 hrd s h)
            -- behind the operation, whatever it gave
            have next : ∀ v w' L', St W w' (L' ++ F) → opsW P sr (updO e o.dst v) L' K → wpList P ops Q l (a.put o.dst v) w' := by
              intro v w' L' hw' hk'
              obtain ⟨hN', hD'⟩ := put_tmps hN hD o.dst v
              refine regText l sr (o.dst.toList ++ acc) (updO e o.dst v) L' (a.put o.dst v) w' hr hrest hN' hD' ?_ hk' hw' ?_
              · intro s h
                cases hd : o.dst with
                | none => simp only [hd, Option.toList_none, List.nil_append] at h; exact hag s h
                | some d =>
                  have hdN : d < a.tmps.size := by rw [hN]; simpa [okDst, hd, Nat.blt_eq] using hdst
                  simp only [hd, Option.toList_some, List.singleton_append, List.mem_cons] at h
                  rw [put_getD hdN]
                  simp only [updO, upd_at]
                  by_cases e1 : s = d
                  · simp [e1]
                  · simp only [e1, if_false]
                    exact hag s (by rcases h with h | h | h <;> simp_all)
              · intro e' a' L'' w'' h1 h2 h3 h4 h5 h6
                refine hQ e' a' L'' w'' h1 h2 h3 h4 (fun s h => h5 s ?_) (fun s h => ?_)
                · cases hd : o.dst with
                  | none => simp only [hd, dstsOf] at h; simpa [hd] using h
                  | some d =>
                    simp only [hd, dstsOf, List.mem_cons] at h
                    simp only [Option.toList_some, List.singleton_append, List.mem_cons]
                    rcases h with h | h | h | h <;> simp [h]
                · cases hd : o.dst with
                  | none => simp only [hd, dstsOf] at h; rw [h6 s h]; simp [updO, hd]
                  | some d =>
                    simp only [hd, dstsOf, List.mem_cons, not_or] at h
                    rw [h6 s h.2]; simp only [updO, hd, upd_at, h.1, if_false]
            simp only [opsW] at hk
            simp only [wpList]
            rcases wanted_guard hN hg hgd hkn hk with ⟨hwt, hA⟩ | ⟨hwt, hB⟩
            · rw [if_pos hwt]
              left
              have := op_sound hop hev (fun v => rfl) hA F W w o.dst o.type o.pos o.after o.guard hw
              exact uponW_sound this fun v w' ⟨L', h1, h2⟩ => next v w' L' h1 h2
            · rw [if_neg (by simp [hwt])]
              exact next undef w L hw hB

end Go.SL
