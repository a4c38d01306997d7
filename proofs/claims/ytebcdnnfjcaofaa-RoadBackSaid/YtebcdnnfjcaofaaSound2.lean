/- A part of the proofs' own ground: keys of maps; what an operation that reads comes to. -/
import Derived.Test.YtebcdnnfjcaofaaSound1
namespace Go.SL

theorem run_checkKey_int {P : Program} {t : TypeId} (h : isIntT P t = true) (e : Bool) (n : Nat) (v : Value) (w : World) : (Instr.checkKey e (n + 1) t v).run P w = .ok () w := by
  obtain ⟨k, hk⟩ := isIntT_spec h
  simp [Instr.checkKey, run_underlying hk]

theorem eqCells_ints (k : IntKind) : ∀ (l m : List Int), l.length = m.length → eqCells (l.map (Value.int k)) (m.map (Value.int k)) = some (decide (l = m))
  | [], [], _ => by simp [eqCells]
  | a :: l, b :: m, h => by
    simp [eqCells, eqCells_ints k l m (by simpa using h)]

theorem flatFields_each {P : Program} : ∀ {fs : List Field} {i : Nat}, flatFields P fs i = true → ∀ j f, fs[j]? = some f → f.name ≠ "_" ∧ f.offset = i + j ∧ isIntT P f.type = true
  | [], _, _, j, f, hf => by simp at hf
  | g :: fs, i, h, j, f, hf => by
    simp only [flatFields, Bool.and_eq_true] at h
    obtain ⟨⟨⟨hn, ho⟩, hi⟩, hr⟩ := h
    cases j with
    | zero => simp at hf; subst hf; exact ⟨by simpa using hn, by simpa using Nat.eq_of_beq_eq_true ho, hi⟩
    | succ j =>
      obtain ⟨a, b, c⟩ := flatFields_each hr j f (by simpa using hf)
      exact ⟨a, by omega, c⟩

theorem run_checkKey_flat {P : Program} {t : TypeId} (ht : flatT P t = true) (e : Bool) (n : Nat) {xs : Array Value} (hl : xs.size = flatLen P t) (w : World) :
    (Instr.checkKey e (n + 2) t (.agg xs)).run P w = .ok () w := by
  unfold flatT at ht
  unfold flatLen at hl
  split at ht
  · rename_i fs hu
    simp only [Bool.and_eq_true] at ht
    simp only [hu] at hl
    rw [Instr.checkKey]
    simp only [Sem.run_bind, run_underlying hu, Result.andThen_ok]
    rw [← Array.forIn_toList]
    have each : ∀ f ∈ fs.toList, f.name ≠ "_" ∧ f.offset < xs.size ∧ isIntT P f.type = true := fun f hf => by
      obtain ⟨j, hj⟩ := List.getElem?_of_mem hf
      obtain ⟨a, b, c⟩ := flatFields_each ht.1 j f hj
      have := (List.getElem?_eq_some_iff.1 hj).1
      exact ⟨a, by omega, c⟩
    generalize fs.toList = L at each
    clear hl hu ht
    induction L with
    | nil => simp
    | cons f L ih =>
      obtain ⟨a, b, c⟩ := each f (by simp)
      have hp := run_part_int c (Array.getElem?_eq_getElem b) w
      simp only [List.forIn_cons, Sem.run_bind, a, ne_eq, not_false_eq_true, if_true, Result.andThen_ok, hp, run_checkKey_int c e n _ w, Sem.run_pure]
      exact ih (fun y hy => each y (by simp [hy]))
  · rename_i m el hu
    simp only [Bool.and_eq_true] at ht
    simp only [hu] at hl
    cases hs : sizeOfT P el with
    | none => simp [hs] at ht
    | some s =>
      have hs1 : s = 1 := by have := ht.2; simp [hs] at this; exact this
      subst hs1
      rw [Instr.checkKey]
      simp only [Sem.run_bind, run_underlying hu, Result.andThen_ok]
      simp only [Std.Legacy.Range.forIn_eq_forIn_range', Std.Legacy.Range.size, Nat.sub_zero, Nat.add_one_sub_one, Nat.div_one]
      have each : ∀ j ∈ List.range' 0 m, j < xs.size := fun j hj => by have := List.mem_range'.1 hj; omega
      generalize List.range' 0 m = is at each
      induction is with
      | nil => simp
      | cons j is ih =>
        have b := each j (by simp)
        have hp := run_part_int ht.1 (xs := xs) (off := j * 1) (v := xs[j]) (by rw [Nat.mul_one]; exact Array.getElem?_eq_getElem b) w
        simp only [List.forIn_cons, Sem.run_bind, run_sizeOf' hs w, Result.andThen_ok, hp, run_checkKey_int ht.1 e n _ w, Sem.run_pure]
        exact ih (fun y hy => each y (by simp [hy]))
  · cases ht

theorem run_findAsking_flat {P : Program} {t : TypeId} (ht : flatT P t = true) (k : IntKind) {l : List Int} (hl : l.length = flatLen P t) (w : World) :
    ∀ (es : List MapEntry) (i : Nat), (∀ e ∈ es, (KK.flat (flatLen P t) k).good e.key) →
      (Instr.findAsking t (.agg (l.map (Value.int k)).toArray) es i).run P w = .ok (findE (.agg (l.map (Value.int k)).toArray) es i) w
  | [], i, _ => by simp [Instr.findAsking, findE]
  | e :: es, i, h => by
    obtain ⟨m, hm, hk⟩ := h e (by simp)
    have ih := run_findAsking_flat ht k hl w es (i + 1) (fun y hy => h y (by simp [hy]))
    have he := run_equalIn_flat w 9998 ht (xs := (l.map (Value.int k)).toArray) (ys := (m.map (Value.int k)).toArray) (r := decide (l = m)) (by simpa using hl) (by simpa using eqCells_ints k l m (by omega))
    simp only [Instr.findAsking, Op.equal, Op.maxDepth, Sem.run_bind, hk, he, Result.andThen_ok, findE, eqKey, eqCells_ints k l m (by omega), Option.getD_some]
    by_cases hlm : l = m
    · simp [hlm]
    · simp [hlm]; exact ih

theorem keyS_of {P : Program} {t : TypeId} {kk : KK} (h : kkOf P t = some kk) : KeyS P t kk := by
  have flat : ∀ n k, flatT P t = true → flatLen P t = n → (match P.underlying t with | some (.array _ _) | some (.struct _) => true | _ => false) = true → KeyS P t (.flat n k) := by
    rintro n k ht rfl hw
    constructor
    · rintro e v w ⟨l, hl, rfl⟩
      exact run_checkKey_flat ht e 9998 (by simpa using hl) w
    · rintro v es w ⟨l, hl, rfl⟩ hg
      rw [run_findKey_eq w hw]
      exact run_findAsking_flat ht k hl w es 0 hg
  unfold kkOf at h
  split at h
  · rename_i k hu
    cases h
    constructor
    · rintro e v w ⟨n, rfl⟩
      exact run_checkKey_int (by simp [isIntT, hu]) e 9999 _ w
    · rintro v es w ⟨n, rfl⟩ hg
      have : ∀ (es : List MapEntry) (i : Nat), (∀ e ∈ es, (KK.one k).good e.key) → Instr.findNow (.int k) (.int k n) es i = some (findE (.int k n) es i) := by
        intro es
        induction es with
        | nil => intro i _; rfl
        | cons e es ih =>
          intro i hg
          obtain ⟨m, hm⟩ := hg e (by simp)
          have ih' := ih (i + 1) (fun y hy => hg y (by simp [hy]))
          simp only [Instr.findNow, Instr.sameNow, hm, if_true, findE, eqKey]
          by_cases hnm : n = m
          · simp [hnm]
          · have : (n == m) = false := by simpa using hnm
            simp [this, hnm, ih']
      simp [Instr.findKey, run_underlying hu, this es 0 hg]
  · rename_i fs hu
    split at h
    · rename_i ht
      split at h
      · rename_i f fs' hfs
        split at h
        · rename_i k hk
          split at h
          · cases h
            exact flat _ k ht (by simp [flatLen, hu]) (by simp [hu])
          · cases h
        · cases h
      · cases h
    · cases h
  · rename_i n e hu
    split at h
    · rename_i ht
      split at h
      · cases h
        exact flat _ _ ht (by simp [flatLen, hu]) (by simp [hu])
      · cases h
    · cases h
  · cases h

/-- What an operation that acts comes to, told of its result and the world behind it. -/
def uponW (P : Program) (K : Value → World → Prop) : Result Next → Prop
  | .ok (.value v) w' => K v w'
  | .ok .skip w' => K undef w'
  | .ok (.enter f args) w' => Calls P f args w' fun e w'' => ∃ v, e = .returned v ∧ K v w''
  | _ => False

theorem uponW_sound {P : Program} {o : Oper} {a : Act} {next : Act → World → Prop} {Q : Exit → Act → World → Prop} {r : Result Next} {K : Value → World → Prop}
    (h : uponW P K r) (hK : ∀ v w, K v w → next (a.put o.dst v) w) : o.upon P a next Q r := by
  cases r with
  | ok n w =>
    cases n <;> simp only [uponW] at h <;> first
      | exact h.elim
      | exact hK _ _ h
      | (refine Calls.mono h ?_; rintro e w' ⟨v, rfl, hv⟩; exact hK _ _ hv)
  | halt x w => cases x <;> exact h.elim

/-- A reader: its value, in whatever world the chunks hold. -/
def readsV (P : Program) (ρ : Operand → Value) (op : Op) (v : Value) (L : List Chunk) : Prop :=
  ∀ (W w : World) (dst : Option Tmp) (ty : TypeId) (pos : String) (after : Array Edge) (g : Option (Nat × Bool)),
    St W w L → (execOp ρ { dst, op, type := ty, pos, after, guard := g }).run P w = .ok (.value v) w

theorem run_valW {P : Program} {w w' : World} {s : Sem Value} {v : Value} (h : s.run P w = .ok v w') : ((do pure (.value (← s)) : Sem Next)).run P w = .ok (.value v) w' := by
  simp [h]

theorem binV_sound {P : Program} {op : BinOp} {t : TypeId} {x y v : Value} (h : binV op x y = some v) (w : World) (X Y : Operand) :
    ((do eqGuard op t X Y x y; Go.binOp op t x y : Sem Value)).run P w = .ok v w := by
  cases op <;> cases x <;> cases y <;> simp only [binV] at h <;> first
    | (cases h; done)
    | (split at h
       · rename_i hk
         cases h
         first
          | (subst hk; simp [eqGuard, Go.binOp, Op.intArith, Op.intCmp, Op.intBits, bne]; try (first | rfl | (split <;> simp_all)))
          | (obtain ⟨rfl, hb⟩ := hk; simp [eqGuard, Go.binOp, Op.intDiv, hb])
          | (simp [eqGuard, Go.binOp, Op.shift, Int.not_lt.2 hk])
       · cases h)

end Go.SL
