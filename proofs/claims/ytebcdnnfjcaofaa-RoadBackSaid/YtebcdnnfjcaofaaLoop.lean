/- A part of the proofs' own ground: loops and calls in a walk. -/
import Derived.Test.YtebcdnnfjcaofaaRulesMX
namespace Go.SL
open Lk (mk)

def writesC : SC → List Nat
  | .reg _ outs => outs
  | .drw _ outs _ => outs
  | .seq a b => writesC a ++ writesC b
  | .cond _ a b => writesC a ++ writesC b
  | .block _ c | .loop c | .scope c => writesC c
  | _ => []

theorem opW_mono {P : Program} {op : SOp} {f : Opd → Value} {L : List Chunk} {K K' : KVL} (h : ∀ v L, K v L → K' v L) (hh : opW P op f L K) : opW P op f L K' := by
  have sem : ∀ {α : Type} {P : Program} {s : Sem α} {K K' : α → List Chunk → Prop}, (∀ v L, K v L → K' v L) → SemW P s L K → SemW P s L K' := fun h hs F W w hw => by
    obtain ⟨v, w', L', a, b, c⟩ := hs F W w hw
    exact ⟨v, w', L', a, b, h _ _ c⟩
  have opt : ∀ {o : Option Value} {K K' : KV}, (∀ v, K v → K' v) → optW o K → optW o K' := by
    intro o K K' h hs
    cases o with
    | none => exact hs
    | some v => exact h _ hs
  cases op <;> first
    | exact h _ _ hh
    | exact opt (fun v => h v _) hh
    | exact fun P t hS => sem (fun _ L' => h _ L') (hh P t hS)
    | exact fun P e => sem (fun v L' => h v L') (hh P e)
    | exact fun P t e h1 h2 => sem (fun v L' => h v L') (hh P t e h1 h2)
    | exact fun P t u e ty h1 h2 h3 => sem (fun v L' => h v L') (hh P t u e ty h1 h2 h3)
    | exact fun P => sem (fun v L' => h v L') (hh P)
    | exact fun P t ke e h1 h2 => sem (fun _ L' => h _ L') (hh P t ke e h1 h2)
    | exact fun P t ke e h1 h2 h3 => sem (fun v L' => h v L') (hh P t ke e h1 h2 h3)
    | exact fun P t => sem (fun _ L' => h _ L') (hh P t)
    | exact fun P t u ke e ty h1 h2 => sem (fun v L' => h v L') (hh P t u ke e ty h1 h2)
    | exact fun P t e ty h1 h2 h3 => sem (fun v L' => h v L') (hh P t e ty h1 h2 h3)
    | exact fun P t ke e h1 => sem (fun v L' => h v L') (hh P t ke e h1)
    | exact fun P ty => sem (fun v L' => h v L') (hh P ty)
    | (obtain ⟨v, a, b⟩ := hh; exact ⟨v, a, h _ _ b⟩)
    | (obtain ⟨a, b⟩ := hh; exact ⟨a, h _ _ b⟩)
    | skip
  · simp only [opW] at hh ⊢
    split at hh
    · exact fun P e => sem (fun v L' => h v L') (hh P e)
    · exact hh.elim
  · exact ⟨hh.1, fun F W w hw => (hh.2 F W w hw).mono fun e w' ⟨v, L', a, b, c⟩ => ⟨v, L', a, b, h _ _ c⟩⟩
  · simp only [opW, callFn] at hh ⊢
    split at hh
    · exact ⟨hh.1, fun F W w hw => (hh.2 F W w hw).mono fun e w' ⟨v, L', a, b, c⟩ => ⟨v, L', a, b, h _ _ c⟩⟩
    · exact hh.elim

theorem rdOp_mono {op : SOp} {f : Opd → Value} {L : List Chunk} {K K' : KV} (h : ∀ v, K v → K' v) (hh : rdOp op f L K) : rdOp op f L K' := by
  have opt : ∀ {o : Option Value} {K K' : KV}, (∀ v, K v → K' v) → optW o K → optW o K' := by
    intro o K K' h hs
    cases o with
    | none => exact hs
    | some v => exact h _ hs
  cases op <;> first
    | exact h _ hh
    | exact hh
    | exact opt h hh
    | (obtain ⟨v, a, b⟩ := hh; exact ⟨v, a, h _ b⟩)
    | (obtain ⟨a, b⟩ := hh; exact ⟨a, h _ b⟩)

theorem guardW_mono {g : Option (Nat × Bool)} {e : Env} {A B A' B' : Prop} (h1 : A → A') (h2 : B → B') (h : guardW g e A B) : guardW g e A' B' := by
  cases g with
  | none => exact h1 h
  | some sw =>
    obtain ⟨s, w⟩ := sw
    simp only [guardW] at h ⊢
    cases hv : e s <;> simp only [hv] at h ⊢ <;> try exact h2 h
    cases w <;> simp only [cond_true, cond_false, condW] at h ⊢
    · exact ⟨fun x => h2 (h.1 x), fun x => h1 (h.2 x)⟩
    · exact ⟨fun x => h1 (h.1 x), fun x => h2 (h.2 x)⟩

theorem opsW_mono {P : Program} {K K' : KE} (h : ∀ e L, K e L → K' e L) : ∀ (ops : List SOpr) (e : Env) (L : List Chunk), opsW P ops e L K → opsW P ops e L K'
  | [], _, _, hh => h _ _ hh
  | _ :: ops, _, _, hh => guardW_mono (opW_mono fun _ _ x => opsW_mono h ops _ _ x) (fun x => opsW_mono h ops _ _ x) hh

theorem plW_mono {P : Program} {ops : List SOpr} {K K' : KE} (h : ∀ e L, K e L → K' e L) : ∀ (p : Plan) (e : Env) (F L : List Chunk), plW P ops p e F L K → plW P ops p e F L K'
  | .done, _, _, _, hh => h _ _ hh
  | .nomore, _, _, _, _ => trivial
  | .rd i p, e, F, L, hh => by
    simp only [plW] at hh ⊢
    split at hh
    · exact guardW_mono (rdOp_mono fun _ x => plW_mono h p _ _ _ x) (fun x => plW_mono h p _ _ _ x) hh
    · exact hh
  | .eff i w p alts, e, F, L, hh => by
    simp only [plW] at hh ⊢
    refine ⟨?_, plW_mono h alts _ _ _ hh.2⟩
    have h1 := hh.1
    split at h1
    · refine guardW_mono (fun x => ?_) (fun x => plW_mono h p _ _ _ x) h1
      cases w with
      | nil => exact opW_mono (fun _ _ x => plW_mono h p _ _ _ x) x
      | cons q qs =>
        rcases x with x | ⟨F1, F2, hp, hs, x⟩
        · exact .inl (opW_mono (fun _ _ x => plW_mono h p _ _ _ x) x)
        exact .inr ⟨F1, F2, hp, hs, opW_mono (fun _ _ x => plW_mono h p _ _ _ x) x⟩
    · exact h1

theorem thenQ_mono {K K' : KE} {Q Q' : Post} (h1 : ∀ e L, K e L → K' e L) (h2 : ∀ x e L, Q x e L → Q' x e L) : ∀ x e L, thenQ K Q x e L → thenQ K' Q' x e L
  | .normal, _, _, h => h1 _ _ h
  | .exit _, _, _, h => h2 _ _ _ h
  | .ret, _, _, h => h2 _ _ _ h

theorem blockQ_mono {id : Nat} {Q Q' : Post} (h2 : ∀ x e L, Q x e L → Q' x e L) : ∀ x e L, blockQ id Q x e L → blockQ id Q' x e L
  | .normal, _, _, h => h2 _ _ _ h
  | .exit i, e, L, h => by
    simp only [blockQ] at h ⊢
    cases hb : Nat.beq i id <;> simp only [hb, cond_true, cond_false] at h ⊢ <;> exact h2 _ _ _ h
  | .ret, _, _, h => h2 _ _ _ h

theorem sW_mono {P : Program} : ∀ (c : SC) {Q Q' : Post} (e : Env) (L : List Chunk), (∀ x e L, Q x e L → Q' x e L) → sW P c Q e L → sW P c Q' e L
  | .skip, _, _, _, _, h, hh => h _ _ _ hh
  | .reg ops _, _, _, _, _, h, hh => opsW_mono (fun _ _ x => h _ _ _ x) ops _ _ hh
  | .drw ops _ p, _, _, _, _, h, hh => plW_mono (fun _ _ x => h _ _ _ x) p _ _ _ hh
  | .seq a b, _, _, _, _, h, hh => sW_mono a _ _ (thenQ_mono (fun e L x => sW_mono b e L h x) h) hh
  | .cond c a b, _, _, e, _, h, hh => by
    simp only [sW] at hh ⊢
    cases hv : ev e c <;> simp only [hv, condW] at hh ⊢
    exact ⟨fun x => sW_mono a _ _ h (hh.1 x), fun x => sW_mono b _ _ h (hh.2 x)⟩
  | .block _ c, _, _, _, _, h, hh => sW_mono c _ _ (blockQ_mono h) hh
  | .loop c, _, _, _, _, h, hh => by
    obtain ⟨I, h0, hr⟩ := hh
    exact ⟨I, h0, fun n e L hI => sW_mono c _ _ (thenQ_mono (fun _ _ x => x) h) (hr n e L hI)⟩
  | .exit _, _, _, _, _, h, hh => h _ _ _ hh
  | .ret, _, _, _, _, h, hh => h _ _ _ hh
  | .scope c, _, _, _, _, h, hh => sW_mono c _ _ h hh

/-- Slots that are not written stay. -/
theorem sW_frame {P : Program} : ∀ (c : SC) {Q : Post} (e : Env) (L : List Chunk), sW P c Q e L → sW P c (fun x e' L' => Q x e' L' ∧ ∀ s, s ∉ writesC c → e' s = e s) e L
  | .skip, _, _, _, hh => ⟨hh, fun _ _ => rfl⟩
  | .reg ops outs, _, e, _, hh => opsW_mono (fun e' _ x => ⟨x, fun s hs => by rw [prune_at]; exact if_neg hs⟩) ops _ _ hh
  | .drw ops outs p, _, e, _, hh => plW_mono (fun e' _ x => ⟨x, fun s hs => by rw [prune_at]; exact if_neg hs⟩) p _ _ _ hh
  | .seq a b, _, e, L, hh => by
    refine sW_mono a _ _ ?_ (sW_frame a e L hh)
    rintro x e' L' ⟨h1, h2⟩
    cases x with
    | normal =>
      refine sW_mono b _ _ ?_ (sW_frame b e' L' h1)
      rintro x e'' L'' ⟨h3, h4⟩
      exact ⟨h3, fun s hs => by rw [h4 s (fun m => hs (List.mem_append_right _ m)), h2 s (fun m => hs (List.mem_append_left _ m))]⟩
    | exit i => exact ⟨h1, fun s hs => h2 s (fun m => hs (List.mem_append_left _ m))⟩
    | ret => exact ⟨h1, fun s hs => h2 s (fun m => hs (List.mem_append_left _ m))⟩
  | .cond c a b, _, e, _, hh => by
    simp only [sW] at hh ⊢
    cases hv : ev e c <;> simp only [hv, condW] at hh ⊢
    exact ⟨fun x => sW_mono a _ _ (fun _ _ _ y => ⟨y.1, fun s hs => y.2 s (fun m => hs (List.mem_append_left _ m))⟩) (sW_frame a _ _ (hh.1 x)),
      fun x => sW_mono b _ _ (fun _ _ _ y => ⟨y.1, fun s hs => y.2 s (fun m => hs (List.mem_append_right _ m))⟩) (sW_frame b _ _ (hh.2 x))⟩
  | .block id c, _, e, L, hh => by
    refine sW_mono c _ _ ?_ (sW_frame c e L hh)
    rintro x e' L' ⟨h1, h2⟩
    cases x with
    | normal => exact ⟨h1, h2⟩
    | exit i =>
      simp only [blockQ] at h1 ⊢
      cases hb : Nat.beq i id <;> simp only [hb, cond_true, cond_false] at h1 ⊢ <;> exact ⟨h1, h2⟩
    | ret => exact ⟨h1, h2⟩
  | .loop c, _, e, L, hh => by
    obtain ⟨I, ⟨n, h0⟩, hr⟩ := hh
    refine ⟨fun n e' L' => I n e' L' ∧ ∀ s, s ∉ writesC c → e' s = e s, ⟨n, h0, fun _ _ => rfl⟩, fun n e' L' hI => ?_⟩
    refine sW_mono c _ _ ?_ (sW_frame c e' L' (hr n e' L' hI.1))
    rintro x e'' L'' ⟨h1, h2⟩
    have h3 : ∀ s, s ∉ writesC c → e'' s = e s := fun s hs => (h2 s hs).trans (hI.2 s hs)
    cases x with
    | normal => obtain ⟨m, hm, M, hE, h⟩ := h1; exact ⟨m, hm, M, hE, h, h3⟩
    | exit i => exact ⟨h1, h3⟩
    | ret => exact ⟨h1, h3⟩
  | .exit _, _, _, _, hh => ⟨hh, fun _ _ => rfl⟩
  | .ret, _, _, _, hh => ⟨hh, fun _ _ => rfl⟩
  | .scope c, _, e, L, hh => sW_frame c e L hh

/-- Slots that stay, over whatever lies beneath. -/
def keepE : List Nat → Env → Env → Env
  | [], _, f => f
  | s :: ss, e, f => upd (keepE ss e f) s (e s)
def setE : List Nat → List Value → Env → Env
  | s :: ss, v :: vs, f => upd (setE ss vs f) s v
  | _, _, f => f

theorem keepE_same {e f : Env} : ∀ {ss : List Nat}, (∀ s ∈ ss, f s = e s) → keepE ss e f = f
  | [], _ => rfl
  | s :: ss, h => by
    funext x
    rw [keepE, upd_at, keepE_same (fun s hs => h s (by simp [hs]))]
    split
    · rename_i hx; subst hx; exact (h x (by simp)).symm
    · rfl
theorem setE_same {f : Env} : ∀ (ss : List Nat), setE ss (ss.map f) f = f
  | [] => rfl
  | s :: ss => by
    funext x
    rw [List.map_cons, setE, upd_at, setE_same ss]
    split
    · rename_i hx; subst hx; rfl
    · rfl

@[go_sem] theorem keepE_nil (e f : Env) : keepE [] e f = f := rfl
@[go_sem] theorem keepE_cons (s : Nat) (ss : List Nat) (e f : Env) : keepE (s :: ss) e f = upd (keepE ss e f) s (e s) := rfl
@[go_sem] theorem setE_nil (vs : List Value) (f : Env) : setE [] vs f = f := rfl
@[go_sem] theorem setE_cons (s : Nat) (ss : List Nat) (v : Value) (vs : List Value) (f : Env) : setE (s :: ss) (v :: vs) f = upd (setE ss vs f) s v := rfl

def disjN (l m : List Nat) : Bool := l.all fun x => !elemN x m

/-- A loop: what holds of the slots that it carries, of what is held, and a number that falls. -/
theorem loopX_go {P : Program} {c : SC} {Q : Post} {e : Env} {L : List Chunk} {u : Lk c} {u' : Lk Q} (keep car : List Nat) (I : Nat → List Value → List Chunk → Prop) (n : Nat)
    (hk : disjN keep (writesC c) = true) (h0 : I n (car.map e) L)
    (hr : ∀ n vs L' f, I n vs L' → sX P c (thenQ (fun e' L'' => ∃ m, m < n ∧ ∃ M, Ent L'' M ∧ I m (car.map e') M) Q) (setE car vs (keepE keep e f)) L' mk mk) : loopX P c Q e L u u' := by
  have hkeep : ∀ s ∈ keep, s ∉ writesC c := fun s hs hm => by
    have := List.all_eq_true.1 hk s hs
    rw [elemN_iff.2 hm] at this; cases this
  unfold loopX
  refine ⟨fun n e' L' => I n (car.map e') L' ∧ ∀ s ∈ keep, e' s = e s, ⟨n, h0, fun _ _ => rfl⟩, fun n e' L' ⟨hI, hs⟩ => ?_⟩
  have h1 := hr n (car.map e') L' e' hI
  rw [keepE_same hs, setE_same] at h1
  unfold sX at h1
  refine sW_mono c _ _ ?_ (sW_frame c e' L' h1)
  rintro x e'' L'' ⟨h2, h3⟩
  cases x with
  | normal =>
    obtain ⟨m, hm, M, hE, h⟩ := h2
    exact ⟨m, hm, M, hE, h, fun s hs' => (h3 s (hkeep s hs')).trans (hs s hs')⟩
  | exit i => exact h2
  | ret => exact h2

theorem loopX_intro {P : Program} {c : SC} {Q : Post} {e : Env} {L : List Chunk} {u : Lk c} {u' : Lk Q} (keep car : List Nat) (I : Nat → List Value → List Chunk → Prop) (n : Nat)
    (hk : disjN keep (writesC c) = true) (h0 : I n (car.map e) L)
    (hr : ∀ n vs L' f, I n vs L' → sX P c (thenQ (fun e' L'' => ∃ m, m < n ∧ I m (car.map e') L'') Q) (setE car vs (keepE keep e f)) L' mk mk) : loopX P c Q e L u u' := by
  refine loopX_go keep car I n hk h0 fun n vs L' f hI => ?_
  have := hr n vs L' f hI
  unfold sX at this ⊢
  refine sW_mono c _ _ (thenQ_mono (fun e' L'' h => ?_) (fun _ _ _ h => h)) this
  obtain ⟨m, hm, h⟩ := h
  exact ⟨m, hm, L'', Ent.refl _, h⟩

theorem CallX.of {P : Program} {f : FuncId} {as : List Value} {L : List Chunk} {K : KVL} {u : Lk K} (h : CallW P f as L K) : CallX P f as L K u := by
  unfold CallX; exact h
theorem callFnX.of {P : Program} {f : Nat} {first as captured : List Value} {L : List Chunk} {K : KVL} {u : Lk K} (h : CallW P f (first ++ as ++ captured) L K) : callFnX P (.func (.func f) first.toArray captured.toArray) as L K u := by
  unfold callFnX; exact h
/-- A function value that is handed over: what calling it comes to. -/
theorem callFnX.val {P : Program} {f : Value} {as : List Value} {L : List Chunk} {K : KVL} {u : Lk K} (h : callFn P f as L K) : callFnX P f as L K u := by
  unfold callFnX; exact h
theorem altX.mk' {A B : Prop} {u : Lk A} {u' : Lk B} (h1 : A) (h2 : B) : altX A B u u' := by
  unfold altX; exact ⟨h1, h2⟩

/-! ### Chunks put in order, some let go -/
class Pick (L : List Chunk) (c : Chunk) (R : outParam (List Chunk)) : Prop where
  perm : L.Perm (c :: R)
instance Pick.head {c : Chunk} {L : List Chunk} : Pick (c :: L) c L := ⟨.refl _⟩
instance (priority := low) Pick.tail {d c : Chunk} {L R : List Chunk} [h : Pick L c R] : Pick (d :: L) c (d :: R) := ⟨(h.perm.cons d).trans (.swap _ _ _)⟩
class EntC (L M : List Chunk) : Prop where
  ent : Ent L M
instance (priority := high) EntC.refl {L : List Chunk} : EntC L L := ⟨Ent.refl L⟩
instance EntC.cons {L R M : List Chunk} {c : Chunk} [h : Pick L c R] [k : EntC R M] : EntC L (c :: M) := ⟨(Ent.of_perm h.perm).trans (Ent.cons k.ent)⟩
instance (priority := low) EntC.drop {L M : List Chunk} {c : Chunk} [k : EntC L M] : EntC (c :: L) M := ⟨Ent.tail.trans k.ent⟩
class Pull (L M : List Chunk) (R : outParam (List Chunk)) : Prop where
  perm : L.Perm (M ++ R)
instance Pull.nil {L : List Chunk} : Pull L [] L := ⟨.refl _⟩
instance Pull.cons {L N M R : List Chunk} {c : Chunk} [h : Pick L c N] [k : Pull N M R] : Pull L (c :: M) R := ⟨h.perm.trans (k.perm.cons c)⟩
theorem CallX.pull {P : Program} {f : FuncId} {as : List Value} {L R : List Chunk} {K : KVL} {u : Lk K} (M : List Chunk) [H : Pull L M R] (h : CallW P f as (M ++ R) K) : CallX P f as L K u :=
  CallX.of (CallW.pre (Ent.of_perm H.perm) h)
@[go_sem] theorem nilApp_ (L : List Chunk) : List.append [] L = L := rfl
@[go_sem] theorem nilApp'_ (L : List Chunk) : [] ++ L = L := rfl
theorem Ent.auto {L M : List Chunk} [h : EntC L M] : Ent L M := h.ent

theorem optX_of {o : Option Value} {v : Value} {K : KV} {u : Lk K} (h : o = some v) (hk : K v) : optX o K u := by
  unfold optX; rw [h]; exact hk

/-- What is held, told otherwise, at a stop. -/
theorem StX.pre {n : Nat} {a x : Value} {L M : List Chunk} {K : KL} {u : Lk K} (e : Ent L M) (h : StX n a x M K u) : StX n a x L K u := by
  unfold StX at h ⊢; exact fun P t hS F W w hw => h P t hS F W w (hw.ent e.append)
theorem CallX.pre {P : Program} {f : FuncId} {as : List Value} {L M : List Chunk} {K : KVL} {u : Lk K} (e : Ent L M) (h : CallX P f as M K u) : CallX P f as L K u := by
  unfold CallX at h ⊢; exact CallW.pre e h

/-- A row that is built of its elements. -/
theorem bldX_elems {α : Type} {E : Enc α} (xs : List α) {o : Option (List Value)} {n : Nat} {L : List Chunk} {K : KVL} {u : Lk K} (ho : o = some (xs.flatMap E.enc)) (hn : xs.length = n) (h : ∀ v, OneV v → K v (⟨v, sliceC E xs⟩ :: L)) : bldX o n L K u := by
  subst ho
  rw [bldX_some]
  exact BldSX_intro rfl hn h

/-- At the end: what is held may be told otherwise, and less. -/
theorem CallW.ret {P : Program} {f : FuncId} {args : List Value} {L : List Chunk} {K : KVL} (h : CallW P f args L fun v L' => ∃ M, Ent L' M ∧ K v M) : CallW P f args L K :=
  h.post fun _ _ ⟨M, e, hk⟩ _ hh => ⟨M, e _ hh, hk⟩

/-- What is held by a pointer that is not nil. -/
class PtrC (c : Con) : Prop where
  ptr : ∀ v h, c v h → ∃ a, v = .pointer (some a)
instance {vs : List Value} : PtrC (cellsC vs) := ⟨fun _ _ ⟨_, _, hv, _⟩ => ⟨_, hv⟩⟩
class HasPtr (L : List Chunk) (v : Value) : Prop where
  ptr : ∀ h, Holds L h → ∃ a, v = .pointer (some a)
instance HasPtr.head {v : Value} {c : Con} {L : List Chunk} [H : PtrC c] : HasPtr (⟨v, c⟩ :: L) v := ⟨fun _ ⟨h1, _, _, _, _, hc, _⟩ => H.ptr v h1 hc⟩
instance (priority := low) HasPtr.tail {d : Chunk} {v : Value} {L : List Chunk} [H : HasPtr L v] : HasPtr (d :: L) v := ⟨fun h hh => H.ptr h hh.tail⟩
theorem NilX_ptr {L : List Chunk} {v : Value} {K : Bool → Prop} [H : HasPtr L v] (h : K false) {u : Lk K} : NilX .ptr v L K u := by
  unfold NilX; exact ⟨false, fun W w hw => .inr ⟨H.ptr _ hw.holds, rfl⟩, h⟩
theorem NnX_ptr {L : List Chunk} {v : Value} {A : Prop} [H : HasPtr L v] (h : A) {u : Lk A} : NnX v L A u := by
  unfold NnX; exact ⟨fun W w hw => H.ptr _ hw.holds, h⟩

/-- int(uint(a) % uint(n)) -/
theorem u64_mod (a : Int) {n : Nat} (hn : 0 < n) : ∃ k : Nat, k < n ∧ (IntKind.u64.wrap a).tmod n = k := by
  have h : 0 ≤ IntKind.u64.wrap a := by
    unfold IntKind.wrap
    simp [IntKind.bits, IntKind.signed]
    omega
  refine ⟨((IntKind.u64.wrap a).tmod n).toNat, ?_, ?_⟩
  · rw [Int.tmod_eq_emod_of_nonneg h]
    have := Int.emod_lt_of_pos (IntKind.u64.wrap a) (b := (n : Int)) (by omega)
    have := Int.emod_nonneg (IntKind.u64.wrap a) (b := (n : Int)) (by omega)
    omega
  · rw [Int.tmod_eq_emod_of_nonneg h]
    have := Int.emod_nonneg (IntKind.u64.wrap a) (b := (n : Int)) (by omega)
    omega

end Go.SL
