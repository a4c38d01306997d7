/- A part of the proofs' own ground: what is held may be told otherwise ahead of any code, where what is asked behind it lets that be. -/
import Derived.Test.YtebcdnnfjcaofaaLoop
set_option linter.unusedVariables false
namespace Go.SL

theorem SemW.pre {α : Type} {P : Program} {s : Sem α} {L M : List Chunk} {K : α → List Chunk → Prop} (e : Ent L M) (h : SemW P s M K) : SemW P s L K :=
  fun F W w hw => h F W w (hw.ent e.append)

theorem rdOp_pre {op : SOp} {ev : Opd → Value} {L M : List Chunk} {K : KV} (e : Ent L M) (h : rdOp op ev M K) : rdOp op ev L K := by
  cases op <;> simp only [rdOp] at h ⊢ <;> first
    | exact h
    | (obtain ⟨v, h1, h2⟩ := h; first
        | exact ⟨v, fun P t hS W w hw => h1 P t hS W w (hw.ent e), h2⟩
        | exact ⟨v, fun P t e' ht hS W w hw => h1 P t e' ht hS W w (hw.ent e), h2⟩
        | exact ⟨v, fun P s e' d h3 h4 h5 W w hw => h1 P s e' d h3 h4 h5 W w (hw.ent e), h2⟩
        | exact ⟨v, fun P t e' ty ht W w hw => h1 P t e' ty ht W w (hw.ent e), h2⟩
        | exact ⟨v, fun P t ke e' ty ht W w hw => h1 P t ke e' ty ht W w (hw.ent e), h2⟩
        | exact ⟨v, fun P t ke e' ht hS hz W w hw => h1 P t ke e' ht hS hz W w (hw.ent e), h2⟩
        | exact ⟨v, fun P W w hw => h1 P W w (hw.ent e), h2⟩
        | exact ⟨v, fun W w hw => h1 W w (hw.ent e), h2⟩)
    | (obtain ⟨h1, h2⟩ := h; exact ⟨fun W w hw => h1 W w (hw.ent e), h2⟩)

/-- What does not hang on how what is held is told. -/
class KCl (K : KVL) : Prop where
  cl : ∀ v L M, Ent L M → K v M → K v L
class ECl (K : KE) : Prop where
  cl : ∀ e L M, Ent L M → K e M → K e L
class QCl (Q : Post) : Prop where
  cl : ∀ x e L M, Ent L M → Q x e M → Q x e L

theorem optW_mono' {o : Option Value} {K K' : KV} (h : ∀ v, K v → K' v) (hh : optW o K) : optW o K' := by
  cases o with
  | none => exact hh
  | some v => exact h v hh

theorem opW_pre {P : Program} {op : SOp} {ev : Opd → Value} {L M : List Chunk} {K : KVL} (e : Ent L M) (hK : ∀ v, K v M → K v L) (h : opW P op ev M K) : opW P op ev L K := by
  have rd : ∀ op, rdOp op ev M (fun v => K v M) → rdOp op ev L (fun v => K v L) := fun op h =>
    rdOp_pre e (rdOp_mono (fun v x => hK v x) h)
  cases op with
  | st n a x => exact fun P t hS => (h P t hS).pre e
  | new z => exact fun P el => (h P el).pre e
  | box x => exact fun P el => (h P el).pre e
  | bldS k n z ps =>
    simp only [opW] at h ⊢
    cases hf : fillV ev z (ps.map fun p => (p.1 * k, k, p.2)) with
    | none => rw [hf] at h; exact h
    | some cs => rw [hf] at h; exact fun P el => (h P el).pre e
  | mks k b z l c => exact fun P t e' ht hE => (h P t e' ht hE).pre e
  | app k b z s x => exact fun P t u e' ty ht hu hE => (h P t u e' ty ht hu hE).pre e
  | mkm => exact fun P => (h P).pre e
  | upm kk m k v => exact fun P t ke e' ht hS => (h P t ke e' ht hS).pre e
  | ment kk z m k => exact fun P t ke e' ht hS hz => (h P t ke e' ht hS hz).pre e
  | mst m k v => exact fun P t => (h P t).pre e
  | del kk m k => exact fun P t u ke e' ty ht hS => (h P t u ke e' ty ht hS).pre e
  | clr k z x => exact fun P t e' ty ht hS hz => (h P t e' ty ht hS hz).pre e
  | rng m => exact fun P t ke e' ht => (h P t ke e' ht).pre e
  | nxt it => exact fun P ty => (h P ty).pre e
  | call f as => exact CallW.pre e h
  | calld f as =>
    simp only [opW] at h ⊢
    unfold callFn at h ⊢
    split at h
    · exact CallW.pre e h
    · exact h
  | _ => simp only [opW] at h ⊢; exact rd _ h

theorem guardW_mono' {g : Option (Nat × Bool)} {e : Env} {A B A' B' : Prop} (ha : A → A') (hb : B → B') (h : guardW g e A B) : guardW g e A' B' := guardW_mono ha hb h

theorem opsW_pre {P : Program} {K : KE} [H : ECl K] : ∀ (ops : List SOpr) (e : Env) {L M : List Chunk}, Ent L M → opsW P ops e M K → opsW P ops e L K
  | [], e, L, M, x, h => H.cl e L M x h
  | o :: rest, e, L, M, x, h => guardW_mono (fun h => by
      -- what is behind an operation, too, is of the kind
      have : ∀ v (A B : List Chunk), Ent A B → opsW P rest (updO e o.dst v) B K → opsW P rest (updO e o.dst v) A K := fun v A B y => opsW_pre rest _ y
      exact opW_pre x (fun v => this v _ _ x) h) (fun h => opsW_pre rest _ x h) h

theorem ent_app {L M F G : List Chunk} (a : Ent L M) (b : Ent F G) : Ent (L ++ F) (M ++ G) := fun h hh => by
  obtain ⟨x, y, d, lx, ly, HL, HF⟩ := hh.split
  exact Holds.append d lx ly (a x HL) (b y HF)

theorem stillW_pre {ops : List SOpr} {e : Env} {L M : List Chunk} (a : Ent L M) : ∀ {pend : List Nat}, stillW ops pend e M → stillW ops pend e L
  | [], _ => trivial
  | r :: rs, ⟨h1, h2⟩ => by
    refine ⟨?_, stillW_pre a h2⟩
    split at h1
    · exact guardW_mono (fun h => rdOp_pre a h) (fun h => h) h1
    · exact h1

theorem plW_pre {P : Program} {ops : List SOpr} {K : KE} [H : ECl K] : ∀ (p : Plan) (e : Env) {L M F G : List Chunk}, Ent L M → Ent F G → plW P ops p e G M K → plW P ops p e F L K
  | .done, e, _, _, _, _, a, b, h => H.cl _ _ _ (ent_app a b) h
  | .rd i p, e, L, M, F, G, a, b, h => by
    simp only [plW] at h ⊢
    split at h
    · exact guardW_mono (fun h => rdOp_mono (fun v x => plW_pre p _ a b x) (rdOp_pre b h)) (fun h => plW_pre p _ a b h) h
    · exact h
  | .eff i w p alts, e, L, M, F, G, a, b, h => by
    simp only [plW] at h ⊢
    refine ⟨?_, plW_pre alts e a b h.2⟩
    have h1 := h.1
    split at h1
    · rename_i o ho
      refine guardW_mono (fun h => ?_) (fun h => plW_pre p _ a b h) h1
      cases w with
      | nil => exact opW_pre (K := fun v L' => plW P ops p (updO e o.dst v) L' [] K) (ent_app a b) (fun v x => plW_pre p _ (Ent.refl _) (ent_app a b) x) h
      | cons q qs =>
        rcases h with h | ⟨F1, F2, hp, hs, h⟩
        · exact .inl (opW_mono (K := fun v L' => plW P ops p (updO e o.dst v) G L' K) (fun v L' x => plW_pre p _ (Ent.refl _) b x) (opW_pre (K := fun v L' => plW P ops p (updO e o.dst v) G L' K) a (fun v x => plW_pre p _ a (Ent.refl _) x) h))
        exact .inr ⟨F1, F2, fun k x => hp k (b k x), hs, opW_pre (K := fun v L' => plW P ops p (updO e o.dst v) F2 L' K) (ent_app a (Ent.refl _)) (fun v x => plW_pre p _ (ent_app a (Ent.refl _)) (Ent.refl _) x) h⟩
    · exact h1
  | .nomore, _, _, _, _, _, _, _, _ => trivial

theorem thenQ_cl {K : KE} {Q : Post} (hK : ∀ e L M, Ent L M → K e M → K e L) [H : QCl Q] : QCl (thenQ K Q) := ⟨fun x e L M a h => by
  cases x with
  | normal => exact hK e L M a h
  | exit i => exact H.cl _ e L M a h
  | ret => exact H.cl _ e L M a h⟩
instance blockQ_cl {id : Nat} {Q : Post} [H : QCl Q] : QCl (blockQ id Q) := ⟨fun x e L M a h => by
  cases x with
  | normal => exact H.cl _ e L M a h
  | exit i =>
    simp only [blockQ] at h ⊢
    cases hb : Nat.beq i id <;> simp only [hb, cond_true, cond_false] at h ⊢ <;> exact H.cl _ e L M a h
  | ret => exact H.cl _ e L M a h⟩

theorem sW_pre {P : Program} : ∀ (c : SC) {Q : Post} [H : QCl Q] (e : Env) {L M : List Chunk}, Ent L M → sW P c Q e M → sW P c Q e L
  | .skip, Q, H, e, L, M, a, h => H.cl _ e L M a h
  | .reg ops outs, Q, H, e, L, M, a, h =>
    haveI : ECl (fun e' L' => Q .normal (prune outs e e') L') := ⟨fun e' L M a h => H.cl _ _ L M a h⟩
    opsW_pre ops e a h
  | .drw ops outs p, Q, H, e, L, M, a, h =>
    haveI : ECl (fun e' L' => Q .normal (prune outs e e') L') := ⟨fun e' L M a h => H.cl _ _ L M a h⟩
    plW_pre p e (Ent.refl _) a h
  | .seq x y, Q, H, e, L, M, a, h =>
    haveI : QCl (thenQ (sW P y Q) Q) := thenQ_cl (fun e L M a h => sW_pre y e a h)
    sW_pre x e a h
  | .cond c x y, Q, H, e, L, M, a, h => by
    simp only [sW] at h ⊢
    cases hv : ev e c <;> simp only [hv, condW] at h ⊢
    exact ⟨fun z => sW_pre x e a (h.1 z), fun z => sW_pre y e a (h.2 z)⟩
  | .block _ c, Q, H, e, L, M, a, h => sW_pre c e a h
  | .loop c, Q, H, e, L, M, a, h => by
    obtain ⟨I, ⟨n, h0⟩, hr⟩ := h
    refine ⟨fun n e L => ∃ M, Ent L M ∧ I n e M, ⟨n, M, a, h0⟩, fun n e' L' ⟨M', a', hI⟩ => ?_⟩
    have h1 := hr n e' M' hI
    haveI : QCl (thenQ (fun e' L' => ∃ m, m < n ∧ ∃ M, (∀ h, Holds L' h → Holds M h) ∧ ∃ M', Ent M M' ∧ I m e' M') Q) :=
      thenQ_cl (fun e L M a ⟨m, hm, N, b, h⟩ => ⟨m, hm, N, Ent.trans a b, h⟩)
    refine sW_pre c e' a' (sW_mono c _ _ (thenQ_mono (fun e L h => ?_) (fun _ _ _ h => h)) h1)
    obtain ⟨m, hm, N, b, h⟩ := h
    exact ⟨m, hm, N, b, N, Ent.refl _, h⟩
  | .exit _, Q, H, e, L, M, a, h => H.cl _ e L M a h
  | .ret, Q, H, e, L, M, a, h => H.cl _ e L M a h
  | .scope c, Q, H, e, L, M, a, h => sW_pre c e a h

instance thenX_cl {P : Program} {b : SC} {Q : Post} [H : QCl Q] : QCl (thenX P b Q) := thenQ_cl (fun e L M a h => sW_pre b e a h)

theorem resW_pre {rs : List (Nat × Option (Option Nat))} {e : Env} {K : List Value → Prop} {L M : List Chunk} (a : Ent L M) (h : resW rs e M K) : resW rs e L K := by
  induction rs generalizing K with
  | nil => exact h
  | cons r rs ih =>
    obtain ⟨s, o⟩ := r
    cases o with
    | none => exact ih h
    | some n =>
      obtain ⟨v, h1, h2⟩ := h
      exact ⟨v, fun P t hS W w hw => h1 P t hS W w (hw.ent a), ih h2⟩
theorem resW_mono' {rs : List (Nat × Option (Option Nat))} {e : Env} {K K' : List Value → Prop} {L : List Chunk} (hk : ∀ vs, K vs → K' vs) (h : resW rs e L K) : resW rs e L K' := by
  induction rs generalizing K K' with
  | nil => exact hk _ h
  | cons r rs ih =>
    obtain ⟨s, o⟩ := r
    cases o with
    | none => exact ih (fun vs x => hk _ x) h
    | some n =>
      obtain ⟨v, h1, h2⟩ := h
      exact ⟨v, h1, ih (fun vs x => hk _ x) h2⟩
instance retQ_cl {rs : List (Nat × Option (Option Nat))} {K : KVL} [H : KCl K] : QCl (retQ rs K) := ⟨fun x e L M a h => by
  cases x with
  | normal => exact resW_mono' (fun vs x => H.cl _ L M a x) (resW_pre a h)
  | ret => exact resW_mono' (fun vs x => H.cl _ L M a x) (resW_pre a h)
  | exit i => exact h⟩
instance entK_cl {K : KVL} : KCl (fun v L' => ∃ M, Ent L' M ∧ K v M) := ⟨fun v L M a ⟨N, b, h⟩ => ⟨N, a.trans b, h⟩⟩
/-- A round's end. -/
instance entR_cl {n : Nat} {J : Nat → Env → List Chunk → Prop} {Q : Post} [H : QCl Q] : QCl (thenQ (fun e' L'' => ∃ m, m < n ∧ ∃ M, Ent L'' M ∧ J m e' M) Q) :=
  thenQ_cl (fun e L M a ⟨m, hm, N, b, h⟩ => ⟨m, hm, N, a.trans b, h⟩)

/-- A loop: what is held at its beginning may be told otherwise. -/
theorem loopX_at {P : Program} {c : SC} {Q : Post} {e : Env} {L : List Chunk} {u : Lk c} {u' : Lk Q} (keep car : List Nat) (I : Nat → List Value → List Chunk → Prop) (n : Nat) [QCl Q]
    (hk : disjN keep (writesC c) = true) (h0 : ∃ M, Ent L M ∧ I n (car.map e) M)
    (hr : ∀ n vs L' f, I n vs L' → sX P c (thenQ (fun e' L'' => ∃ m, m < n ∧ ∃ M, Ent L'' M ∧ I m (car.map e') M) Q) (setE car vs (keepE keep e f)) L' .mk .mk) : loopX P c Q e L u u' := by
  obtain ⟨M, a, h0⟩ := h0
  have := loopX_go (P := P) (c := c) (Q := Q) (e := e) (L := M) (u := .mk) (u' := .mk) keep car I n hk h0 hr
  unfold loopX at this ⊢
  exact sW_pre (.loop c) e a this
theorem sX_pre {P : Program} {c : SC} {Q : Post} {e : Env} {L : List Chunk} {u : Lk c} {u' : Lk Q} [QCl Q] (M : List Chunk) (a : Ent L M) (h : sX P c Q e M .mk .mk) : sX P c Q e L u u' := by
  unfold sX at h ⊢; exact sW_pre c e a h
theorem loopX_pre {P : Program} {c : SC} {Q : Post} {e : Env} {L : List Chunk} {u : Lk c} {u' : Lk Q} [QCl Q] (M : List Chunk) (a : Ent L M) (h : loopX P c Q e M .mk .mk) : loopX P c Q e L u u' := by
  unfold loopX at h ⊢; exact sW_pre (.loop c) e a h

/-- A cut between two parts: what holds of some slots, and of what is held. -/
theorem cutX {P : Program} {a b : SC} {Q : Post} {e : Env} {L : List Chunk} {u : Lk a} {u' : Lk (thenX P b Q)} [QCl Q] (keep car : List Nat) (J : List Value → List Chunk → Prop)
    (hk : disjN keep (writesC a) = true) (h1 : sX P a (thenQ (fun e' L' => ∃ M, Ent L' M ∧ J (car.map e') M) Q) e L .mk .mk)
    (h2 : ∀ vs L' f, J vs L' → sX P b Q (setE car vs (keepE keep e f)) L' .mk .mk) : sX P a (thenX P b Q) e L u u' := by
  have hkeep : ∀ s ∈ keep, s ∉ writesC a := fun s hs hm => by
    have := List.all_eq_true.1 hk s hs
    rw [elemN_iff.2 hm] at this; cases this
  unfold sX at h1 ⊢
  refine sW_mono a _ _ ?_ (sW_frame a e L h1)
  rintro x e' L' ⟨hx, hf⟩
  cases x with
  | normal =>
    obtain ⟨M, hE, hJ⟩ := hx
    have h3 := h2 _ _ e' hJ
    rw [keepE_same (fun s hs => hf s (hkeep s hs)), setE_same] at h3
    unfold sX at h3
    exact sW_pre b e' hE h3
  | exit i => exact hx
  | ret => exact hx

theorem thawX_own {P : Program} {e : Env} {ops : List SOpr} {pend : List Nat} {op : SOp} {F L R : List Chunk} {K : Value → List Chunk → List Chunk → Prop} {u : Lk ops} {u' : Lk op} {u'' : Lk K} (v : Value) {c : Con} [H : Own F v c R]
    (h1 : stillX ops pend e R .mk) (h2 : opX P op (ev e) (L ++ [⟨v, c⟩]) (fun v L' => K v R L') .mk .mk) : thawX P ops pend op e F L K u u' u'' :=
  thawX_go [⟨v, c⟩] (fun _ hh => hh.perm H.perm) h1 h2
theorem thawX_none {P : Program} {e : Env} {ops : List SOpr} {pend : List Nat} {op : SOp} {F L : List Chunk} {K : Value → List Chunk → List Chunk → Prop} {u : Lk ops} {u' : Lk op} {u'' : Lk K}
    (h2 : opX P op (ev e) L (fun v L' => K v F L') .mk .mk) : thawX P ops pend op e F L K u u' u'' := by
  unfold thawX; unfold opX at h2; exact .inl h2
theorem thawX_pull {P : Program} {e : Env} {ops : List SOpr} {pend : List Nat} {op : SOp} {F L R : List Chunk} {K : Value → List Chunk → List Chunk → Prop} {u : Lk ops} {u' : Lk op} {u'' : Lk K} (M : List Chunk) [H : Pull F M R]
    (h1 : stillX ops pend e R .mk) (h2 : opX P op (ev e) (L ++ M) (fun v L' => K v R L') .mk .mk) : thawX P ops pend op e F L K u u' u'' :=
  thawX_go M (fun _ hh => hh.perm H.perm) h1 h2

/-- What has been read is kept aside; all else is free. -/
theorem thawX_keep {P : Program} {e : Env} {ops : List SOpr} {pend : List Nat} {op : SOp} {F L M : List Chunk} {K : Value → List Chunk → List Chunk → Prop} {u : Lk ops} {u' : Lk op} {u'' : Lk K} (R : List Chunk) [H : Pull F R M]
    (h1 : stillX ops pend e R .mk) (h2 : opX P op (ev e) (L ++ M) (fun v L' => K v R L') .mk .mk) : thawX P ops pend op e F L K u u' u'' :=
  thawX_go M (fun _ hh => (hh.perm H.perm).perm List.perm_append_comm) h1 h2

end Go.SL
