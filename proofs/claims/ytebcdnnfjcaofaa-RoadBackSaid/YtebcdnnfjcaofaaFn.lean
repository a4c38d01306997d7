/- A part of the proofs' own ground: bodies and functions: from the small code to the model's calls. -/
import Derived.Test.YtebcdnnfjcaofaaSound8
import Derived.Scope
namespace Go.SL

/-! ### what is read across regions -/

def ins (x : Nat) (l : List Nat) : List Nat := bif elemN x l then l else x :: l

def scanOps : List Oper → List Nat → List Nat → List Nat
  | [], _, G => G
  | o :: l, acc, G => scanOps l (o.dst.toList ++ acc) ((slotsOf o.op).foldl (fun G s => bif elemN s acc then G else ins s G) G)

def opdSlots : Operand → List Nat
  | .tmp t => [t]
  | _ => []

def scanC : Code → List Nat → List Nat
  | .region _ ops _, G => scanOps ops.toList [] G
  | .seq a b, G => scanC b (scanC a G)
  | .cond c a b, G => scanC b (scanC a ((opdSlots c).foldl (fun G s => ins s G) G))
  | .block _ c, G | .loop c, G | .scope c, G => scanC c G
  | _, G => G

def hasMent : List SOpr → Bool
  | [] => false
  | s :: l => (match s.op with | .ment .. => true | _ => false) || hasMent l

def isRdp (ment gone : Bool) (s : SOp) : Bool :=
  match s with
  | .st .. | .new .. | .box .. | .bldS .. | .mks .. | .app .. | .mkm | .upm .. | .ment .. | .mst .. | .del .. | .clr .. | .rng .. | .nxt .. | .call .. | .calld .. => false
  | .look .. => !ment && !gone
  | s => !(gone && heapRd s)

def planGo (all : List Oper) (sl : List SOpr) (anc : List Nat) (ment : Bool) : Nat → List Nat → List Nat → Plan
  | 0, _, _ => .nomore
  | f + 1, V, X =>
    let en := (List.range all.length).filter fun i => !elemN i V && (match all[i]? with | some o => (predsOf o).all (fun e => elemN e V) | none => false)
    match en.find? (fun i => match sl[i]? with | some s => isRdp ment false s.op | none => false) with
    | some i => .rd i (planGo all sl anc ment f (i :: V) X)
    | none => match en with
      | [] => .done
      | _ => en.foldr (fun i alts =>
          let pend := V.filter fun r => match sl[r]? with
            | some s => heapRd s.op && !covOk anc i X r
            | none => false
          .eff i pend (planGo all sl anc ment f (i :: V) (i :: X)) alts) .nomore

def planOf (all : List Oper) (sl : List SOpr) : Plan := planGo all sl (ancGo all []) (hasMent sl) (all.length + 1) [] []

def outsOf (G : List Nat) (ds : List Nat) : List Nat := ds.foldr (fun d l => bif elemN d G then ins d l else l) []

def eraseReg (P : Program) (N : Nat) (G : List Nat) (l : List Oper) (draw : Bool) : Option SC :=
  match eraseOps P l l with
  | some sl =>
    if draw then (if opsOk N G l l 0 && planOk l sl (ancGo l []) (planOf l sl) [] [] [] then some (.drw sl (outsOf G (dstsOf l)) (planOf l sl)) else none)
    else (if textOk N G l l [] then some (.reg sl (outsOf G (dstsOf l))) else none)
  | none => none

def eraseC (P : Program) (N : Nat) (G : List Nat) : Code → Option SC
  | .skip => some .skip
  | .region _ ops draw => eraseReg P N G ops.toList draw
  | .seq a b => match eraseC P N G a, eraseC P N G b with
    | some x, some y => some (.seq x y)
    | _, _ => none
  | .cond c a b => if (opdSlots c).all (fun s => elemN s G) then (match eraseC P N G a, eraseC P N G b with
    | some x, some y => some (.cond (opdOf c) x y)
    | _, _ => none) else none
  | .block id c => (eraseC P N G c).map (.block id)
  | .loop c => (eraseC P N G c).map .loop
  | .exit id => some (.exit id)
  | .ret => some .ret
  | .scope c => (eraseC P N G c).map .scope
  | _ => none

def eraseRes (P : Program) : List ResultVar → Option (List (Nat × Option (Option Nat)))
  | [] => some []
  | .tmp t :: r => (eraseRes P r).map ((t, none) :: ·)
  | .cell a t :: r => match aggN P t, eraseRes P r with
    | some n, some rs => some ((a, some n) :: rs)
    | _, _ => none

def resSlots : List ResultVar → List Nat
  | [] => []
  | .tmp t :: r => t :: resSlots r
  | .cell a _ :: r => a :: resSlots r

def liveOf (fn : Func) : List Nat := match fn.body with
  | some c => scanC c ((resSlots fn.results.toList).foldl (fun G s => ins s G) [])
  | none => []

def eraseFn (P : Program) (fn : Func) : Option SFn :=
  match fn.body with
  | some c => match eraseC P fn.ntmps (liveOf fn) c, eraseRes P fn.results.toList with
    | some b, some rs => if (resSlots fn.results.toList).all (fun s => elemN s (liveOf fn)) && !(fn.name == "runtime.NumGoroutine") then some ⟨b, fn.ntmps, rs⟩ else none
    | _, _ => none
  | none => none

/-! ### soundness -/

theorem elemN_ins (s x : Nat) (l : List Nat) : s ∈ ins x l ↔ s = x ∨ s ∈ l := by
  unfold ins
  cases h : elemN x l with
  | true =>
    simp only [cond_true]
    constructor
    · exact .inr
    · rintro (rfl | h')
      · exact elemN_iff.1 h
      · exact h'
  | false => simp

theorem outsOf_spec (G : List Nat) : ∀ (ds : List Nat) (s : Nat), s ∈ outsOf G ds ↔ s ∈ ds ∧ s ∈ G
  | [], s => by simp [outsOf]
  | d :: ds, s => by
    have ih := outsOf_spec G ds s
    unfold outsOf at ih ⊢
    simp only [List.foldr_cons]
    cases h : elemN d G with
    | true =>
      simp only [cond_true]
      rw [elemN_ins, ih, List.mem_cons]
      have hd := elemN_iff.1 h
      constructor
      · rintro (rfl | ⟨h1, h2⟩)
        · exact ⟨.inl rfl, hd⟩
        · exact ⟨.inr h1, h2⟩
      · rintro ⟨rfl | h1, h2⟩
        · exact .inl rfl
        · exact .inr ⟨h1, h2⟩
    | false =>
      simp only [cond_false]
      rw [ih, List.mem_cons]
      constructor
      · rintro ⟨h1, h2⟩; exact ⟨.inr h1, h2⟩
      · rintro ⟨rfl | h1, h2⟩
        · exact absurd (elemN_iff.2 h2) (by rw [h]; simp)
        · exact ⟨h1, h2⟩

theorem prune_at (outs : List Nat) (e e' : Env) (s : Nat) : prune outs e e' s = if s ∈ outs then e' s else e s := by
  induction outs with
  | nil => simp [prune]
  | cons d ds ih =>
    simp only [prune, upd_at, ih, List.mem_cons]
    by_cases h : s = d
    · subst h; simp
    · simp [h]

def exOf : Exit → Option SEx
  | .normal => some .normal
  | .exit id => some (.exit id)
  | .ret => some .ret
  | _ => none

/-- The post of the small code, told of the model's states. -/
def QQ (N : Nat) (G : List Nat) (W : World) (F : List Chunk) (Q : Post) : Exit → Act → World → Prop := fun x a w =>
  ∃ x' e L, exOf x = some x' ∧ Q x' e L ∧ St W w (L ++ F) ∧ a.tmps.size = N ∧ a.defers = [] ∧ ∀ s ∈ G, a.tmps.getD s undef = e s

theorem dsts_wr : ∀ (l : List Oper) (i s : Nat), (∃ j, wr l i s = some j) ↔ s ∈ dstsOf l
  | [], i, s => by simp [wr, dstsOf]
  | o :: l, i, s => by
    have ih := dsts_wr l (i + 1) s
    simp only [wr, dstsOf]
    cases hd : o.dst with
    | none => exact ih
    | some d =>
      simp only [List.mem_cons]
      cases hb : Nat.beq d s with
      | true => have := Nat.eq_of_beq_eq_true hb; subst this; simp
      | false =>
        have hne : s ≠ d := fun e => by subst e; rw [Nat.beq_refl] at hb; cases hb
        simp only [Bool.false_eq_true, if_false]
        rw [ih]
        simp [hne]

theorem list_ops (ops : Array Oper) : ∀ j, ops.toList[j]? = ops[0 + j]? := fun j => by simp

theorem reg_sound {P : Program} (hmix : P.follows .mixedOrders = true) {N : Nat} {G : List Nat} {W : World} {F : List Chunk} {id : Nat} {ops : Array Oper} {draw : Bool} {sc : SC} (he : eraseReg P N G ops.toList draw = some sc)
    {Q : Post} {e : Env} {L : List Chunk} {a : Act} {w : World} (hN : a.tmps.size = N) (hD : a.defers = []) (hag : ∀ s ∈ G, a.tmps.getD s undef = e s) (hw : St W w (L ++ F)) (h : sW P sc Q e L) :
    (Code.region id ops draw).wp P (QQ N G W F Q) a w := by
  unfold eraseReg at he
  cases hsl : eraseOps P ops.toList ops.toList with
  | none => simp [hsl] at he
  | some sl =>
    simp only [hsl] at he
    -- behind the region
    have fin : ∀ (e' : Env) (a' : Act) (L' : List Chunk) (w' : World), Q .normal (prune (outsOf G (dstsOf ops.toList)) e e') L' → St W w' (L' ++ F) → a'.tmps.size = N → a'.defers = [] →
        (∀ s, s ∈ G ∨ s ∈ dstsOf ops.toList → a'.tmps.getD s undef = e' s) → (∀ s, s ∉ dstsOf ops.toList → e' s = e s) → QQ N G W F Q .normal a' w' := by
      intro e' a' L' w' h1 h2 h3 h4 h5 h6
      refine ⟨.normal, _, L', rfl, h1, h2, h3, h4, fun s hs => ?_⟩
      rw [prune_at]
      split
      · exact h5 s (.inl hs)
      · rename_i hn
        rw [h5 s (.inl hs)]
        exact h6 s fun hd => hn ((outsOf_spec G _ s).2 ⟨hd, hs⟩)
    cases draw with
    | false =>
      simp only [Bool.false_eq_true, if_false] at he
      split at he
      · rename_i hok
        cases he
        refine wp_region ?_
        have := wpOps_eq_wpList (P := P) (ops := ops) (Q := QQ N G W F Q) ops.toList 0 (list_ops ops)
        rw [show List.range ops.size = List.range' 0 ops.toList.length from by rw [List.range_eq_range']; simp, this]
        refine regText ops.toList sl [] e L a w hsl hok hN hD (fun s hs => hag s (by simpa using hs)) h hw ?_
        intro e' a' L' w' h1 h2 h3 h4 h5 h6
        exact fin e' a' L' w' h1 h2 h3 h4 (fun s hs => h5 s (by rcases hs with hs | hs <;> simp [hs])) h6
      · cases he
    | true =>
      simp only [if_true] at he
      split at he
      · rename_i hok
        simp only [Bool.and_eq_true] at hok
        cases he
        refine wp_region_any hmix ?_
        have hr : ∀ j, (Array.replicate ops.size false).getD j false = false := fun j => by
          rw [Array.getD_eq_getD_getElem?]
          by_cases h : j < ops.size
          · simp [h]
          · simp [h]
        have he0 : ∀ (p : Nat → Bool), (∀ j, p j = false) → envP ops.toList p (fun _ => undef) e = e := fun p hp => by
          funext s; unfold envP; cases wr ops.toList 0 s with
          | none => rfl
          | some j => simp [hp j]
        refine draw_sound (Fr := F) (W := W) (N := N) (G := G) (e0 := e) (K := fun e' L' => Q .normal (prune (outsOf G (dstsOf ops.toList)) e e') L') hsl hok.1 ?_ ops.size _ [] (fun _ => undef) e L [] a _ (planOf ops.toList sl) [] ?_ hok.2 h
        · intro e' a' L' w' h1 h2 h3 h4 h5 h6
          exact fin e' a' L' w' h1 h2 h3 h4 (fun s hs => h5 s (hs.imp (fun x => x) (dsts_wr ops.toList 0 s).2)) (fun s hs => h6 s (by
            cases hw' : wr ops.toList 0 s with
            | none => rfl
            | some j => exact absurd ((dsts_wr ops.toList 0 s).1 ⟨j, hw'⟩) hs))
        · refine ⟨(fun j hj => by cases hj), by simp, ⟨List.range ops.size, by simp, fun j hj _ => by simpa using hj⟩, fun j hj => ?_, fun j hj => ?_, fun j hj => ?_, ?_, hN, hD, fun s hs => ?_, fun j hj => ?_, ?_⟩
          · rw [hr] at hj; cases hj
          · rw [hr] at hj; cases hj
          · simp [elemN] at hj
          · exact (he0 _ (fun _ => rfl)).symm
          · rw [he0 _ hr]
            rcases hs with hs | ⟨j, _, hj⟩
            · exact hag s hs
            · rw [hr] at hj; cases hj
          · simp [elemN] at hj
          · exact hw.drew
      · cases he

theorem loop_wp {P : Program} {c : Code} {Q : Exit → Act → World → Prop} (I : Nat → Act → World → Prop)
    (round : ∀ n a w, I n a w → c.wp P (Exit.then (fun a' w' => ∃ m, m < n ∧ I m a' w') Q) a w) : ∀ n a w, I n a w → (Code.loop c).wp P Q a w := by
  intro n a w h₀ b k cs
  have key : ∀ n a w, I n a w → ∃ e a' w', Q e a' w' ∧ Arrives P (lone (b.at a (.code c :: .inLoop c :: k)) cs w) b k cs e a' w' := by
    intro n
    induction n using Nat.strongRecOn with
    | _ n ih =>
      intro a w hI
      obtain ⟨e, a₁, w₁, hq, harr⟩ := round n a w hI b (.inLoop c :: k) cs
      cases e with
      | normal =>
        obtain ⟨m, hlt, hI₁⟩ := hq
        obtain ⟨e₂, a₂, w₂, hq₂, harr₂⟩ := ih m hlt a₁ w₁ hI₁
        exact ⟨e₂, a₂, w₂, hq₂, .of_steps (Steps.trans harr (.one step_inLoop)) harr₂⟩
      | exit id => exact ⟨_, a₁, w₁, hq, .pass (x := .inLoop c) rfl (fun _ _ => .inl (by simp)) harr⟩
      | goto l => exact ⟨_, a₁, w₁, hq, .pass (x := .inLoop c) rfl (fun _ _ => .inl (by simp)) harr⟩
      | ret => exact ⟨_, a₁, w₁, hq, .pass (x := .inLoop c) rfl (fun _ _ => .inl (by simp)) harr⟩
      | panic ch => exact ⟨_, a₁, w₁, hq, .pass (x := .inLoop c) rfl (fun _ _ => .inl (by simp)) harr⟩
      | outgrown => exact ⟨_, a₁, w₁, hq, .pass (x := .inLoop c) rfl (fun _ _ => .inl (by simp)) harr⟩
  obtain ⟨e, a', w', hq, harr⟩ := key n a w h₀
  exact ⟨e, a', w', hq, .of_steps (.one step_loop) harr⟩

theorem sW_sound {P : Program} (hmix : P.follows .mixedOrders = true) {N : Nat} {G : List Nat} {W : World} {F : List Chunk} : ∀ (c : Code) (sc : SC), eraseC P N G c = some sc → ∀ (Q : Post) (e : Env) (L : List Chunk) (a : Act) (w : World),
    a.tmps.size = N → a.defers = [] → (∀ s ∈ G, a.tmps.getD s undef = e s) → St W w (L ++ F) → sW P sc Q e L → c.wp P (QQ N G W F Q) a w := by
  intro c
  induction c with
  | skip =>
    intro sc he Q e L a w hN hD hag hw h
    cases he
    exact wp_skip ⟨.normal, e, L, rfl, h, hw, hN, hD, hag⟩
  | region id ops draw =>
    intro sc he Q e L a w hN hD hag hw h
    exact reg_sound hmix he hN hD hag hw h
  | seq x y ihx ihy =>
    intro sc he Q e L a w hN hD hag hw h
    simp only [eraseC] at he
    cases hx : eraseC P N G x with
    | none => simp [hx] at he
    | some sx =>
      cases hy : eraseC P N G y with
      | none => simp [hx, hy] at he
      | some sy =>
        simp [hx, hy] at he; subst he
        refine wp_seq (wp_mono (ihx sx hx _ e L a w hN hD hag hw h) ?_)
        rintro x a' w' ⟨x', e', L', hx', hq, h1, h2, h3, h4⟩
        cases x <;> simp only [exOf] at hx' <;> cases hx'
        · exact ihy sy hy Q e' L' a' w' h2 h3 h4 h1 hq
        · exact ⟨_, e', L', rfl, hq, h1, h2, h3, h4⟩
        · exact ⟨_, e', L', rfl, hq, h1, h2, h3, h4⟩
  | cond c x y ihx ihy =>
    intro sc he Q e L a w hN hD hag hw h
    simp only [eraseC] at he
    split at he
    · rename_i hc
      cases hx : eraseC P N G x with
      | none => simp [hx] at he
      | some sx =>
        cases hy : eraseC P N G y with
        | none => simp [hx, hy] at he
        | some sy =>
          simp [hx, hy] at he; subst he
          have hev : a.eval c = ev e (opdOf c) := by
            cases c with
            | tmp t => exact hag t (elemN_iff.1 (by simpa [opdSlots] using hc))
            | const v => rfl
            | global g => rfl
            | func f => rfl
          simp only [sW] at h
          cases hv : ev e (opdOf c) <;> simp only [hv, condW] at h <;> try exact h.elim
          rename_i b
          refine wp_cond_split (t := b) (by rw [hev, hv]) (fun hb => ?_) (fun hb => ?_)
          · exact ihx sx hx Q e L a w hN hD hag hw (h.1 hb)
          · exact ihy sy hy Q e L a w hN hD hag hw (h.2 hb)
    · cases he
  | block id c ih =>
    intro sc he Q e L a w hN hD hag hw h
    simp only [eraseC, Option.map_eq_some_iff] at he
    obtain ⟨s, hs, rfl⟩ := he
    refine wp_block (wp_mono (ih s hs _ e L a w hN hD hag hw h) ?_)
    rintro x a' w' ⟨x', e', L', hx', hq, h1, h2, h3, h4⟩
    cases x <;> simp only [exOf] at hx' <;> cases hx'
    · exact ⟨_, e', L', rfl, hq, h1, h2, h3, h4⟩
    · rename_i i
      simp only [blockQ] at hq
      simp only [Exit.inBlock]
      cases hb : Nat.beq i id with
      | true =>
        simp only [hb, cond_true] at hq
        rw [if_pos (Nat.eq_of_beq_eq_true hb)]
        exact ⟨_, e', L', rfl, hq, h1, h2, h3, h4⟩
      | false =>
        simp only [hb, cond_false] at hq
        rw [if_neg (fun hi => by subst hi; rw [Nat.beq_refl] at hb; cases hb)]
        exact ⟨_, e', L', rfl, hq, h1, h2, h3, h4⟩
    · exact ⟨_, e', L', rfl, hq, h1, h2, h3, h4⟩
  | loop c ih =>
    intro sc he Q e L a w hN hD hag hw h
    simp only [eraseC, Option.map_eq_some_iff] at he
    obtain ⟨s, hs, rfl⟩ := he
    obtain ⟨I, ⟨n, hI⟩, hround⟩ := h
    refine loop_wp (fun n a w => ∃ e L, I n e L ∧ St W w (L ++ F) ∧ a.tmps.size = N ∧ a.defers = [] ∧ ∀ s ∈ G, a.tmps.getD s undef = e s) ?_ n a w ⟨e, L, hI, hw, hN, hD, hag⟩
    rintro n a w ⟨e, L, hI, hw, hN, hD, hag⟩
    refine wp_mono (ih s hs _ e L a w hN hD hag hw (hround n e L hI)) ?_
    rintro x a' w' ⟨x', e', L', hx', hq, h1, h2, h3, h4⟩
    cases x <;> simp only [exOf] at hx' <;> cases hx'
    · obtain ⟨m, hm, M, hE, hq⟩ := hq
      obtain ⟨ha, hb, hd, la, lb, HL, HF⟩ := h1.holds.split
      exact ⟨m, hm, e', M, hq, ⟨h1.quiet, Holds.append hd la lb (hE _ HL) HF⟩, h2, h3, h4⟩
    · exact ⟨_, e', L', rfl, hq, h1, h2, h3, h4⟩
    · exact ⟨_, e', L', rfl, hq, h1, h2, h3, h4⟩
  | rangeFunc f ps x y ihx ihy =>
    intro sc he
    simp [eraseC] at he
  | exit id =>
    intro sc he Q e L a w hN hD hag hw h
    cases he
    exact wp_exit ⟨_, e, L, rfl, h, hw, hN, hD, hag⟩
  | scope c ih =>
    intro sc he Q e L a w hN hD hag hw h
    simp only [eraseC, Option.map_eq_some_iff] at he
    obtain ⟨s, hs, rfl⟩ := he
    refine wp_scope_straight (wp_mono (ih s hs _ e L a w hN hD hag hw h) ?_)
    rintro x a' w' ⟨x', e', L', hx', hq, h1, h2, h3, h4⟩
    cases x <;> simp only [exOf] at hx' <;> cases hx'
    · exact ⟨_, e', L', rfl, hq, h1, h2, h3, h4⟩
    · exact ⟨_, e', L', rfl, hq, h1, h2, h3, h4⟩
    · exact ⟨_, e', L', rfl, hq, h1, h2, h3, h4⟩
  | label l =>
    intro sc he
    simp [eraseC] at he
  | goto l =>
    intro sc he
    simp [eraseC] at he
  | ret =>
    intro sc he Q e L a w hN hD hag hw h
    cases he
    exact wp_ret ⟨_, e, L, rfl, h, hw, hN, hD, hag⟩
  | refuse why =>
    intro sc he
    simp [eraseC] at he

def resOne (tmps : Array Value) (r : ResultVar) : Sem Value :=
  match r with
  | .tmp t => pure (tmps.getD t undef)
  | .cell a t => do loadVar t (← asAddr (tmps.getD a undef))

theorem results_eq (fn : Func) (tmps : Array Value) : results fn tmps = (do
    let vs ← fn.results.mapM (resOne tmps)
    pure (if h : vs.size = 1 then vs[0] else .tuple vs)) := by
  unfold results
  congr 1

theorem res_sound {P : Program} {tmps : Array Value} {e : Env} {W w : World} {L : List Chunk} (hw : St W w L) : ∀ (rs : List ResultVar) (ss : List (Nat × Option (Option Nat))) (K : List Value → Prop), eraseRes P rs = some ss →
    (∀ s ∈ resSlots rs, tmps.getD s undef = e s) → resW ss e L K → ∃ vs, K vs ∧
      (rs.mapM (resOne tmps)).run P w = .ok vs w
  | [], ss, K, he, _, h => by
    simp [eraseRes] at he; subst he
    exact ⟨[], h, rfl⟩
  | .tmp t :: rs, ss, K, he, hag, h => by
    simp only [eraseRes, Option.map_eq_some_iff] at he
    obtain ⟨r, hr, rfl⟩ := he
    obtain ⟨vs, hk, hrun⟩ := res_sound hw rs r _ hr (fun s hs => hag s (by simp [resSlots, hs])) h
    refine ⟨_, hk, ?_⟩
    simp only [List.mapM_cons, resOne, Sem.run_bind, Sem.run_pure, Result.andThen_ok, hrun]
    rw [hag t (by simp [resSlots])]
  | .cell b t :: rs, ss, K, he, hag, h => by
    simp only [eraseRes] at he
    cases hn : aggN P t with
    | none => simp [hn] at he
    | some n =>
      cases hr : eraseRes P rs with
      | none => simp [hn, hr] at he
      | some r =>
        simp [hn, hr] at he; subst he
        obtain ⟨v, hv, hk⟩ := h
        have h1 := hv P t (ldS_of hn) W w hw
        obtain ⟨vs, hk', hrun⟩ := res_sound hw rs r _ hr (fun s hs => hag s (by simp [resSlots, hs])) hk
        refine ⟨_, hk', ?_⟩
        have hb := hag b (by simp [resSlots])
        have h2 : (resOne tmps (.cell b t)).run P w = .ok v w := by
          unfold resOne
          simp only
          rw [hb]
          cases hp : e b <;> rw [hp] at h1 <;> try (simp [Instr.loadAt, Instr.sureAddr] at h1; done)
          rename_i o
          cases o with
          | none => simp [Instr.loadAt, Instr.sureAddr] at h1
          | some ad => simpa [Instr.loadAt, Instr.sureAddr, asAddr] using h1
        simp only [List.mapM_cons, Sem.run_bind, Sem.run_pure, Result.andThen_ok, hrun, h2]

theorem results_sound {P : Program} {fn : Func} {tmps : Array Value} {e : Env} {W w : World} {L : List Chunk} (hw : St W w L) {ss : List (Nat × Option (Option Nat))} {K : Value → Prop} (he : eraseRes P fn.results.toList = some ss)
    (hag : ∀ s ∈ resSlots fn.results.toList, tmps.getD s undef = e s) (h : resW ss e L fun vs => K (packV vs)) : ∃ v, K v ∧ (results fn tmps).run P w = .ok v w := by
  obtain ⟨vs, hk, hrun⟩ := res_sound hw fn.results.toList ss _ he hag h
  refine ⟨_, hk, ?_⟩
  rw [results_eq, Array.mapM_eq_mapM_toList]
  simp only [Sem.run_bind, Sem.run_map, hrun, Result.andThen_ok, Sem.run_pure]
  congr 1
  unfold packV
  split
  · rename_i hs
    match vs, hs with
    | [v], _ => rfl
  · rename_i hs
    split
    · simp at hs
    · rfl

/-- A function of the program, by its small code. -/
theorem callW_of {P : Program} (hmix : P.follows .mixedOrders = true) {f : FuncId} {fn : Func} {s : SFn} (hf : P.funcs[f]? = some fn) (he : eraseFn P fn = some s) {args : List Value} (ha : args.length ≤ s.ntmps)
    {L : List Chunk} {K : Value → List Chunk → Prop} (h : fnW P s args L K) : CallW P f args L K := by
  unfold eraseFn at he
  cases hb : fn.body with
  | none => simp [hb] at he
  | some c =>
    simp only [hb] at he
    cases hc : eraseC P fn.ntmps (liveOf fn) c with
    | none => simp [hc] at he
    | some sc =>
      cases hr : eraseRes P fn.results.toList with
      | none => simp [hc, hr] at he
      | some rs =>
        simp only [hc, hr] at he
        split at he
        · rename_i hchk
          simp only [Bool.and_eq_true, List.all_eq_true, Bool.not_eq_true'] at hchk
          cases he
          refine ⟨⟨fn, c, hf, hb, hchk.2⟩, fun F W w hw => ?_⟩
          refine calls_of_wp hf hb (wp_mono (sW_sound hmix c sc hc _ (argsE args) L _ w ?_ rfl ?_ hw h) ?_)
          · simp; simp at ha; omega
          · intro x _
            simp only [argsE, Array.getD_eq_getD_getElem?, List.getD_eq_getElem?_getD]
            rw [Array.getElem?_append]
            by_cases hx : x < args.length
            · simp [hx]
            · simp only [List.size_toArray, hx, if_false]
              rw [Array.getElem?_replicate]
              split <;> simp [hx]
          · rintro x a' w' ⟨x', e', L', hx', hq, h1, h2, h3, h4⟩
            have done : ∀ (h : resW rs e' L' fun vs => K (packV vs) L'), ∃ v, (results fn a'.tmps).run P w' = .ok v w' ∧ ∃ v' L'', Ending.returned v = .returned v' ∧ St W w' (L'' ++ F) ∧ K v' L'' := by
              intro h
              obtain ⟨v, hk, hrun⟩ := results_sound (K := fun v => K v L') h1.left hr (fun s hs => h4 s (elemN_iff.1 (hchk.1 s hs))) h
              exact ⟨v, hrun, v, L', rfl, h1, hk⟩
            cases x <;> simp only [exOf] at hx' <;> cases hx'
            · exact ⟨h3, done hq⟩
            · exact hq.elim
            · exact ⟨h3, done hq⟩
        · cases he

end Go.SL
