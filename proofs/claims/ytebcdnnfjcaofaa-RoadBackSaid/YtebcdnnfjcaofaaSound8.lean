/- A part of the proofs' own ground: a region that draws its order, by a plan: the theorem. -/
import Derived.Test.YtebcdnnfjcaofaaSound7
namespace Go.SL

section
variable {P : Program} {ops : Array Oper} {sl : List SOpr} {N : Nat} {G : List Nat} {e0 : Env} {W : World} {Fr : List Chunk} {K : Env → List Chunk → Prop} {Q : Exit → Act → World → Prop}

theorem Stable.congr {all : List Oper} {o : Oper} {s : SOpr} {e e' : Env} {v : Value} {F F' : List Chunk} (he : e = e') (hF : F = F') (h : Stable P all o s e v F) : Stable P all o s e' v F' := by
  subst he; subst hF; exact h

/-- The state from which one operation looks at its operands does not hang on values of what comes not ahead of it. -/
theorem envP_preds {all : List Oper} {o : Oper} {i : Nat} (hi : i ∉ predsOf o) (v : Value) (val : Nat → Value) :
    envP all (fun k => elemN k (predsOf o)) (fun j => bif Nat.beq j i then v else val j) e0 = envP all (fun k => elemN k (predsOf o)) val e0 := by
  funext s
  unfold envP
  cases wr all 0 s with
  | none => rfl
  | some j =>
    simp only
    cases hj : elemN j (predsOf o) with
    | false => rfl
    | true =>
      have : Nat.beq j i = false := by
        cases hb : Nat.beq j i with
        | false => rfl
        | true => exact absurd (Nat.eq_of_beq_eq_true hb ▸ elemN_iff.1 hj) hi
      simp [this]

theorem envP_listed {all : List Oper} {p : Nat → Bool} {i : Nat} (hi : p i = false) (v : Value) (val : Nat → Value) :
    envP all p (fun j => bif Nat.beq j i then v else val j) e0 = envP all p val e0 := by
  funext s
  unfold envP
  cases wr all 0 s with
  | none => rfl
  | some j =>
    simp only
    cases hj : p j with
    | false => rfl
    | true =>
      have : Nat.beq j i = false := by
        cases hb : Nat.beq j i with
        | false => rfl
        | true => exact absurd hj (by rw [Nat.eq_of_beq_eq_true hb, hi]; simp)
      simp [this]

theorem Inv.end_ {fuel : Nat} {listed : Array Bool} {V : List Nat} {val : Nat → Value} {e : Env} {F L : List Chunk} {a : Act} {w : World} {X : List Nat} (I : Inv P ops sl N G e0 W Fr fuel listed V val e F L a w X)
    (hQ : ∀ e' a' L' w', K e' L' → St W w' (L' ++ Fr) → a'.tmps.size = N → a'.defers = [] → (∀ s, (s ∈ G ∨ ∃ j, wr ops.toList 0 s = some j) → a'.tmps.getD s undef = e' s) → (∀ s, wr ops.toList 0 s = none → e' s = e0 s) → Q .normal a' w')
    (hall : ∀ j, j < ops.size → listed.getD j false = true) {plan : Plan} (hp : planOk ops.toList sl (ancGo ops.toList []) plan V [] X = true) (hk : plW P sl plan e F L K) : Q .normal a w := by
  cases plan with
  | done =>
    have hlt : ∀ s j, wr ops.toList 0 s = some j → j < ops.size := fun s j h => by
      obtain ⟨o, _, h2, _⟩ := wr_spec ops.toList 0 s j h
      have := (List.getElem?_eq_some_iff.1 h2).1
      simpa using this
    refine hQ e a (L ++ F) w hk (by rw [List.append_assoc]; exact I.st) I.tmps I.defers (fun s hs => ?_) (fun s hs => ?_)
    · have h1 := I.agree s (hs.imp id fun ⟨j, hj⟩ => ⟨j, hj, hall j (hlt s j hj)⟩)
      rw [h1, I.env]
      unfold envP
      cases hw : wr ops.toList 0 s with
      | none => rfl
      | some j => simp [hall j (hlt s j hw), I.sub j (hall j (hlt s j hw))]
    · rw [I.env]; unfold envP; rw [hs]
  | rd i p =>
    simp only [planOk, Bool.true_and, Bool.and_eq_true, Bool.not_eq_true'] at hp
    obtain ⟨h1, h2⟩ := hp
    cases ho : ops.toList[i]? with
    | none => simp [ho] at h2
    | some o =>
      have hi : i < ops.size := by simpa using (List.getElem?_eq_some_iff.1 ho).1
      rw [I.sub i (hall i hi)] at h1; cases h1
  | eff i whole p alts =>
    simp only [planOk, Bool.and_eq_true, Bool.not_eq_true'] at hp
    obtain ⟨⟨h1, h2⟩, _⟩ := hp
    cases ho : ops.toList[i]? with
    | none => simp [ho] at h2
    | some o =>
      have hi : i < ops.size := by simpa using (List.getElem?_eq_some_iff.1 ho).1
      rw [I.sub i (hall i hi)] at h1; cases h1
  | nomore => simp [planOk] at hp

theorem still_get {e : Env} {F2 : List Chunk} {m : Nat} : ∀ {pend : List Nat}, stillW sl pend e F2 → elemN m pend = true → ∃ sm, sl[m]? = some sm ∧ guardW sm.guard e (rdOp sm.op (ev e) F2 fun v => ∀ d, sm.dst = some d → v = e d) True
  | [], _, h => by cases h
  | r :: rs, ⟨h1, h2⟩, h => by
    rw [elemN_cons] at h
    simp only [Bool.or_eq_true] at h
    rcases h with hb | h
    · have := Nat.eq_of_beq_eq_true hb
      subst this
      cases hs : sl[m]? with
      | none => rw [hs] at h1; exact h1.elim
      | some s => rw [hs] at h1; exact ⟨s, rfl, h1⟩
    · exact still_get h2 h

/-- A reader that has been reckoned reads the same of less. -/
theorem Inv.thaw {fuel : Nat} {listed : Array Bool} {V : List Nat} {val : Nat → Value} {e : Env} {F L : List Chunk} {a : Act} {w : World} {X : List Nat} (I : Inv P ops sl N G e0 W Fr fuel listed V val e F L a w X)
    (hok : opsOk N G ops.toList ops.toList 0 = true) {m : Nat} {om : Oper} {sm : SOpr} (hm : elemN m V = true) (hom : ops.toList[m]? = some om) (hsm : sl[m]? = some sm) (hse : eraseOper P ops.toList om = some sm) (hpk : pendOk ops.toList m = true)
    {F2 F0 : List Chunk} (hst : ∃ sm, sl[m]? = some sm ∧ guardW sm.guard e (rdOp sm.op (ev e) F2 fun v => ∀ d, sm.dst = some d → v = e d) True)
    (h : Stable P ops.toList om sm (envP ops.toList (fun k => elemN k (predsOf om)) val e0) (val m) F0) : Stable P ops.toList om sm (envP ops.toList (fun k => elemN k (predsOf om)) val e0) (val m) F2 := by
  obtain ⟨sm', h1, hst⟩ := hst
  rw [hsm] at h1; cases h1
  have hf : OpFacts N G ops.toList m om := opFacts (by simpa using opsOk_get ops.toList 0 hok m om hom)
  obtain ⟨hsd, hsop, hsg⟩ := eraseOper_spec hse
  have hp := I.closedV m hm om hom
  unfold pendOk at hpk
  rw [hom] at hpk
  simp only [Bool.and_eq_true, List.all_eq_true] at hpk
  have hsame : ∀ x ∈ slotsOf om.op, e x = envP ops.toList (fun k => elemN k (predsOf om)) val e0 x := fun x hx => by
    have := hpk.1 x hx
    rw [I.env]
    unfold envP
    cases hw : wr ops.toList 0 x with
    | none => rfl
    | some j =>
      rw [hw] at this
      simp only at this ⊢
      rw [this, hp j (elemN_iff.1 this)]
  have hgsame : wantedE sm.guard e = wantedE sm.guard (envP ops.toList (fun k => elemN k (predsOf om)) val e0) := by
    cases hgo : om.guard with
    | none => rw [hgo] at hsg; simp only [eraseG, Option.some.injEq] at hsg; rw [← hsg]; rfl
    | some jw =>
      obtain ⟨j', want⟩ := jw
      obtain ⟨hj'p, pp, d', hpp, hd', hw'⟩ := hf.guard j' want hgo
      rw [hgo] at hsg
      simp only [eraseG, hpp, hd', Option.some.injEq] at hsg
      rw [← hsg]
      have : e d' = envP ops.toList (fun k => elemN k (predsOf om)) val e0 d' := by
        rw [I.env]; unfold envP; rw [hw']; simp [hp j' hj'p, elemN_iff.2 hj'p]
      simp only [wantedE, this]
  rcases h with ⟨hw1, _⟩ | h
  · refine .inl ⟨hw1, fun a' ha' => ?_⟩
    rcases guardW_cases hst with ⟨_, hA⟩ | ⟨hw2, _⟩
    · obtain ⟨v, hkv, hrv⟩ := rd_sound (P := P) (ρ := fun x => ev e (opdOf x)) hsop (fun _ _ => rfl) (fun _ => rfl) hA
      have hv : v = val m := by
        cases hd : om.dst with
        | none => rw [hd] at hpk; simp at hpk
        | some d =>
          rw [hkv d (by rw [hsd, hd]), I.env]
          unfold envP
          rw [hf.dst d hd]
          simp [hm]
      subst hv
      intro W' w' dst ty pos after g hst'
      have := hrv W' w' dst ty pos after g hst'
      rw [← this]
      have hc : execOp a'.eval { dst, op := om.op, type := ty, pos, after, guard := g } = execOp (fun x => ev e (opdOf x)) { dst, op := om.op, type := ty, pos, after, guard := g } := by
        refine execOp_congr _ (fun cs b h => ?_) (fun x hx => ?_)
        · have h' : om.op = .select cs b := h
          rw [h'] at hsop; simp [eraseOp] at hsop
        · exact eval_of_slots (op := om.op) (fun s hs => (ha' s hs).trans (hsame s hs).symm) x hx
      rw [hc]
    · rw [hgsame, hw1] at hw2; cases hw2
  · exact .inr h

theorem draw_sound (hsl : eraseOps P ops.toList ops.toList = some sl) (hok : opsOk N G ops.toList ops.toList 0 = true)
    (hQ : ∀ e' a' L' w', K e' L' → St W w' (L' ++ Fr) → a'.tmps.size = N → a'.defers = [] → (∀ s, (s ∈ G ∨ ∃ j, wr ops.toList 0 s = some j) → a'.tmps.getD s undef = e' s) → (∀ s, wr ops.toList 0 s = none → e' s = e0 s) → Q .normal a' w') :
    ∀ (fuel : Nat) (listed : Array Bool) (V : List Nat) (val : Nat → Value) (e : Env) (F L : List Chunk) (a : Act) (w : World) (plan : Plan) (X : List Nat),
      Inv P ops sl N G e0 W Fr fuel listed V val e F L a w X → planOk ops.toList sl (ancGo ops.toList []) plan V [] X = true → plW P sl plan e F L K → wpAny P .any ops Q fuel listed a w := by
  have facts : ∀ (i : Nat) (o : Oper), ops.toList[i]? = some o → OpFacts N G ops.toList i o := fun i o ho => opFacts (by simpa using opsOk_get ops.toList 0 hok i o ho)
  have later : ∀ (i j : Nat) (o o' : Oper), ops.toList[i]? = some o → ops.toList[j]? = some o' → i ∈ predsOf o' → elemN j (predsOf o) = false := fun i j o o' ho ho' hi => by
    cases h : elemN j (predsOf o) with
    | false => rfl
    | true => have h1 := (facts i o ho).preds j (elemN_iff.1 h); have h2 := (facts j o' ho').preds i hi; omega
  obtain ⟨hsll, hslg⟩ := eraseOps_get ops.toList sl hsl
  intro fuel
  induction fuel with
  | zero =>
    intro listed V val e F L a w plan X I hp hk
    have hall : ∀ j, j < ops.size → listed.getD j false = true := fun j hj => by
      obtain ⟨U, hU, hm⟩ := I.todo
      cases h : listed.getD j false with
      | true => rfl
      | false => have := hm j hj h; rw [List.length_eq_zero_iff.1 (Nat.le_zero.1 hU)] at this; cases this
    refine ⟨?_, I.end_ hQ hall hp hk⟩
    apply List.eq_nil_iff_forall_not_mem.2
    intro i hi
    obtain ⟨o, _, h2, h3, _⟩ := ready_spec I.size hi
    rw [hall i h2] at h3; cases h3
  | succ fuel ih =>
    intro listed V val e F L a w plan X I hp hk
    refine ⟨fun hr => I.end_ hQ (ready_nil hok I.size hr) hp hk, fun i hi => ?_⟩
    obtain ⟨o, ho, hin, hli, hrp⟩ := ready_spec I.size hi
    have hf := facts i o ho
    obtain ⟨s, hs, hse⟩ := hslg i o ho
    obtain ⟨hsd, hsop, hsg⟩ := eraseOper_spec hse
    have hil : i < listed.size := I.size ▸ hin
    have hoA : ops[i]? = some o := by simpa using ho
    -- a reader that has been reckoned is run
    have run_stable : ∀ (V : List Nat) (val : Nat → Value) (e : Env) (F L : List Chunk) (plan : Plan) (X : List Nat), Inv P ops sl N G e0 W Fr (fuel + 1) listed V val e F L a w X → planOk ops.toList sl (ancGo ops.toList []) plan V [] X = true →
        plW P sl plan e F L K → elemN i V = true → wpOp P ops Q i (wpAny P .any ops Q fuel (listed.setIfInBounds i true)) a w := by
      intro V val e F L plan X I hp hk hiV
      obtain ⟨o', s', ho', hs', hst⟩ := I.stable i hiV hli
      rw [ho] at ho'; cases ho'
      rw [hs] at hs'; cases hs'
      have hsl' := I.slots hf hli hrp (q := fun k => elemN k (predsOf o)) (fun k hk => elemN_iff.2 hk) (fun j o' ho' hi' => later i j o o' ho ho' hi')
      have hgs := guard_slot hok I hf hrp (q := fun k => elemN k (predsOf o)) (fun k hk => elemN_iff.2 hk) hsg
      have hwe := wanted_eq (ops := ops) rfl hsg hgs
      have hval : (fun j => bif Nat.beq j i then val i else val j) = val := by
        funext j
        cases hb : Nat.beq j i with
        | false => rfl
        | true => rw [Nat.eq_of_beq_eq_true hb]; rfl
      have I' : ∀ v, v = val i → Inv P ops sl N G e0 W Fr fuel (listed.setIfInBounds i true) V val e F L (a.put o.dst v) w X := by
        rintro v rfl
        obtain ⟨h1, h2⟩ := put_tmps I.tmps I.defers o.dst (val i)
        refine ⟨fun j hj => by rw [getD_set hil, I.exec j hj, Bool.or_true], by simp [I.size], todo_step hil hin hli I.todo, fun j hj => ?_, closedD_step ho hil hrp I.closedD, I.closedV, I.env, h1, h2, ?_, fun j hj hlj => ?_, I.st⟩
        · rw [getD_set hil] at hj
          simp only [Bool.or_eq_true] at hj
          rcases hj with hb | hj
          · rw [Nat.eq_of_beq_eq_true hb]; exact hiV
          · exact I.sub j hj
        · have := agree_put hf ho I.tmps hil hli (val i) I.agree
          rw [hval] at this
          exact this
        · rw [getD_set hil] at hlj
          simp only [Bool.or_eq_false_iff] at hlj
          exact I.stable j hj hlj.2
      unfold wpOp
      rw [hoA]
      simp only
      rcases hst with ⟨hw1, hr1⟩ | ⟨hw1, hv1⟩
      · rw [if_pos (by rw [hwe]; exact hw1)]
        left
        have hstF : St W w (bif heapRd s.op then F else []) := by
          cases heapRd s.op
          · exact ⟨I.st.quiet, trivial⟩
          · have h0 : St W w (L ++ F ++ Fr) := by rw [List.append_assoc]; exact I.st
            exact (St.perm (List.perm_append_comm) h0.left).left
        have hrun := hr1 a hsl' W w o.dst o.type o.pos o.after o.guard hstF
        unfold Oper.wp
        rw [show (execOp a.eval o).run P w = _ from hrun]
        exact ih _ _ _ _ _ _ _ _ plan X (I' _ rfl) hp hk
      · rw [if_neg (by rw [hwe, hw1]; simp)]
        exact ih _ _ _ _ _ _ _ _ plan X (I' _ hv1.symm) hp hk
    -- the plan is gone on with, up to the operation
    have go : ∀ (plan : Plan) (V seen : List Nat) (val : Nat → Value) (e : Env) (F L : List Chunk) (X : List Nat), Inv P ops sl N G e0 W Fr (fuel + 1) listed V val e F L a w X →
        planOk ops.toList sl (ancGo ops.toList []) plan V seen X = true → plW P sl plan e F L K → elemN i V = false → elemN i seen = false → wpOp P ops Q i (wpAny P .any ops Q fuel (listed.setIfInBounds i true)) a w := by
      intro plan
      induction plan with
      | done =>
        intro V seen val e F L X I hp hk hiV his
        simp only [planOk, Bool.and_eq_true, List.all_eq_true, List.mem_range] at hp
        have := hp.2 i (by simpa using hin)
        rw [hiV] at this; cases this
      | nomore =>
        intro V seen val e F L X I hp hk hiV his
        simp only [planOk, Bool.and_eq_true, List.all_eq_true, List.mem_range] at hp
        have := hp.2 i (by simpa using hin)
        rw [hiV, his, ho] at this
        simp only [Bool.false_or, Bool.not_eq_true'] at this
        exfalso
        have hcl : (predsOf o).all (fun e => elemN e V) = true := List.all_eq_true.2 fun k hk => I.sub k (hrp k hk)
        rw [hcl] at this; cases this
      | rd j p ihp =>
        intro V seen val e F L X I hp hk hiV his
        simp only [planOk, Bool.and_eq_true, Bool.not_eq_true'] at hp
        obtain ⟨⟨hse0, hjV⟩, hp2⟩ := hp
        cases hoj : ops.toList[j]? with
        | none => simp [hoj] at hp2
        | some oj =>
          simp only [hoj, Bool.and_eq_true, List.all_eq_true] at hp2
          obtain ⟨hpj, hp3⟩ := hp2
          have hfj := facts j oj hoj
          obtain ⟨sj, hsj, hsje⟩ := hslg j oj hoj
          obtain ⟨hsjd, hsjop, hsjg⟩ := eraseOper_spec hsje
          have hjl : listed.getD j false = false := by
            cases h : listed.getD j false with
            | false => rfl
            | true => rw [I.sub j h] at hjV; cases hjV
          simp only [plW, hsj] at hk
          -- its operands and its guard, now and when it is run
          have hpreds : envP ops.toList (fun k => elemN k (predsOf oj)) val e0 = envP ops.toList (fun k => elemN k (predsOf oj)) val e0 := rfl
          have hsame : ∀ x ∈ slotsOf oj.op, e x = envP ops.toList (fun k => elemN k (predsOf oj)) val e0 x := by
            rw [I.env]
            refine envP_slots hfj hpj (fun k hk => elemN_iff.2 hk) (fun m o' ho' hm => ?_) (fun m o' ho' hm => later j m oj o' hoj ho' hm)
            cases h : elemN m V with
            | false => rfl
            | true => have := I.closedV m h o' ho' j hm; rw [hjV] at this; cases this
          have hgsame : wantedE sj.guard e = wantedE sj.guard (envP ops.toList (fun k => elemN k (predsOf oj)) val e0) := by
            cases hgo : oj.guard with
            | none => rw [hgo] at hsjg; simp only [eraseG, Option.some.injEq] at hsjg; rw [← hsjg]; rfl
            | some jw =>
              obtain ⟨j', want⟩ := jw
              obtain ⟨hj'p, pp, d', hpp, hd', hw'⟩ := hfj.guard j' want hgo
              rw [hgo] at hsjg
              simp only [eraseG, hpp, hd', Option.some.injEq] at hsjg
              rw [← hsjg]
              have : e d' = envP ops.toList (fun k => elemN k (predsOf oj)) val e0 d' := by
                rw [I.env]; unfold envP; rw [hw']; simp [hpj j' hj'p, elemN_iff.2 hj'p]
              simp only [wantedE, this]
          have hself : j ∉ predsOf oj := fun h => by have := hfj.preds j h; omega
          -- the state behind the reckoning
          have virt : ∀ v, Stable P ops.toList oj sj (envP ops.toList (fun k => elemN k (predsOf oj)) val e0) v (bif heapRd sj.op then F else []) →
              Inv P ops sl N G e0 W Fr (fuel + 1) listed (j :: V) (fun m => bif Nat.beq m j then v else val m) (updO e sj.dst v) F L a w X := by
            intro v hv
            refine ⟨I.exec, I.size, I.todo, fun m hm => by rw [elemN_cons, I.sub m hm]; simp, I.closedD, fun m hm o' ho' k hk => ?_, ?_, I.tmps, I.defers, fun x hx => ?_, fun m hm hlm => ?_, I.st⟩
            · rw [elemN_cons] at hm ⊢
              simp only [Bool.or_eq_true] at hm ⊢
              right
              rcases hm with hb | hm
              · have := Nat.eq_of_beq_eq_true hb; subst this
                rw [hoj] at ho'; cases ho'
                exact hpj k hk
              · exact I.closedV m hm o' ho' k hk
            · rw [hsjd, I.env]
              have := envP_upd (e0 := e0) (val := val) (p := fun m => elemN m V) hfj hoj hjV v
              rw [← this]
              rfl
            · rw [envP_listed (p := fun m => listed.getD m false) hjl]; exact I.agree x hx
            · rw [elemN_cons] at hm
              cases hb : Nat.beq m j with
              | true =>
                have := Nat.eq_of_beq_eq_true hb; subst this
                refine ⟨oj, sj, hoj, hsj, ?_⟩
                simp only [cond_true]
                exact hv.congr (envP_preds hself v val).symm rfl
              | false =>
                rw [hb, Bool.false_or] at hm
                obtain ⟨om, sm, h1, h2, h3⟩ := I.stable m hm hlm
                refine ⟨om, sm, h1, h2, ?_⟩
                simp only [cond_false]
                refine h3.congr (envP_preds (fun hjm => ?_) v val).symm rfl
                have := I.closedV m hm om h1 j hjm
                rw [hjV] at this; cases this
          have cont : ∀ v, Stable P ops.toList oj sj (envP ops.toList (fun k => elemN k (predsOf oj)) val e0) v (bif heapRd sj.op then F else []) → plW P sl p (updO e sj.dst v) F L K →
              wpOp P ops Q i (wpAny P .any ops Q fuel (listed.setIfInBounds i true)) a w := by
            intro v hv hk'
            have I' := virt v hv
            cases hij : elemN i (j :: V) with
            | true => exact run_stable _ _ _ _ _ p X I' hp3 hk' hij
            | false => exact ihp (j :: V) [] _ _ F L X I' hp3 hk' hij rfl
          rcases guardW_cases hk with ⟨hw1, hA⟩ | ⟨hw1, hB⟩
          · have hwF : St W w F := by
              have h0 : St W w (L ++ F ++ Fr) := by rw [List.append_assoc]; exact I.st
              exact (St.perm (List.perm_append_comm) h0.left).left
            have hA' : rdOp sj.op (ev e) (bif heapRd sj.op then F else []) fun v => plW P sl p (updO e sj.dst v) F L K := by
              cases hh : heapRd sj.op with
              | true => exact hA
              | false => exact rdOp_free hh hwF hA
            -- its value hangs on nothing of the run
            obtain ⟨v, hkv, hrv⟩ := rd_sound (P := P) (ρ := fun x => ev e (opdOf x)) hsjop (fun _ _ => rfl) (fun _ => rfl) hA'
            refine cont v (.inl ⟨hgsame ▸ hw1, fun a' ha' => ?_⟩) hkv
            intro W' w' dst ty pos after g hst'
            have := hrv W' w' dst ty pos after g hst'
            rw [← this]
            have hc : execOp a'.eval { dst, op := oj.op, type := ty, pos, after, guard := g } = execOp (fun x => ev e (opdOf x)) { dst, op := oj.op, type := ty, pos, after, guard := g } := by
              refine execOp_congr _ (fun cs b h => ?_) (fun x hx => ?_)
              · have h' : oj.op = .select cs b := h
                rw [h'] at hsjop; simp [eraseOp] at hsjop
              · exact eval_of_slots (op := oj.op) (fun s hs => (ha' s hs).trans (hsame s hs).symm) x hx
            rw [hc]
          · exact cont undef (.inr ⟨hgsame ▸ hw1, rfl⟩) hB
      | eff j pend p alts ihp iha =>
        intro V seen val e F L X I hp hk hiV his
        simp only [planOk, Bool.and_eq_true, Bool.not_eq_true'] at hp
        obtain ⟨⟨hjV, hp2⟩, hpa⟩ := hp
        simp only [plW] at hk
        obtain ⟨hk1, hka⟩ := hk
        by_cases hji : j = i
        · subst hji
          simp only [ho, Bool.and_eq_true, List.all_eq_true] at hp2
          obtain ⟨⟨hpj, hcov⟩, hp3⟩ := hp2
          simp only [hs] at hk1
          have hag : ∀ x ∈ o.op.operands, a.eval x = ev e (opdOf x) := by
            refine eval_of_slots fun x hx => ?_
            rw [I.env]
            refine I.slots hf hli hrp (q := fun m => elemN m V) hpj (fun m o' ho' hm => ?_) x hx
            cases h : elemN m V with
            | false => rfl
            | true => have := I.closedV m h o' ho' j hm; rw [hjV] at this; cases this
          have hgs : ∀ d w, s.guard = some (d, w) → a.tmps[d]? = some (e d) := by
            rw [I.env]; exact guard_slot hok I hf hrp (q := fun m => elemN m V) hpj hsg
          have hwe := wanted_eq (ops := ops) rfl hsg hgs
          -- behind it
          have next : ∀ (F' : List Chunk) (L' : List Chunk) (v : Value) (w' : World), (∀ m, elemN m V = true → listed.getD m false = false → ∀ om sm, ops.toList[m]? = some om → sl[m]? = some sm → heapRd sm.op = true → Stable P ops.toList om sm (envP ops.toList (fun k => elemN k (predsOf om)) val e0) (val m) F → Stable P ops.toList om sm (envP ops.toList (fun k => elemN k (predsOf om)) val e0) (val m) F') → St W w' (L' ++ (F' ++ Fr)) →
              plW P sl p (updO e s.dst v) F' L' K → wpAny P .any ops Q fuel (listed.setIfInBounds j true) (a.put o.dst v) w' := by
            intro F' L' v w' hF' hst' hk'
            obtain ⟨h1, h2⟩ := put_tmps I.tmps I.defers o.dst v
            refine ih (listed.setIfInBounds j true) (j :: V) (fun m => bif Nat.beq m j then v else val m) (updO e s.dst v) F' L' (a.put o.dst v) w' p (j :: X) ?_ hp3 hk'
            refine ⟨fun m hm => by
              rw [getD_set hil]
              rw [elemN_cons] at hm
              simp only [Bool.or_eq_true] at hm ⊢
              exact hm.imp id (I.exec m), by simp [I.size], todo_step hil hin hli I.todo, fun m hm => ?_, closedD_step ho hil hrp I.closedD, fun m hm o' ho' k hk => ?_, ?_, h1, h2, agree_put hf ho I.tmps hil hli v I.agree, fun m hm hlm => ?_, hst'⟩
            · rw [getD_set hil] at hm
              rw [elemN_cons]
              simp only [Bool.or_eq_true] at hm ⊢
              exact hm.imp id (I.sub m)
            · rw [elemN_cons] at hm ⊢
              simp only [Bool.or_eq_true] at hm ⊢
              right
              rcases hm with hb | hm
              · have := Nat.eq_of_beq_eq_true hb; subst this
                rw [ho] at ho'; cases ho'
                exact hpj k hk
              · exact I.closedV m hm o' ho' k hk
            · rw [hsd, I.env]
              have := envP_upd (e0 := e0) (val := val) (p := fun m => elemN m V) hf ho hjV v
              rw [← this]
              rfl
            · rw [getD_set hil] at hlm
              simp only [Bool.or_eq_false_iff] at hlm
              rw [elemN_cons, hlm.1, Bool.false_or] at hm
              obtain ⟨om, sm, g1, g2, g3⟩ := I.stable m hm hlm.2
              refine ⟨om, sm, g1, g2, ?_⟩
              simp only [hlm.1, cond_false]
              have g4 : Stable P ops.toList om sm (envP ops.toList (fun k => elemN k (predsOf om)) val e0) (val m) (bif heapRd sm.op then F' else []) := by
                cases hh : heapRd sm.op with
                | false => rw [hh] at g3; exact g3
                | true => rw [hh] at g3; exact hF' m hm hlm.2 om sm g1 g2 hh g3
              refine g4.congr (envP_preds (fun hjm => ?_) v val).symm rfl
              have := I.closedV m hm om g1 j hjm
              rw [hjV] at this; cases this
          unfold wpOp
          rw [hoA]
          simp only
          rcases guardW_cases hk1 with ⟨hw1, hA⟩ | ⟨hw1, hB⟩
          · rw [if_pos (by rw [hwe]; exact hw1)]
            left
            -- a pending reader of memory lies ahead of this one, or of what has been done
            have cov : ∀ m, listed.getD m false = false → covOk (ancGo ops.toList []) j X m = true → False := by
              intro m hlm hc
              unfold covOk at hc
              simp only [Bool.or_eq_true, List.any_eq_true] at hc
              rcases hc with hc | ⟨x, hx, hc⟩
              · cases hanc : (ancGo ops.toList [])[j]? with
                | none => simp [hanc] at hc
                | some mk =>
                  simp only [hanc] at hc
                  have := anc_closed (D := fun k => listed.getD k false = true) I.closedD j o ho hrp mk hanc m hc
                  rw [hlm] at this; cases this
              · have hlx := I.exec x (elemN_iff.2 hx)
                rcases hc with hb | hc
                · rw [Nat.eq_of_beq_eq_true hb, hlx] at hlm; cases hlm
                · cases hanc : (ancGo ops.toList [])[x]? with
                  | none => simp [hanc] at hc
                  | some mk =>
                    simp only [hanc] at hc
                    cases hox : ops.toList[x]? with
                    | none =>
                      have hxs : x < ops.size := by
                        refine Decidable.byContradiction fun n => ?_
                        rw [Array.getD_eq_getD_getElem?, Array.getElem?_eq_none (by rw [I.size]; omega)] at hlx
                        cases hlx
                      rw [List.getElem?_eq_none_iff] at hox
                      simp at hox; omega
                    | some ox =>
                      have := anc_closed (D := fun k => listed.getD k false = true) I.closedD x ox hox (I.closedD x hlx ox hox) mk hanc m hc
                      rw [hlm] at this; cases this
            cases pend with
            | nil =>
              simp only at hA
              have h0 : St W w ((L ++ F) ++ Fr) := by rw [List.append_assoc]; exact I.st
              have := op_sound hsop hag (fun _ => rfl) hA Fr W w o.dst o.type o.pos o.after o.guard h0
              refine uponW_sound this fun v w' ⟨L', q1, q2⟩ => next L' [] v w' (fun m hm hlm om sm hom hsm hh _ => ?_) (by simpa using q1) q2
              exfalso
              have := hcov m (elemN_iff.1 hm)
              simp only [hsm, hh, Bool.not_true, Bool.false_or, elemN, Bool.false_and, Bool.or_false] at this
              exact cov m hlm this
            | cons q qs =>
              rcases hA with hA | hA
              · have := op_sound hsop hag (fun _ => rfl) hA (F ++ Fr) W w o.dst o.type o.pos o.after o.guard I.st
                exact uponW_sound this fun v w' ⟨L', q1, q2⟩ => next F L' v w' (fun _ _ _ _ _ _ _ _ h => h) q1 q2
              obtain ⟨F1, F2, hperm, hstill, hA⟩ := hA
              have h0 : St W w ((L ++ F1) ++ (F2 ++ Fr)) := by
                obtain ⟨_, _, d1, la1, lb1, HL, HF⟩ := I.st.holds.split
                obtain ⟨_, _, d2, la2, lb2, HF, HR⟩ := HF.split
                have hh := Holds.append d1 la1 lb1 HL (Holds.append d2 la2 lb2 (hperm _ HF) HR)
                refine ⟨I.st.quiet, ?_⟩
                rw [List.append_assoc] at hh ⊢
                exact hh
              have := op_sound hsop hag (fun _ => rfl) hA (F2 ++ Fr) W w o.dst o.type o.pos o.after o.guard h0
              refine uponW_sound this fun v w' ⟨L', q1, q2⟩ => next F2 L' v w' (fun m hm hlm om sm hom hsm hh hst => ?_) q1 q2
              have := hcov m (elemN_iff.1 hm)
              simp only [hsm, hh, Bool.not_true, Bool.false_or, Bool.or_eq_true, Bool.and_eq_true] at this
              rcases this with hc | ⟨hpm, hpk⟩
              · exact (cov m hlm hc).elim
              · exact I.thaw hok hm hom hsm (by obtain ⟨s', h1, h2⟩ := hslg m om hom; rw [hsm] at h1; cases h1; exact h2) hpk (still_get hstill hpm) hst
          · rw [if_neg (by rw [hwe, hw1]; simp)]
            exact next F L undef w (fun _ _ _ _ _ _ _ _ h => h) I.st hB
        · have hne : elemN i (j :: seen) = false := by
            rw [elemN_cons, his]
            have : Nat.beq i j = false := by
              cases hb : Nat.beq i j with
              | false => rfl
              | true => exact absurd (Nat.eq_of_beq_eq_true hb).symm hji
            simp [this]
          exact iha V (j :: seen) val e F L X I hpa hka hiV hne
    cases hiV : elemN i V with
    | true => exact run_stable V val e F L plan X I hp hk hiV
    | false => exact go plan V [] val e F L X I hp hk hiV rfl

end
end Go.SL
