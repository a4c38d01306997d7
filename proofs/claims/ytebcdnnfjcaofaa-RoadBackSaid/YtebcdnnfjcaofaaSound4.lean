/- A part of the proofs' own ground: each operation of the small code is what the model's operation does (readers, then all). -/
import Derived.Test.YtebcdnnfjcaofaaSound3
namespace Go.SL

section
variable {P : Program} {ρ : Operand → Value} {ev : Opd → Value} {L : List Chunk} {K : Value → Prop}

theorem map_congr_ops {as : Array Operand} (h : ∀ x ∈ as, ρ x = ev (opdOf x)) : as.map ρ = ((as.toList.map opdOf).map ev).toArray := by
  apply Array.toList_inj.1
  simp only [Array.toList_map, List.map_map]
  exact List.map_congr_left fun x hx => h x (Array.mem_toList_iff.1 hx)

theorem opt_congr {o : Option Operand} (h : ∀ x, o = some x → ρ x = ev (opdOf x)) : o.map ρ = (o.map opdOf).map ev := by
  cases o with
  | none => rfl
  | some x => simp [h x rfl]

theorem rd_sound {op : Op} {s : SOp} (he : eraseOp P op = some s) (hag : ∀ x ∈ op.operands, ρ x = ev (opdOf x)) (hk0 : ∀ v, ev (.k v) = v) (h : rdOp s ev L K) :
    ∃ v, K v ∧ readsV P ρ op v L := by
  cases op
  case binOp op t x y yt => exact rd_bin he (hag x (by simp [Op.operands])) (hag y (by simp [Op.operands])) hk0 h
  case move x =>
    cases he
    exact ⟨_, h, fun W w dst ty pos after g hw => by simp [execOp, hag x (by simp [Op.operands])]⟩
  case assign x =>
    cases he
    exact ⟨_, h, fun W w dst ty pos after g hw => by simp [execOp, hag x (by simp [Op.operands])]⟩
  case pick c a b =>
    cases he
    obtain ⟨v, hv, hk⟩ := optW_spec h
    refine ⟨v, hk, fun W w dst ty pos after g hw => ?_⟩
    simp only [execOp, hag c (by simp [Op.operands]), hag a (by simp [Op.operands]), hag b (by simp [Op.operands])]
    cases hc : ev (opdOf c) <;> simp only [hc, pickV] at hv <;> try (cases hv; done)
    rename_i t
    cases hv
    cases t <;> simp [asBool]
  case unOp op t x =>
    cases he
    obtain ⟨v, hv, hk⟩ := optW_spec h
    refine ⟨v, hk, readsV_of _ (fun _ _ _ _ _ => rfl) fun W w hw => ?_⟩
    rw [hag x (by simp [Op.operands])]
    cases op <;> cases hx : ev (opdOf x) <;> simp only [hx, unV] at hv <;> try (cases hv; done)
    all_goals (cases hv; simp [Op.unary, Op.intArith])
  case convert src dst x =>
    simp only [eraseOp] at he
    split at he
    · rename_i k1 k hs hd
      cases he
      obtain ⟨v, hv, hk⟩ := optW_spec h
      refine ⟨v, hk, readsV_of _ (fun _ _ _ _ _ => rfl) fun W w hw => ?_⟩
      rw [hag x (by simp [Op.operands])]
      cases hx : ev (opdOf x) <;> simp only [hx, convV] at hv <;> try (cases hv; done)
      cases hv
      simp [convert, run_underlying hs, run_underlying hd, Conv.intToInt]
    · rename_i e hs hd
      split at he
      · rename_i hu8
        cases he
        obtain ⟨v, hv, hk⟩ := h
        refine ⟨v, hk, readsV_of _ (fun _ _ _ _ _ => rfl) fun W w hw => ?_⟩
        rw [hag x (by simp [Op.operands])]
        exact hv P src e dst (unS_of hs) (unS_of hu8) (unS_of hd) W w hw
      · cases he
    · cases he
  case load t a =>
    simp only [eraseOp] at he
    cases hn : aggN P t with
    | none => simp [hn] at he
    | some n =>
      simp [hn] at he; subst he
      obtain ⟨v, hv, hk⟩ := h
      refine ⟨v, hk, readsV_of _ (fun _ _ _ _ _ => rfl) fun W w hw => ?_⟩
      rw [hag a (by simp [Op.operands])]
      exact hv P t (ldS_of hn) W w hw
  case fieldAddr sT x f =>
    simp only [eraseOp] at he
    split at he
    · rename_i fs hu
      split at he
      · rename_i fd hf
        split at he
        · rename_i n hn
          split at he
          · cases he
          · rename_i hn0
            cases he
            obtain ⟨hp, hk⟩ := h
            refine ⟨_, hk, readsV_of _ (fun _ _ _ _ _ => rfl) fun W w hw => ?_⟩
            rw [hag x (by simp [Op.operands])]
            obtain ⟨a, ha⟩ := hp W w hw
            have hn1 : n ≠ 0 := fun e => hn0 (by subst e; rfl)
            simp [Instr.fieldAt, run_underlying hu, hf, ha, Instr.sureAddr, fieldPlace, run_sizeOf' hn w, hn1, addP]
        · cases he
      · cases he
    · cases he
  case field t x f =>
    simp only [eraseOp] at he
    split at he
    · rename_i fs hu
      split at he
      · rename_i fd hf
        cases hn : aggN P fd.type with
        | none => simp [hn] at he
        | some n =>
          simp [hn] at he; subst he
          obtain ⟨v, hv, hk⟩ := optW_spec h
          refine ⟨v, hk, readsV_of _ (fun _ _ _ _ _ => rfl) fun W w hw => ?_⟩
          rw [hag x (by simp [Op.operands])]
          cases hx : ev (opdOf x) <;> simp only [hx, partV] at hv <;> try (cases hv; done)
          rename_i cs
          have hl := ldS_of hn
          cases n with
          | none =>
            simp only at hv
            have : cs[fd.offset]? = some v := by simpa using hv
            simp [Instr.field, run_underlying hu, hf, asAgg, part, hl w, this]
          | some k =>
            simp only [Option.some.injEq] at hv; subst hv
            simp [Instr.field, run_underlying hu, hf, asAgg, part, (hl w).1, (hl w).2]
            apply Array.toList_inj.1
            simp [Array.toList_extract, List.extract_eq_take_drop]
      · cases he
    · cases he
  case index t x i =>
    simp only [eraseOp] at he
    split at he
    · rename_i len e hu
      split at he
      · rename_i k g hsz hg
        cases he
        obtain ⟨v, hv, hk⟩ := optW_spec h
        refine ⟨v, hk, readsV_of _ (fun _ _ _ _ _ => rfl) fun W w hw => ?_⟩
        rw [hag x (by simp [Op.operands]), hag i (by simp [Op.operands])]
        cases hi : ev (opdOf i) <;> simp only [hi, aixV] at hv <;> try (cases hv; done)
        rename_i ck n
        split at hv
        · rename_i hb
          cases hx : ev (opdOf x) <;> simp only [hx, partV] at hv <;> try (cases hv; done)
          rename_i cs
          have hl := ldS_of hg
          cases g with
          | none =>
            simp only at hv
            have hv' : cs[n.toNat * k]? = some v := by simpa using hv
            simp [Instr.index, asIntOf, run_underlying hu, hb, run_sizeOf' hsz w, part, hl w, hv']
          | some k' =>
            simp only [Option.some.injEq] at hv; subst hv
            have hkk : k = k' := by
              have h1 := (run_sizeOf' hsz w).symm.trans (hl w).2
              injection h1
            subst hkk
            simp [Instr.index, asIntOf, run_underlying hu, hb, run_sizeOf' hsz w, part, (hl w).1]
            apply Array.toList_inj.1
            simp [Array.toList_extract, List.extract_eq_take_drop]
        · cases hv
      · cases he
    · cases he
  case indexAddr t x i =>
    simp only [eraseOp] at he
    split at he
    · rename_i e hu
      cases hn : sizeOfT P e with
      | none => simp [hn] at he
      | some k =>
        simp [hn] at he; subst he
        obtain ⟨v, hv, hk⟩ := h
        refine ⟨v, hk, readsV_of _ (fun _ _ _ _ _ => rfl) fun W w hw => ?_⟩
        rw [hag x (by simp [Op.operands]), hag i (by simp [Op.operands])]
        exact hv P t e (unS_of hu) (run_sizeOf' hn) W w hw
    · cases he
  case build t parts =>
    simp only [eraseOp] at he
    split at he
    · rename_i fs z hu hz
      cases hpl : placesOf P fs.toList with
      | none => simp [hpl] at he
      | some pl =>
        cases hps : partsOf pl parts.toList with
        | none => simp [hpl, hps] at he
        | some ps =>
          simp [hpl, hps] at he; subst he
          obtain ⟨v, hv, hk⟩ := optW_spec h
          refine ⟨v, hk, readsV_of _ (fun _ _ _ _ _ => rfl) fun W w hw => ?_⟩
          cases hf : fillV ev z ps with
          | none => simp [hf] at hv
          | some cs =>
            simp [hf] at hv; subst hv
            obtain ⟨zv, rfl, hzv⟩ := zeroS_of hz
            obtain ⟨hlen, hall⟩ := partsOf_spec pl ρ ev parts.toList ps hps (fun p hp => hag p.2 (by simp [Op.operands]; exact ⟨p.1, by simpa using hp⟩))
            have hmap : (parts.map fun (x : Nat × Operand) => (x.1, ρ x.2)).toList = parts.toList.map fun x => (x.1, ρ x.2) := by simp
            have hfill := fill_sound ev (fun i => pl.toArray[i]?) (parts.toList.map fun x => (x.1, ρ x.2)) ps zv.cells.toList cs (by simpa using hlen) (fun i hi => by
              obtain ⟨p, q, a, b, c, d⟩ := hall i (by simpa using hi)
              exact ⟨(p.1, ρ p.2), q, by simp [a], b, by simpa using c, d⟩) hf
            have hpr' : (fs.mapM (fun f => do pure (f.offset, ← sizeOf f.type) : Field → Sem (Nat × Nat))).run P w = .ok pl.toArray w := by
              rw [Array.mapM_eq_mapM_toList, Sem.run_map, run_places hpl w]; rfl
            unfold Instr.build
            simp only [Sem.run_bind, hzv w, Result.andThen_ok, run_underlying hu, hpr', hmap]
            rw [show (Instr.fill (fun x => pl.toArray[x]?) zv.cells (parts.toList.map fun x => (x.1, ρ x.2))) = some cs.toArray from hfill]
            rfl
    · rename_i n e z hu hz
      cases hsz : sizeOfT P e with
      | none => simp [hsz] at he
      | some k =>
        simp [hsz] at he; subst he
        obtain ⟨v, hv, hk⟩ := optW_spec h
        refine ⟨v, hk, readsV_of _ (fun _ _ _ _ _ => rfl) fun W w hw => ?_⟩
        generalize hps : (parts.toList.map fun p => (p.1 * k, k, opdOf p.2)) = ps at hv
        cases hf : fillV ev z ps with
        | none => simp [hf] at hv
        | some cs =>
          simp [hf] at hv; subst hv
          obtain ⟨zv, rfl, hzv⟩ := zeroS_of hz
          have hmap : (parts.map fun (x : Nat × Operand) => (x.1, ρ x.2)).toList = parts.toList.map fun x => (x.1, ρ x.2) := by simp
          have hfill := fill_sound ev (fun i => some (i * k, k)) (parts.toList.map fun x => (x.1, ρ x.2)) ps zv.cells.toList cs (by simp [← hps]) (fun i hi => by
            have hi' : i < parts.toList.length := by simpa using hi
            refine ⟨(parts.toList[i].1, ρ parts.toList[i].2), (parts.toList[i].1 * k, k, opdOf parts.toList[i].2), by rw [List.getElem?_map, List.getElem?_eq_getElem hi']; rfl, by rw [← hps, List.getElem?_map, List.getElem?_eq_getElem hi']; rfl, rfl, ?_⟩
            have hm : parts.toList[i] ∈ parts.toList := List.getElem_mem hi'
            exact hag _ (by simp only [Op.operands, Array.mem_def]; exact List.mem_map_of_mem hm)) hf
          unfold Instr.build
          simp only [Sem.run_bind, hzv w, Result.andThen_ok, run_underlying hu, run_sizeOf' hsz w, hmap]
          rw [show (Instr.fill (fun i => some (i * k, k)) zv.cells (parts.toList.map fun x => (x.1, ρ x.2))) = some cs.toArray from hfill]
          rfl
    · cases he
  case slice t x lo hi mx =>
    simp only [eraseOp] at he
    split at he
    · rename_i e hu
      cases hn : sizeOfT P e with
      | none => simp [hn] at he
      | some k =>
        simp [hn] at he; subst he
        obtain ⟨v, hv, hk⟩ := h
        refine ⟨v, hk, readsV_of _ (fun _ _ _ _ _ => rfl) fun W w hw => ?_⟩
        rw [hag x (by simp [Op.operands]), opt_congr (o := lo) (ev := ev) (fun y hy => hag y (by simp [Op.operands, hy])), opt_congr (o := hi) (ev := ev) (fun y hy => hag y (by simp [Op.operands, hy])),
          opt_congr (o := mx) (ev := ev) (fun y hy => hag y (by simp [Op.operands, hy]))]
        exact hv P t e (unS_of hu) (run_sizeOf' hn) W w hw
    · cases he
  case lookup t m k ok =>
    simp only [eraseOp] at he
    split at he
    · rename_i ke e hu
      cases hkk : kkOf P ke with
      | none => simp [hkk] at he
      | some kk =>
        cases hz : zeroOf P e with
        | none => simp [hkk, hz] at he
        | some z =>
          simp [hkk, hz] at he; subst he
          obtain ⟨v, hv, hk⟩ := h
          refine ⟨v, hk, readsV_of _ (fun _ _ _ _ _ => rfl) fun W w hw => ?_⟩
          rw [hag m (by simp [Op.operands]), hag k (by simp [Op.operands])]
          exact hv P t ke e (unS_of hu) (keyS_of hkk) (run_zero' hz) W w hw
    · cases he
  case entry it =>
    cases he
    obtain ⟨v, hv, hk⟩ := h
    refine ⟨v, hk, readsV_of _ (fun _ _ _ _ _ => rfl) fun W w hw => ?_⟩
    rw [hag it (by simp [Op.operands])]
    exact hv P W w hw
  case makeFunc f first captured =>
    cases he
    refine ⟨_, h, readsV_of _ (fun _ _ _ _ _ => rfl) fun W w hw => ?_⟩
    rw [map_congr_ops (ev := ev) (fun x hx => hag x (by simp [Op.operands, hx])), map_congr_ops (ev := ev) (fun x hx => hag x (by simp [Op.operands, hx]))]
    rfl
  case extract x i =>
    cases he
    obtain ⟨v, hv, hk⟩ := optW_spec h
    refine ⟨v, hk, readsV_of _ (fun _ _ _ _ _ => rfl) fun W w hw => ?_⟩
    rw [hag x (by simp [Op.operands])]
    cases hx : ev (opdOf x) <;> simp only [hx, extV] at hv <;> try (cases hv; done)
    rename_i vs
    simp [Instr.extract, show vs[i]? = some v from by simpa using hv]
  case nilCheck x =>
    cases he
    obtain ⟨hp, hk⟩ := h
    refine ⟨_, hk, fun W w dst ty pos after g hw => ?_⟩
    obtain ⟨a, ha⟩ := hp W w hw
    simp [execOp, hag x (by simp [Op.operands]), ha]
  case call c =>
    obtain ⟨callee, args, argTypes⟩ := c
    simp only [eraseOp, eraseCall] at he
    split at he
    · split at he
      · split at he
        · cases he; exact h.elim
        · cases he
      · cases he
    · cases he; exact h.elim
    · cases he
    · rename_i b
      have bi : ∀ (s : Sem Value) v, (∀ cs ty, builtin b argTypes ty cs (args.map ρ) = (do pure (.value (← s)) : Sem Next)) → (∀ W w, St W w L → s.run P w = .ok v w) →
          readsV P ρ (.call { callee := .builtin b, args, argTypes }) v L := by
        intro s v h1 h2 W w dst ty pos after g hw
        simp only [execOp, resolve, Sem.run_bind, Sem.run_pure, Result.andThen_ok, invoke]
        rw [h1]
        exact run_valW (h2 W w hw)
      have hargs : ∀ (as : List Operand), args.toList = as → args.map ρ = ((as.map opdOf).map ev).toArray := fun as has => by
        rw [← has]; exact map_congr_ops fun x hx => hag x (by simp [Op.operands, Call.operands, hx])
      have hts : ∀ (ts : List TypeId), argTypes.toList = ts → argTypes = ts.toArray := fun ts h => by rw [← h]
      split at he
      · rename_i x t hx ht
        rw [hargs _ hx, hts _ ht] at bi
        split at he
        · rename_i e hu
          cases he
          obtain ⟨v, hv, hk⟩ := h
          exact ⟨v, hk, by rw [hts _ ht] at *; exact bi _ v (fun _ _ => rfl) (fun W w hw => hv P t e 0 (unS_of hu) W w hw)⟩
        · rename_i ke e hu
          cases he
          obtain ⟨v, hv, hk⟩ := h
          exact ⟨v, hk, by rw [hts _ ht] at *; exact bi _ v (fun _ _ => rfl) (fun W w hw => hv P t ke e 0 (unS_of hu) W w hw)⟩
        · cases he
      · rename_i x t hx ht
        rw [hargs _ hx, hts _ ht] at bi
        split at he
        · rename_i e hu
          cases he
          obtain ⟨v, hv, hk⟩ := h
          exact ⟨v, hk, by rw [hts _ ht] at *; exact bi _ v (fun _ _ => rfl) (fun W w hw => hv P t e 0 (unS_of hu) W w hw)⟩
        · cases he
      · split at he
        · split at he
          · simp only [Option.map_eq_some_iff] at he
            obtain ⟨_, _, rfl⟩ := he
            exact h.elim
          · cases he
        · cases he
      · split at he
        · simp only [Option.map_eq_some_iff] at he
          obtain ⟨_, _, rfl⟩ := he
          exact h.elim
        · cases he
      · split at he
        · simp only [Option.map_eq_some_iff] at he
          obtain ⟨_, _, rfl⟩ := he
          exact h.elim
        · cases he
      · rename_i x y hx
        cases he
        obtain ⟨v, hv, hk⟩ := optW_spec h
        refine ⟨v, hk, bi (Builtin.max_ argTypes 0 (args.map ρ)) v (fun _ _ => rfl) fun W w hw => ?_⟩
        rw [hargs _ hx]
        simp only [List.map_cons, List.map_nil]
        cases h1 : ev (opdOf x) <;> simp only [h1, mmV] at hv <;> try (cases hv; done)
        cases h2 : ev (opdOf y) <;> simp only [h2] at hv <;> try (cases hv; done)
        cases hv
        simp [Builtin.max_, Builtin.max2]
        omega
      · rename_i x y hx
        cases he
        obtain ⟨v, hv, hk⟩ := optW_spec h
        refine ⟨v, hk, bi (Builtin.min_ argTypes 0 (args.map ρ)) v (fun _ _ => rfl) fun W w hw => ?_⟩
        rw [hargs _ hx]
        simp only [List.map_cons, List.map_nil]
        cases h1 : ev (opdOf x) <;> simp only [h1, mmV] at hv <;> try (cases hv; done)
        cases h2 : ev (opdOf y) <;> simp only [h2] at hv <;> try (cases hv; done)
        cases hv
        simp [Builtin.min_, Builtin.min2]
        omega
      · cases he
  case makeMap t r =>
    cases r <;> simp [eraseOp] at he
    subst he; exact h.elim
  case next it st =>
    cases st <;> simp [eraseOp] at he
    subst he; exact h.elim
  case range t m =>
    simp only [eraseOp] at he
    split at he
    · cases he; exact h.elim
    · cases he
  case mapUpdate t m k v =>
    simp only [eraseOp] at he
    split at he
    · simp only [Option.map_eq_some_iff] at he
      obtain ⟨_, _, rfl⟩ := he
      exact h.elim
    · cases he
  case mapEntry t m k =>
    simp only [eraseOp] at he
    split at he
    · simp only [Option.bind_eq_some_iff, Option.map_eq_some_iff] at he
      obtain ⟨_, _, _, _, rfl⟩ := he
      exact h.elim
    · cases he
  case buildSlice t n parts =>
    simp only [eraseOp] at he
    split at he
    · simp only [Option.bind_eq_some_iff] at he
      obtain ⟨_, _, he⟩ := he
      split at he
      · cases he; exact h.elim
      · cases he
    · cases he
  case makeSlice t l c =>
    simp only [eraseOp] at he
    split at he
    · simp only [Option.map_eq_some_iff] at he
      obtain ⟨_, _, rfl⟩ := he
      exact h.elim
    · cases he
  all_goals first
    | (cases he; done)
    | (cases he; exact h.elim)
    | (simp only [eraseOp, Option.map_eq_some_iff] at he; obtain ⟨_, _, rfl⟩ := he; exact h.elim)
end

/-! ### all operations -/

section
variable {P : Program} {ρ : Operand → Value} {ev : Opd → Value} {L : List Chunk} {K : Value → List Chunk → Prop}

/-- An operation, run. -/
def actsV (P : Program) (ρ : Operand → Value) (op : Op) (L : List Chunk) (K : Value → List Chunk → Prop) : Prop :=
  ∀ (F : List Chunk) (W w : World) (dst : Option Tmp) (ty : TypeId) (pos : String) (after : Array Edge) (g : Option (Nat × Bool)),
    St W w (L ++ F) → uponW P (fun v w' => ∃ L', St W w' (L' ++ F) ∧ K v L') ((execOp ρ { dst, op, type := ty, pos, after, guard := g }).run P w)

theorem St.left {W w : World} {L F : List Chunk} (H : St W w (L ++ F)) : St W w L := by
  obtain ⟨a, b, _, la, _, HL, _⟩ := H.holds.split
  exact ⟨H.quiet, HL.mono la⟩

theorem actsV_rd {op : Op} (h : ∃ v, K v L ∧ readsV P ρ op v L) : actsV P ρ op L K := by
  obtain ⟨v, hk, hr⟩ := h
  intro F W w dst ty pos after g hw
  rw [hr W w dst ty pos after g hw.left]
  exact ⟨L, hw, hk⟩

theorem actsV_val {op : Op} (s : Sem Value)
    (he : ∀ (dst : Option Tmp) (ty : TypeId) (pos : String) (after : Array Edge) (g : Option (Nat × Bool)), execOp ρ { dst, op, type := ty, pos, after, guard := g } = (do pure (.value (← s)) : Sem Next))
    (h : SemW P s L K) : actsV P ρ op L K := by
  intro F W w dst ty pos after g hw
  obtain ⟨v, w', L', hr, hs, hk⟩ := h F W w hw
  rw [he, run_valW hr]
  exact ⟨L', hs, hk⟩

theorem actsV_unit {op : Op} (s : Sem Unit)
    (he : ∀ (dst : Option Tmp) (ty : TypeId) (pos : String) (after : Array Edge) (g : Option (Nat × Bool)), execOp ρ { dst, op, type := ty, pos, after, guard := g } = (do s; pure .skip : Sem Next))
    (h : SemW P s L fun _ L' => K undef L') : actsV P ρ op L K := by
  intro F W w dst ty pos after g hw
  obtain ⟨v, w', L', hr, hs, hk⟩ := h F W w hw
  rw [he]
  simp only [Sem.run_bind, hr, Result.andThen_ok, Sem.run_pure]
  exact ⟨L', hs, hk⟩

theorem semW_congr {α : Type} {s t : Sem α} {K' : α → List Chunk → Prop} (h : ∀ w, t.run P w = s.run P w) (hs : SemW P s L K') : SemW P t L K' := by
  intro F W w hw
  rw [h]
  exact hs F W w hw

theorem op_sound {op : Op} {s : SOp} (he : eraseOp P op = some s) (hag : ∀ x ∈ op.operands, ρ x = ev (opdOf x)) (hk0 : ∀ v, ev (.k v) = v) (h : opW P s ev L K) : actsV P ρ op L K := by
  have rd : rdOp s ev L (fun v => K v L) → actsV P ρ op L K := fun h' => actsV_rd (rd_sound he hag hk0 h')
  cases op
  case store t a x =>
    simp only [eraseOp, Option.map_eq_some_iff] at he
    obtain ⟨n, hn, rfl⟩ := he
    refine actsV_unit _ (fun _ _ _ _ _ => rfl) ?_
    rw [hag a (by simp [Op.operands]), hag x (by simp [Op.operands])]
    exact h P t (run_sizeOf' hn)
  case alloc e =>
    simp only [eraseOp, Option.map_eq_some_iff] at he
    obtain ⟨z, hz, rfl⟩ := he
    obtain ⟨v, rfl, hv⟩ := zeroS_of hz
    refine actsV_val _ (fun _ _ _ _ _ => rfl) (semW_congr (fun w => ?_) (h P e))
    simp [Instr.alloc, hv w, newVar]
  case box e x =>
    cases he
    refine actsV_val _ (fun _ _ _ _ _ => rfl) (semW_congr (fun w => ?_) (h P e))
    simp [Instr.box, newVar, hag x (by simp [Op.operands]), Value.cellsL]
  case buildSlice t n parts =>
    simp only [eraseOp] at he
    split at he
    · rename_i e hu
      simp only [Option.bind_eq_some_iff] at he
      obtain ⟨⟨k, b, z⟩, hel, he⟩ := he
      simp only at he
      split at he
      · rename_i hle
        cases he
        simp only [opW] at h
        generalize hps : (List.map (fun p => (p.1 * k, k, p.2)) (List.map (fun p => (p.1, opdOf p.2)) parts.toList)) = ps at h
        split at h
        · rename_i cs hf
          have hel' := elS_of hel
          obtain ⟨zv, rfl, hzv⟩ := hel'.zero
          have hmap : (parts.map fun (x : Nat × Operand) => (x.1, ρ x.2)).toList = parts.toList.map fun x => (x.1, ρ x.2) := by simp
          have hfill := fill_sound ev (fun i => some (i * k, k)) (parts.toList.map fun x => (x.1, ρ x.2)) ps (repCells zv.cells.toList (n * k)) cs (by simp [← hps]) (fun i hi => by
            have hi' : i < parts.toList.length := by simpa using hi
            refine ⟨(parts.toList[i].1, ρ parts.toList[i].2), (parts.toList[i].1 * k, k, opdOf parts.toList[i].2), by rw [List.getElem?_map, List.getElem?_eq_getElem hi']; rfl,
              by rw [← hps, List.getElem?_map, List.getElem?_map, List.getElem?_eq_getElem hi']; rfl, rfl, ?_⟩
            have hm : parts.toList[i] ∈ parts.toList := List.getElem_mem hi'
            exact hag _ (by simp only [Op.operands, Array.mem_def]; exact List.mem_map_of_mem hm)) hf
          have hz0 : ∀ zero : Array Value, (n * k = 0 ∨ zero = zv.cells) → ((Array.range (n * k)).map (zero[· % zero.size]!)) = (repCells zv.cells.toList (n * k)).toArray := by
            intro zero hz
            apply Array.toList_inj.1
            rcases hz with hz | rfl
            · simp [hz, repCells]
            · simp only [repCells, Array.toList_map, Array.toList_range]
              refine List.map_congr_left fun a _ => ?_
              simp [Array.getElem!_eq_getD, Array.getD_eq_getD_getElem?]
          refine actsV_val _ (fun _ _ _ _ _ => rfl) (semW_congr (fun w => ?_) (h P e))
          unfold Instr.buildSlice
          simp only [Sem.run_bind, run_underlying hu, hel'.size w, Result.andThen_ok, hmap]
          rw [if_neg (by omega)]
          simp only [Sem.run_pure, Result.andThen_ok, Sem.run_ite, Sem.run_bind, hzv w]
          split
          · rename_i hnk
            rw [hz0 _ (.inl hnk), hfill]
            simp only [Sem.run_bind, Sem.run_pure]
          · rw [hz0 _ (.inr rfl), hfill]
            simp only [Sem.run_bind, Sem.run_pure]
        · exact h.elim
      · cases he
    · cases he
  case makeSlice t l c =>
    simp only [eraseOp] at he
    split at he
    · rename_i e hu
      simp only [Option.map_eq_some_iff] at he
      obtain ⟨⟨k, b, z⟩, hel, rfl⟩ := he
      refine actsV_val _ (fun _ _ _ _ _ => rfl) ?_
      rw [hag l (by simp [Op.operands]), hag c (by simp [Op.operands])]
      exact h P t e (unS_of hu) (elS_of hel)
    · cases he
  case makeMap t r =>
    cases r with
    | some _ => simp [eraseOp] at he
    | none =>
      cases he
      exact actsV_val _ (fun _ _ _ _ _ => rfl) (semW_congr (fun w => by simp [Instr.makeMap]) (h P))
  case mapUpdate t m k v =>
    simp only [eraseOp] at he
    split at he
    · rename_i ke e hu
      simp only [Option.map_eq_some_iff] at he
      obtain ⟨kk, hkk, rfl⟩ := he
      refine actsV_unit _ (fun _ _ _ _ _ => rfl) ?_
      rw [hag m (by simp [Op.operands]), hag k (by simp [Op.operands]), hag v (by simp [Op.operands])]
      exact h P t ke e (unS_of hu) (keyS_of hkk)
    · cases he
  case mapEntry t m k =>
    simp only [eraseOp] at he
    split at he
    · rename_i ke e hu
      simp only [Option.bind_eq_some_iff, Option.map_eq_some_iff] at he
      obtain ⟨kk, hkk, z, hz, rfl⟩ := he
      refine actsV_val _ (fun _ _ _ _ _ => rfl) ?_
      rw [hag m (by simp [Op.operands]), hag k (by simp [Op.operands])]
      exact h P t ke e (unS_of hu) (keyS_of hkk) (run_zero' hz)
    · cases he
  case entryStore t m k v =>
    cases he
    refine actsV_unit _ (fun _ _ _ _ _ => rfl) ?_
    rw [hag m (by simp [Op.operands]), hag k (by simp [Op.operands]), hag v (by simp [Op.operands])]
    exact h P t
  case range t m =>
    simp only [eraseOp] at he
    split at he
    · rename_i ke e hu
      cases he
      refine actsV_val _ (fun _ _ _ _ _ => rfl) ?_
      rw [hag m (by simp [Op.operands])]
      exact h P t ke e (unS_of hu)
    · cases he
  case next it st =>
    cases st <;> simp only [eraseOp] at he
    · cases he
      intro F W w dst ty pos after g hw
      exact actsV_val (op := .next it false) (ρ := ρ) (Instr.next (ρ it) false ty) (fun _ _ _ _ _ => rfl) (by rw [hag it (by simp [Op.operands])]; exact h P ty) F W w dst ty pos after g hw
    · cases he
  case call c =>
    obtain ⟨callee, args, argTypes⟩ := c
    simp only [eraseOp, eraseCall] at he
    have hargs : args.map ρ = ((args.toList.map opdOf).map ev).toArray := map_congr_ops fun x hx => hag x (by simp [Op.operands, Call.operands, hx])
    have calls : ∀ (f : FuncId) (as : List Value), CallW P f as L K → ∀ (F : List Chunk) (W w : World), St W w (L ++ F) →
        uponW P (fun v w' => ∃ L', St W w' (L' ++ F) ∧ K v L') ((callFunc f as.toArray).run P w) := by
      intro f as hc F W w hw
      obtain ⟨⟨fn, c, hf, hb, hn⟩, hc⟩ := hc
      simp only [callFunc, Sem.run_bind, run_program, Result.andThen_ok, hf, hn, hb, Option.isNone_some, Bool.false_eq_true, if_false, Sem.run_pure, uponW]
      refine (hc F W w hw).mono ?_
      rintro e w' ⟨v, L', rfl, hs, hk⟩
      exact ⟨v, rfl, L', hs, hk⟩
    split at he
    · split at he
      · split at he
        · cases he
          intro F W w dst ty pos after g hw
          simp only [execOp, resolve, Sem.run_bind]
          rw [hag (.func _) (by simp [Op.operands, Call.operands])]
          simp only [opdOf, hk0, Deferred.ofValue, Sem.run_pure, Result.andThen_ok, invoke, Array.append_empty, Array.empty_append, hargs]
          exact calls _ _ h F W w hw
        · cases he
      · cases he
    · rename_i x hnf
      cases he
      intro F W w dst ty pos after g hw
      simp only [execOp, resolve, Sem.run_bind]
      rw [hag x (by simp [Op.operands, Call.operands])]
      have h' : callFn P (ev (opdOf x)) ((args.toList.map opdOf).map ev) L K := h
      cases hx : ev (opdOf x) <;> simp only [hx, callFn] at h' <;> try exact h'.elim
      rename_i fn first captured
      cases fn <;> simp only at h' <;> try exact h'.elim
      rename_i f
      simp only [Deferred.ofValue, Sem.run_pure, Result.andThen_ok, invoke]
      have := calls _ _ h' F W w hw
      rw [show first ++ args.map ρ ++ captured = (first.toList ++ (args.toList.map opdOf).map ev ++ captured.toList).toArray from by
        apply Array.toList_inj.1; simp [hargs]]
      exact this
    · cases he
    · rename_i b
      have bi : ∀ (s : Sem Value), (∀ cs ty, builtin b argTypes ty cs (args.map ρ) = (do pure (.value (← s)) : Sem Next)) → SemW P s L K →
          actsV P ρ (.call { callee := .builtin b, args, argTypes }) L K := by
        intro s h1 h2 F W w dst ty pos after g hw
        obtain ⟨v, w', L', hr, hs, hk⟩ := h2 F W w hw
        simp only [execOp, resolve, Sem.run_bind, Sem.run_pure, Result.andThen_ok, invoke]
        rw [h1, run_valW hr]
        exact ⟨L', hs, hk⟩
      have hts : ∀ (ts : List TypeId), argTypes.toList = ts → argTypes = ts.toArray := fun ts h => by rw [← h]
      rw [hargs] at bi
      split at he
      · split at he
        · cases he; exact rd h
        · cases he; exact rd h
        · cases he
      · split at he
        · cases he; exact rd h
        · cases he
      · rename_i s x t u hx ht
        split at he
        · rename_i e e' hu hu'
          split at he
          · rename_i hee
            have hee' : e = e' := Nat.eq_of_beq_eq_true hee
            subst hee'
            simp only [Option.map_eq_some_iff] at he
            obtain ⟨⟨k, b, z⟩, hel, rfl⟩ := he
            rw [hx, hts _ ht] at *
            exact bi _ (fun _ _ => rfl) (h P t u e 0 (unS_of hu) (unS_of hu') (elS_of hel))
          · cases he
        · cases he
      · rename_i m k t u hx ht
        split at he
        · rename_i ke e hu
          simp only [Option.map_eq_some_iff] at he
          obtain ⟨kk, hkk, rfl⟩ := he
          rw [hx, hts _ ht] at *
          exact bi _ (fun _ _ => rfl) (h P t u ke e 0 (unS_of hu) (keyS_of hkk))
        · cases he
      · rename_i x t hx ht
        split at he
        · rename_i e hu
          simp only [Option.map_eq_some_iff] at he
          obtain ⟨⟨k, b, z⟩, hel, rfl⟩ := he
          have hel' := elS_of hel
          rw [hx, hts _ ht] at *
          exact bi _ (fun _ _ => rfl) (h P t e 0 (unS_of hu) hel'.size hel'.zero)
        · cases he
      · cases he; exact rd h
      · cases he; exact rd h
      · cases he
  case binOp op t x y yt =>
    refine rd ?_
    simp only [eraseOp, eraseBin] at he
    split at he
    · cases he; exact h
    · simp only [Option.map_eq_some_iff] at he
      obtain ⟨_, _, rfl⟩ := he; exact h
    · simp only [Option.map_eq_some_iff] at he
      obtain ⟨_, _, rfl⟩ := he; exact h
    · simp only [Option.bind_eq_some_iff] at he
      obtain ⟨_, _, he⟩ := he
      split at he
      · split at he <;> first
          | (cases he; done)
          | (split at he
             · cases he; exact h
             · cases he)
      · split at he
        · cases he; exact h
        · cases he
    · cases he
  case load t a =>
    simp only [eraseOp, Option.map_eq_some_iff] at he
    obtain ⟨_, _, rfl⟩ := he; exact rd h
  case build t parts =>
    simp only [eraseOp] at he
    split at he
    · simp only [Option.bind_eq_some_iff, Option.map_eq_some_iff] at he
      obtain ⟨_, _, _, _, rfl⟩ := he; exact rd h
    · simp only [Option.map_eq_some_iff] at he
      obtain ⟨_, _, rfl⟩ := he; exact rd h
    · cases he
  case convert src dst x =>
    simp only [eraseOp] at he
    split at he
    · cases he; exact rd h
    · split at he
      · cases he; exact rd h
      · cases he
    · cases he
  case fieldAddr t x f =>
    simp only [eraseOp] at he
    split at he
    · split at he
      · split at he
        · split at he
          · cases he
          · cases he; exact rd h
        · cases he
      · cases he
    · cases he
  case field t x f =>
    simp only [eraseOp] at he
    split at he
    · split at he
      · simp only [Option.map_eq_some_iff] at he
        obtain ⟨_, _, rfl⟩ := he; exact rd h
      · cases he
    · cases he
  case indexAddr t x i =>
    simp only [eraseOp] at he
    split at he
    · simp only [Option.map_eq_some_iff] at he
      obtain ⟨_, _, rfl⟩ := he; exact rd h
    · cases he
  case index t x i =>
    simp only [eraseOp] at he
    split at he
    · split at he
      · cases he; exact rd h
      · cases he
    · cases he
  case slice t x lo hi mx =>
    simp only [eraseOp] at he
    split at he
    · simp only [Option.map_eq_some_iff] at he
      obtain ⟨_, _, rfl⟩ := he; exact rd h
    · cases he
  case lookup t m k ok =>
    simp only [eraseOp] at he
    split at he
    · simp only [Option.bind_eq_some_iff, Option.map_eq_some_iff] at he
      obtain ⟨_, _, _, _, rfl⟩ := he; exact rd h
    · cases he
  all_goals first
    | (cases he; done)
    | (cases he; exact rd h)
end
end Go.SL
