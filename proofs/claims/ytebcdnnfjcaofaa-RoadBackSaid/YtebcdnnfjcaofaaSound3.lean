/- A part of the proofs' own ground: each operation of the small code is what the model's operation does. -/
import Derived.Test.YtebcdnnfjcaofaaSound2
namespace Go.SL

theorem readsV_of {P : Program} {ρ : Operand → Value} {op : Op} {v : Value} {L : List Chunk} (s : Sem Value)
    (he : ∀ (dst : Option Tmp) (ty : TypeId) (pos : String) (after : Array Edge) (g : Option (Nat × Bool)), execOp ρ { dst, op, type := ty, pos, after, guard := g } = (do pure (.value (← s)) : Sem Next))
    (h : ∀ W w, St W w L → s.run P w = .ok v w) : readsV P ρ op v L := by
  intro W w dst ty pos after g hw
  rw [he]
  exact run_valW (h W w hw)

theorem optW_spec {o : Option Value} {K : Value → Prop} (h : optW o K) : ∃ v, o = some v ∧ K v := by
  cases o with
  | none => exact h.elim
  | some v => exact ⟨v, rfl, h⟩

section
variable {P : Program} (w : World)

theorem run_equalIn_ptr (d : Nat) {t e : TypeId} (h : P.underlying t = some (.pointer e)) (a : Option Addr) : (Op.equalIn (d + 1) t (.pointer a) (.pointer none)).run P w = .ok a.isNone w := by
  cases a <;> simp only [Op.equalIn, Sem.run_bind, run_underlying h, Result.andThen_ok, Sem.run_pure] <;> rfl
theorem run_equalIn_slice (d : Nat) {t e : TypeId} (h : P.underlying t = some (.slice e)) (a : Option Addr) (n c n' c' : Nat) : (Op.equalIn (d + 1) t (.slice a n c) (.slice none n' c')).run P w = .ok a.isNone w := by
  cases a <;> simp only [Op.equalIn, Sem.run_bind, run_underlying h, Result.andThen_ok, Sem.run_pure] <;> rfl
theorem run_equalIn_map (d : Nat) {t ke e : TypeId} (h : P.underlying t = some (.map ke e)) (a : Option Nat) : (Op.equalIn (d + 1) t (.map a) (.map none)).run P w = .ok a.isNone w := by
  cases a <;> simp only [Op.equalIn, Sem.run_bind, run_underlying h, Result.andThen_ok, Sem.run_pure] <;> rfl
theorem run_equalIn_func (d : Nat) {t : TypeId} {ps rs : Array TypeId} {v : Bool} (h : P.underlying t = some (.func ps rs v)) : (Op.equalIn (d + 1) t .nilFunc .nilFunc).run P w = .ok true w := by
  simp only [Op.equalIn, Sem.run_bind, run_underlying h, Result.andThen_ok, Sem.run_pure]
theorem run_equalIn_func' (d : Nat) {t : TypeId} {ps rs : Array TypeId} {v : Bool} (h : P.underlying t = some (.func ps rs v)) (f : Fn) (a c : Array Value) : (Op.equalIn (d + 1) t (.func f a c) .nilFunc).run P w = .ok false w := by
  simp only [Op.equalIn, Sem.run_bind, run_underlying h, Result.andThen_ok, Sem.run_pure]

theorem run_eqv {op : BinOp} {n : Bool} (hn : negOf op = some n) {t : TypeId} {x y : Value} {X Y : Operand} {b : Bool} (hg : (eqGuard op t X Y x y).run P w = .ok () w)
    (h1 : Go.binOp .eql t x y = (do pure (.bool (← Op.equal t x y)))) (h2 : Go.binOp .neq t x y = (do pure (.bool (!(← Op.equal t x y))))) (hb : (Op.equal t x y).run P w = .ok b w) :
    ((do eqGuard op t X Y x y; Go.binOp op t x y : Sem Value)).run P w = .ok (.bool (n ^^ b)) w := by
  simp only [Sem.run_bind, hg, Result.andThen_ok]
  cases op <;> simp only [negOf] at hn <;> cases hn
  · rw [h1]; simp [hb]
  · rw [h2]; simp [hb]
end

section
variable {P : Program} {ρ : Operand → Value} {ev : Opd → Value} {L : List Chunk} {K : Value → Prop}

theorem rd_bin {op : BinOp} {t yt : TypeId} {x y : Operand} {s : SOp} (he : eraseOp P (.binOp op t x y yt) = some s) (hx : ρ x = ev (opdOf x)) (hy : ρ y = ev (opdOf y)) (hk0 : ∀ v, ev (.k v) = v) (h : rdOp s ev L K) :
    ∃ v, K v ∧ readsV P ρ (.binOp op t x y yt) v L := by
  have key : ∀ v, (∀ W w, St W w L → ((do eqGuard op t x y (ρ x) (ρ y); Go.binOp op t (ρ x) (ρ y) : Sem Value)).run P w = .ok v w) → readsV P ρ (.binOp op t x y yt) v L :=
    fun v hv => readsV_of _ (fun _ _ _ _ _ => rfl) hv
  simp only [eraseOp, eraseBin] at he
  split at he
  · cases he
    obtain ⟨v, hv, hk⟩ := optW_spec h
    exact ⟨v, hk, key v fun W w _ => by rw [hx, hy]; exact binV_sound hv w x y⟩
  · rename_i hu
    cases hn : negOf op with
    | none => simp [hn] at he
    | some n =>
      simp [hn] at he; subst he
      obtain ⟨v, hv, hk⟩ := optW_spec h
      refine ⟨v, hk, key v fun W w _ => ?_⟩
      rw [hx, hy]
      cases hxx : ev (opdOf x) <;> simp only [hxx, eqbV] at hv <;> try (cases hv; done)
      cases hyy : ev (opdOf y) <;> simp only [hyy] at hv <;> try (cases hv; done)
      cases hv
      rename_i a b
      exact run_eqv w hn (by cases op <;> simp [eqGuard]) rfl rfl (run_equalIn_bool w 9999 t a b hu)
  · rename_i hu
    cases hn : negOf op with
    | none => simp [hn] at he
    | some n =>
      simp [hn] at he; subst he
      obtain ⟨v, hv, hk⟩ := optW_spec h
      refine ⟨v, hk, key v fun W w _ => ?_⟩
      rw [hx, hy]
      cases hxx : ev (opdOf x) <;> simp only [hxx, eqsV] at hv <;> try (cases hv; done)
      cases hyy : ev (opdOf y) <;> simp only [hyy] at hv <;> try (cases hv; done)
      cases hv
      rename_i a b
      have hg : (eqGuard op t x y (.string a) (.string b)).run P w = .ok () w := by cases op <;> simp [eqGuard]
      simp only [Sem.run_bind, hg, Result.andThen_ok]
      cases op <;> simp only [negOf] at hn <;> cases hn
      · simp [binOp, Op.stringOp]
      · simp [binOp, Op.stringOp]
  · rename_i d hint hbool hstr hu
    cases hn : negOf op with
    | none => simp [hn] at he
    | some n =>
      simp only [hn, Option.bind_some] at he
      split at he
      · rename_i k hk
        have hg : ∀ (w : World) (X Y : Operand) (a b : Value), (∀ u v, ¬ (a = .agg u ∧ b = .agg v)) → ¬ (a = .nilIface ∧ b = .nilIface) → (eqGuard op t X Y a b).run P w = .ok () w := by
          intro w X Y a b h1 h2
          simp only [eqGuard]
          cases a <;> cases b <;> first
            | exact (h2 ⟨rfl, rfl⟩).elim
            | exact (h1 _ _ ⟨rfl, rfl⟩).elim
            | (split <;> rfl)
        split at he
        all_goals try (cases he; done)
        all_goals
          split at he
          · rename_i hc
            cases he
            obtain ⟨b, hb, hkb⟩ := h
            refine ⟨_, hkb, key _ fun W w hw => ?_⟩
            have hs := hb W w hw
            rw [hx, hy]
            have hyc : ∀ c, ev (opdOf (.const c)) = c := fun c => hk0 c
            rw [hyc]
            cases k <;> simp only [eraseBin.nkConst, Bool.false_eq_true] at hc
            cases d <;> simp only [nkOf] at hk <;> try (cases hk; done)
            first
              | (obtain ⟨hs1, rfl⟩ | ⟨⟨a, hs1⟩, rfl⟩ := hs
                 · rw [hs1]; exact run_eqv w hn (hg _ _ _ _ _ (by simp) (by simp)) rfl rfl (run_equalIn_ptr w 9999 hu none)
                 · rw [hs1]; exact run_eqv w hn (hg _ _ _ _ _ (by simp) (by simp)) rfl rfl (run_equalIn_ptr w 9999 hu (some a)))
              | (obtain ⟨⟨m, c, hs1⟩, rfl⟩ | ⟨⟨a, m, c, hs1⟩, rfl⟩ := hs
                 · rw [hs1]; exact run_eqv w hn (hg _ _ _ _ _ (by simp) (by simp)) rfl rfl (run_equalIn_slice w 9999 hu none _ _ _ _)
                 · rw [hs1]; exact run_eqv w hn (hg _ _ _ _ _ (by simp) (by simp)) rfl rfl (run_equalIn_slice w 9999 hu (some a) _ _ _ _))
              | (obtain ⟨hs1, rfl⟩ | ⟨⟨a, hs1⟩, rfl⟩ := hs
                 · rw [hs1]; exact run_eqv w hn (hg _ _ _ _ _ (by simp) (by simp)) rfl rfl (run_equalIn_map w 9999 hu none)
                 · rw [hs1]; exact run_eqv w hn (hg _ _ _ _ _ (by simp) (by simp)) rfl rfl (run_equalIn_map w 9999 hu (some a)))
              | (obtain ⟨hs1, rfl⟩ | ⟨⟨f, a, c, hs1⟩, rfl⟩ := hs
                 · rw [hs1]; exact run_eqv w hn (hg _ _ _ _ _ (by simp) (by simp)) rfl rfl (run_equalIn_func w 9999 hu)
                 · rw [hs1]; exact run_eqv w hn (hg _ _ _ _ _ (by simp) (by simp)) rfl rfl (run_equalIn_func' w 9999 hu f a c))
          · cases he
      · split at he
        · rename_i hc
          cases he
          obtain ⟨v, hv, hk⟩ := optW_spec h
          refine ⟨v, hk, key v fun W w _ => ?_⟩
          rw [hx, hy]
          cases hxx : ev (opdOf x) <;> simp only [hxx, eqaggV] at hv <;> try (cases hv; done)
          cases hyy : ev (opdOf y) <;> simp only [hyy] at hv <;> try (cases hv; done)
          rename_i xs ys
          split at hv
          · rename_i hl
            cases hr : eqCells xs.toList ys.toList with
            | none => simp [hr] at hv
            | some r =>
              simp [hr] at hv; subst hv
              simp only [Bool.and_eq_true] at hc
              have hgt : P.eqGuardType P.depth t = false := by simpa using hc.2
              have hgr : (eqGuard op t x y (.agg xs) (.agg ys)).run P w = .ok () w := by
                simp only [eqGuard]
                split <;> simp [hgt]
              exact run_eqv w hn hgr rfl rfl (run_equalIn_flat w 9998 hc.1 (by simpa using hl) hr)
          · cases hv
        · cases he
  · cases he
end
end Go.SL
