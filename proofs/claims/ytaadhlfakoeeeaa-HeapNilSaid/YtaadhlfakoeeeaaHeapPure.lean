/- Heaps in a list: what swaps, rises and sinks do, with no program in sight. -/
import Derived.Test.YtaadhlfakoeeeaaRulesM
namespace Go.SL

abbrev It := Int × Int
/-- The first of two things. -/
def lessI (x y : It) : Prop := x.2 < y.2 ∨ (x.2 = y.2 ∧ x.1 < y.1)
instance (x y : It) : Decidable (lessI x y) := by unfold lessI; exact inferInstance
theorem lessI.asymm {x y : It} (h : lessI x y) : ¬ lessI y x := by unfold lessI at *; omega
theorem lessI.trans {x y z : It} (h : lessI x y) (k : lessI y z) : lessI x z := by unfold lessI at *; omega
theorem notLess_trans {x y z : It} (h : ¬ lessI x y) (k : ¬ lessI y z) : ¬ lessI x z := by unfold lessI at *; omega
theorem notLess_less {x y z : It} (h : ¬ lessI x z) (k : lessI y z) : ¬ lessI x y := fun l => h (l.trans k)

def HOrd (t : List It) : Prop := ∀ (j : Nat) x y, 0 < j → t[j]? = some x → t[(j - 1) / 2]? = some y → ¬ lessI x y
/-- In order but for the thing at i, which may have to rise. -/
structure UpEx (t : List It) (i : Nat) : Prop where
  ord : ∀ (j : Nat) x y, 0 < j → j ≠ i → t[j]? = some x → t[(j - 1) / 2]? = some y → ¬ lessI x y
  kid : ∀ (j : Nat) x y, 0 < j → 0 < i → (j - 1) / 2 = i → t[j]? = some x → t[(i - 1) / 2]? = some y → ¬ lessI x y
/-- In order but for the thing at i, which may have to sink. -/
structure DnEx (t : List It) (i : Nat) : Prop where
  ord : ∀ (j : Nat) x y, 0 < j → (j - 1) / 2 ≠ i → t[j]? = some x → t[(j - 1) / 2]? = some y → ¬ lessI x y
  kid : ∀ (j : Nat) x y, 0 < j → 0 < i → (j - 1) / 2 = i → t[j]? = some x → t[(i - 1) / 2]? = some y → ¬ lessI x y

/-- Two change places. -/
def swapI (t : List It) (a b : Nat) (x y : It) : List It := (t.set a y).set b x
theorem swapI_at {t : List It} {a b : Nat} {x y : It} (ha : t[a]? = some x) (hb : t[b]? = some y) (j : Nat) : (swapI t a b x y)[j]? = if j = b then some x else if j = a then some y else t[j]? := by
  have h1 := (List.getElem?_eq_some_iff.1 ha).1
  have h2 := (List.getElem?_eq_some_iff.1 hb).1
  unfold swapI
  rw [List.getElem?_set, List.getElem?_set, List.length_set]
  by_cases e : b = j
  · subst e; simp [h2]
  · rw [if_neg e, if_neg (Ne.symm e)]
    by_cases e2 : a = j
    · subst e2; simp [h1]
    · rw [if_neg e2, if_neg (Ne.symm e2)]

theorem UpEx.done {t : List It} {i : Nat} (U : UpEx t i) (h : i = 0 ∨ ∀ x y, t[i]? = some x → t[(i - 1) / 2]? = some y → ¬ lessI x y) : HOrd t := fun j x y hj hx hy => by
  by_cases e : j = i
  · subst e
    rcases h with h | h
    · omega
    · exact h x y hx hy
  · exact U.ord j x y hj e hx hy

theorem UpEx.step {t : List It} {i : Nat} {x y : It} (U : UpEx t i) (hi : 0 < i) (hx : t[i]? = some x) (hy : t[(i - 1) / 2]? = some y) (l : lessI x y) : UpEx (swapI t i ((i - 1) / 2) x y) ((i - 1) / 2) := by
  have hp : (i - 1) / 2 < i := by omega
  have A := swapI_at hx hy
  refine ⟨fun j u v hj hne hu hv => ?_, fun j u v hj hp0 hpar hu hv => ?_⟩
  · rw [A] at hu hv
    rw [if_neg hne] at hu
    by_cases e : j = i
    · subst e
      rw [if_pos rfl] at hu hv
      cases hu; cases hv
      exact l.asymm
    · rw [if_neg e] at hu
      by_cases e1 : (j - 1) / 2 = (i - 1) / 2
      · rw [if_pos e1] at hv; cases hv
        exact notLess_less (U.ord j u y hj e hu (by rw [e1]; exact hy)) l
      · rw [if_neg e1] at hv
        by_cases e2 : (j - 1) / 2 = i
        · rw [if_pos e2] at hv; cases hv
          exact U.kid j u y hj hi e2 hu hy
        · rw [if_neg e2] at hv
          exact U.ord j u v hj e hu hv
  · rw [A] at hu hv
    have g1 : ((i - 1) / 2 - 1) / 2 ≠ (i - 1) / 2 := by omega
    have g2 : ((i - 1) / 2 - 1) / 2 ≠ i := by omega
    rw [if_neg g1, if_neg g2] at hv
    have hyv : ¬ lessI y v := U.ord _ y v hp0 (by omega) hy hv
    rw [if_neg (by omega)] at hu
    by_cases e : j = i
    · rw [if_pos e] at hu; cases hu; exact hyv
    · rw [if_neg e] at hu
      exact notLess_trans (U.ord j u y hj e hu (by rw [hpar]; exact hy)) hyv

theorem DnEx.done {t : List It} {i : Nat} (D : DnEx t i) (h : ∀ (j : Nat) x y, 0 < j → (j - 1) / 2 = i → t[j]? = some x → t[i]? = some y → ¬ lessI x y) : HOrd t := fun j x y hj hx hy => by
  by_cases e : (j - 1) / 2 = i
  · rw [e] at hy; exact h j x y hj e hx hy
  · exact D.ord j x y hj e hx hy

theorem DnEx.step {t : List It} {i k : Nat} {x z : It} (D : DnEx t i) (hk : 0 < k) (hp : (k - 1) / 2 = i) (hx : t[i]? = some x) (hz : t[k]? = some z) (l : lessI z x)
    (sib : ∀ (j : Nat) u, 0 < j → (j - 1) / 2 = i → t[j]? = some u → ¬ lessI u z) : DnEx (swapI t i k x z) k := by
  have A := swapI_at hx hz
  have hik : i ≠ k := by omega
  refine ⟨fun j u v hj hne hu hv => ?_, fun j u v hj hk0 hpar hu hv => ?_⟩
  · rw [A] at hu hv
    rw [if_neg hne] at hv
    by_cases e : j = k
    · subst e
      rw [if_pos rfl] at hu
      rw [if_pos hp] at hv
      cases hu; cases hv
      exact l.asymm
    · rw [if_neg e] at hu
      by_cases e1 : (j - 1) / 2 = i
      · rw [if_pos e1] at hv; cases hv
        rw [if_neg (by omega)] at hu
        exact sib j u hj e1 hu
      · rw [if_neg e1] at hv
        by_cases e2 : j = i
        · subst e2
          rw [if_pos rfl] at hu; cases hu
          exact D.kid k z v hk hj hp hz hv
        · rw [if_neg e2] at hu
          exact D.ord j u v hj e1 hu hv
  · rw [A] at hu hv
    rw [hp, if_neg hik, if_pos rfl] at hv
    cases hv
    rw [if_neg (by omega), if_neg (by omega)] at hu
    exact D.ord j u z hj (by omega) hu (by rw [hpar]; exact hz)

theorem HOrd.dn {t : List It} (h : HOrd t) (i : Nat) : DnEx t i := ⟨fun j x y hj _ hx hy => h j x y hj hx hy, fun j x y hj hi e hx hy => by
  have hlt := (List.getElem?_eq_some_iff.1 hx).1
  have hm : t[i]? = some t[i] := List.getElem?_eq_getElem (by omega)
  exact notLess_trans (h j x _ hj hx (by rw [e]; exact hm)) (h i _ y hi hm hy)⟩

theorem HOrd.least {t : List It} (h : HOrd t) {m : It} (h0 : t[0]? = some m) : ∀ (j : Nat) x, t[j]? = some x → ¬ lessI x m := by
  intro j
  induction j using Nat.strongRecOn with
  | _ j ih =>
    intro x hx
    by_cases e : j = 0
    · subst e; rw [h0] at hx; cases hx; exact fun l => l.asymm l
    · have hlt := (List.getElem?_eq_some_iff.1 hx).1
      have hm : t[(j - 1) / 2]? = some t[(j - 1) / 2] := List.getElem?_eq_getElem (by omega)
      exact notLess_trans (h j x _ (by omega) hx hm) (ih _ (by omega) _ hm)

/-- Where each thing stands. -/
structure PosI (t : List It) (f : Int → Option Int) : Prop where
  at_ : ∀ (j : Nat) x, t[j]? = some x → f x.1 = some (j : Int)
  back : ∀ id p, f id = some p → ∃ (j : Nat) (x : It), t[j]? = some x ∧ x.1 = id ∧ p = (j : Int)

theorem PosI.swap {t : List It} {f : Int → Option Int} (P : PosI t f) {a b : Nat} {x y : It} (ha : t[a]? = some x) (hb : t[b]? = some y) : PosI (swapI t a b x y) (updF (updF f y.1 a) x.1 b) := by
  have A := swapI_at ha hb
  have fa := P.at_ a x ha
  have fb := P.at_ b y hb
  refine ⟨fun j z hz => ?_, fun id p hp => ?_⟩
  · rw [A] at hz
    by_cases e : j = b
    · subst e; rw [if_pos rfl] at hz; cases hz; simp [updF]
    · rw [if_neg e] at hz
      by_cases e2 : j = a
      · subst e2; rw [if_pos rfl] at hz; cases hz
        have : y.1 ≠ x.1 := fun n => by rw [n, fa] at fb; have := Option.some.inj fb; omega
        simp [updF, this]
      · rw [if_neg e2] at hz
        have fj := P.at_ j z hz
        have n1 : z.1 ≠ x.1 := fun n => by rw [n, fa] at fj; have := Option.some.inj fj; omega
        have n2 : z.1 ≠ y.1 := fun n => by rw [n, fb] at fj; have := Option.some.inj fj; omega
        simp [updF, n1, n2, fj]
  · by_cases e : id = x.1
    · subst e
      simp [updF] at hp
      exact ⟨b, x, by rw [A, if_pos rfl], rfl, hp.symm⟩
    · by_cases e2 : id = y.1
      · subst e2
        simp [updF, e] at hp
        have : a ≠ b := fun n => by subst n; rw [ha] at hb; cases hb; exact e rfl
        exact ⟨a, y, by rw [A, if_neg this, if_pos rfl], rfl, hp.symm⟩
      · simp [updF, e, e2] at hp
        obtain ⟨j, z, hj, hz, hpj⟩ := P.back id p hp
        have n1 : j ≠ a := fun n => by subst n; rw [ha] at hj; cases hj; exact e hz.symm
        have n2 : j ≠ b := fun n => by subst n; rw [hb] at hj; cases hj; exact e2 hz.symm
        exact ⟨j, z, by rw [A, if_neg n2, if_neg n1]; exact hj, hz, hpj⟩

theorem swapI_mem {t : List It} {a b : Nat} {x y : It} (ha : t[a]? = some x) (hb : t[b]? = some y) (z : It) : z ∈ swapI t a b x y ↔ z ∈ t := by
  have A := swapI_at ha hb
  constructor
  · intro h
    obtain ⟨j, hj⟩ := List.getElem?_of_mem h
    rw [A] at hj
    split at hj
    · cases hj; exact List.mem_of_getElem? ha
    · split at hj
      · cases hj; exact List.mem_of_getElem? hb
      · exact List.mem_of_getElem? hj
  · intro h
    obtain ⟨j, hj⟩ := List.getElem?_of_mem h
    by_cases e : j = a
    · subst e; rw [ha] at hj; cases hj
      exact List.mem_of_getElem? (i := b) (by rw [A, if_pos rfl])
    · by_cases e2 : j = b
      · subst e2; rw [hb] at hj; cases hj
        exact List.mem_of_getElem? (i := a) (by rw [A, if_neg (Ne.symm e), if_pos rfl])
      · exact List.mem_of_getElem? (i := j) (by rw [A, if_neg e2, if_neg e]; exact hj)
theorem swapI_length (t : List It) (a b : Nat) (x y : It) : (swapI t a b x y).length = t.length := by simp [swapI]

end Go.SL
