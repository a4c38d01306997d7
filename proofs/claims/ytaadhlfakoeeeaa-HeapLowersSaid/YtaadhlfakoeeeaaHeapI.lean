/- What a heap keeps, by its things' ranks alone; with no program in sight. -/
import Derived.Test.YtaadhlfakoeeeaaHeapPure
namespace Go.SL

theorem pigeonI : ∀ (n : Nat) (l : List Int), l.Nodup → (∀ v ∈ l, 0 ≤ v ∧ v < (n : Int)) → l.length ≤ n
  | 0, [], _, _ => Nat.le_refl _
  | 0, v :: l, _, h => by have := h v (by simp); omega
  | n + 1, l, hd, h => by
    by_cases hm : (n : Int) ∈ l
    · have := pigeonI n (l.erase n) (hd.erase _) (fun v hv => by
        have h1 := (hd.mem_erase_iff).1 hv
        have h2 := h v h1.2
        have : v ≠ (n : Int) := h1.1
        omega)
      rw [List.length_erase_of_mem hm] at this
      omega
    · have := pigeonI n l hd (fun v hv => by
        have h2 := h v hv
        have : v ≠ (n : Int) := fun e => hm (e ▸ hv)
        omega)
      omega

/-- A heap of things 0 to n - 1: g tells each one's rank that is in. -/
structure HI (n : Int) (t : List It) (f g : Int → Option Int) : Prop where
  top : n ≤ 4194304
  ord : HOrd t
  pos : PosI t f
  ids : ∀ x ∈ t, 0 ≤ x.1 ∧ x.1 < n
  rk : ∀ id r, g id = some r ↔ (id, r) ∈ t

theorem PosI.nodup {t : List It} {f : Int → Option Int} (P : PosI t f) : (t.map (·.1)).Nodup := by
  refine List.pairwise_iff_getElem.2 fun a b ha hb hab e => ?_
  simp at ha hb e
  have h1 := P.at_ a t[a] (List.getElem?_eq_getElem ha)
  have h2 := P.at_ b t[b] (List.getElem?_eq_getElem hb)
  rw [e, h2] at h1
  have := Option.some.inj h1
  omega

theorem HI.len {n : Int} {t : List It} {f g : Int → Option Int} (H : HI n t f g) : (t.length : Int) ≤ n ∨ t = [] := by
  rcases t with _ | ⟨x, t⟩
  · exact .inr rfl
  · left
    have hx := H.ids x (by simp)
    have := pigeonI n.toNat ((x :: t).map (·.1)) H.pos.nodup (fun v hv => by
      obtain ⟨y, hy, rfl⟩ := List.mem_map.1 hv
      have := H.ids y hy
      omega)
    rw [List.length_map] at this
    omega

theorem HI.none {n : Int} {t : List It} {f g : Int → Option Int} (H : HI n t f g) (id : Int) : f id = none ↔ g id = none := by
  constructor
  · intro h
    cases hg : g id with
    | none => rfl
    | some r =>
      obtain ⟨j, hj⟩ := List.getElem?_of_mem ((H.rk id r).1 hg)
      have := H.pos.at_ j _ hj
      rw [h] at this; cases this
  · intro h
    cases hf : f id with
    | none => rfl
    | some p =>
      obtain ⟨j, x, hj, hx, _⟩ := H.pos.back id p hf
      have := (H.rk x.1 x.2).2 (List.mem_of_getElem? hj)
      rw [hx, h] at this; cases this

theorem HI.empty {n : Int} (h : n ≤ 4194304) : HI n [] (fun _ => Option.none) (fun _ => Option.none) :=
  ⟨h, fun j x y _ hx => by simp at hx, ⟨fun j x hx => by simp at hx, fun id p hp => by cases hp⟩, fun x hx => by simp at hx, fun id r => by simp⟩

theorem append_at {t : List It} {x : It} {j : Nat} {z : It} (h : (t ++ [x])[j]? = some z) : t[j]? = some z ∨ (j = t.length ∧ z = x) := by
  by_cases c : j < t.length
  · rw [List.getElem?_append_left c] at h; exact .inl h
  · rw [List.getElem?_append_right (by omega)] at h
    have hi : j - t.length = 0 := by
      have := (List.getElem?_eq_some_iff.1 h).1
      simp at this; omega
    rw [hi] at h
    simp at h
    exact .inr ⟨by omega, h.symm⟩

theorem HOrd.append {t : List It} (h : HOrd t) (x : It) : UpEx (t ++ [x]) t.length := by
  refine ⟨fun j u v hj hne hu hv => ?_, fun j u v hj _ hp hu _ => ?_⟩
  · rcases append_at hu with hu | ⟨e, _⟩
    · rcases append_at hv with hv | ⟨e, _⟩
      · exact h j u v hj hu hv
      · have := (List.getElem?_eq_some_iff.1 hu).1; omega
    · exact absurd e hne
  · have := (List.getElem?_eq_some_iff.1 hu).1
    simp at this; omega

theorem PosI.append {t : List It} {f : Int → Option Int} (P : PosI t f) {x : It} (hx : f x.1 = Option.none) : PosI (t ++ [x]) (updF f x.1 t.length) := by
  refine ⟨fun j z hz => ?_, fun id p hp => ?_⟩
  · rcases append_at hz with h | ⟨rfl, rfl⟩
    · have hf := P.at_ j z h
      have : z.1 ≠ x.1 := fun n => by rw [n, hx] at hf; cases hf
      simp [updF, this, hf]
    · simp [updF]
  · by_cases e : id = x.1
    · subst e
      simp [updF] at hp
      exact ⟨t.length, x, by simp, rfl, hp.symm⟩
    · simp [updF, e] at hp
      obtain ⟨j, z, hj, hz, hpj⟩ := P.back id p hp
      exact ⟨j, z, by rw [List.getElem?_append_left (List.getElem?_eq_some_iff.1 hj).1]; exact hj, hz, hpj⟩

theorem HI.push {n : Int} {t t' : List It} {f f' g : Int → Option Int} (H : HI n t f g) {id r : Int} (h0 : 0 ≤ id) (h1 : id < n) (hf : f id = Option.none) (P : PosI t' f') (hm : ∀ z, z ∈ t' ↔ z ∈ t ++ [(id, r)]) (ho : HOrd t') : HI n t' f' (updF g id r) := by
  have hg := (H.none id).1 hf
  refine ⟨H.top, ho, P, fun x hx => ?_, fun k s => ?_⟩
  · rcases List.mem_append.1 ((hm x).1 hx) with h | h
    · exact H.ids x h
    · simp at h; subst h; exact ⟨h0, h1⟩
  · rw [hm]
    by_cases e : k = id
    · subst e
      simp only [updF, if_true, List.mem_append, List.mem_singleton]
      constructor
      · intro h; cases h; exact .inr rfl
      · rintro (h | h)
        · have := (H.rk k s).2 h; rw [hg] at this; cases this
        · cases h; rfl
    · simp only [updF, e, if_false, List.mem_append, List.mem_singleton]
      rw [H.rk k s]
      constructor
      · exact .inl
      · rintro (h | h)
        · exact h
        · cases h; exact absurd rfl e

/-- A thing is given a lesser rank: it may have to rise. -/
theorem HOrd.lower {t : List It} (h : HOrd t) {i : Nat} {x y : It} (hx : t[i]? = some x) (hl : ¬ lessI x y) : UpEx (t.set i y) i := by
  have hlt := (List.getElem?_eq_some_iff.1 hx).1
  refine ⟨fun j u v hj hne hu hv => ?_, fun j u v hj hi hp hu hv => ?_⟩
  · rw [List.getElem?_set_ne (Ne.symm hne)] at hu
    by_cases e : (j - 1) / 2 = i
    · rw [e, List.getElem?_set_self hlt] at hv
      cases hv
      have := h j u x hj hu (by rw [e]; exact hx)
      exact notLess_trans this hl
    · rw [List.getElem?_set_ne (Ne.symm e)] at hv
      exact h j u v hj hu hv
  · rw [List.getElem?_set_ne (by omega)] at hu
    rw [List.getElem?_set_ne (by omega)] at hv
    have h1 := h j u x hj hu (by rw [hp]; exact hx)
    have h2 := h i x v hi hx hv
    exact notLess_trans h1 h2

theorem PosI.set {t : List It} {f : Int → Option Int} (P : PosI t f) {i : Nat} {x y : It} (hx : t[i]? = some x) (he : y.1 = x.1) : PosI (t.set i y) f := by
  have hlt := (List.getElem?_eq_some_iff.1 hx).1
  refine ⟨fun j z hz => ?_, fun id p hp => ?_⟩
  · by_cases e : i = j
    · subst e; rw [List.getElem?_set_self hlt] at hz; cases hz; rw [he]; exact P.at_ _ _ hx
    · rw [List.getElem?_set_ne e] at hz; exact P.at_ j z hz
  · obtain ⟨j, z, hz, h1, h2⟩ := P.back id p hp
    by_cases e : i = j
    · subst e
      rw [hx] at hz; cases hz
      exact ⟨i, y, List.getElem?_set_self hlt, by rw [he]; exact h1, h2⟩
    · exact ⟨j, z, by rw [List.getElem?_set_ne e]; exact hz, h1, h2⟩

theorem HI.at_ {n : Int} {t : List It} {f g : Int → Option Int} (H : HI n t f g) {id p : Int} (h : f id = some p) : ∃ (j : Nat) (s : Int), p = j ∧ t[j]? = some (id, s) ∧ g id = some s ∧ 0 ≤ id ∧ id < n := by
  obtain ⟨j, x, hx, e, hp⟩ := H.pos.back id p h
  subst e
  have hm : x ∈ t := List.mem_of_getElem? hx
  exact ⟨j, x.2, hp, hx, (H.rk _ _).2 hm, H.ids x hm⟩

theorem HI.lower {n : Int} {t t' : List It} {f f' g : Int → Option Int} (H : HI n t f g) {i : Nat} {id s r : Int} (hx : t[i]? = some (id, s)) (P : PosI t' f') (hm : ∀ z, z ∈ t' ↔ z ∈ t.set i (id, r)) (ho : HOrd t') : HI n t' f' (updF g id r) := by
  have hlt := (List.getElem?_eq_some_iff.1 hx).1
  have hin := H.ids _ (List.mem_of_getElem? hx)
  have hmem : ∀ z, z ∈ t.set i (id, r) ↔ z = (id, r) ∨ (z ∈ t ∧ z.1 ≠ id) := by
    intro z
    constructor
    · intro hz
      obtain ⟨j, hj⟩ := List.getElem?_of_mem hz
      by_cases e : i = j
      · subst e; rw [List.getElem?_set_self hlt] at hj; cases hj; exact .inl rfl
      · rw [List.getElem?_set_ne e] at hj
        refine .inr ⟨List.mem_of_getElem? hj, fun h => ?_⟩
        have h1 := H.pos.at_ j z hj
        have h2 := H.pos.at_ i _ hx
        rw [h] at h1
        rw [h1] at h2
        have := Option.some.inj h2
        omega
    · rintro (rfl | ⟨h1, h2⟩)
      · exact List.mem_of_getElem? (List.getElem?_set_self hlt)
      · obtain ⟨j, hj⟩ := List.getElem?_of_mem h1
        have e : i ≠ j := fun e => by subst e; rw [hx] at hj; cases hj; exact h2 rfl
        exact List.mem_of_getElem? (by rw [List.getElem?_set_ne e]; exact hj)
  refine ⟨H.top, ho, P, fun x h => ?_, fun k u => ?_⟩
  · rcases (hmem x).1 ((hm x).1 h) with rfl | h
    · exact hin
    · exact H.ids x h.1
  · rw [hm, hmem]
    by_cases e : k = id
    · subst e
      simp [updF]
      exact eq_comm
    · simp only [updF, e, if_false]
      rw [H.rk]
      simp [e]

/-- A thing is taken out: the last one comes to its place. -/
theorem HOrd.cut {t : List It} (h : HOrd t) (m : Nat) : HOrd (t.take m) := fun j x y hj hx hy => by
  rw [List.getElem?_take] at hx hy
  split at hx
  · split at hy
    · exact h j x y hj hx hy
    · cases hy
  · cases hx

theorem HOrd.drop {t : List It} (h : HOrd t) {i m : Nat} {x y : It} (hx : t[i]? = some x) (hy : t[m]? = some y) (him : i < m) :
    UpEx ((swapI t i m x y).take m) i ∨ ((i = 0 ∨ ∀ u v, ((swapI t i m x y).take m)[i]? = some u → ((swapI t i m x y).take m)[(i - 1) / 2]? = some v → ¬ lessI u v) ∧ DnEx ((swapI t i m x y).take m) i) := by
  have A : ∀ j, ((swapI t i m x y).take m)[j]? = if j < m then (if j = i then some y else t[j]?) else none := fun j => by
    rw [List.getElem?_take, swapI_at hx hy]
    split
    · rw [if_neg (by omega)]
    · rfl
  have old : ∀ (j : Nat) u, ((swapI t i m x y).take m)[j]? = some u → j ≠ i → t[j]? = some u := fun j u hu hne => by
    rw [A] at hu
    split at hu
    · first | exact hu | (rw [if_neg hne] at hu; exact hu)
    · cases hu
  have ati : ((swapI t i m x y).take m)[i]? = some y := by rw [A, if_pos him, if_pos rfl]
  by_cases hs : i = 0 ∨ ∀ u v, ((swapI t i m x y).take m)[i]? = some u → ((swapI t i m x y).take m)[(i - 1) / 2]? = some v → ¬ lessI u v
  · refine .inr ⟨hs, fun j u v hj hne hu hv => ?_, fun j u v hj hi hp hu hv => ?_⟩
    · by_cases e : j = i
      · subst e
        rcases hs with hs | hs
        · omega
        · exact hs u v hu hv
      · exact h j u v hj (old j u hu e) (old _ v hv hne)
    · have hu' := old j u hu (by omega)
      have hv' := old _ v hv (by omega)
      exact notLess_trans (h j u x hj hu' (by rw [hp]; exact hx)) (h i x v hi hx hv')
  · left
    have hi0 : 0 < i := by
      rcases Nat.eq_zero_or_pos i with e | e
      · exact absurd (.inl e) hs
      · exact e
    have hpi : (i - 1) / 2 ≠ i := by omega
    obtain ⟨p, hp⟩ : ∃ p, t[(i - 1) / 2]? = some p := ⟨_, List.getElem?_eq_getElem (by have := (List.getElem?_eq_some_iff.1 hx).1; omega)⟩
    have hp' : ((swapI t i m x y).take m)[(i - 1) / 2]? = some p := by rw [A, if_pos (by omega), if_neg hpi]; exact hp
    have hless : lessI y p := by
      refine Decidable.byContradiction fun n => hs (.inr fun u v hu hv => ?_)
      rw [ati] at hu; rw [hp'] at hv; cases hu; cases hv; exact n
    have hxp : ¬ lessI x p := h i x p hi0 hx hp
    refine ⟨fun j u v hj hne hu hv => ?_, fun j u v hj _ hpar hu hv => ?_⟩
    · have hu' := old j u hu hne
      by_cases e : (j - 1) / 2 = i
      · rw [e, ati] at hv; cases hv
        have h1 := h j u x hj hu' (by rw [e]; exact hx)
        exact fun l => (notLess_trans h1 hxp) (l.trans hless)
      · exact h j u v hj hu' (old _ v hv e)
    · have hu' := old j u hu (by omega)
      have hv' := old _ v hv hpi
      rw [hp] at hv'; cases hv'
      exact notLess_trans (h j u x hj hu' (by rw [hpar]; exact hx)) hxp

theorem PosI.cut {t : List It} {f : Int → Option Int} (P : PosI t f) {m : Nat} {x : It} (hx : t[m]? = some x) (hl : t.length = m + 1) : PosI (t.take m) (delF f x.1) := by
  refine ⟨fun j z hz => ?_, fun id p hp => ?_⟩
  · rw [List.getElem?_take] at hz
    split at hz
    · have h1 := P.at_ j z hz
      have h2 := P.at_ m x hx
      have : z.1 ≠ x.1 := fun e => by
        rw [e, h2] at h1
        have := Option.some.inj h1
        omega
      rw [delF_ne this]; exact h1
    · cases hz
  · by_cases e : id = x.1
    · subst e; rw [delF_at] at hp; cases hp
    · rw [delF_ne e] at hp
      obtain ⟨j, z, hz, h1, h2⟩ := P.back id p hp
      refine ⟨j, z, ?_, h1, h2⟩
      have hlt := (List.getElem?_eq_some_iff.1 hz).1
      have : j ≠ m := fun e2 => by subst e2; rw [hx] at hz; cases hz; exact e h1.symm
      rw [List.getElem?_take, if_pos (by omega)]
      exact hz

theorem HI.drop {n : Int} {t t' : List It} {f f' g : Int → Option Int} (H : HI n t f g) {i m : Nat} {id s : Int} {y : It} (hx : t[i]? = some (id, s)) (hy : t[m]? = some y) (hl : t.length = m + 1) (P : PosI t' f') (hm : ∀ z, z ∈ t' ↔ z ∈ (swapI t i m (id, s) y).take m) (ho : HOrd t') : HI n t' f' (delF g id) := by
  have hmem : ∀ z, z ∈ (swapI t i m (id, s) y).take m ↔ z ∈ t ∧ z.1 ≠ id := by
    intro z
    have hS := swapI_at hx hy
    have hin := (List.getElem?_eq_some_iff.1 hx).1
    constructor
    · intro h
      obtain ⟨j, hj⟩ := List.getElem?_of_mem h
      have hjm : j < m := by
        have := (List.getElem?_eq_some_iff.1 hj).1
        rw [List.length_take] at this; omega
      rw [List.getElem?_take, if_pos hjm, hS, if_neg (by omega)] at hj
      have key : ∀ k, t[k]? = some z → k ≠ i → z ∈ t ∧ z.1 ≠ id := fun k hk hne => ⟨List.mem_of_getElem? hk, fun e => by
        have h1 := H.pos.at_ k z hk
        have h2 := H.pos.at_ i _ hx
        rw [e, h2] at h1
        have := Option.some.inj h1
        omega⟩
      split at hj
      · cases hj; exact key m hy (by omega)
      · rename_i hne; exact key j hj hne
    · rintro ⟨h, hne⟩
      obtain ⟨k, hk⟩ := List.getElem?_of_mem h
      have hki : k ≠ i := fun e => by subst e; rw [hx] at hk; cases hk; exact hne rfl
      have hkl := (List.getElem?_eq_some_iff.1 hk).1
      by_cases e : k = m
      · subst e
        rw [hy] at hk; cases hk
        refine List.mem_of_getElem? (i := i) ?_
        rw [List.getElem?_take, if_pos (by omega), hS, if_neg (by omega), if_pos rfl]
      · refine List.mem_of_getElem? (i := k) ?_
        rw [List.getElem?_take, if_pos (by omega), hS, if_neg e, if_neg hki]
        exact hk
  refine ⟨H.top, ho, P, fun x h => H.ids x ((hmem x).1 ((hm x).1 h)).1, fun k u => ?_⟩
  rw [hm, hmem]
  by_cases e : k = id
  · subst e; simp [delF]
  · simp only [delF_ne e]
    rw [H.rk]
    simp [e]

/-- So many things are in. -/
def Cnt (g : Int → Option Int) (c : Nat) : Prop := ∃ l : List Int, l.Nodup ∧ (∀ id, id ∈ l ↔ g id ≠ none) ∧ l.length = c

theorem nodup_len {l m : List Int} (hl : l.Nodup) (h : ∀ x, x ∈ l → x ∈ m) : l.length ≤ m.length := by
  induction l generalizing m with
  | nil => simp
  | cons x l ih =>
    have hx : x ∈ m := h x (by simp)
    have := ih (m := m.erase x) (List.nodup_cons.1 hl).2 (fun y hy => by
      have : y ≠ x := fun e => (List.nodup_cons.1 hl).1 (e ▸ hy)
      exact (List.mem_erase_of_ne this).2 (h y (by simp [hy])))
    rw [List.length_erase_of_mem hx] at this
    have : 0 < m.length := List.length_pos_of_mem hx
    simp; omega

theorem Cnt.unique {g : Int → Option Int} {c d : Nat} (h : Cnt g c) (k : Cnt g d) : c = d := by
  obtain ⟨l, hl, hm, rfl⟩ := h
  obtain ⟨l', hl', hm', rfl⟩ := k
  have h1 := nodup_len hl (m := l') (fun x hx => (hm' x).2 ((hm x).1 hx))
  have h2 := nodup_len hl' (m := l) (fun x hx => (hm x).2 ((hm' x).1 hx))
  omega
theorem Cnt.empty : Cnt (fun _ => none) 0 := ⟨[], List.nodup_nil, fun id => by simp, rfl⟩
theorem Cnt.push {g : Int → Option Int} {c : Nat} (h : Cnt g c) {id r : Int} (hg : g id = none) : Cnt (updF g id r) (c + 1) := by
  obtain ⟨l, hl, hm, rfl⟩ := h
  refine ⟨id :: l, List.nodup_cons.2 ⟨fun hi => (hm id).1 hi hg, hl⟩, fun k => ?_, rfl⟩
  by_cases e : k = id
  · subst e; simp [updF]
  · simp [updF, e, hm]
theorem Cnt.same {g : Int → Option Int} {c : Nat} (h : Cnt g c) {id r s : Int} (hg : g id = some s) : Cnt (updF g id r) c := by
  obtain ⟨l, hl, hm, rfl⟩ := h
  refine ⟨l, hl, fun k => ?_, rfl⟩
  by_cases e : k = id
  · subst e; simp [updF, hm, hg]
  · simp [updF, e, hm]
theorem Cnt.drop {g : Int → Option Int} {c : Nat} (h : Cnt g c) {id s : Int} (hg : g id = some s) : 0 < c ∧ Cnt (delF g id) (c - 1) := by
  obtain ⟨l, hl, hm, rfl⟩ := h
  have hi : id ∈ l := (hm id).2 (by rw [hg]; simp)
  refine ⟨List.length_pos_of_mem hi, l.erase id, hl.erase _, fun k => ?_, List.length_erase_of_mem hi⟩
  rw [hl.mem_erase_iff]
  by_cases e : k = id
  · subst e; simp [delF]
  · simp [delF, e, hm]
theorem Cnt.zero {g : Int → Option Int} {c : Nat} (h : Cnt g c) : c = 0 ↔ ∀ id, g id = none := by
  obtain ⟨l, hl, hm, rfl⟩ := h
  constructor
  · intro h id
    rw [List.eq_nil_of_length_eq_zero h] at hm
    have := hm id
    simp at this; exact this
  · intro h
    rcases l with _ | ⟨x, l⟩
    · rfl
    · exact absurd (h x) ((hm x).1 (by simp))
theorem HI.cnt {n : Int} {t : List It} {f g : Int → Option Int} (H : HI n t f g) : Cnt g t.length := by
  refine ⟨t.map (·.1), H.pos.nodup, fun id => ?_, by simp⟩
  constructor
  · intro h
    obtain ⟨x, hx, rfl⟩ := List.mem_map.1 h
    rw [(H.rk x.1 x.2).2 hx]; simp
  · intro h
    cases hg : g id with
    | none => exact absurd hg h
    | some r => exact List.mem_map.2 ⟨_, (H.rk id r).1 hg, rfl⟩

end Go.SL
