/- Numbers read from bytes, plain: what is gathered after some bytes. -/
import Derived.Test.YtebcdnnfjcaofaaEncRoad
namespace Go.SL

theorem numL_ne (w : Nat) : numL w ≠ [] := by
  by_cases h : w < 128
  · rw [numL_small h]; simp
  · rw [numL_big h]; simp
theorem numL_uncons {w : Nat} {c : Int} {rest tail : List Int} (h : numL w ++ rest = c :: tail) : (c < 128 ∧ c = w ∧ rest = tail ∧ w < 128) ∨ (128 ≤ c ∧ 128 ≤ w ∧ c = ((w % 128 + 128 : Nat) : Int) ∧ tail = numL (w / 128) ++ rest) := by
  by_cases hw : w < 128
  · rw [numL_small hw] at h
    simp at h
    exact .inl ⟨by omega, h.1.symm, h.2, hw⟩
  · rw [numL_big hw] at h
    simp only [List.cons_append, List.cons.injEq] at h
    exact .inr ⟨by omega, by omega, h.1.symm, h.2.symm⟩
/-- Numbers' bytes are told apart. -/
theorem numL_free : ∀ {v w : Nat} {r t : List Int}, numL v ++ r = numL w ++ t → v = w ∧ r = t := by
  intro v
  induction v using Nat.strongRecOn with
  | _ v ih =>
    intro w r t h
    by_cases hv : v < 128
    · rw [numL_small hv] at h
      rcases numL_uncons (w := w) (rest := t) (c := (v : Int)) (tail := r) h.symm with ⟨_, h2, h3, _⟩ | ⟨h1, _⟩
      · exact ⟨by omega, h3.symm⟩
      · omega
    · rw [numL_big hv] at h
      rcases numL_uncons (w := w) (rest := t) (c := ((v % 128 + 128 : Nat) : Int)) (tail := numL (v / 128) ++ r) h.symm with ⟨h1, _⟩ | ⟨_, h2, h3, h4⟩
      · omega
      · obtain ⟨e1, e2⟩ := ih (v / 128) (by omega) h4
        exact ⟨by omega, e2⟩

/-- What is gathered after n bytes. -/
def Gath (D : List Int) (n v : Nat) : Prop := ∀ w rest, D = numL w ++ rest ↔ ∃ w', w = v + 128 ^ n * w' ∧ (n = 0 ∨ 1 ≤ w') ∧ D.drop n = numL w' ++ rest
theorem Gath.zero (D : List Int) : Gath D 0 0 := fun w rest => ⟨fun h => ⟨w, by simp, .inl rfl, by simpa using h⟩, fun ⟨w', h1, _, h3⟩ => by simp at h1 h3; rw [h1, h3]⟩
theorem drop_cons {D : List Int} {n : Nat} {c : Int} (h : D[n]? = some c) : D.drop n = c :: D.drop (n + 1) := by
  rw [List.drop_eq_getElem_cons (List.getElem?_eq_some_iff.1 h).1, (List.getElem?_eq_some_iff.1 h).2]
theorem Gath.step {D : List Int} {n v : Nat} (G : Gath D n v) {c : Nat} (hc : D[n]? = some (c : Int)) (h1 : 128 ≤ c) (h2 : c ≤ 255) : Gath D (n + 1) (v + 128 ^ n * (c - 128)) := fun w rest => by
  rw [G w rest, drop_cons hc]
  constructor
  · rintro ⟨w', e1, e2, e3⟩
    rcases numL_uncons e3.symm with ⟨k1, _⟩ | ⟨_, k2, k3, k4⟩
    · omega
    · refine ⟨w' / 128, ?_, .inr (by omega), k4⟩
      have : w' = (c - 128) + 128 * (w' / 128) := by omega
      rw [e1, Nat.pow_succ, Nat.add_assoc, Nat.mul_assoc, ← Nat.mul_add, ← this]
  · rintro ⟨w', e1, e2, e3⟩
    refine ⟨(c - 128) + 128 * w', ?_, .inr (by omega), ?_⟩
    · rw [e1, Nat.pow_succ, Nat.add_assoc, Nat.mul_assoc, ← Nat.mul_add]
    · have hb : ¬ (c - 128) + 128 * w' < 128 := by omega
      rw [numL_big hb, e3]
      have q1 : ((c - 128) + 128 * w') % 128 + 128 = c := by omega
      have q2 : ((c - 128) + 128 * w') / 128 = w' := by omega
      rw [q1, q2]; rfl
theorem Gath.ok {D : List Int} {n v : Nat} (G : Gath D n v) {c : Nat} (hc : D[n]? = some (c : Int)) (h1 : c < 128) (h2 : n = 0 ∨ 1 ≤ c) : D = numL (v + 128 ^ n * c) ++ D.drop (n + 1) := by
  rw [G]
  exact ⟨c, rfl, h2, by rw [numL_small h1, drop_cons hc]; rfl⟩
theorem Gath.naught {D : List Int} {n v : Nat} (G : Gath D n v) (hc : D[n]? = some 0) (hn : 0 < n) {w : Nat} {rest : List Int} : D ≠ numL w ++ rest := fun h => by
  obtain ⟨w', e1, e2, e3⟩ := (G w rest).1 h
  rw [drop_cons hc] at e3
  rcases numL_uncons e3.symm with ⟨k1, k2, _⟩ | ⟨k, _⟩ <;> omega
theorem Gath.short {D : List Int} {n v : Nat} (G : Gath D n v) (hn : D.length ≤ n) {w : Nat} {rest : List Int} : D ≠ numL w ++ rest := fun h => by
  obtain ⟨w', e1, e2, e3⟩ := (G w rest).1 h
  rw [List.drop_eq_nil_of_le hn] at e3
  exact numL_ne w' (List.append_eq_nil_iff.1 e3.symm).1
theorem Gath.big {D : List Int} {v : Nat} (G : Gath D 9 v) {c : Nat} (hc : D[9]? = some (c : Int)) (h1 : 1 < c) {w : Nat} {rest : List Int} (h : D = numL w ++ rest) : 18446744073709551616 ≤ w := by
  obtain ⟨w', e1, e2, e3⟩ := (G w rest).1 h
  rw [drop_cons hc] at e3
  have hw : 2 ≤ w' := by rcases numL_uncons e3.symm with ⟨k1, k2, _⟩ | ⟨k, k2, _⟩ <;> omega
  have : (128 : Nat) ^ 9 = 9223372036854775808 := by decide
  rw [this] at e1
  omega

end Go.SL
