/- A part of the proofs' own ground: rules for slices that are built, cut and grown. -/
import Derived.Test.YtebcdnnfjcaofaaRules2
import Derived.Deep.AppendSrc
namespace Go.SL

theorem UnS.un {P : Program} {t : TypeId} {d : TypeDesc} (h : UnS P t d) (w : World) : P.underlying t = some d := by
  have := h w
  unfold Go.underlying at this
  simp only [Sem.run_bind] at this
  cases e : P.underlying t <;> simp [e] at this
  · exact congrArg some this

theorem ElS.info {P : Program} {e : TypeId} {k bytes : Nat} {z : List Value} (h : ElS P e k bytes z) (w : World) :
    ∃ i zv, P.info? e = some i ∧ i.zero = some zv ∧ i.size = k ∧ i.bytes = bytes ∧ zv.cells.toList = z := by
  obtain ⟨i, hb, hi⟩ := h.bytes
  obtain ⟨zv, hz, hzv⟩ := h.zero
  have h1 := hi w
  have h2 := hzv w
  have h3 := h.size w
  unfold typeInfo at h1
  unfold zeroValue typeInfo at h2
  unfold sizeOf typeInfo at h3
  simp only [Sem.run_bind] at h1 h2 h3
  cases e : P.info? e with
  | none => simp [e] at h1
  | some j =>
    simp [e] at h1 h2 h3
    subst h1
    cases e2 : j.zero with
    | none => simp [e2] at h2
    | some v =>
      simp [e2] at h2
      subst h2
      exact ⟨j, v, rfl, e2, h3, hb, hz⟩

theorem flatMap_get {α : Type} (E : Enc α) (xs : List α) (j : Nat) (y : Value) (h : (xs.flatMap E.enc)[j]? = some y) : ∃ (i : Nat) (x : α) (r : Nat), xs[i]? = some x ∧ (E.enc x)[r]? = some y ∧ j = i * E.k + r := by
  induction xs generalizing j with
  | nil => simp at h
  | cons x xs ih =>
    rw [List.flatMap_cons] at h
    by_cases hj : j < (E.enc x).length
    · rw [List.getElem?_append_left hj] at h
      exact ⟨0, x, j, rfl, h, by omega⟩
    · rw [List.getElem?_append_right (by omega)] at h
      obtain ⟨i, x', r, h1, h2, h3⟩ := ih _ h
      refine ⟨i + 1, x', r, by simpa using h1, h2, ?_⟩
      rw [E.len] at h3 hj
      rw [Nat.succ_mul]; omega

/-- What is read of a slice, to be appended. -/
theorem sliceAt.src {α : Type} {E : Enc α} {ys : List α} {x : Value} {w : World} (h : sliceAt E ys x (hpOf w)) {P : Program} {tx e' : TypeId} (hk : P.underlying tx = some (.slice e')) :
    Src P E.k tx x ys.length (ys.flatMap E.enc) w := by
  have hone : ∀ u ∈ ys.flatMap E.enc, u.oneCell' = true := fun u hu => by
    obtain ⟨y, _, hy⟩ := List.mem_flatMap.1 hu
    exact List.all_eq_true.1 (E.one y) u hy
  rcases h with ⟨rfl, a, c, rfl⟩ | ⟨b, off, c, cs, t, fz, rfl, hb, hc⟩
  · cases a with
    | none => exact Src.ofNil w hk c
    | some a => exact Src.ofSlice w hk a 0 c [] (by simp) (by simp) (by simp)
  · refine Src.ofSlice w hk ⟨b, off, none⟩ _ _ _ (flatMap_len E ys) (fun j u hj => ?_) hone
    obtain ⟨i, y, r, h1, h2, rfl⟩ := flatMap_get E ys j u hj
    have hb' : w.heap[b]? = some (.cells cs t fz) := hb
    have := hc i y h1 r u h2
    rw [addr_add]
    simpa [World.cell?, hb', Nat.add_assoc] using this

theorem hpOf_setCells (b off : Nat) (t : TypeId) (fz : Nat × Nat) : ∀ (ys : List Value) (w : World) (cs : Array Value) , w.heap[b]? = some (.cells cs t fz) →
    hpOf (w.setCells b off ys) = (hpOf w).set b (.cells (Go.SL.setCells cs.toList off ys).toArray t fz) ∧ Quiet w (w.setCells b off ys) := by
  intro ys
  induction ys generalizing off with
  | nil =>
    intro w cs hb
    refine ⟨?_, Quiet.refl _⟩
    funext c
    show hpOf w c = _
    simp only [Hp.set, Go.SL.setCells]
    split
    · rename_i h; subst h; simpa [hpOf] using hb
    · rfl
  | cons y ys ih =>
    intro w cs hb
    have h0 := hpOf_setCell w b off y cs t fz hb
    have hb1 : (w.setCell ⟨b, off, none⟩ y).heap[b]? = some (.cells (cs.setIfInBounds off y) t fz) := by
      have := congrFun h0 b
      simpa [hpOf, Hp.set] using this
    obtain ⟨h1, h2⟩ := ih (off + 1) (w.setCell ⟨b, off, none⟩ y) _ hb1
    refine ⟨?_, Quiet.trans (b := w.setCell ⟨b, off, none⟩ y) ⟨rfl, rfl, rfl, Nat.le_refl _⟩ h2⟩
    show hpOf ((w.setCell ⟨b, off, none⟩ y).setCells b (off + 1) ys) = _
    rw [h1, h0]
    funext c
    simp only [Hp.set]
    split
    · simp [Go.SL.setCells]
    · rfl

/-- A value of one cell: what may be stored in a struct or a slice as it is. -/
structure OneV (v : Value) : Prop where
  one : v.oneCell' = true
  cells : Value.cellsL v = [v]
theorem OneV.slice {a : Option Addr} {n c : Nat} : OneV (.slice a n c) := ⟨rfl, rfl⟩

section
variable {L R S : List Chunk} {K : Value → List Chunk → Prop}

/-- append: to a slice that is owned, whatever is read. -/
theorem appW_core {α : Type} {E : Enc α} {xs ys : List α} {v x : Value} {k bytes : Nat} {z : List Value} (hk : E.k = k)
    (hx : ∀ h, Holds (⟨v, sliceC E xs⟩ :: R) h → sliceAt E ys x h) (hz : z.length = k) (hb : (xs.length + ys.length) * bytes ≤ 140737488355328) (hm : xs.length + ys.length ≤ 9223372036854775807)
    (h : ∀ v', OneV v' → K v' (⟨v', sliceC E (xs ++ ys)⟩ :: R)) : AppW k bytes z v x (⟨v, sliceC E xs⟩ :: R) K := by
  intro P t u e ty ht hu hE F W w hw
  obtain ⟨i, zv, hi, hzv, hsz, hby, hzc⟩ := hE.info w
  subst hsz hby
  have hs : Src P i.size u x ys.length (ys.flatMap E.enc) w := by
    have h1 := hx _ hw.left.holds
    have := h1.src (P := P) (hu.un w)
    rw [hk] at this; exact this
  have hgrow : ∀ base sLen sCap, v = .slice base sLen sCap → sLen = xs.length → (Builtin.firstCells i.size sLen (.slice base sLen sCap)).run P w.drew = .ok (xs.flatMap E.enc).toArray w.drew → sCap < sLen + ys.length →
      ∃ v' w' L', (Builtin.append_ #[t, u] ty #[v, x]).run P w = .ok v' w' ∧ St W w' (L' ++ F) ∧ K v' L' := by
    intro base sLen sCap hv hl hold hg
    subst hl
    have hr := run_append_grow_src w t u ty e i zv (ht.un w) hi hzv base xs.length sCap _ hold x _ _ hs hg (by omega) (growslice_fits hg hb)
    have hge := grownCap_ge w (xs.length + ys.length) sCap e
    rw [hv]
    refine ⟨_, _, _, hr, ?_, h _ OneV.slice⟩
    have hw1 : St W w.drew (⟨v, sliceC E xs⟩ :: (R ++ F)) := St.drew hw
    refine (St.alloc hw1.tail (.cells _ e) _ (sliceC E (xs ++ ys)) (.inr ⟨w.heap.size, e, [], (Builtin.zeroCells zv.cells (grownCap w (xs.length + ys.length) sCap e - (xs.length + ys.length))).toList, grownCap w (xs.length + ys.length) sCap e - (xs.length + ys.length), ?_, ?_, ?_⟩))
    · simp only [List.length_append, List.length_nil]
      congr 1
      omega
    · rw [Array.length_toList, size_zeroCells]
      have : zv.cells.size = i.size := by rw [← Array.length_toList, hzc, hz]
      rw [this, hk]
    · congr 1
      simp [List.flatMap_append]
  have hw' := hw
  obtain ⟨hq, hp1, hp2, hd, l1, l2, hc, hrest⟩ := hw
  rcases hc with ⟨hv, hx0⟩ | ⟨b, tt, pre, spare, m, hv, hsp, he⟩
  · replace hv : v = .slice none 0 0 := hv
    subst hx0
    by_cases hy : ys.length = 0
    · have hys : ys = [] := List.eq_nil_of_length_eq_zero hy
      subst hys
      refine ⟨.slice none 0 0, w, _, ?_, ?_, h _ OneV.slice⟩
      · have hl := hs.len w
        have hcc : (Builtin.firstCells i.size 0 x).run P w = .ok #[] w := by simpa using hs.cells
        rcases hs.kind with ⟨e', hk'⟩ | hk'
        · rw [hv]; simp [Builtin.append_, run_underlying (ht.un w), run_underlying hk', sizeOf, typeInfo, hi, hs.len, hcc]
        · rw [hv]; simp [Builtin.append_, run_underlying (ht.un w), run_underlying hk', sizeOf, typeInfo, hi, hs.len, hcc]
      · subst hv; exact hw'
    · exact hgrow none 0 0 hv rfl (by simp [Builtin.firstCells]) (by simp; omega)
  · replace hv : v = .slice (some ⟨b, pre.length, none⟩) xs.length (xs.length + m) := hv
    by_cases hroom : xs.length + ys.length ≤ xs.length + m
    · obtain ⟨hb', hh⟩ := holds_wo_of he hd l1 l2 hrest
      have hbh : w.heap[b]? = some (.cells (pre ++ xs.flatMap E.enc ++ spare).toArray tt (0, 0)) := hb'
      have hlx := flatMap_len E xs
      have hly := flatMap_len E ys
      rw [hk] at hlx hly hsp
      have hmm : ys.length * i.size ≤ m * i.size := Nat.mul_le_mul_right _ (by omega)
      have hr := run_append_room_src w t u ty e i (ht.un w) hi b pre.length xs.length (xs.length + m) x _ _ hs hroom (fun j hj => by
        have : pre.length + xs.length * i.size + j < (pre ++ xs.flatMap E.enc ++ spare).length := by simp only [List.length_append]; omega
        simp only [World.cell?, hbh]
        simp only [List.getElem?_toArray, List.getElem?_eq_getElem this, Option.isSome_none, Bool.false_eq_true, if_false, Option.isSome_some]) (fun j hj => by simp [World.frozen?, hbh])
      obtain ⟨g1, g2⟩ := hpOf_setCells b (pre.length + xs.length * i.size) tt (0, 0) (ys.flatMap E.enc) w _ hbh
      rw [hv]
      refine ⟨_, _, _, hr, ?_, h _ OneV.slice⟩
      refine ⟨hq.trans g2, holds_one b _ (.inr ⟨b, tt, pre, spare.drop (ys.length * i.size), m - ys.length, ?_, ?_, rfl⟩) ?_ ?_⟩
      · simp only [List.length_append]; congr 1; omega
      · rw [List.length_drop, hsp, hk, Nat.sub_mul]
      · rw [g1, Hp.set_same]
        congr 3
        have h3 := setCells_append (pre ++ xs.flatMap E.enc) (spare.take (ys.length * i.size)) (spare.drop (ys.length * i.size)) (ys.flatMap E.enc) 0 (by rw [List.length_take]; omega)
        simp only [List.append_assoc, List.take_append_drop, List.length_append, hlx, Nat.add_zero] at h3
        simp only [List.append_assoc, List.flatMap_append]
        rw [h3]
        have h4 := setCells_all (spare.take (ys.length * i.size)) (ys.flatMap E.enc) [] [] (by rw [List.length_take]; omega)
        simp at h4
        rw [h4]
      · rw [g1, Hp.wo_set]; exact hh
    · refine hgrow (some ⟨b, pre.length, none⟩) xs.length (xs.length + m) hv rfl ?_ (by omega)
      have hbh : w.heap[b]? = some (.cells (pre ++ xs.flatMap E.enc ++ spare).toArray tt (0, 0)) := by
        have := l1; rw [he] at this; exact Hp.one_le.1 this
      refine run_firstCells_some w.drew i.size xs.length ⟨b, pre.length, none⟩ _ _ _ (by rw [flatMap_len, hk]) (fun j y hj => ?_)
      rw [addr_add]
      have hlt := (List.getElem?_eq_some_iff.1 hj).1
      have : (pre ++ List.flatMap E.enc xs ++ spare)[pre.length + j]? = some y := by
        rw [List.append_assoc, List.getElem?_append_right (by omega), List.getElem?_append_left (by omega)]
        rw [show pre.length + j - pre.length = j from by omega]
        exact hj
      show w.cell? ⟨b, pre.length + j, none⟩ = some y
      simp only [World.cell?, hbh, List.getElem?_toArray]
      exact this

theorem AppW.pre {k bytes : Nat} {z : List Value} {v x : Value} {M : List Chunk} (e : Ent L M) (h : AppW k bytes z v x M K) : AppW k bytes z v x L K :=
  fun P t u e1 ty ht hu hE F W w hw => h P t u e1 ty ht hu hE F W w (hw.ent e.append)

/-- append(s, x...): x is read and stays. -/
theorem AppW_slice {α : Type} {E : Enc α} {xs ys : List α} {v x : Value} {k bytes : Nat} {z : List Value} [H : OwnS L v E xs R] [H2 : RdS L x E ys] (hk : E.k = k) (hz : z.length = k)
    (hb : (xs.length + ys.length) * bytes ≤ 140737488355328) (hm : xs.length + ys.length ≤ 9223372036854775807) (h : ∀ v', OneV v' → K v' (⟨v', sliceC E (xs ++ ys)⟩ :: R)) : AppW k bytes z v x L K :=
  AppW.pre (Ent.of_perm H.perm) (appW_core hk (fun _ hh => H2.rd _ (hh.perm H.perm.symm)) hz hb hm h)

/-- append(s, x, ..): the row that was built for it is let go. -/
theorem AppW_take {α : Type} {E : Enc α} {xs ys : List α} {v x : Value} {k bytes : Nat} {z : List Value} [H : OwnS L v E xs R] [H2 : OwnS R x E ys S] (hk : E.k = k) (hz : z.length = k)
    (hb : (xs.length + ys.length) * bytes ≤ 140737488355328) (hm : xs.length + ys.length ≤ 9223372036854775807) (h : ∀ v', OneV v' → K v' (⟨v', sliceC E (xs ++ ys)⟩ :: S)) : AppW k bytes z v x L K := by
  have hp : L.Perm (⟨v, sliceC E xs⟩ :: ⟨x, sliceC E ys⟩ :: S) := H.perm.trans (H2.perm.cons _)
  refine AppW.pre (Ent.of_perm hp) ?_
  intro P t u e1 ty ht hu hE F W w hw
  obtain ⟨v', w', L', hr, hs, hk'⟩ := appW_core (K := fun v' L' => K v' (⟨v', sliceC E (xs ++ ys)⟩ :: S) ∧ L' = ⟨v', sliceC E (xs ++ ys)⟩ :: ⟨x, sliceC E ys⟩ :: S) hk (fun _ hh => (RdS.tail (H := RdS.head)).rd _ hh) hz hb hm (fun v' o => ⟨h v' o, rfl⟩) P t u e1 ty ht hu hE F W w hw
  obtain ⟨hk', rfl⟩ := hk'
  exact ⟨v', w', _, hr, hs.ent (Ent.cons Ent.tail), hk'⟩

theorem Ent.nilS {α : Type} {E : Enc α} : Ent L (⟨.slice none 0 0, sliceC E []⟩ :: L) := fun h hh =>
  ⟨fun _ => none, h, fun _ => .inl rfl, fun _ _ e => (by cases e), Hp.le.refl h, .inl ⟨rfl, rfl⟩, hh⟩

/-- append(nil, x...). -/
theorem AppW_nil {α : Type} {E : Enc α} {ys : List α} {x : Value} {k bytes : Nat} {z : List Value} [H2 : RdS L x E ys] (hk : E.k = k) (hz : z.length = k)
    (hb : ys.length * bytes ≤ 140737488355328) (hm : ys.length ≤ 9223372036854775807) (h : ∀ v', OneV v' → K v' (⟨v', sliceC E ys⟩ :: L)) : AppW k bytes z (.slice none 0 0) x L K :=
  AppW.pre (Ent.nilS (E := E)) (appW_core hk (fun _ hh => H2.rd _ hh.tail) hz (by simpa using hb) (by simpa using hm) (fun v' o => by simpa using h v' o))

theorem AppW_nilTake {α : Type} {E : Enc α} {ys : List α} {x : Value} {k bytes : Nat} {z : List Value} [H2 : OwnS L x E ys R] (hk : E.k = k) (hz : z.length = k)
    (hb : ys.length * bytes ≤ 140737488355328) (hm : ys.length ≤ 9223372036854775807) (h : ∀ v', OneV v' → K v' (⟨v', sliceC E ys⟩ :: R)) : AppW k bytes z (.slice none 0 0) x L K :=
  AppW.pre (Ent.nilS (E := E)) (AppW_take hk hz (by simpa using hb) (by simpa using hm) (fun v' o => by simpa using h v' o))

/-- A row that is built of its elements. -/
theorem BldSW_intro {α : Type} {E : Enc α} {xs : List α} {n : Nat} {cs : List Value} (hcs : xs.flatMap E.enc = cs) (hn : xs.length = n) (h : ∀ v, OneV v → K v (⟨v, sliceC E xs⟩ :: L)) : BldSW n cs L K := by
  intro P elem F W w hw
  refine ⟨.slice (some ⟨w.heap.size, 0, none⟩) n n, w.alloc (.cells cs.toArray elem), _, by simp [newRow], hw.alloc _ _ _ (.inr ⟨w.heap.size, elem, [], [], 0, ?_, ?_, ?_⟩), h _ OneV.slice⟩
  · simp [hn]
  · simp
  · simp [hcs]

end

/-! ### Slices by their numbers -/

section
variable {L R : List Chunk} {K : Value → Prop}

theorem LenW_lit {a : Option Addr} {n c : Nat} (h : K (.int .i64 n)) : LenW (.slice a n c) L K :=
  ⟨_, fun P t e ty hu W w hw => by simp [Builtin.len_, hu w, goInt], h⟩
theorem CapW_lit {a : Option Addr} {n c : Nat} (h : K (.int .i64 c)) : CapW (.slice a n c) L K :=
  ⟨_, fun P t e ty hu W w hw => by simp [Builtin.cap_, hu w, goInt], h⟩
theorem IxsW_lit {b o n c : Nat} {k : Nat} {ik : IntKind} {i : Int} (hi : 0 ≤ i ∧ i < n) (h : K (elP (.slice (some ⟨b, o, none⟩) n c) k i)) : IxsW k (.slice (some ⟨b, o, none⟩) n c) (.int ik i) L K :=
  ⟨_, fun P t e hu hs W w hw => by simp [Instr.indexAt, asIntOf, hu w, hs w, hi.1, hi.2, elP, elemP], h⟩
theorem SlcW_hi {a : Option Addr} {n c k : Nat} {m : Int} (hm : 0 ≤ m ∧ m ≤ c) (h : K (.slice a m.toNat c)) : SlcW k (.slice a n c) none (some (.int .i64 m)) none L K :=
  ⟨_, fun P t e hu hs W w hw => by
    obtain ⟨m, rfl⟩ := Int.eq_ofNat_of_zero_le hm.1
    have h1 : m ≤ c := by omega
    have h2 : ¬ ((c : Int) < m) := by omega
    have hb : (Instr.sliceBounds true n c none (some (.int .i64 m)) none).run P w = .ok (0, m, c) w := by
      simp [Instr.sliceBounds, Instr.sliceBound, asIntOf, h1]
    have ha : a.map (fun x => x.add 0) = a := by cases a <;> simp [Addr.add_zero']
    simp only [Instr.sliceAt, Instr.slice, Sem.run_bind, hu w, Result.andThen_ok, hb, hs w, Sem.run_pure, Nat.zero_mul, Nat.sub_zero, Int.toNat_natCast]
    rw [ha]; simp, h⟩

/-- An array all of which is known: its name is where it begins. -/
def arrC {α : Type} (E : Enc α) (xs : List α) : Con := fun v h => ∃ b t, v = .pointer (some ⟨b, 0, none⟩) ∧ h = Hp.one b (.cells (xs.flatMap E.enc).toArray t (0, 0))
theorem arr_rd {α : Type} {E : Enc α} {all : List α} {b n c : Nat} {h : Hp} (hh : Holds (⟨.pointer (some ⟨b, 0, none⟩), arrC E all⟩ :: L) h) (hn : n ≤ all.length) (hc : n ≤ c := by omega) : sliceAt E (all.take n) (.slice (some ⟨b, 0, none⟩) n c) h := by
  obtain ⟨h1, h2, _, l1, _, ⟨b', t, hv, he⟩, _⟩ := hh
  cases hv
  have h3 : sliceAt E (all.take n) (.slice (some ⟨b, 0, none⟩) (all.take n).length ((all.take n).length + (all.length - n))) h1 := by
    have := (RdS.head (v := .slice (some ⟨b, 0, none⟩) (all.take n).length ((all.take n).length + (all.length - n))) (E := E) (xs := all.take n) (L := [])).rd h1 ⟨h1, fun _ => none, fun _ => .inr rfl, Hp.le.refl _, fun _ _ e => (by cases e), .inr ⟨b, t, [], (all.drop n).flatMap E.enc, all.length - n, by simp, by rw [flatMap_len]; simp, by rw [he]; congr 2; rw [List.nil_append, ← List.flatMap_append, List.take_append_drop]⟩, trivial⟩
    exact this
  have hl : (all.take n).length = n := by rw [List.length_take]; omega
  rcases h3 with ⟨h0, _⟩ | ⟨b2, off, c2, cs, t2, fz, hv, hb, hcc⟩
  · left
    have : n = 0 := by rw [h0] at hl; exact hl.symm
    subst this
    exact ⟨h0, _, _, rfl⟩
  · injection hv with e1 e2 e3
    cases e1
    exact .inr ⟨b, 0, c - n, cs, t2, fz, by rw [hl, show n + (c - n) = c from by omega], l1 _ _ hb, hcc⟩

end

/-- The front of a slice: x[:m]. -/
def cutHi : Value → Int → Value
  | .slice a _ c, m => .slice a m.toNat c
  | _, _ => .slice none 0 0
theorem OneV.cutHi {v : Value} {m : Int} : OneV (cutHi v m) := by
  unfold Go.SL.cutHi; split <;> exact ⟨rfl, rfl⟩

theorem SlcW_front {L R : List Chunk} {K : Value → Prop} {α : Type} {E : Enc α} {xs : List α} {v : Value} {k : Nat} {m : Int} [H : OwnS L v E xs R] (hm : 0 ≤ m ∧ m ≤ xs.length) (h : K (cutHi v m)) : SlcW k v none (some (.int .i64 m)) none L K :=
  ⟨_, fun P t e hu hs W w hw => by
    obtain ⟨m, rfl⟩ := Int.eq_ofNat_of_zero_le hm.1
    have hw1 := hw.perm H.perm
    obtain ⟨_, h1, h2, _, _, _, hc, _⟩ := hw1
    have key : ∀ a n c, v = .slice a n c → m ≤ c → (Instr.sliceAt t v none (some (.int .i64 (m : Int))) none).run P w = .ok (cutHi v m) w := by
      rintro a n c rfl hmc
      have hb : (Instr.sliceBounds true n c none (some (.int .i64 (m : Int))) none).run P w = .ok (0, m, c) w := by
        simp [Instr.sliceBounds, Instr.sliceBound, asIntOf, hmc]
      have ha : a.map (fun x => x.add 0) = a := by cases a <;> simp [Addr.add_zero']
      simp only [Instr.sliceAt, Instr.slice, Sem.run_bind, hu w, Result.andThen_ok, hb, hs w, Sem.run_pure, Nat.zero_mul, Nat.sub_zero]
      rw [ha]; simp [cutHi]
    rcases hc with ⟨hv, hx⟩ | ⟨b, tt, pre, spare, r, hv, _, _⟩
    · exact key _ _ _ hv (by subst hx; simp at hm; omega)
    · exact key _ _ _ hv (by omega), h⟩

theorem cut_ent {L : List Chunk} {α : Type} {E : Enc α} {xs : List α} {v : Value} {m : Int} (hm : 0 ≤ m ∧ m ≤ xs.length) : Ent (⟨v, sliceC E xs⟩ :: L) (⟨cutHi v m, sliceC E (xs.take m.toNat)⟩ :: L) := by
  rintro _ ⟨h1, h2, hd, l1, l2, hc, hr⟩
  refine ⟨h1, h2, hd, l1, l2, ?_, hr⟩
  obtain ⟨m, rfl⟩ := Int.eq_ofNat_of_zero_le hm.1
  have hml : m ≤ xs.length := by omega
  rcases hc with ⟨hv, hx⟩ | ⟨b, tt, pre, spare, r, hv, hs, he⟩
  · left
    have hv' : v = .slice none 0 0 := hv
    subst hv' hx
    refine ⟨?_, by simp⟩
    have : m = 0 := by simpa using hml
    subst this; rfl
  · right
    have hv' : v = .slice (some ⟨b, pre.length, none⟩) xs.length (xs.length + r) := hv
    subst hv'
    refine ⟨b, tt, pre, (xs.drop m).flatMap E.enc ++ spare, xs.length - m + r, ?_, ?_, ?_⟩
    · simp only [cutHi, Int.toNat_natCast, List.length_take, Nat.min_eq_left hml]
      congr 1
      omega
    · rw [List.length_append, flatMap_len, hs, List.length_drop, Nat.add_mul]
    · rw [he]
      congr 2
      simp only [Int.toNat_natCast]
      have hsp : xs.flatMap E.enc = (xs.take m).flatMap E.enc ++ (xs.drop m).flatMap E.enc := by rw [← List.flatMap_append, List.take_append_drop]
      rw [hsp]; simp

class OwnA (L : List Chunk) (b : Nat) {α : outParam Type} (E : outParam (Enc α)) (xs : outParam (List α)) (R : outParam (List Chunk)) : Prop where
  perm : L.Perm (⟨.pointer (some ⟨b, 0, none⟩), arrC E xs⟩ :: R)
instance OwnA.head {b : Nat} {α : Type} {E : Enc α} {xs : List α} {L : List Chunk} : OwnA (⟨.pointer (some ⟨b, 0, none⟩), arrC E xs⟩ :: L) b E xs L := ⟨.refl _⟩
instance (priority := low) OwnA.tail {d : Chunk} {b : Nat} {α : Type} {E : Enc α} {xs : List α} {L R : List Chunk} [h : OwnA L b E xs R] : OwnA (d :: L) b E xs (d :: R) := ⟨(h.perm.cons d).trans (.swap _ _ _)⟩
theorem OwnA.rd {L R : List Chunk} {b n c : Nat} {α : Type} {E : Enc α} {all xs : List α} (H : OwnA L b E all R) (hn : n ≤ all.length) (hx : all.take n = xs) (hc : n ≤ c := by omega) : RdS L (.slice (some ⟨b, 0, none⟩) n c) E xs :=
  ⟨fun h hh => hx ▸ arr_rd (hh.perm H.perm) hn hc⟩

section
variable {L R : List Chunk} {K : Value → List Chunk → Prop}

theorem roomC_arrC {α : Type} {E : Enc α} {xs sp : List α} {b n c : Nat} : Ent (⟨.slice (some ⟨b, 0, none⟩) n c, roomC E xs sp⟩ :: L) (⟨.pointer (some ⟨b, 0, none⟩), arrC E (xs ++ sp)⟩ :: L) := by
  rintro h ⟨h1, h2, hd, l1, l2, ⟨b', t, hv, he⟩, hr⟩
  cases hv
  exact ⟨h1, h2, hd, l1, l2, ⟨b, t, rfl, he⟩, hr⟩

theorem MksW_arr {α : Type} (E : Enc α) (d : α) {k bytes : Nat} {z : List Value} {n m : Int} (hk : E.k = k) (hz : E.enc d = z) (hn : 0 ≤ n ∧ n ≤ m) (hm : m * bytes ≤ 281474976710656) (hm2 : m ≤ 9223372036854775807)
    (h : ∀ b : Nat, K (.slice (some ⟨b, 0, none⟩) n.toNat m.toNat) (⟨.pointer (some ⟨b, 0, none⟩), arrC E (List.replicate m.toNat d)⟩ :: L)) :
    MksW k bytes z (.int .i64 n) (.int .i64 m) L K := by
  intro P t e hu hE F W w hw
  obtain ⟨v, w', L', hr, hs, b, hv, hL⟩ := MksW_room (L := L) (K := fun v L' => ∃ b, v = .slice (some ⟨b, 0, none⟩) n.toNat m.toNat ∧ L' = ⟨.slice (some ⟨b, 0, none⟩) n.toNat m.toNat, roomC E (List.replicate n.toNat d) (List.replicate (m - n).toNat d)⟩ :: L) E d hk hz hn hm hm2
    (fun b => ⟨b, rfl, rfl⟩) P t e hu hE F W w hw
  subst hv hL
  have e1 : List.replicate n.toNat d ++ List.replicate (m - n).toNat d = List.replicate m.toNat d := by rw [List.replicate_append_replicate]; congr 1; omega
  have := h b
  rw [← e1] at this
  exact ⟨_, w', _, hr, hs.ent roomC_arrC, this⟩

theorem St.arr {W w : World} {b : Nat} {α : Type} {E : Enc α} {xs : List α} {M : List Chunk} (hw : St W w (⟨.pointer (some ⟨b, 0, none⟩), arrC E xs⟩ :: M)) :
    ∃ t, w.heap[b]? = some (.cells (xs.flatMap E.enc).toArray t (0, 0)) ∧ Holds M ((hpOf w).wo b) := by
  obtain ⟨hq, h1, h2, hd, l1, l2, ⟨b', t, hv, he⟩, hr⟩ := hw
  cases hv
  obtain ⟨hb, hh⟩ := holds_wo_of he hd l1 l2 hr
  exact ⟨t, hb, hh⟩

/-- A row put over a part of another. -/
theorem setCells_part {α : Type} (E : Enc α) (all ys : List α) (n : Nat) (hn : n + ys.length ≤ all.length) : setCells (all.flatMap E.enc) (n * E.k) (ys.flatMap E.enc) = (all.take n ++ ys ++ all.drop (n + ys.length)).flatMap E.enc := by
  have hcut : all = all.take n ++ ((all.drop n).take ys.length ++ all.drop (n + ys.length)) := by rw [← List.drop_drop, List.take_append_drop, List.take_append_drop]
  conv => lhs; rw [hcut]
  have hl : ((all.take n).flatMap E.enc).length = n * E.k := by rw [flatMap_len, List.length_take]; congr 1; omega
  have h2 : ((all.drop n).take ys.length).length = ys.length := by rw [List.length_take, List.length_drop]; omega
  have := setCells_all (((all.drop n).take ys.length).flatMap E.enc) (ys.flatMap E.enc) ((all.take n).flatMap E.enc) ((all.drop (n + ys.length)).flatMap E.enc) (by rw [flatMap_len, flatMap_len, h2])
  rw [hl] at this
  simp only [List.flatMap_append, ← List.append_assoc] at this ⊢
  exact this

/-- append within the room of an array that is known. -/
theorem AppW_arr {α : Type} {E : Enc α} {all ys : List α} {b n c : Nat} {x : Value} {k bytes : Nat} {z : List Value} [H : OwnA L b E all R] [H2 : RdS L x E ys] (hk : E.k = k)
    (hn : n + ys.length ≤ c) (hc : c ≤ all.length) (h : ∀ zs, zs = all.take n ++ ys ++ all.drop (n + ys.length) → K (.slice (some ⟨b, 0, none⟩) (n + ys.length) c) (⟨.pointer (some ⟨b, 0, none⟩), arrC E zs⟩ :: R)) : AppW k bytes z (.slice (some ⟨b, 0, none⟩) n c) x L K := by
  intro P t u e ty ht hu hE F W w hw
  obtain ⟨i, zv, hi, hzv, hsz, hby, hzc⟩ := hE.info w
  subst hsz hby
  have hs : Src P i.size u x ys.length (ys.flatMap E.enc) w := by
    have := (H2.rd _ hw.left.holds).src (P := P) (hu.un w)
    rw [hk] at this; exact this
  have hw1 : St W w (⟨.pointer (some ⟨b, 0, none⟩), arrC E all⟩ :: (R ++ F)) := hw.perm (H.perm.append_right F)
  obtain ⟨tt, hb, hM⟩ := hw1.arr
  have hla := flatMap_len E all
  have hly := flatMap_len E ys
  rw [hk] at hla hly
  have hmm : (n + ys.length) * i.size ≤ all.length * i.size := Nat.mul_le_mul_right _ (by omega)
  rw [Nat.add_mul] at hmm
  have hr := run_append_room_src w t u ty e i (ht.un w) hi b 0 n c x _ _ hs hn (fun j hj => by
    have : 0 + n * i.size + j < (all.flatMap E.enc).length := by omega
    simp only [World.cell?, hb]
    simp only [List.getElem?_toArray, List.getElem?_eq_getElem this, Option.isSome_none, Bool.false_eq_true, if_false, Option.isSome_some]) (fun j hj => by simp [World.frozen?, hb])
  obtain ⟨g1, g2⟩ := hpOf_setCells b (0 + n * i.size) tt (0, 0) (ys.flatMap E.enc) w _ hb
  refine ⟨_, _, _, hr, ⟨hw.quiet.trans g2, holds_one b _ ⟨b, tt, rfl, rfl⟩ ?_ ?_⟩, h _ rfl⟩
  · rw [g1, Hp.set_same]
    congr 3
    rw [Nat.zero_add, ← hk]
    exact setCells_part E all ys n (by omega)
  · rw [g1, Hp.wo_set]; exact hM

/-- A store into an array that is known. -/
theorem StW_arr {α : Type} {E : Enc α} {all : List α} {b n c k m : Nat} {i : Int} {x : Value} {z : α} {K : List Chunk → Prop} [H : OwnA L b E all R] (hk : E.k = k) (hi : 0 ≤ i ∧ i < all.length)
    (hx : (Value.cellsL x).all Value.oneCell' = true) (hm : m = k) (hz : E.enc z = Value.cellsL x) (h : K (⟨.pointer (some ⟨b, 0, none⟩), arrC E (all.set i.toNat z)⟩ :: R)) : StW m (elP (.slice (some ⟨b, 0, none⟩) n c) k i) x L K := by
  intro P t hS F W w hw
  have hw1 : St W w (⟨.pointer (some ⟨b, 0, none⟩), arrC E all⟩ :: (R ++ F)) := hw.perm (H.perm.append_right F)
  obtain ⟨tt, hb, hM⟩ := hw1.arr
  have hlx : (Value.cellsL x).length = k := by rw [← hz, E.len, hk]
  have hlt : i.toNat < all.length := by omega
  have hik : i.toNat * k + k ≤ all.length * k := by
    have : (i.toNat + 1) * k ≤ all.length * k := Nat.mul_le_mul_right k hlt
    rw [Nat.succ_mul] at this; exact this
  obtain ⟨w', hr, hq', hM', hb'⟩ := St.setCells hw.quiet hb hM P (Value.cellsL x) (0 + i.toNat * k) 0 (fun y hy => List.all_eq_true.1 hx y hy) (by rw [List.size_toArray, flatMap_len, hk]; omega)
  refine ⟨(), w', _, ?_, ⟨hq', holds_one b _ ⟨b, tt, rfl, rfl⟩ ?_ hM'⟩, h⟩
  · rw [elP_at rfl]
    have hsz : x.cells.size = m := by rw [← Array.length_toList, hm]; exact hlx
    simp only [Instr.storeAt, Instr.sureAddr, storeVar, Sem.run_bind, Sem.run_pure, Result.andThen_ok, hS w, hsz, ne_eq, not_true_eq_false, if_false]
    exact hr
  · rw [show hpOf w' b = w'.heap[b]? from rfl, hb']
    congr 3
    have := setCells_part E all [z] i.toNat (by simp; omega)
    simp only [List.flatMap_cons, List.flatMap_nil, List.append_nil, hz, hk] at this
    simp only [Nat.zero_add, Nat.add_zero]
    rw [this]
    congr 1
    rw [List.set_eq_take_append_cons_drop, if_pos hlt]
    simp

end

end Go.SL
