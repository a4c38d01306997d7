/- A part of the proofs' own ground: rules for slices that are made, cut and grown. -/
import Derived.Test.YtebcdnnfjcaofaaRules
namespace Go.SL

section
variable {L R : List Chunk} {K : Value → List Chunk → Prop}

/-- Conversions of what is held. -/
def Ent (L M : List Chunk) : Prop := ∀ h, Holds L h → Holds M h
theorem Ent.refl (L : List Chunk) : Ent L L := fun _ h => h
theorem Ent.trans {L M N : List Chunk} (a : Ent L M) (b : Ent M N) : Ent L N := fun h x => b h (a h x)
theorem Ent.of_perm {L M : List Chunk} (p : L.Perm M) : Ent L M := fun _ h => h.perm p
theorem Ent.tail {c : Chunk} {L : List Chunk} : Ent (c :: L) L := fun _ h => h.tail
theorem Ent.append {L M F : List Chunk} (e : Ent L M) : Ent (L ++ F) (M ++ F) := fun h hh => by
  obtain ⟨a, b, d, la, lb, HL, HF⟩ := hh.split
  exact Holds.append d la lb (e a HL) HF
theorem Ent.cons {c : Chunk} {L M : List Chunk} (e : Ent L M) : Ent (c :: L) (c :: M) := by
  rintro h ⟨h1, h2, hd, l1, l2, hc, hr⟩
  exact ⟨h1, h2, hd, l1, l2, hc, e _ hr⟩
theorem St.ent {W w : World} {L M : List Chunk} (e : Ent L M) (h : St W w L) : St W w M := ⟨h.quiet, e _ h.holds⟩

/-- A chunk turned into others. -/
theorem Ent.open_ {v : Value} {c : Con} {M : List Chunk} (hc : ∀ k, c v k → Holds M k) {L : List Chunk} : Ent (⟨v, c⟩ :: L) (M ++ L) := fun _ h => h.open_ hc
theorem Ent.shut_ {v : Value} {c : Con} {M : List Chunk} (hc : ∀ k, Holds M k → c v k) {L : List Chunk} : Ent (M ++ L) (⟨v, c⟩ :: L) := fun _ h => h.shut_ hc

theorem CallW.pre {P : Program} {f : FuncId} {args : List Value} {L M : List Chunk} (e : Ent L M) (h : CallW P f args M K) : CallW P f args L K :=
  ⟨h.1, fun F W w hw => h.2 F W w (hw.ent e.append)⟩
/-- Opened at the call: whatever names come out. -/
theorem CallW.open_ {P : Program} {f : FuncId} {args : List Value} {X : Type} {L : List Chunk} {M : X → List Chunk} (hc : callable P f) (e : ∀ h, Holds L h → ∃ x, Holds (M x) h) (h : ∀ x, CallW P f args (M x) K) : CallW P f args L K :=
  ⟨hc, fun F W w hw => by
    obtain ⟨a, b, d, la, lb, HL, HF⟩ := hw.holds.split
    obtain ⟨x, hx⟩ := e a HL
    exact (h x).2 F W w ⟨hw.quiet, Holds.append d la lb hx HF⟩⟩
theorem CallW.post {P : Program} {f : FuncId} {args : List Value} {K' : Value → List Chunk → Prop} (h : CallW P f args L K') (hk : ∀ v L', K' v L' → ∀ h, Holds L' h → ∃ M, Holds M h ∧ K v M) : CallW P f args L K :=
  ⟨h.1, fun F W w hw => (h.2 F W w hw).mono fun e w' ⟨v, L', he, hs, hk'⟩ => by
    obtain ⟨a, b, d, la, lb, HL, HF⟩ := hs.holds.split
    obtain ⟨M, hM, hK⟩ := hk v L' hk' a HL
    exact ⟨v, M, he, ⟨hs.quiet, Holds.append d la lb hM HF⟩, hK⟩⟩
theorem CallW.mono {P : Program} {f : FuncId} {args : List Value} {K' : Value → List Chunk → Prop} (h : CallW P f args L K') (hk : ∀ v L', K' v L' → K v L') : CallW P f args L K :=
  h.post fun v L' x _ hh => ⟨L', hh, hk v L' x⟩
/-- The frame. -/
theorem CallW.frame {P : Program} {f : FuncId} {args : List Value} {K' : Value → List Chunk → Prop} (h : CallW P f args L K') (hk : ∀ v L', K' v L' → K v (L' ++ R)) : CallW P f args (L ++ R) K :=
  ⟨h.1, fun F W w hw => (h.2 (R ++ F) W w (by rw [← List.append_assoc]; exact hw)).mono fun e w' ⟨v, L', he, hs, hk'⟩ => ⟨v, L' ++ R, he, by rw [List.append_assoc]; exact hs, hk v L' hk'⟩⟩

/-- A slice with room whose contents are known. -/
def roomC {α : Type} (E : Enc α) (xs sp : List α) : Con := fun v h =>
  ∃ b t, v = .slice (some ⟨b, 0, none⟩) xs.length (xs.length + sp.length) ∧ h = Hp.one b (.cells ((xs ++ sp).flatMap E.enc).toArray t (0, 0))

theorem roomC_sliceC {α : Type} {E : Enc α} {xs sp : List α} {v : Value} {L : List Chunk} : Ent (⟨v, roomC E xs sp⟩ :: L) (⟨v, sliceC E xs⟩ :: L) := by
  rintro h ⟨h1, h2, hd, l1, l2, ⟨b, t, hv, he⟩, hr⟩
  refine ⟨h1, h2, hd, l1, l2, .inr ⟨b, t, [], sp.flatMap E.enc, sp.length, by simpa using hv, by rw [flatMap_len], ?_⟩, hr⟩
  rw [he]; simp

theorem flatMap_replicate {α : Type} (E : Enc α) (d : α) (n : Nat) : (List.replicate n d).flatMap E.enc = (List.range (n * E.k)).map fun i => (E.enc d).getD (i % E.k) default := by
  apply List.ext_getElem?
  intro i
  by_cases hi : i < n * E.k
  · have hk : 0 < E.k := by rcases Nat.eq_zero_or_pos E.k with h | h; · rw [h] at hi; simp at hi
                            · exact h
    have hR : ((List.range (n * E.k)).map fun i => (E.enc d).getD (i % E.k) default)[i]? = some ((E.enc d).getD (i % E.k) default) := by simp [hi]
    rw [hR]
    have key : ∀ n i, i < n * E.k → ((List.replicate n d).flatMap E.enc)[i]? = some ((E.enc d).getD (i % E.k) default) := by
      intro n
      induction n with
      | zero => intro i h; simp at h
      | succ n ih =>
        intro i h
        rw [List.replicate_succ, List.flatMap_cons]
        by_cases h1 : i < E.k
        · rw [List.getElem?_append_left (by rw [E.len]; exact h1), Nat.mod_eq_of_lt h1, List.getD_eq_getElem?_getD]
          rw [List.getElem?_eq_getElem (by rw [E.len]; exact h1)]; rfl
        · rw [List.getElem?_append_right (by rw [E.len]; omega), E.len]
          rw [ih (i - E.k) (by rw [Nat.succ_mul] at h; omega)]
          rw [← Nat.mod_eq_sub_mod (by omega)]
    exact key n i hi
  · rw [List.getElem?_eq_none (by rw [flatMap_len]; simp; omega), List.getElem?_eq_none (by simp; omega)]

theorem run_makeSlice {P : Program} {t e : TypeId} {k bytes : Nat} {z : List Value} (hu : UnS P t (.slice e)) (hE : ElS P e k bytes z) {n m : Nat} (hnm : n ≤ m) (hm : m * bytes ≤ 281474976710656) (hm2 : m ≤ 9223372036854775807) (w : World) :
    (Instr.makeSlice t (.int .i64 n) (.int .i64 m)).run P w = .ok (.slice (some ⟨w.heap.size, 0, none⟩) n m) (w.alloc (.cells (repCells z (m * k)).toArray e)) := by
  obtain ⟨i, hib, hi⟩ := hE.bytes
  obtain ⟨zv, hz, hzv⟩ := hE.zero
  have h1 : IntKind.i64.wrap (n : Int) = n := wrap_i64 (by omega) (by omega)
  have h2 : IntKind.i64.wrap (m : Int) = m := wrap_i64 (by omega) (by omega)
  have hb : (bytes : Int) * m ≤ 281474976710656 := by
    have := hm
    rw [Nat.mul_comm] at this
    rw [← Int.natCast_mul]
    omega
  unfold Instr.makeSlice
  simp only [Sem.run_bind, hu w, Result.andThen_ok, asInt, asIntOf, Sem.run_pure, hi w, hib, h1, h2]
  have hc1 : decide ((m : Int) < 0) = false := decide_eq_false (by omega)
  have hc2 : decide ((bytes : Int) * m > 2 ^ 48) = false := decide_eq_false (by have : (2 : Int) ^ 48 = 281474976710656 := by decide
                                                                                omega)
  have hc3 : decide ((n : Int) < 0) = false := decide_eq_false (by omega)
  have hc4 : decide ((n : Int) > m) = false := decide_eq_false (by omega)
  simp only [hc1, hc2, hc3, hc4, Bool.or_self, Bool.false_eq_true, if_false]
  simp only [Sem.run_bind, run_askRoom, Result.andThen_ok, Int.toNat_natCast, hE.size w, Sem.run_ite]
  have hrep : ∀ zero : Array Value, (m * k = 0 ∨ zero = zv.cells) → ((Array.range (m * k)).map (zero[· % zero.size]!)) = (repCells z (m * k)).toArray := by
    intro zero hz0
    apply Array.toList_inj.1
    rcases hz0 with h | rfl
    · simp [h, repCells]
    · subst hz
      simp only [repCells, Array.toList_map, Array.toList_range]
      refine List.map_congr_left fun a _ => ?_
      simp [Array.getElem!_eq_getD, Array.getD_eq_getD_getElem?]
  split
  · rename_i h0
    simp only [Sem.run_pure, Result.andThen_ok]
    rw [hrep _ (.inl h0)]
    simp [newRow]
  · simp only [hzv w, Result.andThen_ok, Sem.run_pure]
    rw [hrep _ (.inr rfl)]
    simp [newRow]

/-- make([]T, n, m). -/
theorem MksW_room {α : Type} (E : Enc α) (d : α) {k bytes : Nat} {z : List Value} {n m : Int} (hk : E.k = k) (hz : E.enc d = z) (hn : 0 ≤ n ∧ n ≤ m) (hm : m * bytes ≤ 281474976710656) (hm2 : m ≤ 9223372036854775807)
    (h : ∀ b : Nat, K (.slice (some ⟨b, 0, none⟩) n.toNat m.toNat) (⟨.slice (some ⟨b, 0, none⟩) n.toNat m.toNat, roomC E (List.replicate n.toNat d) (List.replicate (m - n).toNat d)⟩ :: L)) :
    MksW k bytes z (.int .i64 n) (.int .i64 m) L K := by
  intro P t e hu hE F W w hw
  obtain ⟨n, rfl⟩ := Int.eq_ofNat_of_zero_le hn.1
  obtain ⟨m, rfl⟩ := Int.eq_ofNat_of_zero_le (Int.le_trans hn.1 hn.2)
  have hnm : n ≤ m := by omega
  have := run_makeSlice hu hE hnm (by rw [← Int.natCast_mul] at hm; omega) (by omega) w
  refine ⟨_, _, _, this, ?_, h w.heap.size⟩
  refine hw.alloc _ _ _ ⟨w.heap.size, e, ?_, ?_⟩
  · simp only [List.length_replicate, Int.toNat_natCast]
    congr 1
    omega
  · subst hz hk
    have : List.replicate n d ++ List.replicate (m - n) d = List.replicate m d := by rw [List.replicate_append_replicate]; congr 1; omega
    have hmn : ((m : Int) - (n : Int)).toNat = m - n := by omega
    simp only [Int.toNat_natCast, hmn]
    rw [this, flatMap_replicate]
    unfold repCells
    rw [E.len]

/-- make([]T, n). -/
theorem MksW_intro {α : Type} (E : Enc α) (d : α) {k bytes : Nat} {z : List Value} {n : Int} (hk : E.k = k) (hz : E.enc d = z) (hn : 0 ≤ n) (hm : n * bytes ≤ 281474976710656) (hm2 : n ≤ 9223372036854775807)
    (h : ∀ v, K v (⟨v, sliceC E (List.replicate n.toNat d)⟩ :: L)) : MksW k bytes z (.int .i64 n) (.int .i64 n) L K := by
  intro P t e hu hE F W w hw
  obtain ⟨v, w', L', hr, hs, hk'⟩ := MksW_room (L := L) (K := fun v L' => v = .slice (some ⟨w.heap.size, 0, none⟩) n.toNat n.toNat ∧ L' = ⟨v, roomC E (List.replicate n.toNat d) []⟩ :: L ∨ L' = ⟨v, roomC E (List.replicate n.toNat d) []⟩ :: L) E d hk hz ⟨hn, by omega⟩ hm hm2
    (fun b => by right; simp) P t e hu hE F W w hw
  have hL : L' = ⟨v, roomC E (List.replicate n.toNat d) []⟩ :: L := by rcases hk' with ⟨_, h⟩ | h <;> exact h
  subst hL
  exact ⟨v, w', _, hr, hs.ent roomC_sliceC, h v⟩

end

/-! ### kinds of elements -/

theorem eInt_back (cs : List Value) (x : Int) (h : (match cs with | [.int .i64 n] => some n | _ => none) = some x) : [Value.int .i64 x] = cs := by
  split at h
  · cases h; rfl
  · cases h
def eInt : Enc Int := ⟨fun n => [.int .i64 n], 1, fun _ => rfl, fun cs => match cs with | [.int .i64 n] => some n | _ => none, eInt_back, fun _ => rfl⟩
@[go_sem] theorem eInt_enc (n : Int) : eInt.enc n = [.int .i64 n] := rfl
theorem eBool_back (cs : List Value) (x : Bool) (h : (match cs with | [.bool n] => some n | _ => none) = some x) : [Value.bool x] = cs := by
  split at h
  · cases h; rfl
  · cases h
def eBool : Enc Bool := ⟨fun b => [.bool b], 1, fun _ => rfl, fun cs => match cs with | [.bool b] => some b | _ => none, eBool_back, fun _ => rfl⟩
@[go_sem] theorem eBool_enc (b : Bool) : eBool.enc b = [.bool b] := rfl

end Go.SL
