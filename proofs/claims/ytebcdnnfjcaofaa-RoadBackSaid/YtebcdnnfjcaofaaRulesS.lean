/- A part of the proofs' own ground: bytes and texts; nil tests of slices; kinds of elements: structs of numbers. -/
import Derived.Test.YtebcdnnfjcaofaaAuto
import Derived.Laws.BytesString
set_option linter.unusedVariables false
namespace Go.SL

/-! ### bytes -/
theorem eU8_back (cs : List Value) (x : Int) (h : (match cs with | [.int .u8 n] => some n | _ => none) = some x) : [Value.int .u8 x] = cs := by
  split at h
  · cases h; rfl
  · cases h
def eU8 : Enc Int := ⟨fun n => [.int .u8 n], 1, fun _ => rfl, fun cs => match cs with | [.int .u8 n] => some n | _ => none, eU8_back, fun _ => rfl⟩
@[go_sem] theorem eU8_enc (n : Int) : eU8.enc n = [.int .u8 n] := rfl
def bytesOf (ns : List Int) : ByteArray := ns.foldl (fun r n => r.push (UInt8.ofNat n.toNat)) ByteArray.empty

theorem push_toList (b : ByteArray) (x : UInt8) : (b.push x).data.toList = b.data.toList ++ [x] := by
  cases b; simp [ByteArray.push]
theorem bytesOf_data (ns : List Int) : (bytesOf ns).data.toList = ns.map fun n => UInt8.ofNat n.toNat := by
  unfold bytesOf
  have key : ∀ (ns : List Int) (b : ByteArray), (ns.foldl (fun r n => r.push (UInt8.ofNat n.toNat)) b).data.toList = b.data.toList ++ ns.map fun n => UInt8.ofNat n.toNat := by
    intro ns
    induction ns with
    | nil => intro b; simp
    | cons n ns ih => intro b; rw [List.foldl_cons, ih, push_toList]; simp
  rw [key]; rfl

theorem toList_data (b : ByteArray) : b.toList = b.data.toList := by
  have key : ∀ (m i : Nat) (r : List UInt8), b.size - i = m → ByteArray.toList.loop b i r = r.reverse ++ b.data.toList.drop i := by
    intro m
    induction m with
    | zero =>
      intro i r h
      unfold ByteArray.toList.loop
      rw [if_neg (by omega)]
      have : b.data.toList.length ≤ i := by rw [Array.length_toList]; show b.size ≤ i; omega
      rw [List.drop_eq_nil_of_le this]; simp
    | succ m ih =>
      intro i r h
      unfold ByteArray.toList.loop
      rw [if_pos (by omega), ih (i + 1) _ (by omega)]
      have hi : i < b.data.toList.length := by rw [Array.length_toList]; show i < b.size; omega
      rw [List.drop_eq_getElem_cons hi]
      have : b.get! i = b.data.toList[i] := by
        show b.data[i]! = _
        rw [Array.getElem!_eq_getD, Array.getD_eq_getD_getElem?, Array.getElem?_eq_getElem (by rw [← Array.length_toList]; exact hi)]
        simp
      rw [this]; simp
  have := key b.size 0 [] (by omega)
  show ByteArray.toList.loop b 0 [] = _
  rw [this]; simp

theorem bytesOf_eq {xs ys : List Int} (hx : ∀ n ∈ xs, 0 ≤ n ∧ n ≤ 255) (hy : ∀ n ∈ ys, 0 ≤ n ∧ n ≤ 255) : ((bytesOf xs).toList == (bytesOf ys).toList) = decide (xs = ys) := by
  rw [toList_data, toList_data, bytesOf_data, bytesOf_data]
  have key : ∀ (xs ys : List Int), (∀ n ∈ xs, 0 ≤ n ∧ n ≤ 255) → (∀ n ∈ ys, 0 ≤ n ∧ n ≤ 255) → ((xs.map fun n => UInt8.ofNat n.toNat) = (ys.map fun n => UInt8.ofNat n.toNat) ↔ xs = ys) := by
    intro xs
    induction xs with
    | nil => intro ys _ _; cases ys <;> simp
    | cons x xs ih =>
      intro ys hx hy
      cases ys with
      | nil => simp
      | cons y ys =>
        have h1 := hx x (by simp)
        have h2 := hy y (by simp)
        simp only [List.map_cons, List.cons.injEq]
        rw [ih ys (fun n h => hx n (by simp [h])) (fun n h => hy n (by simp [h]))]
        have : UInt8.ofNat x.toNat = UInt8.ofNat y.toNat ↔ x = y := by
          constructor
          · intro h
            have := congrArg UInt8.toNat h
            simp only [UInt8.toNat_ofNat'] at this
            omega
          · rintro rfl; rfl
        rw [this]
  by_cases h : xs = ys
  · subst h; simp
  · rw [decide_eq_false h]
    refine beq_eq_false_iff_ne.2 fun e => h ((key xs ys hx hy).1 e)

section
variable {L R : List Chunk} {K : Value → Prop}
theorem StrX_slice {v : Value} {xs : List Int} [H : RdS L v eU8 xs] (h : K (.string (bytesOf xs))) {u : Lk K} : StrX v L K u := by
  unfold StrX
  refine ⟨_, fun P src e dst hs he hd W w hw => ?_, h⟩
  have hus := hs.un w
  have hue := he.un w
  have hud := hd.un w
  have hc : ∀ a n c, v = .slice a n c → (convert src dst v).run P w = (Conv.bytesToString v).run P w := by
    rintro a n c rfl
    cases a with
    | none => simp [convert, run_underlying hus, run_underlying hud, run_underlying hue]
    | some a => simp [convert, run_underlying hus, run_underlying hud, run_underlying hue]
  rcases H.rd _ hw.holds with ⟨rfl, a, c, rfl⟩ | ⟨b, off, c, cs, t, fz, rfl, hb, hcs⟩
  · rw [hc _ _ _ rfl]
    cases a with
    | none => rfl
    | some a =>
      have := run_bytesToString (P := P) w a 0 c [] (by simp [loadCells, loadCellsFrom])
      rw [this]; rfl
  · rw [hc _ _ _ rfl]
    have hl := run_loadCells_at (P := P) (w := w) (off := off) hb (xs.map (Value.int .u8)) (fun j y hj => by
      rw [List.getElem?_map] at hj
      cases hx : xs[j]? with
      | none => rw [hx] at hj; cases hj
      | some x =>
        rw [hx] at hj; cases hj
        have := hcs j x hx 0 (.int .u8 x) rfl
        simpa [eU8] using this)
    rw [List.length_map] at hl
    exact run_bytesToString w _ _ c xs hl

/-- A slice held against nil. -/
theorem NilX_slice {v : Value} {α : Type} {E : Enc α} {xs : List α} {K : Bool → Prop} [H : RdS L v E xs] (h1 : xs = [] → K true) (h2 : K false) {u : Lk K} : NilX .slice v L K u := by
  unfold NilX
  by_cases c : xs = [] ∧ ∃ n c, v = .slice none n c
  · obtain ⟨hx, n, cc, rfl⟩ := c
    exact ⟨true, fun _ _ _ => .inl ⟨⟨_, _, rfl⟩, rfl⟩, h1 hx⟩
  · refine ⟨false, fun W w hw => .inr ⟨?_, rfl⟩, h2⟩
    rcases H.rd _ hw.holds with ⟨hx, a, cc, hv⟩ | ⟨b, off, cc, cs, t, fz, hv, _⟩
    · cases a with
      | none => exact absurd ⟨hx, _, _, hv⟩ c
      | some a => exact ⟨a, _, _, hv⟩
    · exact ⟨_, _, _, hv⟩
theorem NilX_snil {n c : Nat} {K : Bool → Prop} (h : K true) {u : Lk K} : NilX .slice (.slice none n c) L K u := by
  unfold NilX; exact ⟨true, fun _ _ _ => .inl ⟨⟨_, _, rfl⟩, rfl⟩, h⟩
end

instance (priority := high) {L : List Chunk} {n c : Nat} {K : Bool → Prop} {u : Lk K} : Auto (NilX .slice (.slice none n c) L K u) (K true) := ⟨fun h => NilX_snil h⟩

/-! ### structs of numbers -/
@[go_sem high] theorem eqagg2_ {n : Bool} {k l : IntKind} {a b c d : Int} : eqaggV n 2 (.agg [.int k a, .int l b].toArray) (.agg [.int k c, .int l d].toArray) = some (.bool (n ^^ decide (a = c ∧ b = d))) := by
  simp [eqaggV, eqCells]
@[go_sem high] theorem eqagg3_ {n : Bool} {k l m : IntKind} {a b c d e f : Int} : eqaggV n 3 (.agg [.int k a, .int l b, .int m c].toArray) (.agg [.int k d, .int l e, .int m f].toArray) = some (.bool (n ^^ decide (a = d ∧ b = e ∧ c = f))) := by
  simp [eqaggV, eqCells]

/-- An arc: from, to, weight. -/
structure Arc3 where
  f : Int
  t : Int
  w : Int
  deriving DecidableEq, Inhabited
theorem eArc_back (cs : List Value) (x : Arc3) (h : (match cs with | [.int .i64 a, .int .i64 b, .int .i64 c] => some (Arc3.mk a b c) | _ => none) = some x) : [Value.int .i64 x.f, .int .i64 x.t, .int .i64 x.w] = cs := by
  split at h
  · cases h; rfl
  · cases h
def eArc : Enc Arc3 := ⟨fun x => [.int .i64 x.f, .int .i64 x.t, .int .i64 x.w], 3, fun _ => rfl, fun cs => match cs with | [.int .i64 a, .int .i64 b, .int .i64 c] => some (Arc3.mk a b c) | _ => none, eArc_back, fun _ => rfl⟩
@[go_sem] theorem eArc_enc (x : Arc3) : eArc.enc x = [.int .i64 x.f, .int .i64 x.t, .int .i64 x.w] := rfl
theorem arc_ext (x y : Arc3) : (x.f = y.f ∧ x.t = y.t ∧ x.w = y.w) ↔ x = y := by
  cases x; cases y; simp

/-- The front of what is read. -/
theorem sliceAt.take {α : Type} {E : Enc α} {xs : List α} {a : Option Addr} {n c m : Nat} {h : Hp} (H : sliceAt E xs (.slice a n c) h) (hm : m ≤ n) : sliceAt E (xs.take m) (.slice a m c) h := by
  rcases H with ⟨rfl, a', c', hv⟩ | ⟨b, off, c', cs, t, fz, hv, hb, hc⟩
  · cases hv
    have : m = 0 := by omega
    subst this
    exact .inl ⟨by simp, _, _, rfl⟩
  · injection hv with e1 e2 e3
    subst e1 e2 e3
    refine .inr ⟨b, off, xs.length - m + c', cs, t, fz, by rw [List.length_take, Nat.min_eq_left hm, show m + (xs.length - m + c') = xs.length + c' from by omega], hb, fun i x hi j y hj => hc i x ?_ j y hj⟩
    rw [List.getElem?_take] at hi
    split at hi
    · exact hi
    · cases hi
theorem RdS.take {L : List Chunk} {α : Type} {E : Enc α} {xs : List α} {a : Option Addr} {n c m : Nat} (H : RdS L (.slice a n c) E xs) (hm : m ≤ n) : RdS L (.slice a m c) E (xs.take m) :=
  ⟨fun h hh => (H.rd h hh).take hm⟩
/-- How long what is read is. -/
theorem RoS.take {W : World} {α : Type} {E : Enc α} {xs : List α} {a : Option Addr} {n c m : Nat} (H : RoS W (.slice a n c) E xs) (hm : m ≤ n) : RoS W (.slice a m c) E (xs.take m) := ⟨H.ro.take hm⟩

/-- A pair of two nodes. -/
abbrev PairI := Int × Int
theorem ePair_back (cs : List Value) (x : PairI) (h : (match cs with | [.int .i32 a, .int .i32 b] => some (a, b) | _ => none) = some x) : [Value.int .i32 x.1, .int .i32 x.2] = cs := by
  split at h
  · cases h; rfl
  · cases h
def ePair : Enc PairI := ⟨fun x => [.int .i32 x.1, .int .i32 x.2], 2, fun _ => rfl, fun cs => match cs with | [.int .i32 a, .int .i32 b] => some (a, b) | _ => none, ePair_back, fun _ => rfl⟩
@[go_sem] theorem ePair_enc (x : PairI) : ePair.enc x = [.int .i32 x.1, .int .i32 x.2] := rfl
def kPair : KEnc PairI := ⟨fun x => .agg #[.int .i32 x.1, .int .i32 x.2], .flat 2 .i32, fun x => ⟨[x.1, x.2], rfl, rfl⟩, fun x y => by
  have := eqCells_int .i32 [x.1, x.2] [y.1, y.2]
  simp only [List.map_cons, List.map_nil] at this
  show (eqCells [Value.int .i32 x.1, .int .i32 x.2] [Value.int .i32 y.1, .int .i32 y.2]).getD false = _
  rw [this]
  cases x; cases y; simp, fun x => by simp [Instr.sameBits]⟩
@[go_sem] theorem kPair_enc (x : PairI) : kPair.enc x = .agg #[.int .i32 x.1, .int .i32 x.2] := rfl

/-! ### parts of what is read -/
/-- v[lo:hi]. -/
def cutV (k : Nat) (lo hi : Nat) : Value → Value
  | .slice a _ c => .slice (if c = lo then a else a.map fun x => x.add (lo * k)) (hi - lo) (c - lo)
  | _ => .slice none 0 0
theorem OneV.cutV {k lo hi : Nat} {v : Value} : OneV (cutV k lo hi v) := by unfold Go.SL.cutV; split <;> exact ⟨rfl, rfl⟩

theorem sliceAt.cut {α : Type} {E : Enc α} {xs : List α} {v : Value} {h : Hp} (H : sliceAt E xs v h) {lo hi : Nat} (h1 : lo ≤ hi) (h2 : hi ≤ xs.length) : sliceAt E ((xs.drop lo).take (hi - lo)) (cutV E.k lo hi v) h := by
  have hl : ((xs.drop lo).take (hi - lo)).length = hi - lo := by rw [List.length_take, List.length_drop]; omega
  rcases H with ⟨rfl, a, c, rfl⟩ | ⟨b, off, c, cs, t, fz, rfl, hb, hc⟩
  · have : hi = 0 := by simpa using h2
    subst this
    have : lo = 0 := by omega
    subst this
    exact .inl ⟨by simp, _, _, rfl⟩
  · by_cases hz : hi = lo
    · subst hz
      refine .inl ⟨by simp, ?_⟩
      show ∃ a c', Value.slice _ (hi - hi) _ = .slice a 0 c'
      rw [Nat.sub_self]
      exact ⟨_, _, rfl⟩
    refine .inr ⟨b, off + lo * E.k, xs.length - hi + c, cs, t, fz, ?_, hb, fun i x hi' j y hj => ?_⟩
    · show Value.slice (if xs.length + c = lo then some (Addr.mk b off none) else some ((Addr.mk b off none).add (lo * E.k))) (hi - lo) (xs.length + c - lo) = _
      rw [if_neg (by omega), addr_add, hl, show xs.length + c - lo = hi - lo + (xs.length - hi + c) from by omega]
    · have hil : i < hi - lo := by rw [← hl]; exact (List.getElem?_eq_some_iff.1 hi').1
      rw [List.getElem?_take, if_pos hil, List.getElem?_drop] at hi'
      have := hc (lo + i) x hi' j y hj
      rw [Nat.add_mul] at this
      rw [show off + lo * E.k + i * E.k + j = off + (lo * E.k + i * E.k) + j from by omega]
      exact this

theorem run_sliceAt {P : Program} {t e : TypeId} {k : Nat} (hu : UnS P t (.slice e)) (hs : SzS P e k) {a : Option Addr} {n c : Nat} {lo hi : Nat} (h1 : lo ≤ hi) (h2 : hi ≤ c) (w : World) :
    (Instr.sliceAt t (.slice a n c) (some (.int .i64 lo)) (some (.int .i64 hi)) none).run P w = .ok (.slice (if c = lo then a else a.map fun x => x.add (lo * k)) (hi - lo) (c - lo)) w := by
  have hb : (Instr.sliceBounds true n c (some (.int .i64 lo)) (some (.int .i64 hi)) none).run P w = .ok (lo, hi, c) w := by
    simp [Instr.sliceBounds, Instr.sliceBound, asIntOf, h1, h2]
  simp only [Instr.sliceAt, Instr.slice, Sem.run_bind, hu w, Result.andThen_ok, hb, hs w, Sem.run_pure]
theorem run_sliceAt_lo {P : Program} {t e : TypeId} {k : Nat} (hu : UnS P t (.slice e)) (hs : SzS P e k) {a : Option Addr} {n c : Nat} {lo : Nat} (h1 : lo ≤ n) (h2 : n ≤ c) (w : World) :
    (Instr.sliceAt t (.slice a n c) (some (.int .i64 lo)) none none).run P w = .ok (.slice (if c = lo then a else a.map fun x => x.add (lo * k)) (n - lo) (c - lo)) w := by
  have hb : (Instr.sliceBounds true n c (some (.int .i64 lo)) none none).run P w = .ok (lo, n, c) w := by
    simp [Instr.sliceBounds, Instr.sliceBound, asIntOf, h1, h2]
  simp only [Instr.sliceAt, Instr.slice, Sem.run_bind, hu w, Result.andThen_ok, hb, hs w, Sem.run_pure]
theorem run_sliceAt_hi {P : Program} {t e : TypeId} {k : Nat} (hu : UnS P t (.slice e)) (hs : SzS P e k) {a : Option Addr} {n c : Nat} {hi : Nat} (h2 : hi ≤ c) (w : World) :
    (Instr.sliceAt t (.slice a n c) none (some (.int .i64 hi)) none).run P w = .ok (.slice (if c = 0 then a else a.map fun x => x.add (0 * k)) (hi - 0) (c - 0)) w := by
  have hb : (Instr.sliceBounds true n c none (some (.int .i64 hi)) none).run P w = .ok (0, hi, c) w := by
    simp [Instr.sliceBounds, Instr.sliceBound, asIntOf, h2]
  simp only [Instr.sliceAt, Instr.slice, Sem.run_bind, hu w, Result.andThen_ok, hb, hs w, Sem.run_pure]

section
variable {L : List Chunk} {K : Value → Prop} {α : Type} {E : Enc α} {xs : List α} {v : Value} {k : Nat}
theorem SlcX_part {lo hi : Int} [H : RdS L v E xs] (hk : E.k = k) (h1 : 0 ≤ lo ∧ lo ≤ hi) (h2 : hi ≤ xs.length) (h : ∀ v', OneV v' → RdS L v' E ((xs.drop lo.toNat).take (hi.toNat - lo.toNat)) → K v') {u : Lk K} :
    SlcX k v (some (.int .i64 lo)) (some (.int .i64 hi)) none L K u := by
  obtain ⟨lo, rfl⟩ := Int.eq_ofNat_of_zero_le h1.1
  obtain ⟨hi, rfl⟩ := Int.eq_ofNat_of_zero_le (Int.le_trans h1.1 h1.2)
  subst hk
  unfold SlcX
  refine ⟨cutV E.k lo hi v, fun P t e hu hs W w hw => ?_, h _ OneV.cutV ⟨fun _ hh => (H.rd _ hh).cut (by simp only [Int.toNat_natCast]; omega) (by simp only [Int.toNat_natCast]; omega)⟩⟩
  rcases H.rd _ hw.holds with ⟨rfl, a, c, rfl⟩ | ⟨b, off, c, cs, t, fz, rfl, hb, hc⟩
  · simp at h2
    exact run_sliceAt hu hs (by omega) (by omega) w
  · exact run_sliceAt hu hs (by omega) (by omega) w
theorem SlcX_from {lo : Int} [H : RdS L v E xs] (hk : E.k = k) (h1 : 0 ≤ lo ∧ lo ≤ xs.length) (h : ∀ v', OneV v' → RdS L v' E (xs.drop lo.toNat) → K v') {u : Lk K} :
    SlcX k v (some (.int .i64 lo)) none none L K u := by
  obtain ⟨lo, rfl⟩ := Int.eq_ofNat_of_zero_le h1.1
  subst hk
  unfold SlcX
  refine ⟨cutV E.k lo xs.length v, fun P t e hu hs W w hw => ?_, h _ OneV.cutV ⟨fun _ hh => ?_⟩⟩
  · rcases H.rd _ hw.holds with ⟨rfl, a, c, rfl⟩ | ⟨b, off, c, cs, t, fz, rfl, hb, hc⟩
    · simp at h1; exact run_sliceAt_lo hu hs (by omega) (by omega) w
    · exact run_sliceAt_lo hu hs (by omega) (by omega) w
  · have := (H.rd _ hh).cut (lo := lo) (hi := xs.length) (by omega) (by omega)
    rw [List.take_of_length_le (by rw [List.length_drop]; omega)] at this
    exact this
theorem SlcX_to {hi : Int} [H : RdS L v E xs] (hk : E.k = k) (h1 : 0 ≤ hi ∧ hi ≤ xs.length) (h : ∀ v', OneV v' → RdS L v' E (xs.take hi.toNat) → K v') {u : Lk K} :
    SlcX k v none (some (.int .i64 hi)) none L K u := by
  obtain ⟨hi, rfl⟩ := Int.eq_ofNat_of_zero_le h1.1
  subst hk
  unfold SlcX
  refine ⟨cutV E.k 0 hi v, fun P t e hu hs W w hw => ?_, h _ OneV.cutV ⟨fun _ hh => ?_⟩⟩
  · rcases H.rd _ hw.holds with ⟨rfl, a, c, rfl⟩ | ⟨b, off, c, cs, t, fz, rfl, hb, hc⟩
    · simp at h1; exact run_sliceAt_hi hu hs (by omega) w
    · exact run_sliceAt_hi hu hs (by omega) w
  · have := (H.rd _ hh).cut (lo := 0) (hi := hi) (by omega) (by omega)
    simpa using this
end

@[go_sem] theorem binV_shr1 {k k' : IntKind} {a : Int} : binV .shr (.int k a) (.int k' 1) = some (.int k (a.fdiv 2)) := by
  cases k <;> rfl
theorem fdiv2 (n : Nat) : (n : Int).fdiv 2 = ((n / 2 : Nat) : Int) := by
  rw [Int.fdiv_eq_ediv_of_nonneg _ (by omega)]; omega

/-! ### slices whose numbers are known -/
/-- The address of a part. -/
def cutA (k lo c : Nat) (a : Option Addr) : Option Addr := if c = lo then a else a.map fun x => x.add (lo * k)
section
variable {L : List Chunk} {K : Value → Prop} {α : Type} {E : Enc α} {xs : List α} {v : Value} {k n c : Nat} {a : Option Addr}
theorem SlcX_litLH {lo hi : Int} (h1 : 0 ≤ lo ∧ lo ≤ hi) (h2 : hi ≤ c) (h : K (.slice (cutA k lo.toNat c a) (hi.toNat - lo.toNat) (c - lo.toNat))) {u : Lk K} : SlcX k (.slice a n c) (some (.int .i64 lo)) (some (.int .i64 hi)) none L K u := by
  obtain ⟨lo, rfl⟩ := Int.eq_ofNat_of_zero_le h1.1
  obtain ⟨hi, rfl⟩ := Int.eq_ofNat_of_zero_le (Int.le_trans h1.1 h1.2)
  unfold SlcX
  exact ⟨_, fun P t e hu hs W w hw => run_sliceAt hu hs (by omega) (by omega) w, h⟩
theorem SlcX_litL {lo : Int} (h1 : 0 ≤ lo ∧ lo ≤ n) (h2 : n ≤ c) (h : K (.slice (cutA k lo.toNat c a) (n - lo.toNat) (c - lo.toNat))) {u : Lk K} : SlcX k (.slice a n c) (some (.int .i64 lo)) none none L K u := by
  obtain ⟨lo, rfl⟩ := Int.eq_ofNat_of_zero_le h1.1
  unfold SlcX
  exact ⟨_, fun P t e hu hs W w hw => run_sliceAt_lo hu hs (by omega) (by omega) w, h⟩
theorem RdS.cut {lo hi : Nat} (H : RdS L (.slice a n c) E xs) (hk : E.k = k) (h1 : lo ≤ hi) (h2 : hi ≤ xs.length) : RdS L (.slice (cutA k lo c a) (hi - lo) (c - lo)) E ((xs.drop lo).take (hi - lo)) :=
  ⟨fun h hh => by subst hk; exact (H.rd h hh).cut h1 h2⟩
theorem RdS.drop {lo : Nat} (H : RdS L (.slice a n c) E xs) (hk : E.k = k) (hn : n = xs.length) (h1 : lo ≤ xs.length) : RdS L (.slice (cutA k lo c a) (n - lo) (c - lo)) E (xs.drop lo) := by
  have := RdS.cut (lo := lo) (hi := n) H hk (by omega) (by omega)
  rw [List.take_of_length_le (by rw [List.length_drop]; omega)] at this
  exact this
/-- What is read is a slice: its numbers. -/
theorem CallW.shape {P : Program} {f : FuncId} {args : List Value} {K : KVL} (v : Value) [H : RdS L v E xs] (hc : callable P f)
    (h : ∀ a n c, v = .slice a n c → xs.length = n → n ≤ c → (a = none → xs = []) → CallW P f args L K) : CallW P f args L K := by
  refine CallW.open_ (X := { x : Option Addr × Nat × Nat // v = .slice x.1 x.2.1 x.2.2 ∧ xs.length = x.2.1 ∧ x.2.1 ≤ x.2.2 ∧ (x.1 = none → xs = []) }) (M := fun _ => L) hc (fun k hk => ?_) (fun x => h _ _ _ x.2.1 x.2.2.1 x.2.2.2.1 x.2.2.2.2)
  rcases H.rd k hk with ⟨hx, a, c, hv⟩ | ⟨b, off, c, cs, t, fz, hv, _⟩
  · exact ⟨⟨(a, 0, c), hv, by rw [hx]; rfl, Nat.zero_le _, fun _ => hx⟩, hk⟩
  · exact ⟨⟨(some ⟨b, off, none⟩, xs.length, xs.length + c), hv, rfl, Nat.le_add_right _ _, fun h => by cases h⟩, hk⟩
end

end Go.SL
