/- A part of the proofs' own ground: the rules in their locked forms (written by a tool of this session out of the plain ones). -/
import Derived.Test.YtebcdnnfjcaofaaRules2
namespace Go.SL

theorem NnX_cells {L : List Chunk} {v : Value} {vs : List Value} {A : Prop} [H : RdC L v vs] (h : A) {u : Lk A} : NnX v L A u := by
  unfold NnX; exact NnW_cells h

theorem NnX_elem {L : List Chunk} {v : Value} {α : Type} {E : Enc α} {xs : List α} {k : Nat} {i : Int} {A : Prop} [H : RdS L v E xs] (hi : 0 ≤ i ∧ i < xs.length) (h : A) {u : Lk A} : NnX (elP v k i) L A u := by
  unfold NnX; exact NnW_elem hi h

theorem NilX_cells {L : List Chunk} {v : Value} {vs : List Value} {K : Bool → Prop} [H : RdC L v vs] (h : K false) {u : Lk K} : NilX .ptr v L K u := by
  unfold NilX; exact NilW_cells h

theorem NilX_nil {L : List Chunk} {K : Bool → Prop} (h : K true) {u : Lk K} : NilX .ptr (.pointer none) L K u := by
  unfold NilX; exact NilW_nil h

theorem LdX_cell0 {L : List Chunk} {K : Value → Prop} {v : Value} {vs : List Value} {x : Value} [H : RdC L v vs] (hx : vs[0]? = some x) (h : K x) {u : Lk K} : LdX none v L K u := by
  unfold LdX; exact LdW_cell0 hx h

theorem LdX_cell {L : List Chunk} {K : Value → Prop} {v : Value} {vs : List Value} {n : Nat} {x : Value} [H : RdC L v vs] (hx : vs[n]? = some x) (h : K x) {u : Lk K} : LdX none (addP v n) L K u := by
  unfold LdX; exact LdW_cell hx h

theorem LdX_cells {L : List Chunk} {K : Value → Prop} {v : Value} {vs : List Value} {n : Nat} [H : RdC L v vs] (hn : vs.length = n) (h : K (.agg vs.toArray)) {u : Lk K} : LdX (some n) v L K u := by
  unfold LdX; exact LdW_cells hn h

theorem LdX_cellsAt {L : List Chunk} {K : Value → Prop} {v : Value} {vs ys : List Value} {n off : Nat} [H : RdC L v vs] (hn : (vs.drop off).take n = ys) (hl : ys.length = n) (h : K (.agg ys.toArray)) {u : Lk K} : LdX (some n) (addP v off) L K u := by
  unfold LdX; exact LdW_cellsAt hn hl h

theorem LenX_slice {L : List Chunk} {K : Value → Prop} {v : Value} {α : Type} {E : Enc α} {xs : List α} [H : RdS L v E xs] (h : K (.int .i64 xs.length)) {u : Lk K} : LenX v L K u := by
  unfold LenX; exact LenW_slice h

theorem LenX_nil {L : List Chunk} {K : Value → Prop} (h : K (.int .i64 0)) {u : Lk K} : LenX (.slice none 0 0) L K u := by
  unfold LenX; exact LenW_nil h

theorem IxsX_slice {L : List Chunk} {K : Value → Prop} {v : Value} {α : Type} {E : Enc α} {xs : List α} {k : Nat} {ik : IntKind} {i : Int} [H : RdS L v E xs] (hi : 0 ≤ i ∧ i < xs.length) (h : K (elP v k i)) {u : Lk K} : IxsX k v (.int ik i) L K u := by
  unfold IxsX; exact IxsW_slice hi h

theorem LdX_elem0 {L : List Chunk} {K : Value → Prop} {v : Value} {α : Type} {E : Enc α} {xs : List α} {k : Nat} {i : Int} [H : RdS L v E xs] (hk : E.k = k) (hi : 0 ≤ i ∧ i < xs.length) (hn : 0 < k)     (h : ∀ x, xs[i.toNat]? = some x → K ((E.enc x).getD 0 undef)) {u : Lk K} : LdX none (elP v k i) L K u := by
  unfold LdX; exact LdW_elem0 hk hi hn h

theorem LdX_elemAt {L : List Chunk} {K : Value → Prop} {v : Value} {α : Type} {E : Enc α} {xs : List α} {k : Nat} {i : Int} {n : Nat} [H : RdS L v E xs] (hk : E.k = k) (hi : 0 ≤ i ∧ i < xs.length) (hn : n < k)     (h : ∀ x, xs[i.toNat]? = some x → K ((E.enc x).getD n undef)) {u : Lk K} : LdX none (addP (elP v k i) n) L K u := by
  unfold LdX; exact LdW_elemAt hk hi hn h

theorem LdX_elem {L : List Chunk} {K : Value → Prop} {v : Value} {α : Type} {E : Enc α} {xs : List α} {k : Nat} {i : Int} [H : RdS L v E xs] (hk : E.k = k) (hi : 0 ≤ i ∧ i < xs.length)     (h : ∀ x, xs[i.toNat]? = some x → K (.agg (E.enc x).toArray)) {u : Lk K} : LdX (some k) (elP v k i) L K u := by
  unfold LdX; exact LdW_elem hk hi h

theorem NewX_intro {L : List Chunk} {K : Value → List Chunk → Prop} {cs : List Value} (h : ∀ p, K p (⟨p, cellsC cs⟩ :: L)) {u : Lk K} : NewX cs L K u := by
  unfold NewX; exact NewW_intro h

theorem StX_cell {L R : List Chunk} {v x : Value} {vs : List Value} {n : Nat} {K : List Chunk → Prop} [H : OwnC L v vs R] (hx : x.oneCell' = true) (hc : Value.cellsL x = [x]) (hn : n < vs.length) (h : K (⟨v, cellsC (vs.set n x)⟩ :: R)) {u : Lk K} : StX 1 (addP v n) x L K u := by
  unfold StX; exact StW_cell hx hc hn h

theorem StX_cell0 {L R : List Chunk} {v x : Value} {vs : List Value} {K : List Chunk → Prop} [H : OwnC L v vs R] (hx : x.oneCell' = true) (hc : Value.cellsL x = [x]) (hn : 0 < vs.length) (h : K (⟨v, cellsC (vs.set 0 x)⟩ :: R)) {u : Lk K} : StX 1 v x L K u := by
  unfold StX; exact StW_cell0 hx hc hn h

theorem StX_cells {L R : List Chunk} {v : Value} {vs xs : List Value} {n : Nat} {K : List Chunk → Prop} [H : OwnC L v vs R] (hx : xs.all Value.oneCell' = true) (hl : vs.length = n) (hn : xs.length = n) (h : K (⟨v, cellsC xs⟩ :: R)) {u : Lk K} : StX n v (.agg xs.toArray) L K u := by
  unfold StX; exact StW_cells hx hl hn h

theorem StX_elemL {L R : List Chunk} {v : Value} {α : Type} {E : Enc α} {xs : List α} {k : Nat} {i : Int} {off n : Nat} {x : Value} {K : List Chunk → Prop} [H : OwnS L v E xs R] (hk : E.k = k) (hi : 0 ≤ i ∧ i < xs.length)     (hx : (Value.cellsL x).all Value.oneCell' = true) (hn : (Value.cellsL x).length = n) (ho : off + n ≤ k) {a : Value} (ha : ∀ b o c d, v = .slice (some ⟨b, o, none⟩) c d → a = .pointer (some ⟨b, o + i.toNat * k + off, none⟩))     (h : ∀ y, xs[i.toNat]? = some y → ∃ z, E.dec (setCells (E.enc y) off (Value.cellsL x)) = some z ∧ K (⟨v, sliceC E (xs.set i.toNat z)⟩ :: R)) {u : Lk K} : StX n a x L K u := by
  unfold StX; exact StW_elemL hk hi hx hn ho ha h

theorem StX_elem {L R : List Chunk} {v : Value} {α : Type} {E : Enc α} {xs : List α} {k : Nat} {i : Int} {n : Nat} {x : Value} {K : List Chunk → Prop} [H : OwnS L v E xs R] (hk : E.k = k) (hi : 0 ≤ i ∧ i < xs.length)     (hx : (Value.cellsL x).all Value.oneCell' = true) (hn : (Value.cellsL x).length = n) (hnk : n = k) {z : α} (hz : E.dec (Value.cellsL x) = some z) (h : K (⟨v, sliceC E (xs.set i.toNat z)⟩ :: R)) {u : Lk K} : StX n (elP v k i) x L K u := by
  unfold StX; exact StW_elem hk hi hx hn hnk hz h

theorem StX_elemAt {L R : List Chunk} {v : Value} {α : Type} {E : Enc α} {xs : List α} {k : Nat} {i : Int} {n off : Nat} {x : Value} {K : List Chunk → Prop} [H : OwnS L v E xs R] (hk : E.k = k) (hi : 0 ≤ i ∧ i < xs.length)     (hx : (Value.cellsL x).all Value.oneCell' = true) (hn : (Value.cellsL x).length = n) (ho : off + n ≤ k)     (h : ∀ y, xs[i.toNat]? = some y → ∃ z, E.dec (setCells (E.enc y) off (Value.cellsL x)) = some z ∧ K (⟨v, sliceC E (xs.set i.toNat z)⟩ :: R)) {u : Lk K} : StX n (addP (elP v k i) off) x L K u := by
  unfold StX; exact StW_elemAt hk hi hx hn ho h

theorem MksX_room {L : List Chunk} {K : Value → List Chunk → Prop} {α : Type} (E : Enc α) (d : α) {k bytes : Nat} {z : List Value} {n m : Int} (hk : E.k = k) (hz : E.enc d = z) (hn : 0 ≤ n ∧ n ≤ m) (hm : m * bytes ≤ 281474976710656) (hm2 : m ≤ 9223372036854775807)     (h : ∀ b : Nat, K (.slice (some ⟨b, 0, none⟩) n.toNat m.toNat) (⟨.slice (some ⟨b, 0, none⟩) n.toNat m.toNat, roomC E (List.replicate n.toNat d) (List.replicate (m - n).toNat d)⟩ :: L)) {u : Lk K} : MksX k bytes z (.int .i64 n) (.int .i64 m) L K u := by
  unfold MksX; exact MksW_room E d hk hz hn hm hm2 h

theorem MksX_intro {L : List Chunk} {K : Value → List Chunk → Prop} {α : Type} (E : Enc α) (d : α) {k bytes : Nat} {z : List Value} {n : Int} (hk : E.k = k) (hz : E.enc d = z) (hn : 0 ≤ n) (hm : n * bytes ≤ 281474976710656) (hm2 : n ≤ 9223372036854775807)     (h : ∀ v, K v (⟨v, sliceC E (List.replicate n.toNat d)⟩ :: L)) {u : Lk K} : MksX k bytes z (.int .i64 n) (.int .i64 n) L K u := by
  unfold MksX; exact MksW_intro E d hk hz hn hm hm2 h

end Go.SL
