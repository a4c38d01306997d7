/- A part of the proofs' own ground: the rules in their locked forms (written by a tool of this session out of the plain ones). -/
import Derived.Test.YtebcdnnfjcaofaaRulesX
import Derived.Test.YtebcdnnfjcaofaaRulesA
namespace Go.SL

theorem appW_coreX {R : List Chunk} {K : Value → List Chunk → Prop} {α : Type} {E : Enc α} {xs ys : List α} {v x : Value} {k bytes : Nat} {z : List Value} (hk : E.k = k)     (hx : ∀ h, Holds (⟨v, sliceC E xs⟩ :: R) h → sliceAt E ys x h) (hz : z.length = k) (hb : (xs.length + ys.length) * bytes ≤ 140737488355328) (hm : xs.length + ys.length ≤ 9223372036854775807)     (h : ∀ v', OneV v' → K v' (⟨v', sliceC E (xs ++ ys)⟩ :: R)) {u : Lk K} : AppX k bytes z v x (⟨v, sliceC E xs⟩ :: R) K u := by
  unfold AppX; exact appW_core hk hx hz hb hm h

theorem AppX_slice {L R : List Chunk} {K : Value → List Chunk → Prop} {α : Type} {E : Enc α} {xs ys : List α} {v x : Value} {k bytes : Nat} {z : List Value} [H : OwnS L v E xs R] [H2 : RdS L x E ys] (hk : E.k = k) (hz : z.length = k)     (hb : (xs.length + ys.length) * bytes ≤ 140737488355328) (hm : xs.length + ys.length ≤ 9223372036854775807) (h : ∀ v', OneV v' → K v' (⟨v', sliceC E (xs ++ ys)⟩ :: R)) {u : Lk K} : AppX k bytes z v x L K u := by
  unfold AppX; exact AppW_slice hk hz hb hm h

theorem AppX_take {L R S : List Chunk} {K : Value → List Chunk → Prop} {α : Type} {E : Enc α} {xs ys : List α} {v x : Value} {k bytes : Nat} {z : List Value} [H : OwnS L v E xs R] [H2 : OwnS R x E ys S] (hk : E.k = k) (hz : z.length = k)     (hb : (xs.length + ys.length) * bytes ≤ 140737488355328) (hm : xs.length + ys.length ≤ 9223372036854775807) (h : ∀ v', OneV v' → K v' (⟨v', sliceC E (xs ++ ys)⟩ :: S)) {u : Lk K} : AppX k bytes z v x L K u := by
  unfold AppX; exact AppW_take hk hz hb hm h

theorem AppX_nil {L : List Chunk} {K : Value → List Chunk → Prop} {α : Type} {E : Enc α} {ys : List α} {x : Value} {k bytes : Nat} {z : List Value} [H2 : RdS L x E ys] (hk : E.k = k) (hz : z.length = k)     (hb : ys.length * bytes ≤ 140737488355328) (hm : ys.length ≤ 9223372036854775807) (h : ∀ v', OneV v' → K v' (⟨v', sliceC E ys⟩ :: L)) {u : Lk K} : AppX k bytes z (.slice none 0 0) x L K u := by
  unfold AppX; exact AppW_nil hk hz hb hm h

theorem AppX_nilTake {L R : List Chunk} {K : Value → List Chunk → Prop} {α : Type} {E : Enc α} {ys : List α} {x : Value} {k bytes : Nat} {z : List Value} [H2 : OwnS L x E ys R] (hk : E.k = k) (hz : z.length = k)     (hb : ys.length * bytes ≤ 140737488355328) (hm : ys.length ≤ 9223372036854775807) (h : ∀ v', OneV v' → K v' (⟨v', sliceC E ys⟩ :: R)) {u : Lk K} : AppX k bytes z (.slice none 0 0) x L K u := by
  unfold AppX; exact AppW_nilTake hk hz hb hm h

theorem BldSX_intro {L : List Chunk} {K : Value → List Chunk → Prop} {α : Type} {E : Enc α} {xs : List α} {n : Nat} {cs : List Value} (hcs : xs.flatMap E.enc = cs) (hn : xs.length = n) (h : ∀ v, OneV v → K v (⟨v, sliceC E xs⟩ :: L)) {u : Lk K} : BldSX n cs L K u := by
  unfold BldSX; exact BldSW_intro hcs hn h

theorem LenX_lit {L : List Chunk} {K : Value → Prop} {a : Option Addr} {n c : Nat} (h : K (.int .i64 n)) {u : Lk K} : LenX (.slice a n c) L K u := by
  unfold LenX; exact LenW_lit h

theorem CapX_lit {L : List Chunk} {K : Value → Prop} {a : Option Addr} {n c : Nat} (h : K (.int .i64 c)) {u : Lk K} : CapX (.slice a n c) L K u := by
  unfold CapX; exact CapW_lit h

theorem IxsX_lit {L : List Chunk} {K : Value → Prop} {b o n c : Nat} {k : Nat} {ik : IntKind} {i : Int} (hi : 0 ≤ i ∧ i < n) (h : K (elP (.slice (some ⟨b, o, none⟩) n c) k i)) {u : Lk K} : IxsX k (.slice (some ⟨b, o, none⟩) n c) (.int ik i) L K u := by
  unfold IxsX; exact IxsW_lit hi h

theorem SlcX_hi {L : List Chunk} {K : Value → Prop} {a : Option Addr} {n c k : Nat} {m : Int} (hm : 0 ≤ m ∧ m ≤ c) (h : K (.slice a m.toNat c)) {u : Lk K} : SlcX k (.slice a n c) none (some (.int .i64 m)) none L K u := by
  unfold SlcX; exact SlcW_hi hm h

theorem SlcX_front {L R : List Chunk} {K : Value → Prop} {α : Type} {E : Enc α} {xs : List α} {v : Value} {k : Nat} {m : Int} [H : OwnS L v E xs R] (hm : 0 ≤ m ∧ m ≤ xs.length) (h : K (cutHi v m)) {u : Lk K} : SlcX k v none (some (.int .i64 m)) none L K u := by
  unfold SlcX; exact SlcW_front hm h

theorem MksX_arr {L : List Chunk} {K : Value → List Chunk → Prop} {α : Type} (E : Enc α) (d : α) {k bytes : Nat} {z : List Value} {n m : Int} (hk : E.k = k) (hz : E.enc d = z) (hn : 0 ≤ n ∧ n ≤ m) (hm : m * bytes ≤ 281474976710656) (hm2 : m ≤ 9223372036854775807)     (h : ∀ b : Nat, K (.slice (some ⟨b, 0, none⟩) n.toNat m.toNat) (⟨.pointer (some ⟨b, 0, none⟩), arrC E (List.replicate m.toNat d)⟩ :: L)) {u : Lk K} : MksX k bytes z (.int .i64 n) (.int .i64 m) L K u := by
  unfold MksX; exact MksW_arr E d hk hz hn hm hm2 h

theorem AppX_arr {L R : List Chunk} {K : Value → List Chunk → Prop} {α : Type} {E : Enc α} {all ys : List α} {b n c : Nat} {x : Value} {k bytes : Nat} {z : List Value} [H : OwnA L b E all R] [H2 : RdS L x E ys] (hk : E.k = k)     (hn : n + ys.length ≤ c) (hc : c ≤ all.length) (h : ∀ zs, zs = all.take n ++ ys ++ all.drop (n + ys.length) → K (.slice (some ⟨b, 0, none⟩) (n + ys.length) c) (⟨.pointer (some ⟨b, 0, none⟩), arrC E zs⟩ :: R)) {u : Lk K} : AppX k bytes z (.slice (some ⟨b, 0, none⟩) n c) x L K u := by
  unfold AppX; exact AppW_arr hk hn hc h

theorem StX_arr {L R : List Chunk} {α : Type} {E : Enc α} {all : List α} {b n c k m : Nat} {i : Int} {x : Value} {z : α} {K : List Chunk → Prop} [H : OwnA L b E all R] (hk : E.k = k) (hi : 0 ≤ i ∧ i < all.length)     (hx : (Value.cellsL x).all Value.oneCell' = true) (hm : m = k) (hz : E.enc z = Value.cellsL x) (h : K (⟨.pointer (some ⟨b, 0, none⟩), arrC E (all.set i.toNat z)⟩ :: R)) {u : Lk K} : StX m (elP (.slice (some ⟨b, 0, none⟩) n c) k i) x L K u := by
  unfold StX; exact StW_arr hk hi hx hm hz h

end Go.SL
