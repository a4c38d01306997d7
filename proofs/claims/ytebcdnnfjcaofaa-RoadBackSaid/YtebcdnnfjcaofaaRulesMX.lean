/- A part of the proofs' own ground: the rules in their locked forms (written by a tool of this session out of the plain ones). -/
import Derived.Test.YtebcdnnfjcaofaaRulesM
import Derived.Test.YtebcdnnfjcaofaaRulesAX
namespace Go.SL

theorem MkmX_intro {κ ν : Type} {dk : DecidableEq κ} {L : List Chunk} {K : Value → List Chunk → Prop} (KE : KEnc κ) (VE : ν → Value) (h : ∀ b : Nat, K (.map (some b)) (⟨.map (some b), mapC KE VE fun _ => none⟩ :: L)) {u : Lk K} : MkmX L K u := by
  unfold MkmX; exact MkmW_intro KE VE h

theorem LookX_map {κ ν : Type} {dk : DecidableEq κ} {KE : KEnc κ} {VE : ν → Value} {f : κ → Option ν} {L R : List Chunk} {m : Value} {K : Value → Prop} {z k : Value} {x : κ} {ok : Bool} {kk : KK} [H : OwnM L m KE VE f R] (hkk : KE.kk = kk) (hk : KE.enc x = k)     (h1 : ∀ y, f x = some y → K (if ok then .tuple #[VE y, .bool true] else VE y)) (h2 : f x = none → K (if ok then .tuple #[z, .bool false] else z)) {u : Lk K} : LookX kk z m k ok L K u := by
  unfold LookX; exact LookW_map hkk hk h1 h2

theorem UpmX_map {κ ν : Type} {dk : DecidableEq κ} {KE : KEnc κ} {VE : ν → Value} {f : κ → Option ν} {L R : List Chunk} {m : Value} {K : List Chunk → Prop} {k v : Value} {x : κ} {y : ν} {kk : KK} [H : OwnM L m KE VE f R] (hkk : KE.kk = kk) (hk : KE.enc x = k) (hv : VE y = v) (h : K (⟨m, mapC KE VE (updF f x y)⟩ :: R)) {u : Lk K} : UpmX kk m k v L K u := by
  unfold UpmX; exact UpmW_map hkk hk hv h

theorem DelX_map {κ ν : Type} {dk : DecidableEq κ} {KE : KEnc κ} {VE : ν → Value} {f : κ → Option ν} {L R : List Chunk} {m : Value} {K : Value → List Chunk → Prop} {k : Value} {x : κ} {kk : KK} [H : OwnM L m KE VE f R] (hkk : KE.kk = kk) (hk : KE.enc x = k) (h : K (.tuple #[]) (⟨m, mapC KE VE (delF f x)⟩ :: R)) {u : Lk K} : DelX kk m k L K u := by
  unfold DelX; exact DelW_map hkk hk h

theorem MentX_map {κ ν : Type} {dk : DecidableEq κ} {KE : KEnc κ} {VE : ν → Value} {f : κ → Option ν} {L R : List Chunk} {m : Value} {K : Value → List Chunk → Prop} {z k : Value} {x : κ} {kk : KK} (z0 : ν) [H : OwnM L m KE VE f R] (hkk : KE.kk = kk) (hk : KE.enc x = k) (hz : VE z0 = z)     (h : ∀ n : Nat, K (.tuple #[VE ((f x).getD z0), .int .i64 n]) (⟨m, mapE KE VE (updF f x ((f x).getD z0)) x n⟩ :: R)) {u : Lk K} : MentX kk z m k L K u := by
  unfold MentX; exact MentW_map z0 hkk hk hz h

theorem MstX_map {κ ν : Type} {dk : DecidableEq κ} {KE : KEnc κ} {VE : ν → Value} {f : κ → Option ν} {L R : List Chunk} {m : Value} {K : List Chunk → Prop} {v : Value} {x : κ} {y : ν} {n n' : Nat} [H : OwnE L m KE VE f x n R] (hn : n' = n) (hv : VE y = v) (h : K (⟨m, mapC KE VE (updF f x y)⟩ :: R)) {u : Lk K} : MstX m (.int .i64 n') v L K u := by
  unfold MstX; exact MstW_map hn hv h

end Go.SL
