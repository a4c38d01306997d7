/-
  No cell of these rows narrows 'for every input' (looked for: loops, veiled, ifaces, maps, wideKeys, modest, calm, conditions, laid).
  DERIVED. THE GIVEN ROWS OF THIS SEAT. 5 by the template 'for every input the law returns true; each argument reads behind the call as it read before'; 0 by the template 'total and deterministic' (their statements: YtebcdnnfjcaofaaTotals.lean).
  GIVEN WITH THE SEED: the statements are not yours to turn. If you find one false, say at which input.
  Laid BY PROGRAM, IN A SANDBOX (cutbox-rows.mjs): the forced cells as the released guide's own fill.sh prints them over the translation b513b5b5d80e5ca5… (all of the seat's roots in one cut). By AI agents, Wed Nov 11 2026. No macro, syntax, notation, axiom, sorry.
-/
import Derived.Test.YtebcdnnfjcaofaaChecked
import GoSem.Claim
import GoSem.ClaimJoined
import GoSem.ClaimMapViews
import Derived.JoinedTies
import Derived.KernelRfl
namespace Go.Proofs.Ytebcdnnfjcaofaa
/- THE CELL 'sum', in the pinned program and in every row, IS THE sha256 OF THE DUMP (.gsa) THAT YtebcdnnfjcaofaaProg.lean LOADS. Nothing in Lean hashes anything: it is a label: what it is worth is what the hold of that sum in a sandbox is worth. -/
noncomputable def Try.pinned : Pinned := { name := "ytebcdnnfjcaofaa", sum := "b513b5b5d80e5ca596f7debb285e631e369146d355f974ff1cc93a4e36f13c2a", checked := Try.checked }
namespace Rows
def none {H : Type} : Left H := { results := [], args := [] }

/-- 'hansomlaw10.RoadEncodes': WHATEVER THE INPUT: true; the input reads as it did. -/
def roadEncodesSpec : ChangeSpec := { name := "roadEncodes", fn := fun _ => fun
  | [d] => { results := [.lit (.bool true)], args := [d] }
  | _ => none }
def roadEncodesRow : OpenClaim := { program := "ytebcdnnfjcaofaa", sum := "b513b5b5d80e5ca596f7debb285e631e369146d355f974ff1cc93a4e36f13c2a", func := "hansom/hansomlaw10.RoadEncodes", spec := "roadEncodes", unfollowed := true, recurses := true, plainKeys := false, apart := false }
def RoadEncodesSaid : Prop := roadEncodesRow.holds Try.pinned (OpenSpec.ofChange roadEncodesSpec)

/-- ITS FALSE NEIGHBOUR: 'it returns false'. Refute it at one input. -/
def roadEncodesWrong : ChangeSpec := { name := "roadEncodes", fn := fun _ => fun
  | [d] => { results := [.lit (.bool false)], args := [d] }
  | _ => none }
def RoadEncodesWrongFalsely : Prop := roadEncodesRow.holds Try.pinned (OpenSpec.ofChange roadEncodesWrong)

/-- 'hansomlaw10.RoadBack': WHATEVER THE INPUT: true; the input reads as it did. -/
def roadBackSpec : ChangeSpec := { name := "roadBack", fn := fun _ => fun
  | [d1, d2] => { results := [.lit (.bool true)], args := [d1, d2] }
  | _ => none }
def roadBackRow : OpenClaim := { program := "ytebcdnnfjcaofaa", sum := "b513b5b5d80e5ca596f7debb285e631e369146d355f974ff1cc93a4e36f13c2a", func := "hansom/hansomlaw10.RoadBack", spec := "roadBack", unfollowed := true, recurses := true, plainKeys := false, apart := false }
def RoadBackSaid : Prop := roadBackRow.holds Try.pinned (OpenSpec.ofChange roadBackSpec)

/-- ITS FALSE NEIGHBOUR: 'it returns false'. Refute it at one input. -/
def roadBackWrong : ChangeSpec := { name := "roadBack", fn := fun _ => fun
  | [d1, d2] => { results := [.lit (.bool false)], args := [d1, d2] }
  | _ => none }
def RoadBackWrongFalsely : Prop := roadBackRow.holds Try.pinned (OpenSpec.ofChange roadBackWrong)

/-- 'hansomlaw10.RoadNil': WHATEVER THE INPUT: true; the input reads as it did. -/
def roadNilSpec : ChangeSpec := { name := "roadNil", fn := fun _ => fun
  | [d1, d2] => { results := [.lit (.bool true)], args := [d1, d2] }
  | _ => none }
def roadNilRow : OpenClaim := { program := "ytebcdnnfjcaofaa", sum := "b513b5b5d80e5ca596f7debb285e631e369146d355f974ff1cc93a4e36f13c2a", func := "hansom/hansomlaw10.RoadNil", spec := "roadNil", unfollowed := true, recurses := true, plainKeys := false, apart := false }
def RoadNilSaid : Prop := roadNilRow.holds Try.pinned (OpenSpec.ofChange roadNilSpec)

/-- ITS FALSE NEIGHBOUR: 'it returns false'. Refute it at one input. -/
def roadNilWrong : ChangeSpec := { name := "roadNil", fn := fun _ => fun
  | [d1, d2] => { results := [.lit (.bool false)], args := [d1, d2] }
  | _ => none }
def RoadNilWrongFalsely : Prop := roadNilRow.holds Try.pinned (OpenSpec.ofChange roadNilWrong)

/-- 'hansomlaw10.RoadTurned': WHATEVER THE INPUT: true; the input reads as it did. -/
def roadTurnedSpec : ChangeSpec := { name := "roadTurned", fn := fun _ => fun
  | [d1, d2] => { results := [.lit (.bool true)], args := [d1, d2] }
  | _ => none }
def roadTurnedRow : OpenClaim := { program := "ytebcdnnfjcaofaa", sum := "b513b5b5d80e5ca596f7debb285e631e369146d355f974ff1cc93a4e36f13c2a", func := "hansom/hansomlaw10.RoadTurned", spec := "roadTurned", unfollowed := true, recurses := true, plainKeys := false, apart := false }
def RoadTurnedSaid : Prop := roadTurnedRow.holds Try.pinned (OpenSpec.ofChange roadTurnedSpec)

/-- ITS FALSE NEIGHBOUR: 'it returns false'. Refute it at one input. -/
def roadTurnedWrong : ChangeSpec := { name := "roadTurned", fn := fun _ => fun
  | [d1, d2] => { results := [.lit (.bool false)], args := [d1, d2] }
  | _ => none }
def RoadTurnedWrongFalsely : Prop := roadTurnedRow.holds Try.pinned (OpenSpec.ofChange roadTurnedWrong)

/-- 'hansomlaw10.RoadMakes': WHATEVER THE INPUT: true; the input reads as it did. -/
def roadMakesSpec : ChangeSpec := { name := "roadMakes", fn := fun _ => fun
  | [d1, d2, d3] => { results := [.lit (.bool true)], args := [d1, d2, d3] }
  | _ => none }
def roadMakesRow : OpenClaim := { program := "ytebcdnnfjcaofaa", sum := "b513b5b5d80e5ca596f7debb285e631e369146d355f974ff1cc93a4e36f13c2a", func := "hansom/hansomlaw10.RoadMakes", spec := "roadMakes", unfollowed := true, recurses := true, plainKeys := false, apart := false }
def RoadMakesSaid : Prop := roadMakesRow.holds Try.pinned (OpenSpec.ofChange roadMakesSpec)

/-- ITS FALSE NEIGHBOUR: 'it returns false'. Refute it at one input. -/
def roadMakesWrong : ChangeSpec := { name := "roadMakes", fn := fun _ => fun
  | [d1, d2, d3] => { results := [.lit (.bool false)], args := [d1, d2, d3] }
  | _ => none }
def RoadMakesWrongFalsely : Prop := roadMakesRow.holds Try.pinned (OpenSpec.ofChange roadMakesWrong)

/- THE SECOND FORM. 'bulk': how many values and letters a reading holds, each counted each time it is reached (what is shared counts as often as it is met; a slice's spare places count too). A statement '..UptoSaid' is the law's where the arguments, and the package variables that the reading takes, are together of bulk at most 1048576: NARROWER than '..Said'. Prove '..Said' where nothing that the law and all that it calls make is longer than what came in: it says more and counts as full. Else prove '..UptoSaid'. A law counts once. -/
mutual
def uptoBulk {H : Type} : DataW H → Nat
  | .lit (.string bytes) => bytes.length + 1
  | .lit _ => 1
  | .nil => 1
  | .ptr d => uptoBulk d + 1
  | .slice elems spare => uptoBulkAll elems + uptoBulkAll spare + 1
  | .agg parts => uptoBulkAll parts + 1
  | .iface _ d => uptoBulk d + 1
  | .map entries => uptoBulkEntries entries + 1
  | .held _ => 1
def uptoBulkAll {H : Type} : List (DataW H) → Nat
  | [] => 0
  | d :: r => uptoBulk d + uptoBulkAll r
def uptoBulkEntries {H : Type} : List (Lit × DataW H) → Nat
  | [] => 0
  | x :: r => uptoBulkEntry x + uptoBulkEntries r
def uptoBulkEntry {H : Type} : Lit × DataW H → Nat
  | (.string bytes, d) => bytes.length + uptoBulk d + 1
  | (_, d) => uptoBulk d + 1
 end
def uptoSmall : (H : Type) → List (DataW H) → Bool := fun _ ds => decide (uptoBulkAll ds ≤ 1048576)
def OpenSpec.upto (s : _root_.Go.ChangeSpec) : _root_.Go.OpenSpec := { _root_.Go.OpenSpec.ofChange s with cond := some uptoSmall }

/-- 'hansomlaw10.RoadEncodes', WHERE WHAT IT READS IS OF BULK AT MOST 1048576: true; the input reads as it did. -/
def roadEncodesUptoRow : OpenClaim := { program := "ytebcdnnfjcaofaa", sum := "b513b5b5d80e5ca596f7debb285e631e369146d355f974ff1cc93a4e36f13c2a", func := "hansom/hansomlaw10.RoadEncodes", spec := "roadEncodes", unfollowed := true, recurses := true, plainKeys := false, apart := false, narrowed := true }
def RoadEncodesUptoSaid : Prop := roadEncodesUptoRow.holds Try.pinned (OpenSpec.upto roadEncodesSpec)

/-- 'hansomlaw10.RoadBack', WHERE WHAT IT READS IS OF BULK AT MOST 1048576: true; the input reads as it did. -/
def roadBackUptoRow : OpenClaim := { program := "ytebcdnnfjcaofaa", sum := "b513b5b5d80e5ca596f7debb285e631e369146d355f974ff1cc93a4e36f13c2a", func := "hansom/hansomlaw10.RoadBack", spec := "roadBack", unfollowed := true, recurses := true, plainKeys := false, apart := false, narrowed := true }
def RoadBackUptoSaid : Prop := roadBackUptoRow.holds Try.pinned (OpenSpec.upto roadBackSpec)

/-- 'hansomlaw10.RoadNil', WHERE WHAT IT READS IS OF BULK AT MOST 1048576: true; the input reads as it did. -/
def roadNilUptoRow : OpenClaim := { program := "ytebcdnnfjcaofaa", sum := "b513b5b5d80e5ca596f7debb285e631e369146d355f974ff1cc93a4e36f13c2a", func := "hansom/hansomlaw10.RoadNil", spec := "roadNil", unfollowed := true, recurses := true, plainKeys := false, apart := false, narrowed := true }
def RoadNilUptoSaid : Prop := roadNilUptoRow.holds Try.pinned (OpenSpec.upto roadNilSpec)

/-- 'hansomlaw10.RoadTurned', WHERE WHAT IT READS IS OF BULK AT MOST 1048576: true; the input reads as it did. -/
def roadTurnedUptoRow : OpenClaim := { program := "ytebcdnnfjcaofaa", sum := "b513b5b5d80e5ca596f7debb285e631e369146d355f974ff1cc93a4e36f13c2a", func := "hansom/hansomlaw10.RoadTurned", spec := "roadTurned", unfollowed := true, recurses := true, plainKeys := false, apart := false, narrowed := true }
def RoadTurnedUptoSaid : Prop := roadTurnedUptoRow.holds Try.pinned (OpenSpec.upto roadTurnedSpec)

/-- 'hansomlaw10.RoadMakes', WHERE WHAT IT READS IS OF BULK AT MOST 1048576: true; the input reads as it did. -/
def roadMakesUptoRow : OpenClaim := { program := "ytebcdnnfjcaofaa", sum := "b513b5b5d80e5ca596f7debb285e631e369146d355f974ff1cc93a4e36f13c2a", func := "hansom/hansomlaw10.RoadMakes", spec := "roadMakes", unfollowed := true, recurses := true, plainKeys := false, apart := false, narrowed := true }
def RoadMakesUptoSaid : Prop := roadMakesUptoRow.holds Try.pinned (OpenSpec.upto roadMakesSpec)

end Rows
end Go.Proofs.Ytebcdnnfjcaofaa
