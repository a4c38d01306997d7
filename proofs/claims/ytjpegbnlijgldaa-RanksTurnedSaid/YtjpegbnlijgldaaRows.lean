/-
  No cell of these rows narrows 'for every input' (looked for: loops, veiled, ifaces, maps, wideKeys, modest, calm, conditions, laid).
  DERIVED. THE GIVEN ROWS OF THIS SEAT. 3 by the template 'for every input the law returns true; each argument reads behind the call as it read before'; 0 by the template 'total and deterministic' (their statements: YtjpegbnlijgldaaTotals.lean).
  GIVEN WITH THE SEED: the statements are not yours to turn. If you find one false, say at which input.
  Laid BY PROGRAM, IN A SANDBOX (cutbox-rows.mjs): the forced cells as the released guide's own fill.sh prints them over the translation c528287739d16dc5… (all of the seat's roots in one cut). By AI agents, Wed Nov 11 2026. No macro, syntax, notation, axiom, sorry.
-/
import Derived.Test.YtjpegbnlijgldaaChecked
import GoSem.Claim
import GoSem.ClaimJoined
import GoSem.ClaimMapViews
import Derived.JoinedTies
import Derived.KernelRfl
namespace Go.Proofs.Ytjpegbnlijgldaa
/- THE CELL 'sum', in the pinned program and in every row, IS THE sha256 OF THE DUMP (.gsa) THAT YtjpegbnlijgldaaProg.lean LOADS. Nothing in Lean hashes anything: it is a label: what it is worth is what the hold of that sum in a sandbox is worth. -/
noncomputable def Try.pinned : Pinned := { name := "ytjpegbnlijgldaa", sum := "c528287739d16dc54d927dd95f139343990558d45a3825823f0b6f23f1a24ba2", checked := Try.checked }
namespace Rows
def none {H : Type} : Left H := { results := [], args := [] }

/-- 'hansomlaw14.RanksTell': WHATEVER THE INPUT: true; the input reads as it did. -/
def ranksTellSpec : ChangeSpec := { name := "ranksTell", fn := fun _ => fun
  | [d1, d2] => { results := [.lit (.bool true)], args := [d1, d2] }
  | _ => none }
def ranksTellRow : OpenClaim := { program := "ytjpegbnlijgldaa", sum := "c528287739d16dc54d927dd95f139343990558d45a3825823f0b6f23f1a24ba2", func := "hansom/hansomlaw14.RanksTell", spec := "ranksTell", unfollowed := true, recurses := true, apart := false }
def RanksTellSaid : Prop := ranksTellRow.holds Try.pinned (OpenSpec.ofChange ranksTellSpec)

/-- ITS FALSE NEIGHBOUR: 'it returns false'. Refute it at one input. -/
def ranksTellWrong : ChangeSpec := { name := "ranksTell", fn := fun _ => fun
  | [d1, d2] => { results := [.lit (.bool false)], args := [d1, d2] }
  | _ => none }
def RanksTellWrongFalsely : Prop := ranksTellRow.holds Try.pinned (OpenSpec.ofChange ranksTellWrong)

/-- 'hansomlaw14.RanksBack': WHATEVER THE INPUT: true; the input reads as it did. -/
def ranksBackSpec : ChangeSpec := { name := "ranksBack", fn := fun _ => fun
  | [d] => { results := [.lit (.bool true)], args := [d] }
  | _ => none }
def ranksBackRow : OpenClaim := { program := "ytjpegbnlijgldaa", sum := "c528287739d16dc54d927dd95f139343990558d45a3825823f0b6f23f1a24ba2", func := "hansom/hansomlaw14.RanksBack", spec := "ranksBack", unfollowed := true, recurses := true, apart := false }
def RanksBackSaid : Prop := ranksBackRow.holds Try.pinned (OpenSpec.ofChange ranksBackSpec)

/-- ITS FALSE NEIGHBOUR: 'it returns false'. Refute it at one input. -/
def ranksBackWrong : ChangeSpec := { name := "ranksBack", fn := fun _ => fun
  | [d] => { results := [.lit (.bool false)], args := [d] }
  | _ => none }
def RanksBackWrongFalsely : Prop := ranksBackRow.holds Try.pinned (OpenSpec.ofChange ranksBackWrong)

/-- 'hansomlaw14.RanksTurned': WHATEVER THE INPUT: true; the input reads as it did. -/
def ranksTurnedSpec : ChangeSpec := { name := "ranksTurned", fn := fun _ => fun
  | [d] => { results := [.lit (.bool true)], args := [d] }
  | _ => none }
def ranksTurnedRow : OpenClaim := { program := "ytjpegbnlijgldaa", sum := "c528287739d16dc54d927dd95f139343990558d45a3825823f0b6f23f1a24ba2", func := "hansom/hansomlaw14.RanksTurned", spec := "ranksTurned", apart := false }
def RanksTurnedSaid : Prop := ranksTurnedRow.holds Try.pinned (OpenSpec.ofChange ranksTurnedSpec)

/-- ITS FALSE NEIGHBOUR: 'it returns false'. Refute it at one input. -/
def ranksTurnedWrong : ChangeSpec := { name := "ranksTurned", fn := fun _ => fun
  | [d] => { results := [.lit (.bool false)], args := [d] }
  | _ => none }
def RanksTurnedWrongFalsely : Prop := ranksTurnedRow.holds Try.pinned (OpenSpec.ofChange ranksTurnedWrong)

/- THE SECOND FORM. 'bulk': how many values and letters a reading holds, each counted each time it is reached (what is shared counts as often as it is met; a slice's spare places count too). A statement '..UptoSaid' is the law's where the arguments, and the package variables that the reading takes, are together of bulk at most 1048576: NARROWER than '..Said'. Prove '..Said' where nothing that the law and all that it calls make is longer than what came in: it says more and counts as full. Else prove '..UptoSaid'. A law counts once. -/
mutual
def uptoBulk {H : Type} : DataW H → Nat
  | .lit (.string bytes) => bytes.length + 1
  | .lit _ => 1
  | .nil => 1
  | .ptr d => uptoBulk d + 1
  | .slice elems spare => uptoBulkAll elems + uptoBulkAll spare + 1
  | .agg parts => uptoBulkAll parts + 1
  | .iface _ d => uptoBulk d + 1
  | .map entries => uptoBulkEntries entries + 1
  | .held _ => 1
def uptoBulkAll {H : Type} : List (DataW H) → Nat
  | [] => 0
  | d :: r => uptoBulk d + uptoBulkAll r
def uptoBulkEntries {H : Type} : List (Lit × DataW H) → Nat
  | [] => 0
  | x :: r => uptoBulkEntry x + uptoBulkEntries r
def uptoBulkEntry {H : Type} : Lit × DataW H → Nat
  | (.string bytes, d) => bytes.length + uptoBulk d + 1
  | (_, d) => uptoBulk d + 1
 end
def uptoSmall : (H : Type) → List (DataW H) → Bool := fun _ ds => decide (uptoBulkAll ds ≤ 1048576)
def OpenSpec.upto (s : _root_.Go.ChangeSpec) : _root_.Go.OpenSpec := { _root_.Go.OpenSpec.ofChange s with cond := some uptoSmall }

/-- 'hansomlaw14.RanksTell', WHERE WHAT IT READS IS OF BULK AT MOST 1048576: true; the input reads as it did. -/
def ranksTellUptoRow : OpenClaim := { program := "ytjpegbnlijgldaa", sum := "c528287739d16dc54d927dd95f139343990558d45a3825823f0b6f23f1a24ba2", func := "hansom/hansomlaw14.RanksTell", spec := "ranksTell", unfollowed := true, recurses := true, apart := false, narrowed := true }
def RanksTellUptoSaid : Prop := ranksTellUptoRow.holds Try.pinned (OpenSpec.upto ranksTellSpec)

/-- 'hansomlaw14.RanksBack', WHERE WHAT IT READS IS OF BULK AT MOST 1048576: true; the input reads as it did. -/
def ranksBackUptoRow : OpenClaim := { program := "ytjpegbnlijgldaa", sum := "c528287739d16dc54d927dd95f139343990558d45a3825823f0b6f23f1a24ba2", func := "hansom/hansomlaw14.RanksBack", spec := "ranksBack", unfollowed := true, recurses := true, apart := false, narrowed := true }
def RanksBackUptoSaid : Prop := ranksBackUptoRow.holds Try.pinned (OpenSpec.upto ranksBackSpec)

/-- 'hansomlaw14.RanksTurned', WHERE WHAT IT READS IS OF BULK AT MOST 1048576: true; the input reads as it did. -/
def ranksTurnedUptoRow : OpenClaim := { program := "ytjpegbnlijgldaa", sum := "c528287739d16dc54d927dd95f139343990558d45a3825823f0b6f23f1a24ba2", func := "hansom/hansomlaw14.RanksTurned", spec := "ranksTurned", apart := false, narrowed := true }
def RanksTurnedUptoSaid : Prop := ranksTurnedUptoRow.holds Try.pinned (OpenSpec.upto ranksTurnedSpec)

end Rows
end Go.Proofs.Ytjpegbnlijgldaa
