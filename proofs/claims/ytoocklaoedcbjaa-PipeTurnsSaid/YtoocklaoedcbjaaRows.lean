/-
  No cell of these rows narrows 'for every input' (looked for: loops, veiled, ifaces, maps, wideKeys, modest, calm, conditions, laid).
  DERIVED. THE GIVEN ROWS OF THIS SEAT. 3 by the template 'for every input the law returns true; each argument reads behind the call as it read before'; 0 by the template 'total and deterministic' (their statements: YtoocklaoedcbjaaTotals.lean).
  GIVEN WITH THE SEED: the statements are not yours to turn. If you find one false, say at which input.
  Laid BY PROGRAM, IN A SANDBOX (cutbox-rows.mjs): the forced cells as the released guide's own fill.sh prints them over the translation 4129b6bc4962832a… (all of the seat's roots in one cut). By AI agents, Wed Nov 11 2026. No macro, syntax, notation, axiom, sorry.
-/
import Derived.Test.YtoocklaoedcbjaaChecked
import GoSem.Claim
import GoSem.ClaimJoined
import GoSem.ClaimMapViews
import Derived.JoinedTies
import Derived.KernelRfl
namespace Go.Proofs.Ytoocklaoedcbjaa
/- THE CELL 'sum', in the pinned program and in every row, IS THE sha256 OF THE DUMP (.gsa) THAT YtoocklaoedcbjaaProg.lean LOADS. Nothing in Lean hashes anything: it is a label: what it is worth is what the hold of that sum in a sandbox is worth. -/
noncomputable def Try.pinned : Pinned := { name := "ytoocklaoedcbjaa", sum := "4129b6bc4962832ae0c147338d32167b96d8971717d12d504a43c2f7b2aec4fc", checked := Try.checked }
namespace Rows
def none {H : Type} : Left H := { results := [], args := [] }

/-- 'outriderlaw25.PipeRoom': WHATEVER THE INPUT: true; the input reads as it did. -/
def pipeRoomSpec : ChangeSpec := { name := "pipeRoom", fn := fun _ => fun
  | [d1, d2] => { results := [.lit (.bool true)], args := [d1, d2] }
  | _ => none }
def pipeRoomRow : OpenClaim := { program := "ytoocklaoedcbjaa", sum := "4129b6bc4962832ae0c147338d32167b96d8971717d12d504a43c2f7b2aec4fc", func := "outrider/outriderlaw25.PipeRoom", spec := "pipeRoom", unfollowed := true, recurses := true, apart := false }
def PipeRoomSaid : Prop := pipeRoomRow.holds Try.pinned (OpenSpec.ofChange pipeRoomSpec)

/-- ITS FALSE NEIGHBOUR: 'it returns false'. Refute it at one input. -/
def pipeRoomWrong : ChangeSpec := { name := "pipeRoom", fn := fun _ => fun
  | [d1, d2] => { results := [.lit (.bool false)], args := [d1, d2] }
  | _ => none }
def PipeRoomWrongFalsely : Prop := pipeRoomRow.holds Try.pinned (OpenSpec.ofChange pipeRoomWrong)

/-- 'outriderlaw25.PipeTurns': WHATEVER THE INPUT: true; the input reads as it did. -/
def pipeTurnsSpec : ChangeSpec := { name := "pipeTurns", fn := fun _ => fun
  | [d] => { results := [.lit (.bool true)], args := [d] }
  | _ => none }
def pipeTurnsRow : OpenClaim := { program := "ytoocklaoedcbjaa", sum := "4129b6bc4962832ae0c147338d32167b96d8971717d12d504a43c2f7b2aec4fc", func := "outrider/outriderlaw25.PipeTurns", spec := "pipeTurns", unfollowed := true, recurses := true, apart := false }
def PipeTurnsSaid : Prop := pipeTurnsRow.holds Try.pinned (OpenSpec.ofChange pipeTurnsSpec)

/-- ITS FALSE NEIGHBOUR: 'it returns false'. Refute it at one input. -/
def pipeTurnsWrong : ChangeSpec := { name := "pipeTurns", fn := fun _ => fun
  | [d] => { results := [.lit (.bool false)], args := [d] }
  | _ => none }
def PipeTurnsWrongFalsely : Prop := pipeTurnsRow.holds Try.pinned (OpenSpec.ofChange pipeTurnsWrong)

/-- 'outriderlaw25.PipeHonest': WHATEVER THE INPUT: true; the input reads as it did. -/
def pipeHonestSpec : ChangeSpec := { name := "pipeHonest", fn := fun _ => fun
  | [d] => { results := [.lit (.bool true)], args := [d] }
  | _ => none }
def pipeHonestRow : OpenClaim := { program := "ytoocklaoedcbjaa", sum := "4129b6bc4962832ae0c147338d32167b96d8971717d12d504a43c2f7b2aec4fc", func := "outrider/outriderlaw25.PipeHonest", spec := "pipeHonest", unfollowed := true, recurses := true, apart := false }
def PipeHonestSaid : Prop := pipeHonestRow.holds Try.pinned (OpenSpec.ofChange pipeHonestSpec)

/-- ITS FALSE NEIGHBOUR: 'it returns false'. Refute it at one input. -/
def pipeHonestWrong : ChangeSpec := { name := "pipeHonest", fn := fun _ => fun
  | [d] => { results := [.lit (.bool false)], args := [d] }
  | _ => none }
def PipeHonestWrongFalsely : Prop := pipeHonestRow.holds Try.pinned (OpenSpec.ofChange pipeHonestWrong)

/- THE SECOND FORM. 'bulk': how many values and letters a reading holds, each counted each time it is reached (what is shared counts as often as it is met; a slice's spare places count too). A statement '..UptoSaid' is the law's where the arguments, and the package variables that the reading takes, are together of bulk at most 1048576: NARROWER than '..Said'. Prove '..Said' where nothing that the law and all that it calls make is longer than what came in: it says more and counts as full. Else prove '..UptoSaid'. A law counts once. -/
mutual
def uptoBulk {H : Type} : DataW H → Nat
  | .lit (.string bytes) => bytes.length + 1
  | .lit _ => 1
  | .nil => 1
  | .ptr d => uptoBulk d + 1
  | .slice elems spare => uptoBulkAll elems + uptoBulkAll spare + 1
  | .agg parts => uptoBulkAll parts + 1
  | .iface _ d => uptoBulk d + 1
  | .map entries => uptoBulkEntries entries + 1
  | .held _ => 1
def uptoBulkAll {H : Type} : List (DataW H) → Nat
  | [] => 0
  | d :: r => uptoBulk d + uptoBulkAll r
def uptoBulkEntries {H : Type} : List (Lit × DataW H) → Nat
  | [] => 0
  | x :: r => uptoBulkEntry x + uptoBulkEntries r
def uptoBulkEntry {H : Type} : Lit × DataW H → Nat
  | (.string bytes, d) => bytes.length + uptoBulk d + 1
  | (_, d) => uptoBulk d + 1
 end
def uptoSmall : (H : Type) → List (DataW H) → Bool := fun _ ds => decide (uptoBulkAll ds ≤ 1048576)
def OpenSpec.upto (s : _root_.Go.ChangeSpec) : _root_.Go.OpenSpec := { _root_.Go.OpenSpec.ofChange s with cond := some uptoSmall }

/-- 'outriderlaw25.PipeRoom', WHERE WHAT IT READS IS OF BULK AT MOST 1048576: true; the input reads as it did. -/
def pipeRoomUptoRow : OpenClaim := { program := "ytoocklaoedcbjaa", sum := "4129b6bc4962832ae0c147338d32167b96d8971717d12d504a43c2f7b2aec4fc", func := "outrider/outriderlaw25.PipeRoom", spec := "pipeRoom", unfollowed := true, recurses := true, apart := false, narrowed := true }
def PipeRoomUptoSaid : Prop := pipeRoomUptoRow.holds Try.pinned (OpenSpec.upto pipeRoomSpec)

/-- 'outriderlaw25.PipeTurns', WHERE WHAT IT READS IS OF BULK AT MOST 1048576: true; the input reads as it did. -/
def pipeTurnsUptoRow : OpenClaim := { program := "ytoocklaoedcbjaa", sum := "4129b6bc4962832ae0c147338d32167b96d8971717d12d504a43c2f7b2aec4fc", func := "outrider/outriderlaw25.PipeTurns", spec := "pipeTurns", unfollowed := true, recurses := true, apart := false, narrowed := true }
def PipeTurnsUptoSaid : Prop := pipeTurnsUptoRow.holds Try.pinned (OpenSpec.upto pipeTurnsSpec)

/-- 'outriderlaw25.PipeHonest', WHERE WHAT IT READS IS OF BULK AT MOST 1048576: true; the input reads as it did. -/
def pipeHonestUptoRow : OpenClaim := { program := "ytoocklaoedcbjaa", sum := "4129b6bc4962832ae0c147338d32167b96d8971717d12d504a43c2f7b2aec4fc", func := "outrider/outriderlaw25.PipeHonest", spec := "pipeHonest", unfollowed := true, recurses := true, apart := false, narrowed := true }
def PipeHonestUptoSaid : Prop := pipeHonestUptoRow.holds Try.pinned (OpenSpec.upto pipeHonestSpec)

end Rows
end Go.Proofs.Ytoocklaoedcbjaa
