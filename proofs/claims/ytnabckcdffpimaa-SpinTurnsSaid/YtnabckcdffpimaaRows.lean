/-
  No cell of these rows narrows 'for every input' (looked for: loops, veiled, ifaces, maps, wideKeys, modest, calm, conditions, laid).
  DERIVED. THE GIVEN ROWS OF THIS SEAT. 5 by the template 'for every input the law returns true; each argument reads behind the call as it read before'; 0 by the template 'total and deterministic' (their statements: YtnabckcdffpimaaTotals.lean).
  GIVEN WITH THE SEED: the statements are not yours to turn. If you find one false, say at which input.
  Laid BY PROGRAM, IN A SANDBOX (cutbox-rows.mjs): the forced cells as the released guide's own fill.sh prints them over the translation c82c711f9965f9ef… (all of the seat's roots in one cut). By AI agents, Wed Nov 11 2026. No macro, syntax, notation, axiom, sorry.
-/
import Derived.Test.YtnabckcdffpimaaChecked
import GoSem.Claim
import GoSem.ClaimJoined
import GoSem.ClaimMapViews
import Derived.JoinedTies
import Derived.KernelRfl
namespace Go.Proofs.Ytnabckcdffpimaa
/- THE CELL 'sum', in the pinned program and in every row, IS THE sha256 OF THE DUMP (.gsa) THAT YtnabckcdffpimaaProg.lean LOADS. Nothing in Lean hashes anything: it is a label: what it is worth is what the hold of that sum in a sandbox is worth. -/
noncomputable def Try.pinned : Pinned := { name := "ytnabckcdffpimaa", sum := "c82c711f9965f9efe6edb92b3afc081f3c44ea066d331d0ce2b526d21510d919", checked := Try.checked }
namespace Rows
def none {H : Type} : Left H := { results := [], args := [] }

/-- 'outriderlaw05.PairSums': WHATEVER THE INPUT: true; the input reads as it did. -/
def pairSumsSpec : ChangeSpec := { name := "pairSums", fn := fun _ => fun
  | [d] => { results := [.lit (.bool true)], args := [d] }
  | _ => none }
def pairSumsRow : OpenClaim := { program := "ytnabckcdffpimaa", sum := "c82c711f9965f9efe6edb92b3afc081f3c44ea066d331d0ce2b526d21510d919", func := "outrider/outriderlaw05.PairSums", spec := "pairSums", inPlace := ["math.archTrunc", "math.Float64bits", "math.Float64frombits"], apart := false }
def PairSumsSaid : Prop := pairSumsRow.holds Try.pinned (OpenSpec.ofChange pairSumsSpec)

/-- ITS FALSE NEIGHBOUR: 'it returns false'. Refute it at one input. -/
def pairSumsWrong : ChangeSpec := { name := "pairSums", fn := fun _ => fun
  | [d] => { results := [.lit (.bool false)], args := [d] }
  | _ => none }
def PairSumsWrongFalsely : Prop := pairSumsRow.holds Try.pinned (OpenSpec.ofChange pairSumsWrong)

/-- 'outriderlaw05.PairTurns': WHATEVER THE INPUT: true; the input reads as it did. -/
def pairTurnsSpec : ChangeSpec := { name := "pairTurns", fn := fun _ => fun
  | [d1, d2, d3, d4, d5, d6] => { results := [.lit (.bool true)], args := [d1, d2, d3, d4, d5, d6] }
  | _ => none }
def pairTurnsRow : OpenClaim := { program := "ytnabckcdffpimaa", sum := "c82c711f9965f9efe6edb92b3afc081f3c44ea066d331d0ce2b526d21510d919", func := "outrider/outriderlaw05.PairTurns", spec := "pairTurns", inPlace := ["math.archTrunc", "math.Float64bits", "math.Float64frombits"], apart := false }
def PairTurnsSaid : Prop := pairTurnsRow.holds Try.pinned (OpenSpec.ofChange pairTurnsSpec)

/-- ITS FALSE NEIGHBOUR: 'it returns false'. Refute it at one input. -/
def pairTurnsWrong : ChangeSpec := { name := "pairTurns", fn := fun _ => fun
  | [d1, d2, d3, d4, d5, d6] => { results := [.lit (.bool false)], args := [d1, d2, d3, d4, d5, d6] }
  | _ => none }
def PairTurnsWrongFalsely : Prop := pairTurnsRow.holds Try.pinned (OpenSpec.ofChange pairTurnsWrong)

/-- 'outriderlaw22.SpinUp': WHATEVER THE INPUT: true; the input reads as it did. -/
def spinUpSpec : ChangeSpec := { name := "spinUp", fn := fun _ => fun
  | [d1, d2, d3, d4] => { results := [.lit (.bool true)], args := [d1, d2, d3, d4] }
  | _ => none }
def spinUpRow : OpenClaim := { program := "ytnabckcdffpimaa", sum := "c82c711f9965f9efe6edb92b3afc081f3c44ea066d331d0ce2b526d21510d919", func := "outrider/outriderlaw22.SpinUp", spec := "spinUp", inPlace := ["math.archTrunc", "math.Float64bits", "math.Float64frombits"], apart := false }
def SpinUpSaid : Prop := spinUpRow.holds Try.pinned (OpenSpec.ofChange spinUpSpec)

/-- ITS FALSE NEIGHBOUR: 'it returns false'. Refute it at one input. -/
def spinUpWrong : ChangeSpec := { name := "spinUp", fn := fun _ => fun
  | [d1, d2, d3, d4] => { results := [.lit (.bool false)], args := [d1, d2, d3, d4] }
  | _ => none }
def SpinUpWrongFalsely : Prop := spinUpRow.holds Try.pinned (OpenSpec.ofChange spinUpWrong)

/-- 'outriderlaw22.SpinFair': WHATEVER THE INPUT: true; the input reads as it did. -/
def spinFairSpec : ChangeSpec := { name := "spinFair", fn := fun _ => fun
  | [d1, d2] => { results := [.lit (.bool true)], args := [d1, d2] }
  | _ => none }
def spinFairRow : OpenClaim := { program := "ytnabckcdffpimaa", sum := "c82c711f9965f9efe6edb92b3afc081f3c44ea066d331d0ce2b526d21510d919", func := "outrider/outriderlaw22.SpinFair", spec := "spinFair", inPlace := ["math.archTrunc", "math.Float64bits", "math.Float64frombits"], apart := false }
def SpinFairSaid : Prop := spinFairRow.holds Try.pinned (OpenSpec.ofChange spinFairSpec)

/-- ITS FALSE NEIGHBOUR: 'it returns false'. Refute it at one input. -/
def spinFairWrong : ChangeSpec := { name := "spinFair", fn := fun _ => fun
  | [d1, d2] => { results := [.lit (.bool false)], args := [d1, d2] }
  | _ => none }
def SpinFairWrongFalsely : Prop := spinFairRow.holds Try.pinned (OpenSpec.ofChange spinFairWrong)

/-- 'outriderlaw22.SpinTurns': WHATEVER THE INPUT: true; the input reads as it did. -/
def spinTurnsSpec : ChangeSpec := { name := "spinTurns", fn := fun _ => fun
  | [d1, d2] => { results := [.lit (.bool true)], args := [d1, d2] }
  | _ => none }
def spinTurnsRow : OpenClaim := { program := "ytnabckcdffpimaa", sum := "c82c711f9965f9efe6edb92b3afc081f3c44ea066d331d0ce2b526d21510d919", func := "outrider/outriderlaw22.SpinTurns", spec := "spinTurns", inPlace := ["math.archTrunc", "math.Float64bits", "math.Float64frombits"], apart := false }
def SpinTurnsSaid : Prop := spinTurnsRow.holds Try.pinned (OpenSpec.ofChange spinTurnsSpec)

/-- ITS FALSE NEIGHBOUR: 'it returns false'. Refute it at one input. -/
def spinTurnsWrong : ChangeSpec := { name := "spinTurns", fn := fun _ => fun
  | [d1, d2] => { results := [.lit (.bool false)], args := [d1, d2] }
  | _ => none }
def SpinTurnsWrongFalsely : Prop := spinTurnsRow.holds Try.pinned (OpenSpec.ofChange spinTurnsWrong)

/- THE SECOND FORM. 'bulk': how many values and letters a reading holds, each counted each time it is reached (what is shared counts as often as it is met; a slice's spare places count too). A statement '..UptoSaid' is the law's where the arguments, and the package variables that the reading takes, are together of bulk at most 1048576: NARROWER than '..Said'. Prove '..Said' where nothing that the law and all that it calls make is longer than what came in: it says more and counts as full. Else prove '..UptoSaid'. A law counts once. -/
mutual
def uptoBulk {H : Type} : DataW H → Nat
  | .lit (.string bytes) => bytes.length + 1
  | .lit _ => 1
  | .nil => 1
  | .ptr d => uptoBulk d + 1
  | .slice elems spare => uptoBulkAll elems + uptoBulkAll spare + 1
  | .agg parts => uptoBulkAll parts + 1
  | .iface _ d => uptoBulk d + 1
  | .map entries => uptoBulkEntries entries + 1
  | .held _ => 1
def uptoBulkAll {H : Type} : List (DataW H) → Nat
  | [] => 0
  | d :: r => uptoBulk d + uptoBulkAll r
def uptoBulkEntries {H : Type} : List (Lit × DataW H) → Nat
  | [] => 0
  | x :: r => uptoBulkEntry x + uptoBulkEntries r
def uptoBulkEntry {H : Type} : Lit × DataW H → Nat
  | (.string bytes, d) => bytes.length + uptoBulk d + 1
  | (_, d) => uptoBulk d + 1
 end
def uptoSmall : (H : Type) → List (DataW H) → Bool := fun _ ds => decide (uptoBulkAll ds ≤ 1048576)
def OpenSpec.upto (s : _root_.Go.ChangeSpec) : _root_.Go.OpenSpec := { _root_.Go.OpenSpec.ofChange s with cond := some uptoSmall }

/-- 'outriderlaw05.PairSums', WHERE WHAT IT READS IS OF BULK AT MOST 1048576: true; the input reads as it did. -/
def pairSumsUptoRow : OpenClaim := { program := "ytnabckcdffpimaa", sum := "c82c711f9965f9efe6edb92b3afc081f3c44ea066d331d0ce2b526d21510d919", func := "outrider/outriderlaw05.PairSums", spec := "pairSums", inPlace := ["math.archTrunc", "math.Float64bits", "math.Float64frombits"], apart := false, narrowed := true }
def PairSumsUptoSaid : Prop := pairSumsUptoRow.holds Try.pinned (OpenSpec.upto pairSumsSpec)

/-- 'outriderlaw05.PairTurns', WHERE WHAT IT READS IS OF BULK AT MOST 1048576: true; the input reads as it did. -/
def pairTurnsUptoRow : OpenClaim := { program := "ytnabckcdffpimaa", sum := "c82c711f9965f9efe6edb92b3afc081f3c44ea066d331d0ce2b526d21510d919", func := "outrider/outriderlaw05.PairTurns", spec := "pairTurns", inPlace := ["math.archTrunc", "math.Float64bits", "math.Float64frombits"], apart := false, narrowed := true }
def PairTurnsUptoSaid : Prop := pairTurnsUptoRow.holds Try.pinned (OpenSpec.upto pairTurnsSpec)

/-- 'outriderlaw22.SpinUp', WHERE WHAT IT READS IS OF BULK AT MOST 1048576: true; the input reads as it did. -/
def spinUpUptoRow : OpenClaim := { program := "ytnabckcdffpimaa", sum := "c82c711f9965f9efe6edb92b3afc081f3c44ea066d331d0ce2b526d21510d919", func := "outrider/outriderlaw22.SpinUp", spec := "spinUp", inPlace := ["math.archTrunc", "math.Float64bits", "math.Float64frombits"], apart := false, narrowed := true }
def SpinUpUptoSaid : Prop := spinUpUptoRow.holds Try.pinned (OpenSpec.upto spinUpSpec)

/-- 'outriderlaw22.SpinFair', WHERE WHAT IT READS IS OF BULK AT MOST 1048576: true; the input reads as it did. -/
def spinFairUptoRow : OpenClaim := { program := "ytnabckcdffpimaa", sum := "c82c711f9965f9efe6edb92b3afc081f3c44ea066d331d0ce2b526d21510d919", func := "outrider/outriderlaw22.SpinFair", spec := "spinFair", inPlace := ["math.archTrunc", "math.Float64bits", "math.Float64frombits"], apart := false, narrowed := true }
def SpinFairUptoSaid : Prop := spinFairUptoRow.holds Try.pinned (OpenSpec.upto spinFairSpec)

/-- 'outriderlaw22.SpinTurns', WHERE WHAT IT READS IS OF BULK AT MOST 1048576: true; the input reads as it did. -/
def spinTurnsUptoRow : OpenClaim := { program := "ytnabckcdffpimaa", sum := "c82c711f9965f9efe6edb92b3afc081f3c44ea066d331d0ce2b526d21510d919", func := "outrider/outriderlaw22.SpinTurns", spec := "spinTurns", inPlace := ["math.archTrunc", "math.Float64bits", "math.Float64frombits"], apart := false, narrowed := true }
def SpinTurnsUptoSaid : Prop := spinTurnsUptoRow.holds Try.pinned (OpenSpec.upto spinTurnsSpec)

end Rows
end Go.Proofs.Ytnabckcdffpimaa
