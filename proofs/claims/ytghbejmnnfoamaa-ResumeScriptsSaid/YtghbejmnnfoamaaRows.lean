/-
  No cell of these rows narrows 'for every input' (looked for: loops, veiled, ifaces, maps, wideKeys, modest, calm, conditions, laid).
  DERIVED. THE GIVEN ROWS OF THIS SEAT. 4 by the template 'for every input the law returns true; each argument reads behind the call as it read before'; 0 by the template 'total and deterministic' (their statements: YtghbejmnnfoamaaTotals.lean).
  GIVEN WITH THE SEED: the statements are not yours to turn. If you find one false, say at which input.
  Laid BY PROGRAM, IN A SANDBOX (cutbox-rows.mjs): the forced cells as the released guide's own fill.sh prints them over the translation d3d35317001e3982… (all of the seat's roots in one cut). By AI agents, Wed Nov 11 2026. No macro, syntax, notation, axiom, sorry.
-/
import Derived.Test.YtghbejmnnfoamaaChecked
import GoSem.Claim
import GoSem.ClaimJoined
import GoSem.ClaimMapViews
import Derived.JoinedTies
import Derived.KernelRfl
namespace Go.Proofs.Ytghbejmnnfoamaa
/- THE CELL 'sum', in the pinned program and in every row, IS THE sha256 OF THE DUMP (.gsa) THAT YtghbejmnnfoamaaProg.lean LOADS. Nothing in Lean hashes anything: it is a label: what it is worth is what the hold of that sum in a sandbox is worth. -/
noncomputable def Try.pinned : Pinned := { name := "ytghbejmnnfoamaa", sum := "d3d35317001e398227467ef6f6e9ea80a917a6bd7a6b2216b60d085b0a71332f", checked := Try.checked }
namespace Rows
def none {H : Type} : Left H := { results := [], args := [] }

/-- 'heptadlaw18.ResumeKept': WHATEVER THE INPUT: true; the input reads as it did. -/
def resumeKeptSpec : ChangeSpec := { name := "resumeKept", fn := fun _ => fun
  | [d1, d2] => { results := [.lit (.bool true)], args := [d1, d2] }
  | _ => none }
def resumeKeptRow : OpenClaim := { program := "ytghbejmnnfoamaa", sum := "d3d35317001e398227467ef6f6e9ea80a917a6bd7a6b2216b60d085b0a71332f", func := "heptad/heptadlaw18.ResumeKept", spec := "resumeKept", inPlace := ["internal/abi.NoEscape", "internal/bytealg.MakeNoZero"], apart := false }
def ResumeKeptSaid : Prop := resumeKeptRow.holds Try.pinned (OpenSpec.ofChange resumeKeptSpec)

/-- ITS FALSE NEIGHBOUR: 'it returns false'. Refute it at one input. -/
def resumeKeptWrong : ChangeSpec := { name := "resumeKept", fn := fun _ => fun
  | [d1, d2] => { results := [.lit (.bool false)], args := [d1, d2] }
  | _ => none }
def ResumeKeptWrongFalsely : Prop := resumeKeptRow.holds Try.pinned (OpenSpec.ofChange resumeKeptWrong)

/-- 'heptadlaw18.ResumeScripts': WHATEVER THE INPUT: true; the input reads as it did. -/
def resumeScriptsSpec : ChangeSpec := { name := "resumeScripts", fn := fun _ => fun
  | [d1, d2] => { results := [.lit (.bool true)], args := [d1, d2] }
  | _ => none }
def resumeScriptsRow : OpenClaim := { program := "ytghbejmnnfoamaa", sum := "d3d35317001e398227467ef6f6e9ea80a917a6bd7a6b2216b60d085b0a71332f", func := "heptad/heptadlaw18.ResumeScripts", spec := "resumeScripts", inPlace := ["internal/abi.NoEscape", "internal/bytealg.MakeNoZero"], apart := false }
def ResumeScriptsSaid : Prop := resumeScriptsRow.holds Try.pinned (OpenSpec.ofChange resumeScriptsSpec)

/-- ITS FALSE NEIGHBOUR: 'it returns false'. Refute it at one input. -/
def resumeScriptsWrong : ChangeSpec := { name := "resumeScripts", fn := fun _ => fun
  | [d1, d2] => { results := [.lit (.bool false)], args := [d1, d2] }
  | _ => none }
def ResumeScriptsWrongFalsely : Prop := resumeScriptsRow.holds Try.pinned (OpenSpec.ofChange resumeScriptsWrong)

/-- 'heptadlaw18.ResumeCopies': WHATEVER THE INPUT: true; the input reads as it did. -/
def resumeCopiesSpec : ChangeSpec := { name := "resumeCopies", fn := fun _ => fun
  | [d1, d2, d3] => { results := [.lit (.bool true)], args := [d1, d2, d3] }
  | _ => none }
def resumeCopiesRow : OpenClaim := { program := "ytghbejmnnfoamaa", sum := "d3d35317001e398227467ef6f6e9ea80a917a6bd7a6b2216b60d085b0a71332f", func := "heptad/heptadlaw18.ResumeCopies", spec := "resumeCopies", inPlace := ["internal/abi.NoEscape", "internal/bytealg.MakeNoZero"], apart := false }
def ResumeCopiesSaid : Prop := resumeCopiesRow.holds Try.pinned (OpenSpec.ofChange resumeCopiesSpec)

/-- ITS FALSE NEIGHBOUR: 'it returns false'. Refute it at one input. -/
def resumeCopiesWrong : ChangeSpec := { name := "resumeCopies", fn := fun _ => fun
  | [d1, d2, d3] => { results := [.lit (.bool false)], args := [d1, d2, d3] }
  | _ => none }
def ResumeCopiesWrongFalsely : Prop := resumeCopiesRow.holds Try.pinned (OpenSpec.ofChange resumeCopiesWrong)

/-- 'heptadlaw18.ResumeNil': WHATEVER THE INPUT: true; the input reads as it did. -/
def resumeNilSpec : ChangeSpec := { name := "resumeNil", fn := fun _ => fun
  | [d] => { results := [.lit (.bool true)], args := [d] }
  | _ => none }
def resumeNilRow : OpenClaim := { program := "ytghbejmnnfoamaa", sum := "d3d35317001e398227467ef6f6e9ea80a917a6bd7a6b2216b60d085b0a71332f", func := "heptad/heptadlaw18.ResumeNil", spec := "resumeNil", inPlace := ["internal/abi.NoEscape", "internal/bytealg.MakeNoZero"], apart := false }
def ResumeNilSaid : Prop := resumeNilRow.holds Try.pinned (OpenSpec.ofChange resumeNilSpec)

/-- ITS FALSE NEIGHBOUR: 'it returns false'. Refute it at one input. -/
def resumeNilWrong : ChangeSpec := { name := "resumeNil", fn := fun _ => fun
  | [d] => { results := [.lit (.bool false)], args := [d] }
  | _ => none }
def ResumeNilWrongFalsely : Prop := resumeNilRow.holds Try.pinned (OpenSpec.ofChange resumeNilWrong)

/- THE SECOND FORM. 'bulk': how many values and letters a reading holds, each counted each time it is reached (what is shared counts as often as it is met; a slice's spare places count too). A statement '..UptoSaid' is the law's where the arguments, and the package variables that the reading takes, are together of bulk at most 1048576: NARROWER than '..Said'. Prove '..Said' where nothing that the law and all that it calls make is longer than what came in: it says more and counts as full. Else prove '..UptoSaid'. A law counts once. -/
mutual
def uptoBulk {H : Type} : DataW H → Nat
  | .lit (.string bytes) => bytes.length + 1
  | .lit _ => 1
  | .nil => 1
  | .ptr d => uptoBulk d + 1
  | .slice elems spare => uptoBulkAll elems + uptoBulkAll spare + 1
  | .agg parts => uptoBulkAll parts + 1
  | .iface _ d => uptoBulk d + 1
  | .map entries => uptoBulkEntries entries + 1
  | .held _ => 1
def uptoBulkAll {H : Type} : List (DataW H) → Nat
  | [] => 0
  | d :: r => uptoBulk d + uptoBulkAll r
def uptoBulkEntries {H : Type} : List (Lit × DataW H) → Nat
  | [] => 0
  | x :: r => uptoBulkEntry x + uptoBulkEntries r
def uptoBulkEntry {H : Type} : Lit × DataW H → Nat
  | (.string bytes, d) => bytes.length + uptoBulk d + 1
  | (_, d) => uptoBulk d + 1
 end
def uptoSmall : (H : Type) → List (DataW H) → Bool := fun _ ds => decide (uptoBulkAll ds ≤ 1048576)
def OpenSpec.upto (s : _root_.Go.ChangeSpec) : _root_.Go.OpenSpec := { _root_.Go.OpenSpec.ofChange s with cond := some uptoSmall }

/-- 'heptadlaw18.ResumeKept', WHERE WHAT IT READS IS OF BULK AT MOST 1048576: true; the input reads as it did. -/
def resumeKeptUptoRow : OpenClaim := { program := "ytghbejmnnfoamaa", sum := "d3d35317001e398227467ef6f6e9ea80a917a6bd7a6b2216b60d085b0a71332f", func := "heptad/heptadlaw18.ResumeKept", spec := "resumeKept", inPlace := ["internal/abi.NoEscape", "internal/bytealg.MakeNoZero"], apart := false, narrowed := true }
def ResumeKeptUptoSaid : Prop := resumeKeptUptoRow.holds Try.pinned (OpenSpec.upto resumeKeptSpec)

/-- 'heptadlaw18.ResumeScripts', WHERE WHAT IT READS IS OF BULK AT MOST 1048576: true; the input reads as it did. -/
def resumeScriptsUptoRow : OpenClaim := { program := "ytghbejmnnfoamaa", sum := "d3d35317001e398227467ef6f6e9ea80a917a6bd7a6b2216b60d085b0a71332f", func := "heptad/heptadlaw18.ResumeScripts", spec := "resumeScripts", inPlace := ["internal/abi.NoEscape", "internal/bytealg.MakeNoZero"], apart := false, narrowed := true }
def ResumeScriptsUptoSaid : Prop := resumeScriptsUptoRow.holds Try.pinned (OpenSpec.upto resumeScriptsSpec)

/-- 'heptadlaw18.ResumeCopies', WHERE WHAT IT READS IS OF BULK AT MOST 1048576: true; the input reads as it did. -/
def resumeCopiesUptoRow : OpenClaim := { program := "ytghbejmnnfoamaa", sum := "d3d35317001e398227467ef6f6e9ea80a917a6bd7a6b2216b60d085b0a71332f", func := "heptad/heptadlaw18.ResumeCopies", spec := "resumeCopies", inPlace := ["internal/abi.NoEscape", "internal/bytealg.MakeNoZero"], apart := false, narrowed := true }
def ResumeCopiesUptoSaid : Prop := resumeCopiesUptoRow.holds Try.pinned (OpenSpec.upto resumeCopiesSpec)

/-- 'heptadlaw18.ResumeNil', WHERE WHAT IT READS IS OF BULK AT MOST 1048576: true; the input reads as it did. -/
def resumeNilUptoRow : OpenClaim := { program := "ytghbejmnnfoamaa", sum := "d3d35317001e398227467ef6f6e9ea80a917a6bd7a6b2216b60d085b0a71332f", func := "heptad/heptadlaw18.ResumeNil", spec := "resumeNil", inPlace := ["internal/abi.NoEscape", "internal/bytealg.MakeNoZero"], apart := false, narrowed := true }
def ResumeNilUptoSaid : Prop := resumeNilUptoRow.holds Try.pinned (OpenSpec.upto resumeNilSpec)

end Rows
end Go.Proofs.Ytghbejmnnfoamaa
