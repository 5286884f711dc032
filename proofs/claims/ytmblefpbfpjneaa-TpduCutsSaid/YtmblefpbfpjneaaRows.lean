/-
  No cell of these rows narrows 'for every input' (looked for: loops, veiled, ifaces, maps, wideKeys, modest, calm, conditions, laid).
  DERIVED. THE GIVEN ROWS OF THIS SEAT. 6 by the template 'for every input the law returns true; each argument reads behind the call as it read before'; 0 by the template 'total and deterministic' (their statements: YtmblefpbfpjneaaTotals.lean).
  GIVEN WITH THE SEED: the statements are not yours to turn. If you find one false, say at which input.
  Laid BY PROGRAM, IN A SANDBOX (cutbox-rows.mjs): the forced cells as the released guide's own fill.sh prints them over the translation daa4aa0cbd1756a6… (all of the seat's roots in one cut). By AI agents, Wed Nov 11 2026. No macro, syntax, notation, axiom, sorry.
-/
import Derived.Test.YtmblefpbfpjneaaChecked
import GoSem.Claim
import GoSem.ClaimJoined
import GoSem.ClaimMapViews
import Derived.JoinedTies
import Derived.KernelRfl
namespace Go.Proofs.Ytmblefpbfpjneaa
/- THE CELL 'sum', in the pinned program and in every row, IS THE sha256 OF THE DUMP (.gsa) THAT YtmblefpbfpjneaaProg.lean LOADS. Nothing in Lean hashes anything: it is a label: what it is worth is what the hold of that sum in a sandbox is worth. -/
noncomputable def Try.pinned : Pinned := { name := "ytmblefpbfpjneaa", sum := "daa4aa0cbd1756a6e4b28aead982adc9343014d0076cf056fdeb148b09aee1f3", checked := Try.checked }
namespace Rows
def none {H : Type} : Left H := { results := [], args := [] }

/-- 'heptadlaw15.TpduAgrees': WHATEVER THE INPUT: true; the input reads as it did. -/
def tpduAgreesSpec : ChangeSpec := { name := "tpduAgrees", fn := fun _ => fun
  | [d1, d2] => { results := [.lit (.bool true)], args := [d1, d2] }
  | _ => none }
def tpduAgreesRow : OpenClaim := { program := "ytmblefpbfpjneaa", sum := "daa4aa0cbd1756a6e4b28aead982adc9343014d0076cf056fdeb148b09aee1f3", func := "heptad/heptadlaw15.TpduAgrees", spec := "tpduAgrees", apart := false }
def TpduAgreesSaid : Prop := tpduAgreesRow.holds Try.pinned (OpenSpec.ofChange tpduAgreesSpec)

/-- ITS FALSE NEIGHBOUR: 'it returns false'. Refute it at one input. -/
def tpduAgreesWrong : ChangeSpec := { name := "tpduAgrees", fn := fun _ => fun
  | [d1, d2] => { results := [.lit (.bool false)], args := [d1, d2] }
  | _ => none }
def TpduAgreesWrongFalsely : Prop := tpduAgreesRow.holds Try.pinned (OpenSpec.ofChange tpduAgreesWrong)

/-- 'heptadlaw15.TpduJoins': WHATEVER THE INPUT: true; the input reads as it did. -/
def tpduJoinsSpec : ChangeSpec := { name := "tpduJoins", fn := fun _ => fun
  | [d] => { results := [.lit (.bool true)], args := [d] }
  | _ => none }
def tpduJoinsRow : OpenClaim := { program := "ytmblefpbfpjneaa", sum := "daa4aa0cbd1756a6e4b28aead982adc9343014d0076cf056fdeb148b09aee1f3", func := "heptad/heptadlaw15.TpduJoins", spec := "tpduJoins", inPlace := ["internal/abi.NoEscape"], apart := false }
def TpduJoinsSaid : Prop := tpduJoinsRow.holds Try.pinned (OpenSpec.ofChange tpduJoinsSpec)

/-- ITS FALSE NEIGHBOUR: 'it returns false'. Refute it at one input. -/
def tpduJoinsWrong : ChangeSpec := { name := "tpduJoins", fn := fun _ => fun
  | [d] => { results := [.lit (.bool false)], args := [d] }
  | _ => none }
def TpduJoinsWrongFalsely : Prop := tpduJoinsRow.holds Try.pinned (OpenSpec.ofChange tpduJoinsWrong)

/-- 'heptadlaw15.TpduCuts': WHATEVER THE INPUT: true; the input reads as it did. -/
def tpduCutsSpec : ChangeSpec := { name := "tpduCuts", fn := fun _ => fun
  | [d1, d2, d3] => { results := [.lit (.bool true)], args := [d1, d2, d3] }
  | _ => none }
def tpduCutsRow : OpenClaim := { program := "ytmblefpbfpjneaa", sum := "daa4aa0cbd1756a6e4b28aead982adc9343014d0076cf056fdeb148b09aee1f3", func := "heptad/heptadlaw15.TpduCuts", spec := "tpduCuts", inPlace := ["internal/abi.NoEscape"], apart := false }
def TpduCutsSaid : Prop := tpduCutsRow.holds Try.pinned (OpenSpec.ofChange tpduCutsSpec)

/-- ITS FALSE NEIGHBOUR: 'it returns false'. Refute it at one input. -/
def tpduCutsWrong : ChangeSpec := { name := "tpduCuts", fn := fun _ => fun
  | [d1, d2, d3] => { results := [.lit (.bool false)], args := [d1, d2, d3] }
  | _ => none }
def TpduCutsWrongFalsely : Prop := tpduCutsRow.holds Try.pinned (OpenSpec.ofChange tpduCutsWrong)

/-- 'heptadlaw15.TpduReads': WHATEVER THE INPUT: true; the input reads as it did. -/
def tpduReadsSpec : ChangeSpec := { name := "tpduReads", fn := fun _ => fun
  | [d] => { results := [.lit (.bool true)], args := [d] }
  | _ => none }
def tpduReadsRow : OpenClaim := { program := "ytmblefpbfpjneaa", sum := "daa4aa0cbd1756a6e4b28aead982adc9343014d0076cf056fdeb148b09aee1f3", func := "heptad/heptadlaw15.TpduReads", spec := "tpduReads", inPlace := ["internal/abi.NoEscape", "internal/bytealg.MakeNoZero"], apart := false }
def TpduReadsSaid : Prop := tpduReadsRow.holds Try.pinned (OpenSpec.ofChange tpduReadsSpec)

/-- ITS FALSE NEIGHBOUR: 'it returns false'. Refute it at one input. -/
def tpduReadsWrong : ChangeSpec := { name := "tpduReads", fn := fun _ => fun
  | [d] => { results := [.lit (.bool false)], args := [d] }
  | _ => none }
def TpduReadsWrongFalsely : Prop := tpduReadsRow.holds Try.pinned (OpenSpec.ofChange tpduReadsWrong)

/-- 'heptadlaw15.TpduBack': WHATEVER THE INPUT: true; the input reads as it did. -/
def tpduBackSpec : ChangeSpec := { name := "tpduBack", fn := fun _ => fun
  | [d1, d2] => { results := [.lit (.bool true)], args := [d1, d2] }
  | _ => none }
def tpduBackRow : OpenClaim := { program := "ytmblefpbfpjneaa", sum := "daa4aa0cbd1756a6e4b28aead982adc9343014d0076cf056fdeb148b09aee1f3", func := "heptad/heptadlaw15.TpduBack", spec := "tpduBack", inPlace := ["internal/abi.NoEscape", "internal/bytealg.MakeNoZero"], apart := false }
def TpduBackSaid : Prop := tpduBackRow.holds Try.pinned (OpenSpec.ofChange tpduBackSpec)

/-- ITS FALSE NEIGHBOUR: 'it returns false'. Refute it at one input. -/
def tpduBackWrong : ChangeSpec := { name := "tpduBack", fn := fun _ => fun
  | [d1, d2] => { results := [.lit (.bool false)], args := [d1, d2] }
  | _ => none }
def TpduBackWrongFalsely : Prop := tpduBackRow.holds Try.pinned (OpenSpec.ofChange tpduBackWrong)

/-- 'heptadlaw15.TpduSpoilt': WHATEVER THE INPUT: true; the input reads as it did. -/
def tpduSpoiltSpec : ChangeSpec := { name := "tpduSpoilt", fn := fun _ => fun
  | [d1, d2] => { results := [.lit (.bool true)], args := [d1, d2] }
  | _ => none }
def tpduSpoiltRow : OpenClaim := { program := "ytmblefpbfpjneaa", sum := "daa4aa0cbd1756a6e4b28aead982adc9343014d0076cf056fdeb148b09aee1f3", func := "heptad/heptadlaw15.TpduSpoilt", spec := "tpduSpoilt", inPlace := ["internal/abi.NoEscape", "internal/bytealg.MakeNoZero"], apart := false }
def TpduSpoiltSaid : Prop := tpduSpoiltRow.holds Try.pinned (OpenSpec.ofChange tpduSpoiltSpec)

/-- ITS FALSE NEIGHBOUR: 'it returns false'. Refute it at one input. -/
def tpduSpoiltWrong : ChangeSpec := { name := "tpduSpoilt", fn := fun _ => fun
  | [d1, d2] => { results := [.lit (.bool false)], args := [d1, d2] }
  | _ => none }
def TpduSpoiltWrongFalsely : Prop := tpduSpoiltRow.holds Try.pinned (OpenSpec.ofChange tpduSpoiltWrong)

/- THE SECOND FORM. 'bulk': how many values and letters a reading holds, each counted each time it is reached (what is shared counts as often as it is met; a slice's spare places count too). A statement '..UptoSaid' is the law's where the arguments, and the package variables that the reading takes, are together of bulk at most 1048576: NARROWER than '..Said'. Prove '..Said' where nothing that the law and all that it calls make is longer than what came in: it says more and counts as full. Else prove '..UptoSaid'. A law counts once. -/
mutual
def uptoBulk {H : Type} : DataW H → Nat
  | .lit (.string bytes) => bytes.length + 1
  | .lit _ => 1
  | .nil => 1
  | .ptr d => uptoBulk d + 1
  | .slice elems spare => uptoBulkAll elems + uptoBulkAll spare + 1
  | .agg parts => uptoBulkAll parts + 1
  | .iface _ d => uptoBulk d + 1
  | .map entries => uptoBulkEntries entries + 1
  | .held _ => 1
def uptoBulkAll {H : Type} : List (DataW H) → Nat
  | [] => 0
  | d :: r => uptoBulk d + uptoBulkAll r
def uptoBulkEntries {H : Type} : List (Lit × DataW H) → Nat
  | [] => 0
  | x :: r => uptoBulkEntry x + uptoBulkEntries r
def uptoBulkEntry {H : Type} : Lit × DataW H → Nat
  | (.string bytes, d) => bytes.length + uptoBulk d + 1
  | (_, d) => uptoBulk d + 1
 end
def uptoSmall : (H : Type) → List (DataW H) → Bool := fun _ ds => decide (uptoBulkAll ds ≤ 1048576)
def OpenSpec.upto (s : _root_.Go.ChangeSpec) : _root_.Go.OpenSpec := { _root_.Go.OpenSpec.ofChange s with cond := some uptoSmall }

/-- 'heptadlaw15.TpduAgrees', WHERE WHAT IT READS IS OF BULK AT MOST 1048576: true; the input reads as it did. -/
def tpduAgreesUptoRow : OpenClaim := { program := "ytmblefpbfpjneaa", sum := "daa4aa0cbd1756a6e4b28aead982adc9343014d0076cf056fdeb148b09aee1f3", func := "heptad/heptadlaw15.TpduAgrees", spec := "tpduAgrees", apart := false, narrowed := true }
def TpduAgreesUptoSaid : Prop := tpduAgreesUptoRow.holds Try.pinned (OpenSpec.upto tpduAgreesSpec)

/-- 'heptadlaw15.TpduJoins', WHERE WHAT IT READS IS OF BULK AT MOST 1048576: true; the input reads as it did. -/
def tpduJoinsUptoRow : OpenClaim := { program := "ytmblefpbfpjneaa", sum := "daa4aa0cbd1756a6e4b28aead982adc9343014d0076cf056fdeb148b09aee1f3", func := "heptad/heptadlaw15.TpduJoins", spec := "tpduJoins", inPlace := ["internal/abi.NoEscape"], apart := false, narrowed := true }
def TpduJoinsUptoSaid : Prop := tpduJoinsUptoRow.holds Try.pinned (OpenSpec.upto tpduJoinsSpec)

/-- 'heptadlaw15.TpduCuts', WHERE WHAT IT READS IS OF BULK AT MOST 1048576: true; the input reads as it did. -/
def tpduCutsUptoRow : OpenClaim := { program := "ytmblefpbfpjneaa", sum := "daa4aa0cbd1756a6e4b28aead982adc9343014d0076cf056fdeb148b09aee1f3", func := "heptad/heptadlaw15.TpduCuts", spec := "tpduCuts", inPlace := ["internal/abi.NoEscape"], apart := false, narrowed := true }
def TpduCutsUptoSaid : Prop := tpduCutsUptoRow.holds Try.pinned (OpenSpec.upto tpduCutsSpec)

/-- 'heptadlaw15.TpduReads', WHERE WHAT IT READS IS OF BULK AT MOST 1048576: true; the input reads as it did. -/
def tpduReadsUptoRow : OpenClaim := { program := "ytmblefpbfpjneaa", sum := "daa4aa0cbd1756a6e4b28aead982adc9343014d0076cf056fdeb148b09aee1f3", func := "heptad/heptadlaw15.TpduReads", spec := "tpduReads", inPlace := ["internal/abi.NoEscape", "internal/bytealg.MakeNoZero"], apart := false, narrowed := true }
def TpduReadsUptoSaid : Prop := tpduReadsUptoRow.holds Try.pinned (OpenSpec.upto tpduReadsSpec)

/-- 'heptadlaw15.TpduBack', WHERE WHAT IT READS IS OF BULK AT MOST 1048576: true; the input reads as it did. -/
def tpduBackUptoRow : OpenClaim := { program := "ytmblefpbfpjneaa", sum := "daa4aa0cbd1756a6e4b28aead982adc9343014d0076cf056fdeb148b09aee1f3", func := "heptad/heptadlaw15.TpduBack", spec := "tpduBack", inPlace := ["internal/abi.NoEscape", "internal/bytealg.MakeNoZero"], apart := false, narrowed := true }
def TpduBackUptoSaid : Prop := tpduBackUptoRow.holds Try.pinned (OpenSpec.upto tpduBackSpec)

/-- 'heptadlaw15.TpduSpoilt', WHERE WHAT IT READS IS OF BULK AT MOST 1048576: true; the input reads as it did. -/
def tpduSpoiltUptoRow : OpenClaim := { program := "ytmblefpbfpjneaa", sum := "daa4aa0cbd1756a6e4b28aead982adc9343014d0076cf056fdeb148b09aee1f3", func := "heptad/heptadlaw15.TpduSpoilt", spec := "tpduSpoilt", inPlace := ["internal/abi.NoEscape", "internal/bytealg.MakeNoZero"], apart := false, narrowed := true }
def TpduSpoiltUptoSaid : Prop := tpduSpoiltUptoRow.holds Try.pinned (OpenSpec.upto tpduSpoiltSpec)

end Rows
end Go.Proofs.Ytmblefpbfpjneaa
