/-
  No cell of these rows narrows 'for every input' (looked for: loops, veiled, ifaces, maps, wideKeys, modest, calm, conditions, laid).
  DERIVED. THE GIVEN ROWS OF THIS SEAT. 5 by the template 'for every input the law returns true; each argument reads behind the call as it read before'; 0 by the template 'total and deterministic' (their statements: YtnipbkplobpnhaaTotals.lean).
  GIVEN WITH THE SEED: the statements are not yours to turn. If you find one false, say at which input.
  Laid BY PROGRAM, IN A SANDBOX (cutbox-rows.mjs): the forced cells as the released guide's own fill.sh prints them over the translation d9ef8c9b9a35796b… (all of the seat's roots in one cut). By AI agents, Wed Nov 11 2026. No macro, syntax, notation, axiom, sorry.
-/
import Derived.Test.YtnipbkplobpnhaaChecked
import GoSem.Claim
import GoSem.ClaimJoined
import GoSem.ClaimMapViews
import Derived.JoinedTies
import Derived.KernelRfl
namespace Go.Proofs.Ytnipbkplobpnhaa
/- THE CELL 'sum', in the pinned program and in every row, IS THE sha256 OF THE DUMP (.gsa) THAT YtnipbkplobpnhaaProg.lean LOADS. Nothing in Lean hashes anything: it is a label: what it is worth is what the hold of that sum in a sandbox is worth. -/
noncomputable def Try.pinned : Pinned := { name := "ytnipbkplobpnhaa", sum := "d9ef8c9b9a35796b873bfb6d7cbe5f0c6e2de3154cca3b5750634649850d3d9b", checked := Try.checked }
namespace Rows
def none {H : Type} : Left H := { results := [], args := [] }

/-- 'centolaw01.WordMixes': WHATEVER THE INPUT: true; the input reads as it did. -/
def wordMixesSpec : ChangeSpec := { name := "wordMixes", fn := fun _ => fun
  | [d1, d2, d3] => { results := [.lit (.bool true)], args := [d1, d2, d3] }
  | _ => none }
def wordMixesRow : OpenClaim := { program := "ytnipbkplobpnhaa", sum := "d9ef8c9b9a35796b873bfb6d7cbe5f0c6e2de3154cca3b5750634649850d3d9b", func := "cento/centolaw01.WordMixes", spec := "wordMixes", apart := false }
def WordMixesSaid : Prop := wordMixesRow.holds Try.pinned (OpenSpec.ofChange wordMixesSpec)

/-- ITS FALSE NEIGHBOUR: 'it returns false'. Refute it at one input. -/
def wordMixesWrong : ChangeSpec := { name := "wordMixes", fn := fun _ => fun
  | [d1, d2, d3] => { results := [.lit (.bool false)], args := [d1, d2, d3] }
  | _ => none }
def WordMixesWrongFalsely : Prop := wordMixesRow.holds Try.pinned (OpenSpec.ofChange wordMixesWrong)

/-- 'centolaw01.WordBytes': WHATEVER THE INPUT: true; the input reads as it did. -/
def wordBytesSpec : ChangeSpec := { name := "wordBytes", fn := fun _ => fun
  | [d] => { results := [.lit (.bool true)], args := [d] }
  | _ => none }
def wordBytesRow : OpenClaim := { program := "ytnipbkplobpnhaa", sum := "d9ef8c9b9a35796b873bfb6d7cbe5f0c6e2de3154cca3b5750634649850d3d9b", func := "cento/centolaw01.WordBytes", spec := "wordBytes", apart := false }
def WordBytesSaid : Prop := wordBytesRow.holds Try.pinned (OpenSpec.ofChange wordBytesSpec)

/-- ITS FALSE NEIGHBOUR: 'it returns false'. Refute it at one input. -/
def wordBytesWrong : ChangeSpec := { name := "wordBytes", fn := fun _ => fun
  | [d] => { results := [.lit (.bool false)], args := [d] }
  | _ => none }
def WordBytesWrongFalsely : Prop := wordBytesRow.holds Try.pinned (OpenSpec.ofChange wordBytesWrong)

/-- 'centolaw01.WordPuts': WHATEVER THE INPUT: true; the input reads as it did. -/
def wordPutsSpec : ChangeSpec := { name := "wordPuts", fn := fun _ => fun
  | [d1, d2] => { results := [.lit (.bool true)], args := [d1, d2] }
  | _ => none }
def wordPutsRow : OpenClaim := { program := "ytnipbkplobpnhaa", sum := "d9ef8c9b9a35796b873bfb6d7cbe5f0c6e2de3154cca3b5750634649850d3d9b", func := "cento/centolaw01.WordPuts", spec := "wordPuts", apart := false }
def WordPutsSaid : Prop := wordPutsRow.holds Try.pinned (OpenSpec.ofChange wordPutsSpec)

/-- ITS FALSE NEIGHBOUR: 'it returns false'. Refute it at one input. -/
def wordPutsWrong : ChangeSpec := { name := "wordPuts", fn := fun _ => fun
  | [d1, d2] => { results := [.lit (.bool false)], args := [d1, d2] }
  | _ => none }
def WordPutsWrongFalsely : Prop := wordPutsRow.holds Try.pinned (OpenSpec.ofChange wordPutsWrong)

/-- 'centolaw01.WordGets': WHATEVER THE INPUT: true; the input reads as it did. -/
def wordGetsSpec : ChangeSpec := { name := "wordGets", fn := fun _ => fun
  | [d1, d2, d3, d4] => { results := [.lit (.bool true)], args := [d1, d2, d3, d4] }
  | _ => none }
def wordGetsRow : OpenClaim := { program := "ytnipbkplobpnhaa", sum := "d9ef8c9b9a35796b873bfb6d7cbe5f0c6e2de3154cca3b5750634649850d3d9b", func := "cento/centolaw01.WordGets", spec := "wordGets", apart := false }
def WordGetsSaid : Prop := wordGetsRow.holds Try.pinned (OpenSpec.ofChange wordGetsSpec)

/-- ITS FALSE NEIGHBOUR: 'it returns false'. Refute it at one input. -/
def wordGetsWrong : ChangeSpec := { name := "wordGets", fn := fun _ => fun
  | [d1, d2, d3, d4] => { results := [.lit (.bool false)], args := [d1, d2, d3, d4] }
  | _ => none }
def WordGetsWrongFalsely : Prop := wordGetsRow.holds Try.pinned (OpenSpec.ofChange wordGetsWrong)

/-- 'centolaw01.WordFlat': WHATEVER THE INPUT: true; the input reads as it did. -/
def wordFlatSpec : ChangeSpec := { name := "wordFlat", fn := fun _ => fun
  | [d1, d2] => { results := [.lit (.bool true)], args := [d1, d2] }
  | _ => none }
def wordFlatRow : OpenClaim := { program := "ytnipbkplobpnhaa", sum := "d9ef8c9b9a35796b873bfb6d7cbe5f0c6e2de3154cca3b5750634649850d3d9b", func := "cento/centolaw01.WordFlat", spec := "wordFlat", apart := false }
def WordFlatSaid : Prop := wordFlatRow.holds Try.pinned (OpenSpec.ofChange wordFlatSpec)

/-- ITS FALSE NEIGHBOUR: 'it returns false'. Refute it at one input. -/
def wordFlatWrong : ChangeSpec := { name := "wordFlat", fn := fun _ => fun
  | [d1, d2] => { results := [.lit (.bool false)], args := [d1, d2] }
  | _ => none }
def WordFlatWrongFalsely : Prop := wordFlatRow.holds Try.pinned (OpenSpec.ofChange wordFlatWrong)

/- THE SECOND FORM. 'bulk': how many values and letters a reading holds, each counted each time it is reached (what is shared counts as often as it is met; a slice's spare places count too). A statement '..UptoSaid' is the law's where the arguments, and the package variables that the reading takes, are together of bulk at most 1048576: NARROWER than '..Said'. Prove '..Said' where nothing that the law and all that it calls make is longer than what came in: it says more and counts as full. Else prove '..UptoSaid'. A law counts once. -/
mutual
def uptoBulk {H : Type} : DataW H → Nat
  | .lit (.string bytes) => bytes.length + 1
  | .lit _ => 1
  | .nil => 1
  | .ptr d => uptoBulk d + 1
  | .slice elems spare => uptoBulkAll elems + uptoBulkAll spare + 1
  | .agg parts => uptoBulkAll parts + 1
  | .iface _ d => uptoBulk d + 1
  | .map entries => uptoBulkEntries entries + 1
  | .held _ => 1
def uptoBulkAll {H : Type} : List (DataW H) → Nat
  | [] => 0
  | d :: r => uptoBulk d + uptoBulkAll r
def uptoBulkEntries {H : Type} : List (Lit × DataW H) → Nat
  | [] => 0
  | x :: r => uptoBulkEntry x + uptoBulkEntries r
def uptoBulkEntry {H : Type} : Lit × DataW H → Nat
  | (.string bytes, d) => bytes.length + uptoBulk d + 1
  | (_, d) => uptoBulk d + 1
 end
def uptoSmall : (H : Type) → List (DataW H) → Bool := fun _ ds => decide (uptoBulkAll ds ≤ 1048576)
def OpenSpec.upto (s : _root_.Go.ChangeSpec) : _root_.Go.OpenSpec := { _root_.Go.OpenSpec.ofChange s with cond := some uptoSmall }

/-- 'centolaw01.WordMixes', WHERE WHAT IT READS IS OF BULK AT MOST 1048576: true; the input reads as it did. -/
def wordMixesUptoRow : OpenClaim := { program := "ytnipbkplobpnhaa", sum := "d9ef8c9b9a35796b873bfb6d7cbe5f0c6e2de3154cca3b5750634649850d3d9b", func := "cento/centolaw01.WordMixes", spec := "wordMixes", apart := false, narrowed := true }
def WordMixesUptoSaid : Prop := wordMixesUptoRow.holds Try.pinned (OpenSpec.upto wordMixesSpec)

/-- 'centolaw01.WordBytes', WHERE WHAT IT READS IS OF BULK AT MOST 1048576: true; the input reads as it did. -/
def wordBytesUptoRow : OpenClaim := { program := "ytnipbkplobpnhaa", sum := "d9ef8c9b9a35796b873bfb6d7cbe5f0c6e2de3154cca3b5750634649850d3d9b", func := "cento/centolaw01.WordBytes", spec := "wordBytes", apart := false, narrowed := true }
def WordBytesUptoSaid : Prop := wordBytesUptoRow.holds Try.pinned (OpenSpec.upto wordBytesSpec)

/-- 'centolaw01.WordPuts', WHERE WHAT IT READS IS OF BULK AT MOST 1048576: true; the input reads as it did. -/
def wordPutsUptoRow : OpenClaim := { program := "ytnipbkplobpnhaa", sum := "d9ef8c9b9a35796b873bfb6d7cbe5f0c6e2de3154cca3b5750634649850d3d9b", func := "cento/centolaw01.WordPuts", spec := "wordPuts", apart := false, narrowed := true }
def WordPutsUptoSaid : Prop := wordPutsUptoRow.holds Try.pinned (OpenSpec.upto wordPutsSpec)

/-- 'centolaw01.WordGets', WHERE WHAT IT READS IS OF BULK AT MOST 1048576: true; the input reads as it did. -/
def wordGetsUptoRow : OpenClaim := { program := "ytnipbkplobpnhaa", sum := "d9ef8c9b9a35796b873bfb6d7cbe5f0c6e2de3154cca3b5750634649850d3d9b", func := "cento/centolaw01.WordGets", spec := "wordGets", apart := false, narrowed := true }
def WordGetsUptoSaid : Prop := wordGetsUptoRow.holds Try.pinned (OpenSpec.upto wordGetsSpec)

/-- 'centolaw01.WordFlat', WHERE WHAT IT READS IS OF BULK AT MOST 1048576: true; the input reads as it did. -/
def wordFlatUptoRow : OpenClaim := { program := "ytnipbkplobpnhaa", sum := "d9ef8c9b9a35796b873bfb6d7cbe5f0c6e2de3154cca3b5750634649850d3d9b", func := "cento/centolaw01.WordFlat", spec := "wordFlat", apart := false, narrowed := true }
def WordFlatUptoSaid : Prop := wordFlatUptoRow.holds Try.pinned (OpenSpec.upto wordFlatSpec)

end Rows
end Go.Proofs.Ytnipbkplobpnhaa
