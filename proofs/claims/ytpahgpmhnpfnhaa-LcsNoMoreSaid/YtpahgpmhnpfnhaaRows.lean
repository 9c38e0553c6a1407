/-
  No cell of these rows narrows 'for every input' (looked for: loops, veiled, ifaces, maps, wideKeys, modest, calm, conditions, laid).
  DERIVED. THE GIVEN ROWS OF THIS SEAT. 4 by the template 'for every input the law returns true; each argument reads behind the call as it read before'; 0 by the template 'total and deterministic' (their statements: YtpahgpmhnpfnhaaTotals.lean).
  GIVEN WITH THE SEED: the statements are not yours to turn. If you find one false, say at which input.
  Laid BY PROGRAM, IN A SANDBOX (cutbox-rows.mjs): the forced cells as the released guide's own fill.sh prints them over the translation b88ead112b5fa7ab… (all of the seat's roots in one cut). By AI agents, Wed Nov 11 2026. No macro, syntax, notation, axiom, sorry.
-/
import Derived.Test.YtpahgpmhnpfnhaaChecked
import GoSem.Claim
import GoSem.ClaimJoined
import GoSem.ClaimMapViews
import Derived.JoinedTies
import Derived.KernelRfl
namespace Go.Proofs.Ytpahgpmhnpfnhaa
/- THE CELL 'sum', in the pinned program and in every row, IS THE sha256 OF THE DUMP (.gsa) THAT YtpahgpmhnpfnhaaProg.lean LOADS. Nothing in Lean hashes anything: it is a label: what it is worth is what the hold of that sum in a sandbox is worth. -/
noncomputable def Try.pinned : Pinned := { name := "ytpahgpmhnpfnhaa", sum := "b88ead112b5fa7ab51d5bfe79e39e13b5652314eeb3e10140c6d8d9b3147aaf9", checked := Try.checked }
namespace Rows
def none {H : Type} : Left H := { results := [], args := [] }

/-- 'centolaw18.LcsDiffs': WHATEVER THE INPUT: true; the input reads as it did. -/
def lcsDiffsSpec : ChangeSpec := { name := "lcsDiffs", fn := fun _ => fun
  | [d1, d2, d3] => { results := [.lit (.bool true)], args := [d1, d2, d3] }
  | _ => none }
def lcsDiffsRow : OpenClaim := { program := "ytpahgpmhnpfnhaa", sum := "b88ead112b5fa7ab51d5bfe79e39e13b5652314eeb3e10140c6d8d9b3147aaf9", func := "cento/centolaw18.LcsDiffs", spec := "lcsDiffs", unfollowed := true, recurses := true, apart := false }
def LcsDiffsSaid : Prop := lcsDiffsRow.holds Try.pinned (OpenSpec.ofChange lcsDiffsSpec)

/-- ITS FALSE NEIGHBOUR: 'it returns false'. Refute it at one input. -/
def lcsDiffsWrong : ChangeSpec := { name := "lcsDiffs", fn := fun _ => fun
  | [d1, d2, d3] => { results := [.lit (.bool false)], args := [d1, d2, d3] }
  | _ => none }
def LcsDiffsWrongFalsely : Prop := lcsDiffsRow.holds Try.pinned (OpenSpec.ofChange lcsDiffsWrong)

/-- 'centolaw18.LcsDistance': WHATEVER THE INPUT: true; the input reads as it did. -/
def lcsDistanceSpec : ChangeSpec := { name := "lcsDistance", fn := fun _ => fun
  | [d1, d2, d3] => { results := [.lit (.bool true)], args := [d1, d2, d3] }
  | _ => none }
def lcsDistanceRow : OpenClaim := { program := "ytpahgpmhnpfnhaa", sum := "b88ead112b5fa7ab51d5bfe79e39e13b5652314eeb3e10140c6d8d9b3147aaf9", func := "cento/centolaw18.LcsDistance", spec := "lcsDistance", unfollowed := true, recurses := true, apart := false }
def LcsDistanceSaid : Prop := lcsDistanceRow.holds Try.pinned (OpenSpec.ofChange lcsDistanceSpec)

/-- ITS FALSE NEIGHBOUR: 'it returns false'. Refute it at one input. -/
def lcsDistanceWrong : ChangeSpec := { name := "lcsDistance", fn := fun _ => fun
  | [d1, d2, d3] => { results := [.lit (.bool false)], args := [d1, d2, d3] }
  | _ => none }
def LcsDistanceWrongFalsely : Prop := lcsDistanceRow.holds Try.pinned (OpenSpec.ofChange lcsDistanceWrong)

/-- 'centolaw18.LcsNoMore': WHATEVER THE INPUT: true; the input reads as it did. -/
def lcsNoMoreSpec : ChangeSpec := { name := "lcsNoMore", fn := fun _ => fun
  | [d1, d2, d3] => { results := [.lit (.bool true)], args := [d1, d2, d3] }
  | _ => none }
def lcsNoMoreRow : OpenClaim := { program := "ytpahgpmhnpfnhaa", sum := "b88ead112b5fa7ab51d5bfe79e39e13b5652314eeb3e10140c6d8d9b3147aaf9", func := "cento/centolaw18.LcsNoMore", spec := "lcsNoMore", unfollowed := true, recurses := true, apart := false }
def LcsNoMoreSaid : Prop := lcsNoMoreRow.holds Try.pinned (OpenSpec.ofChange lcsNoMoreSpec)

/-- ITS FALSE NEIGHBOUR: 'it returns false'. Refute it at one input. -/
def lcsNoMoreWrong : ChangeSpec := { name := "lcsNoMore", fn := fun _ => fun
  | [d1, d2, d3] => { results := [.lit (.bool false)], args := [d1, d2, d3] }
  | _ => none }
def LcsNoMoreWrongFalsely : Prop := lcsNoMoreRow.holds Try.pinned (OpenSpec.ofChange lcsNoMoreWrong)

/-- 'centolaw18.LcsKeeps': WHATEVER THE INPUT: true; the input reads as it did. -/
def lcsKeepsSpec : ChangeSpec := { name := "lcsKeeps", fn := fun _ => fun
  | [d1, d2] => { results := [.lit (.bool true)], args := [d1, d2] }
  | _ => none }
def lcsKeepsRow : OpenClaim := { program := "ytpahgpmhnpfnhaa", sum := "b88ead112b5fa7ab51d5bfe79e39e13b5652314eeb3e10140c6d8d9b3147aaf9", func := "cento/centolaw18.LcsKeeps", spec := "lcsKeeps", unfollowed := true, recurses := true, apart := false }
def LcsKeepsSaid : Prop := lcsKeepsRow.holds Try.pinned (OpenSpec.ofChange lcsKeepsSpec)

/-- ITS FALSE NEIGHBOUR: 'it returns false'. Refute it at one input. -/
def lcsKeepsWrong : ChangeSpec := { name := "lcsKeeps", fn := fun _ => fun
  | [d1, d2] => { results := [.lit (.bool false)], args := [d1, d2] }
  | _ => none }
def LcsKeepsWrongFalsely : Prop := lcsKeepsRow.holds Try.pinned (OpenSpec.ofChange lcsKeepsWrong)

/- THE SECOND FORM. 'bulk': how many values and letters a reading holds, each counted each time it is reached (what is shared counts as often as it is met; a slice's spare places count too). A statement '..UptoSaid' is the law's where the arguments, and the package variables that the reading takes, are together of bulk at most 1048576: NARROWER than '..Said'. Prove '..Said' where nothing that the law and all that it calls make is longer than what came in: it says more and counts as full. Else prove '..UptoSaid'. A law counts once. -/
mutual
def uptoBulk {H : Type} : DataW H → Nat
  | .lit (.string bytes) => bytes.length + 1
  | .lit _ => 1
  | .nil => 1
  | .ptr d => uptoBulk d + 1
  | .slice elems spare => uptoBulkAll elems + uptoBulkAll spare + 1
  | .agg parts => uptoBulkAll parts + 1
  | .iface _ d => uptoBulk d + 1
  | .map entries => uptoBulkEntries entries + 1
  | .held _ => 1
def uptoBulkAll {H : Type} : List (DataW H) → Nat
  | [] => 0
  | d :: r => uptoBulk d + uptoBulkAll r
def uptoBulkEntries {H : Type} : List (Lit × DataW H) → Nat
  | [] => 0
  | x :: r => uptoBulkEntry x + uptoBulkEntries r
def uptoBulkEntry {H : Type} : Lit × DataW H → Nat
  | (.string bytes, d) => bytes.length + uptoBulk d + 1
  | (_, d) => uptoBulk d + 1
 end
def uptoSmall : (H : Type) → List (DataW H) → Bool := fun _ ds => decide (uptoBulkAll ds ≤ 1048576)
def OpenSpec.upto (s : _root_.Go.ChangeSpec) : _root_.Go.OpenSpec := { _root_.Go.OpenSpec.ofChange s with cond := some uptoSmall }

/-- 'centolaw18.LcsDiffs', WHERE WHAT IT READS IS OF BULK AT MOST 1048576: true; the input reads as it did. -/
def lcsDiffsUptoRow : OpenClaim := { program := "ytpahgpmhnpfnhaa", sum := "b88ead112b5fa7ab51d5bfe79e39e13b5652314eeb3e10140c6d8d9b3147aaf9", func := "cento/centolaw18.LcsDiffs", spec := "lcsDiffs", unfollowed := true, recurses := true, apart := false, narrowed := true }
def LcsDiffsUptoSaid : Prop := lcsDiffsUptoRow.holds Try.pinned (OpenSpec.upto lcsDiffsSpec)

/-- 'centolaw18.LcsDistance', WHERE WHAT IT READS IS OF BULK AT MOST 1048576: true; the input reads as it did. -/
def lcsDistanceUptoRow : OpenClaim := { program := "ytpahgpmhnpfnhaa", sum := "b88ead112b5fa7ab51d5bfe79e39e13b5652314eeb3e10140c6d8d9b3147aaf9", func := "cento/centolaw18.LcsDistance", spec := "lcsDistance", unfollowed := true, recurses := true, apart := false, narrowed := true }
def LcsDistanceUptoSaid : Prop := lcsDistanceUptoRow.holds Try.pinned (OpenSpec.upto lcsDistanceSpec)

/-- 'centolaw18.LcsNoMore', WHERE WHAT IT READS IS OF BULK AT MOST 1048576: true; the input reads as it did. -/
def lcsNoMoreUptoRow : OpenClaim := { program := "ytpahgpmhnpfnhaa", sum := "b88ead112b5fa7ab51d5bfe79e39e13b5652314eeb3e10140c6d8d9b3147aaf9", func := "cento/centolaw18.LcsNoMore", spec := "lcsNoMore", unfollowed := true, recurses := true, apart := false, narrowed := true }
def LcsNoMoreUptoSaid : Prop := lcsNoMoreUptoRow.holds Try.pinned (OpenSpec.upto lcsNoMoreSpec)

/-- 'centolaw18.LcsKeeps', WHERE WHAT IT READS IS OF BULK AT MOST 1048576: true; the input reads as it did. -/
def lcsKeepsUptoRow : OpenClaim := { program := "ytpahgpmhnpfnhaa", sum := "b88ead112b5fa7ab51d5bfe79e39e13b5652314eeb3e10140c6d8d9b3147aaf9", func := "cento/centolaw18.LcsKeeps", spec := "lcsKeeps", unfollowed := true, recurses := true, apart := false, narrowed := true }
def LcsKeepsUptoSaid : Prop := lcsKeepsUptoRow.holds Try.pinned (OpenSpec.upto lcsKeepsSpec)

end Rows
end Go.Proofs.Ytpahgpmhnpfnhaa
