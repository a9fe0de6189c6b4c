/-
  No cell of these rows narrows 'for every input' (looked for: loops, veiled, ifaces, maps, wideKeys, modest, calm, conditions, laid).
  DERIVED. THE GIVEN ROWS OF THIS SEAT. 9 by the template 'for every input the law returns true; each argument reads behind the call as it read before'; 0 by the template 'total and deterministic' (their statements: YtjfcjpkfefmhlaaTotals.lean).
  GIVEN WITH THE SEED: the statements are not yours to turn. If you find one false, say at which input.
  Laid BY PROGRAM, IN A SANDBOX (cutbox-rows.mjs): the forced cells as the released guide's own fill.sh prints them over the translation 8d5b0e1b933e844d… (all of the seat's roots in one cut). By AI agents, Wed Nov 11 2026. No macro, syntax, notation, axiom, sorry.
-/
import Derived.Test.YtjfcjpkfefmhlaaChecked
import GoSem.Claim
import GoSem.ClaimJoined
import GoSem.ClaimMapViews
import Derived.JoinedTies
import Derived.KernelRfl
namespace Go.Proofs.Ytjfcjpkfefmhlaa
/- THE CELL 'sum', in the pinned program and in every row, IS THE sha256 OF THE DUMP (.gsa) THAT YtjfcjpkfefmhlaaProg.lean LOADS. Nothing in Lean hashes anything: it is a label: what it is worth is what the hold of that sum in a sandbox is worth. -/
noncomputable def Try.pinned : Pinned := { name := "ytjfcjpkfefmhlaa", sum := "8d5b0e1b933e844d441c824686266cebff7bcea6efca647efbc7597c1a8f43fb", checked := Try.checked }
namespace Rows
def none {H : Type} : Left H := { results := [], args := [] }

/-- 'archivoltlaw09.FixMerges': WHATEVER THE INPUT: true; the input reads as it did. -/
def fixMergesSpec : ChangeSpec := { name := "fixMerges", fn := fun _ => fun
  | [d1, d2] => { results := [.lit (.bool true)], args := [d1, d2] }
  | _ => none }
def fixMergesRow : OpenClaim := { program := "ytjfcjpkfefmhlaa", sum := "8d5b0e1b933e844d441c824686266cebff7bcea6efca647efbc7597c1a8f43fb", func := "archivolt/archivoltlaw09.FixMerges", spec := "fixMerges", unfollowed := true, recurses := true, apart := false }
def FixMergesSaid : Prop := fixMergesRow.holds Try.pinned (OpenSpec.ofChange fixMergesSpec)

/-- ITS FALSE NEIGHBOUR: 'it returns false'. Refute it at one input. -/
def fixMergesWrong : ChangeSpec := { name := "fixMerges", fn := fun _ => fun
  | [d1, d2] => { results := [.lit (.bool false)], args := [d1, d2] }
  | _ => none }
def FixMergesWrongFalsely : Prop := fixMergesRow.holds Try.pinned (OpenSpec.ofChange fixMergesWrong)

/-- 'archivoltlaw09.FixBack': WHATEVER THE INPUT: true; the input reads as it did. -/
def fixBackSpec : ChangeSpec := { name := "fixBack", fn := fun _ => fun
  | [d1, d2, d3] => { results := [.lit (.bool true)], args := [d1, d2, d3] }
  | _ => none }
def fixBackRow : OpenClaim := { program := "ytjfcjpkfefmhlaa", sum := "8d5b0e1b933e844d441c824686266cebff7bcea6efca647efbc7597c1a8f43fb", func := "archivolt/archivoltlaw09.FixBack", spec := "fixBack", unfollowed := true, recurses := true, apart := false }
def FixBackSaid : Prop := fixBackRow.holds Try.pinned (OpenSpec.ofChange fixBackSpec)

/-- ITS FALSE NEIGHBOUR: 'it returns false'. Refute it at one input. -/
def fixBackWrong : ChangeSpec := { name := "fixBack", fn := fun _ => fun
  | [d1, d2, d3] => { results := [.lit (.bool false)], args := [d1, d2, d3] }
  | _ => none }
def FixBackWrongFalsely : Prop := fixBackRow.holds Try.pinned (OpenSpec.ofChange fixBackWrong)

/-- 'archivoltlaw09.FixCopies': WHATEVER THE INPUT: true; the input reads as it did. -/
def fixCopiesSpec : ChangeSpec := { name := "fixCopies", fn := fun _ => fun
  | [d1, d2, d3, d4, d5, d6] => { results := [.lit (.bool true)], args := [d1, d2, d3, d4, d5, d6] }
  | _ => none }
def fixCopiesRow : OpenClaim := { program := "ytjfcjpkfefmhlaa", sum := "8d5b0e1b933e844d441c824686266cebff7bcea6efca647efbc7597c1a8f43fb", func := "archivolt/archivoltlaw09.FixCopies", spec := "fixCopies", unfollowed := true, recurses := true, apart := false }
def FixCopiesSaid : Prop := fixCopiesRow.holds Try.pinned (OpenSpec.ofChange fixCopiesSpec)

/-- ITS FALSE NEIGHBOUR: 'it returns false'. Refute it at one input. -/
def fixCopiesWrong : ChangeSpec := { name := "fixCopies", fn := fun _ => fun
  | [d1, d2, d3, d4, d5, d6] => { results := [.lit (.bool false)], args := [d1, d2, d3, d4, d5, d6] }
  | _ => none }
def FixCopiesWrongFalsely : Prop := fixCopiesRow.holds Try.pinned (OpenSpec.ofChange fixCopiesWrong)

/-- 'archivoltlaw09.FixMarks': WHATEVER THE INPUT: true; the input reads as it did. -/
def fixMarksSpec : ChangeSpec := { name := "fixMarks", fn := fun _ => fun
  | [d1, d2] => { results := [.lit (.bool true)], args := [d1, d2] }
  | _ => none }
def fixMarksRow : OpenClaim := { program := "ytjfcjpkfefmhlaa", sum := "8d5b0e1b933e844d441c824686266cebff7bcea6efca647efbc7597c1a8f43fb", func := "archivolt/archivoltlaw09.FixMarks", spec := "fixMarks", unfollowed := true, recurses := true, apart := false }
def FixMarksSaid : Prop := fixMarksRow.holds Try.pinned (OpenSpec.ofChange fixMarksSpec)

/-- ITS FALSE NEIGHBOUR: 'it returns false'. Refute it at one input. -/
def fixMarksWrong : ChangeSpec := { name := "fixMarks", fn := fun _ => fun
  | [d1, d2] => { results := [.lit (.bool false)], args := [d1, d2] }
  | _ => none }
def FixMarksWrongFalsely : Prop := fixMarksRow.holds Try.pinned (OpenSpec.ofChange fixMarksWrong)

/-- 'archivoltlaw09.FixContent': WHATEVER THE INPUT: true; the input reads as it did. -/
def fixContentSpec : ChangeSpec := { name := "fixContent", fn := fun _ => fun
  | [d1, d2, d3, d4] => { results := [.lit (.bool true)], args := [d1, d2, d3, d4] }
  | _ => none }
def fixContentRow : OpenClaim := { program := "ytjfcjpkfefmhlaa", sum := "8d5b0e1b933e844d441c824686266cebff7bcea6efca647efbc7597c1a8f43fb", func := "archivolt/archivoltlaw09.FixContent", spec := "fixContent", unfollowed := true, recurses := true, apart := false }
def FixContentSaid : Prop := fixContentRow.holds Try.pinned (OpenSpec.ofChange fixContentSpec)

/-- ITS FALSE NEIGHBOUR: 'it returns false'. Refute it at one input. -/
def fixContentWrong : ChangeSpec := { name := "fixContent", fn := fun _ => fun
  | [d1, d2, d3, d4] => { results := [.lit (.bool false)], args := [d1, d2, d3, d4] }
  | _ => none }
def FixContentWrongFalsely : Prop := fixContentRow.holds Try.pinned (OpenSpec.ofChange fixContentWrong)

/-- 'archivoltlaw09.FixBlends': WHATEVER THE INPUT: true; the input reads as it did. -/
def fixBlendsSpec : ChangeSpec := { name := "fixBlends", fn := fun _ => fun
  | [d1, d2, d3, d4] => { results := [.lit (.bool true)], args := [d1, d2, d3, d4] }
  | _ => none }
def fixBlendsRow : OpenClaim := { program := "ytjfcjpkfefmhlaa", sum := "8d5b0e1b933e844d441c824686266cebff7bcea6efca647efbc7597c1a8f43fb", func := "archivolt/archivoltlaw09.FixBlends", spec := "fixBlends", unfollowed := true, recurses := true, apart := false }
def FixBlendsSaid : Prop := fixBlendsRow.holds Try.pinned (OpenSpec.ofChange fixBlendsSpec)

/-- ITS FALSE NEIGHBOUR: 'it returns false'. Refute it at one input. -/
def fixBlendsWrong : ChangeSpec := { name := "fixBlends", fn := fun _ => fun
  | [d1, d2, d3, d4] => { results := [.lit (.bool false)], args := [d1, d2, d3, d4] }
  | _ => none }
def FixBlendsWrongFalsely : Prop := fixBlendsRow.holds Try.pinned (OpenSpec.ofChange fixBlendsWrong)

/-- 'archivoltlaw09.FixMends': WHATEVER THE INPUT: true; the input reads as it did. -/
def fixMendsSpec : ChangeSpec := { name := "fixMends", fn := fun _ => fun
  | [d1, d2, d3, d4] => { results := [.lit (.bool true)], args := [d1, d2, d3, d4] }
  | _ => none }
def fixMendsRow : OpenClaim := { program := "ytjfcjpkfefmhlaa", sum := "8d5b0e1b933e844d441c824686266cebff7bcea6efca647efbc7597c1a8f43fb", func := "archivolt/archivoltlaw09.FixMends", spec := "fixMends", unfollowed := true, recurses := true, apart := false }
def FixMendsSaid : Prop := fixMendsRow.holds Try.pinned (OpenSpec.ofChange fixMendsSpec)

/-- ITS FALSE NEIGHBOUR: 'it returns false'. Refute it at one input. -/
def fixMendsWrong : ChangeSpec := { name := "fixMends", fn := fun _ => fun
  | [d1, d2, d3, d4] => { results := [.lit (.bool false)], args := [d1, d2, d3, d4] }
  | _ => none }
def FixMendsWrongFalsely : Prop := fixMendsRow.holds Try.pinned (OpenSpec.ofChange fixMendsWrong)

/-- 'archivoltlaw09.FixTorn': WHATEVER THE INPUT: true; the input reads as it did. -/
def fixTornSpec : ChangeSpec := { name := "fixTorn", fn := fun _ => fun
  | [d1, d2, d3, d4, d5] => { results := [.lit (.bool true)], args := [d1, d2, d3, d4, d5] }
  | _ => none }
def fixTornRow : OpenClaim := { program := "ytjfcjpkfefmhlaa", sum := "8d5b0e1b933e844d441c824686266cebff7bcea6efca647efbc7597c1a8f43fb", func := "archivolt/archivoltlaw09.FixTorn", spec := "fixTorn", unfollowed := true, recurses := true, apart := false }
def FixTornSaid : Prop := fixTornRow.holds Try.pinned (OpenSpec.ofChange fixTornSpec)

/-- ITS FALSE NEIGHBOUR: 'it returns false'. Refute it at one input. -/
def fixTornWrong : ChangeSpec := { name := "fixTorn", fn := fun _ => fun
  | [d1, d2, d3, d4, d5] => { results := [.lit (.bool false)], args := [d1, d2, d3, d4, d5] }
  | _ => none }
def FixTornWrongFalsely : Prop := fixTornRow.holds Try.pinned (OpenSpec.ofChange fixTornWrong)

/-- 'archivoltlaw09.FixPages': WHATEVER THE INPUT: true; the input reads as it did. -/
def fixPagesSpec : ChangeSpec := { name := "fixPages", fn := fun _ => fun
  | [d1, d2, d3, d4, d5, d6, d7] => { results := [.lit (.bool true)], args := [d1, d2, d3, d4, d5, d6, d7] }
  | _ => none }
def fixPagesRow : OpenClaim := { program := "ytjfcjpkfefmhlaa", sum := "8d5b0e1b933e844d441c824686266cebff7bcea6efca647efbc7597c1a8f43fb", func := "archivolt/archivoltlaw09.FixPages", spec := "fixPages", unfollowed := true, recurses := true, apart := false }
def FixPagesSaid : Prop := fixPagesRow.holds Try.pinned (OpenSpec.ofChange fixPagesSpec)

/-- ITS FALSE NEIGHBOUR: 'it returns false'. Refute it at one input. -/
def fixPagesWrong : ChangeSpec := { name := "fixPages", fn := fun _ => fun
  | [d1, d2, d3, d4, d5, d6, d7] => { results := [.lit (.bool false)], args := [d1, d2, d3, d4, d5, d6, d7] }
  | _ => none }
def FixPagesWrongFalsely : Prop := fixPagesRow.holds Try.pinned (OpenSpec.ofChange fixPagesWrong)

/- THE SECOND FORM. 'bulk': how many values and letters a reading holds, each counted each time it is reached (what is shared counts as often as it is met; a slice's spare places count too). A statement '..UptoSaid' is the law's where the arguments, and the package variables that the reading takes, are together of bulk at most 1048576: NARROWER than '..Said'. Prove '..Said' where nothing that the law and all that it calls make is longer than what came in: it says more and counts as full. Else prove '..UptoSaid'. A law counts once. -/
mutual
def uptoBulk {H : Type} : DataW H → Nat
  | .lit (.string bytes) => bytes.length + 1
  | .lit _ => 1
  | .nil => 1
  | .ptr d => uptoBulk d + 1
  | .slice elems spare => uptoBulkAll elems + uptoBulkAll spare + 1
  | .agg parts => uptoBulkAll parts + 1
  | .iface _ d => uptoBulk d + 1
  | .map entries => uptoBulkEntries entries + 1
  | .held _ => 1
def uptoBulkAll {H : Type} : List (DataW H) → Nat
  | [] => 0
  | d :: r => uptoBulk d + uptoBulkAll r
def uptoBulkEntries {H : Type} : List (Lit × DataW H) → Nat
  | [] => 0
  | x :: r => uptoBulkEntry x + uptoBulkEntries r
def uptoBulkEntry {H : Type} : Lit × DataW H → Nat
  | (.string bytes, d) => bytes.length + uptoBulk d + 1
  | (_, d) => uptoBulk d + 1
 end
def uptoSmall : (H : Type) → List (DataW H) → Bool := fun _ ds => decide (uptoBulkAll ds ≤ 1048576)
def OpenSpec.upto (s : _root_.Go.ChangeSpec) : _root_.Go.OpenSpec := { _root_.Go.OpenSpec.ofChange s with cond := some uptoSmall }

/-- 'archivoltlaw09.FixMerges', WHERE WHAT IT READS IS OF BULK AT MOST 1048576: true; the input reads as it did. -/
def fixMergesUptoRow : OpenClaim := { program := "ytjfcjpkfefmhlaa", sum := "8d5b0e1b933e844d441c824686266cebff7bcea6efca647efbc7597c1a8f43fb", func := "archivolt/archivoltlaw09.FixMerges", spec := "fixMerges", unfollowed := true, recurses := true, apart := false, narrowed := true }
def FixMergesUptoSaid : Prop := fixMergesUptoRow.holds Try.pinned (OpenSpec.upto fixMergesSpec)

/-- 'archivoltlaw09.FixBack', WHERE WHAT IT READS IS OF BULK AT MOST 1048576: true; the input reads as it did. -/
def fixBackUptoRow : OpenClaim := { program := "ytjfcjpkfefmhlaa", sum := "8d5b0e1b933e844d441c824686266cebff7bcea6efca647efbc7597c1a8f43fb", func := "archivolt/archivoltlaw09.FixBack", spec := "fixBack", unfollowed := true, recurses := true, apart := false, narrowed := true }
def FixBackUptoSaid : Prop := fixBackUptoRow.holds Try.pinned (OpenSpec.upto fixBackSpec)

/-- 'archivoltlaw09.FixCopies', WHERE WHAT IT READS IS OF BULK AT MOST 1048576: true; the input reads as it did. -/
def fixCopiesUptoRow : OpenClaim := { program := "ytjfcjpkfefmhlaa", sum := "8d5b0e1b933e844d441c824686266cebff7bcea6efca647efbc7597c1a8f43fb", func := "archivolt/archivoltlaw09.FixCopies", spec := "fixCopies", unfollowed := true, recurses := true, apart := false, narrowed := true }
def FixCopiesUptoSaid : Prop := fixCopiesUptoRow.holds Try.pinned (OpenSpec.upto fixCopiesSpec)

/-- 'archivoltlaw09.FixMarks', WHERE WHAT IT READS IS OF BULK AT MOST 1048576: true; the input reads as it did. -/
def fixMarksUptoRow : OpenClaim := { program := "ytjfcjpkfefmhlaa", sum := "8d5b0e1b933e844d441c824686266cebff7bcea6efca647efbc7597c1a8f43fb", func := "archivolt/archivoltlaw09.FixMarks", spec := "fixMarks", unfollowed := true, recurses := true, apart := false, narrowed := true }
def FixMarksUptoSaid : Prop := fixMarksUptoRow.holds Try.pinned (OpenSpec.upto fixMarksSpec)

/-- 'archivoltlaw09.FixContent', WHERE WHAT IT READS IS OF BULK AT MOST 1048576: true; the input reads as it did. -/
def fixContentUptoRow : OpenClaim := { program := "ytjfcjpkfefmhlaa", sum := "8d5b0e1b933e844d441c824686266cebff7bcea6efca647efbc7597c1a8f43fb", func := "archivolt/archivoltlaw09.FixContent", spec := "fixContent", unfollowed := true, recurses := true, apart := false, narrowed := true }
def FixContentUptoSaid : Prop := fixContentUptoRow.holds Try.pinned (OpenSpec.upto fixContentSpec)

/-- 'archivoltlaw09.FixBlends', WHERE WHAT IT READS IS OF BULK AT MOST 1048576: true; the input reads as it did. -/
def fixBlendsUptoRow : OpenClaim := { program := "ytjfcjpkfefmhlaa", sum := "8d5b0e1b933e844d441c824686266cebff7bcea6efca647efbc7597c1a8f43fb", func := "archivolt/archivoltlaw09.FixBlends", spec := "fixBlends", unfollowed := true, recurses := true, apart := false, narrowed := true }
def FixBlendsUptoSaid : Prop := fixBlendsUptoRow.holds Try.pinned (OpenSpec.upto fixBlendsSpec)

/-- 'archivoltlaw09.FixMends', WHERE WHAT IT READS IS OF BULK AT MOST 1048576: true; the input reads as it did. -/
def fixMendsUptoRow : OpenClaim := { program := "ytjfcjpkfefmhlaa", sum := "8d5b0e1b933e844d441c824686266cebff7bcea6efca647efbc7597c1a8f43fb", func := "archivolt/archivoltlaw09.FixMends", spec := "fixMends", unfollowed := true, recurses := true, apart := false, narrowed := true }
def FixMendsUptoSaid : Prop := fixMendsUptoRow.holds Try.pinned (OpenSpec.upto fixMendsSpec)

/-- 'archivoltlaw09.FixTorn', WHERE WHAT IT READS IS OF BULK AT MOST 1048576: true; the input reads as it did. -/
def fixTornUptoRow : OpenClaim := { program := "ytjfcjpkfefmhlaa", sum := "8d5b0e1b933e844d441c824686266cebff7bcea6efca647efbc7597c1a8f43fb", func := "archivolt/archivoltlaw09.FixTorn", spec := "fixTorn", unfollowed := true, recurses := true, apart := false, narrowed := true }
def FixTornUptoSaid : Prop := fixTornUptoRow.holds Try.pinned (OpenSpec.upto fixTornSpec)

/-- 'archivoltlaw09.FixPages', WHERE WHAT IT READS IS OF BULK AT MOST 1048576: true; the input reads as it did. -/
def fixPagesUptoRow : OpenClaim := { program := "ytjfcjpkfefmhlaa", sum := "8d5b0e1b933e844d441c824686266cebff7bcea6efca647efbc7597c1a8f43fb", func := "archivolt/archivoltlaw09.FixPages", spec := "fixPages", unfollowed := true, recurses := true, apart := false, narrowed := true }
def FixPagesUptoSaid : Prop := fixPagesUptoRow.holds Try.pinned (OpenSpec.upto fixPagesSpec)

end Rows
end Go.Proofs.Ytjfcjpkfefmhlaa
