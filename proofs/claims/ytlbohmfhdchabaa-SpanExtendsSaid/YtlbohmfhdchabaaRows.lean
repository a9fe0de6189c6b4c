/-
  No cell of these rows narrows 'for every input' (looked for: loops, veiled, ifaces, maps, wideKeys, modest, calm, conditions, laid).
  DERIVED. THE GIVEN ROWS OF THIS SEAT. 9 by the template 'for every input the law returns true; each argument reads behind the call as it read before'; 0 by the template 'total and deterministic' (their statements: YtlbohmfhdchabaaTotals.lean).
  GIVEN WITH THE SEED: the statements are not yours to turn. If you find one false, say at which input.
  Laid BY PROGRAM, IN A SANDBOX (cutbox-rows.mjs): the forced cells as the released guide's own fill.sh prints them over the translation f3be6bf9d6a387c8… (all of the seat's roots in one cut). By AI agents, Wed Nov 11 2026. No macro, syntax, notation, axiom, sorry.
-/
import Derived.Test.YtlbohmfhdchabaaChecked
import GoSem.Claim
import GoSem.ClaimJoined
import GoSem.ClaimMapViews
import Derived.JoinedTies
import Derived.KernelRfl
namespace Go.Proofs.Ytlbohmfhdchabaa
/- THE CELL 'sum', in the pinned program and in every row, IS THE sha256 OF THE DUMP (.gsa) THAT YtlbohmfhdchabaaProg.lean LOADS. Nothing in Lean hashes anything: it is a label: what it is worth is what the hold of that sum in a sandbox is worth. -/
noncomputable def Try.pinned : Pinned := { name := "ytlbohmfhdchabaa", sum := "f3be6bf9d6a387c847c25c1a6fd15d081ced0a22b88660cec7252d27724cb8d4", checked := Try.checked }
namespace Rows
def none {H : Type} : Left H := { results := [], args := [] }

/-- 'archivoltlaw08.SpanPlaces': WHATEVER THE INPUT: true; the input reads as it did. -/
def spanPlacesSpec : ChangeSpec := { name := "spanPlaces", fn := fun _ => fun
  | [d1, d2] => { results := [.lit (.bool true)], args := [d1, d2] }
  | _ => none }
def spanPlacesRow : OpenClaim := { program := "ytlbohmfhdchabaa", sum := "f3be6bf9d6a387c847c25c1a6fd15d081ced0a22b88660cec7252d27724cb8d4", func := "archivolt/archivoltlaw08.SpanPlaces", spec := "spanPlaces", unfollowed := true, recurses := true, apart := false }
def SpanPlacesSaid : Prop := spanPlacesRow.holds Try.pinned (OpenSpec.ofChange spanPlacesSpec)

/-- ITS FALSE NEIGHBOUR: 'it returns false'. Refute it at one input. -/
def spanPlacesWrong : ChangeSpec := { name := "spanPlaces", fn := fun _ => fun
  | [d1, d2] => { results := [.lit (.bool false)], args := [d1, d2] }
  | _ => none }
def SpanPlacesWrongFalsely : Prop := spanPlacesRow.holds Try.pinned (OpenSpec.ofChange spanPlacesWrong)

/-- 'archivoltlaw08.SpanBack': WHATEVER THE INPUT: true; the input reads as it did. -/
def spanBackSpec : ChangeSpec := { name := "spanBack", fn := fun _ => fun
  | [d] => { results := [.lit (.bool true)], args := [d] }
  | _ => none }
def spanBackRow : OpenClaim := { program := "ytlbohmfhdchabaa", sum := "f3be6bf9d6a387c847c25c1a6fd15d081ced0a22b88660cec7252d27724cb8d4", func := "archivolt/archivoltlaw08.SpanBack", spec := "spanBack", unfollowed := true, recurses := true, apart := false }
def SpanBackSaid : Prop := spanBackRow.holds Try.pinned (OpenSpec.ofChange spanBackSpec)

/-- ITS FALSE NEIGHBOUR: 'it returns false'. Refute it at one input. -/
def spanBackWrong : ChangeSpec := { name := "spanBack", fn := fun _ => fun
  | [d] => { results := [.lit (.bool false)], args := [d] }
  | _ => none }
def SpanBackWrongFalsely : Prop := spanBackRow.holds Try.pinned (OpenSpec.ofChange spanBackWrong)

/-- 'archivoltlaw08.SpanCovers': WHATEVER THE INPUT: true; the input reads as it did. -/
def spanCoversSpec : ChangeSpec := { name := "spanCovers", fn := fun _ => fun
  | [d] => { results := [.lit (.bool true)], args := [d] }
  | _ => none }
def spanCoversRow : OpenClaim := { program := "ytlbohmfhdchabaa", sum := "f3be6bf9d6a387c847c25c1a6fd15d081ced0a22b88660cec7252d27724cb8d4", func := "archivolt/archivoltlaw08.SpanCovers", spec := "spanCovers", unfollowed := true, recurses := true, apart := false }
def SpanCoversSaid : Prop := spanCoversRow.holds Try.pinned (OpenSpec.ofChange spanCoversSpec)

/-- ITS FALSE NEIGHBOUR: 'it returns false'. Refute it at one input. -/
def spanCoversWrong : ChangeSpec := { name := "spanCovers", fn := fun _ => fun
  | [d] => { results := [.lit (.bool false)], args := [d] }
  | _ => none }
def SpanCoversWrongFalsely : Prop := spanCoversRow.holds Try.pinned (OpenSpec.ofChange spanCoversWrong)

/-- 'archivoltlaw08.SpanRegions': WHATEVER THE INPUT: true; the input reads as it did. -/
def spanRegionsSpec : ChangeSpec := { name := "spanRegions", fn := fun _ => fun
  | [d1, d2, d3] => { results := [.lit (.bool true)], args := [d1, d2, d3] }
  | _ => none }
def spanRegionsRow : OpenClaim := { program := "ytlbohmfhdchabaa", sum := "f3be6bf9d6a387c847c25c1a6fd15d081ced0a22b88660cec7252d27724cb8d4", func := "archivolt/archivoltlaw08.SpanRegions", spec := "spanRegions", unfollowed := true, recurses := true, apart := false }
def SpanRegionsSaid : Prop := spanRegionsRow.holds Try.pinned (OpenSpec.ofChange spanRegionsSpec)

/-- ITS FALSE NEIGHBOUR: 'it returns false'. Refute it at one input. -/
def spanRegionsWrong : ChangeSpec := { name := "spanRegions", fn := fun _ => fun
  | [d1, d2, d3] => { results := [.lit (.bool false)], args := [d1, d2, d3] }
  | _ => none }
def SpanRegionsWrongFalsely : Prop := spanRegionsRow.holds Try.pinned (OpenSpec.ofChange spanRegionsWrong)

/-- 'archivoltlaw08.SpanRows': WHATEVER THE INPUT: true; the input reads as it did. -/
def spanRowsSpec : ChangeSpec := { name := "spanRows", fn := fun _ => fun
  | [d] => { results := [.lit (.bool true)], args := [d] }
  | _ => none }
def spanRowsRow : OpenClaim := { program := "ytlbohmfhdchabaa", sum := "f3be6bf9d6a387c847c25c1a6fd15d081ced0a22b88660cec7252d27724cb8d4", func := "archivolt/archivoltlaw08.SpanRows", spec := "spanRows", unfollowed := true, recurses := true, apart := false }
def SpanRowsSaid : Prop := spanRowsRow.holds Try.pinned (OpenSpec.ofChange spanRowsSpec)

/-- ITS FALSE NEIGHBOUR: 'it returns false'. Refute it at one input. -/
def spanRowsWrong : ChangeSpec := { name := "spanRows", fn := fun _ => fun
  | [d] => { results := [.lit (.bool false)], args := [d] }
  | _ => none }
def SpanRowsWrongFalsely : Prop := spanRowsRow.holds Try.pinned (OpenSpec.ofChange spanRowsWrong)

/-- 'archivoltlaw08.SpanSpots': WHATEVER THE INPUT: true; the input reads as it did. -/
def spanSpotsSpec : ChangeSpec := { name := "spanSpots", fn := fun _ => fun
  | [d1, d2] => { results := [.lit (.bool true)], args := [d1, d2] }
  | _ => none }
def spanSpotsRow : OpenClaim := { program := "ytlbohmfhdchabaa", sum := "f3be6bf9d6a387c847c25c1a6fd15d081ced0a22b88660cec7252d27724cb8d4", func := "archivolt/archivoltlaw08.SpanSpots", spec := "spanSpots", unfollowed := true, recurses := true, apart := false }
def SpanSpotsSaid : Prop := spanSpotsRow.holds Try.pinned (OpenSpec.ofChange spanSpotsSpec)

/-- ITS FALSE NEIGHBOUR: 'it returns false'. Refute it at one input. -/
def spanSpotsWrong : ChangeSpec := { name := "spanSpots", fn := fun _ => fun
  | [d1, d2] => { results := [.lit (.bool false)], args := [d1, d2] }
  | _ => none }
def SpanSpotsWrongFalsely : Prop := spanSpotsRow.holds Try.pinned (OpenSpec.ofChange spanSpotsWrong)

/-- 'archivoltlaw08.SpanStates': WHATEVER THE INPUT: true; the input reads as it did. -/
def spanStatesSpec : ChangeSpec := { name := "spanStates", fn := fun _ => fun
  | [d1, d2, d3] => { results := [.lit (.bool true)], args := [d1, d2, d3] }
  | _ => none }
def spanStatesRow : OpenClaim := { program := "ytlbohmfhdchabaa", sum := "f3be6bf9d6a387c847c25c1a6fd15d081ced0a22b88660cec7252d27724cb8d4", func := "archivolt/archivoltlaw08.SpanStates", spec := "spanStates", unfollowed := true, recurses := true, apart := false }
def SpanStatesSaid : Prop := spanStatesRow.holds Try.pinned (OpenSpec.ofChange spanStatesSpec)

/-- ITS FALSE NEIGHBOUR: 'it returns false'. Refute it at one input. -/
def spanStatesWrong : ChangeSpec := { name := "spanStates", fn := fun _ => fun
  | [d1, d2, d3] => { results := [.lit (.bool false)], args := [d1, d2, d3] }
  | _ => none }
def SpanStatesWrongFalsely : Prop := spanStatesRow.holds Try.pinned (OpenSpec.ofChange spanStatesWrong)

/-- 'archivoltlaw08.SpanRebuilt': WHATEVER THE INPUT: true; the input reads as it did. -/
def spanRebuiltSpec : ChangeSpec := { name := "spanRebuilt", fn := fun _ => fun
  | [d1, d2] => { results := [.lit (.bool true)], args := [d1, d2] }
  | _ => none }
def spanRebuiltRow : OpenClaim := { program := "ytlbohmfhdchabaa", sum := "f3be6bf9d6a387c847c25c1a6fd15d081ced0a22b88660cec7252d27724cb8d4", func := "archivolt/archivoltlaw08.SpanRebuilt", spec := "spanRebuilt", unfollowed := true, recurses := true, apart := false }
def SpanRebuiltSaid : Prop := spanRebuiltRow.holds Try.pinned (OpenSpec.ofChange spanRebuiltSpec)

/-- ITS FALSE NEIGHBOUR: 'it returns false'. Refute it at one input. -/
def spanRebuiltWrong : ChangeSpec := { name := "spanRebuilt", fn := fun _ => fun
  | [d1, d2] => { results := [.lit (.bool false)], args := [d1, d2] }
  | _ => none }
def SpanRebuiltWrongFalsely : Prop := spanRebuiltRow.holds Try.pinned (OpenSpec.ofChange spanRebuiltWrong)

/-- 'archivoltlaw08.SpanExtends': WHATEVER THE INPUT: true; the input reads as it did. -/
def spanExtendsSpec : ChangeSpec := { name := "spanExtends", fn := fun _ => fun
  | [d1, d2, d3, d4] => { results := [.lit (.bool true)], args := [d1, d2, d3, d4] }
  | _ => none }
def spanExtendsRow : OpenClaim := { program := "ytlbohmfhdchabaa", sum := "f3be6bf9d6a387c847c25c1a6fd15d081ced0a22b88660cec7252d27724cb8d4", func := "archivolt/archivoltlaw08.SpanExtends", spec := "spanExtends", unfollowed := true, recurses := true, apart := false }
def SpanExtendsSaid : Prop := spanExtendsRow.holds Try.pinned (OpenSpec.ofChange spanExtendsSpec)

/-- ITS FALSE NEIGHBOUR: 'it returns false'. Refute it at one input. -/
def spanExtendsWrong : ChangeSpec := { name := "spanExtends", fn := fun _ => fun
  | [d1, d2, d3, d4] => { results := [.lit (.bool false)], args := [d1, d2, d3, d4] }
  | _ => none }
def SpanExtendsWrongFalsely : Prop := spanExtendsRow.holds Try.pinned (OpenSpec.ofChange spanExtendsWrong)

/- THE SECOND FORM. 'bulk': how many values and letters a reading holds, each counted each time it is reached (what is shared counts as often as it is met; a slice's spare places count too). A statement '..UptoSaid' is the law's where the arguments, and the package variables that the reading takes, are together of bulk at most 1048576: NARROWER than '..Said'. Prove '..Said' where nothing that the law and all that it calls make is longer than what came in: it says more and counts as full. Else prove '..UptoSaid'. A law counts once. -/
mutual
def uptoBulk {H : Type} : DataW H → Nat
  | .lit (.string bytes) => bytes.length + 1
  | .lit _ => 1
  | .nil => 1
  | .ptr d => uptoBulk d + 1
  | .slice elems spare => uptoBulkAll elems + uptoBulkAll spare + 1
  | .agg parts => uptoBulkAll parts + 1
  | .iface _ d => uptoBulk d + 1
  | .map entries => uptoBulkEntries entries + 1
  | .held _ => 1
def uptoBulkAll {H : Type} : List (DataW H) → Nat
  | [] => 0
  | d :: r => uptoBulk d + uptoBulkAll r
def uptoBulkEntries {H : Type} : List (Lit × DataW H) → Nat
  | [] => 0
  | x :: r => uptoBulkEntry x + uptoBulkEntries r
def uptoBulkEntry {H : Type} : Lit × DataW H → Nat
  | (.string bytes, d) => bytes.length + uptoBulk d + 1
  | (_, d) => uptoBulk d + 1
 end
def uptoSmall : (H : Type) → List (DataW H) → Bool := fun _ ds => decide (uptoBulkAll ds ≤ 1048576)
def OpenSpec.upto (s : _root_.Go.ChangeSpec) : _root_.Go.OpenSpec := { _root_.Go.OpenSpec.ofChange s with cond := some uptoSmall }

/-- 'archivoltlaw08.SpanPlaces', WHERE WHAT IT READS IS OF BULK AT MOST 1048576: true; the input reads as it did. -/
def spanPlacesUptoRow : OpenClaim := { program := "ytlbohmfhdchabaa", sum := "f3be6bf9d6a387c847c25c1a6fd15d081ced0a22b88660cec7252d27724cb8d4", func := "archivolt/archivoltlaw08.SpanPlaces", spec := "spanPlaces", unfollowed := true, recurses := true, apart := false, narrowed := true }
def SpanPlacesUptoSaid : Prop := spanPlacesUptoRow.holds Try.pinned (OpenSpec.upto spanPlacesSpec)

/-- 'archivoltlaw08.SpanBack', WHERE WHAT IT READS IS OF BULK AT MOST 1048576: true; the input reads as it did. -/
def spanBackUptoRow : OpenClaim := { program := "ytlbohmfhdchabaa", sum := "f3be6bf9d6a387c847c25c1a6fd15d081ced0a22b88660cec7252d27724cb8d4", func := "archivolt/archivoltlaw08.SpanBack", spec := "spanBack", unfollowed := true, recurses := true, apart := false, narrowed := true }
def SpanBackUptoSaid : Prop := spanBackUptoRow.holds Try.pinned (OpenSpec.upto spanBackSpec)

/-- 'archivoltlaw08.SpanCovers', WHERE WHAT IT READS IS OF BULK AT MOST 1048576: true; the input reads as it did. -/
def spanCoversUptoRow : OpenClaim := { program := "ytlbohmfhdchabaa", sum := "f3be6bf9d6a387c847c25c1a6fd15d081ced0a22b88660cec7252d27724cb8d4", func := "archivolt/archivoltlaw08.SpanCovers", spec := "spanCovers", unfollowed := true, recurses := true, apart := false, narrowed := true }
def SpanCoversUptoSaid : Prop := spanCoversUptoRow.holds Try.pinned (OpenSpec.upto spanCoversSpec)

/-- 'archivoltlaw08.SpanRegions', WHERE WHAT IT READS IS OF BULK AT MOST 1048576: true; the input reads as it did. -/
def spanRegionsUptoRow : OpenClaim := { program := "ytlbohmfhdchabaa", sum := "f3be6bf9d6a387c847c25c1a6fd15d081ced0a22b88660cec7252d27724cb8d4", func := "archivolt/archivoltlaw08.SpanRegions", spec := "spanRegions", unfollowed := true, recurses := true, apart := false, narrowed := true }
def SpanRegionsUptoSaid : Prop := spanRegionsUptoRow.holds Try.pinned (OpenSpec.upto spanRegionsSpec)

/-- 'archivoltlaw08.SpanRows', WHERE WHAT IT READS IS OF BULK AT MOST 1048576: true; the input reads as it did. -/
def spanRowsUptoRow : OpenClaim := { program := "ytlbohmfhdchabaa", sum := "f3be6bf9d6a387c847c25c1a6fd15d081ced0a22b88660cec7252d27724cb8d4", func := "archivolt/archivoltlaw08.SpanRows", spec := "spanRows", unfollowed := true, recurses := true, apart := false, narrowed := true }
def SpanRowsUptoSaid : Prop := spanRowsUptoRow.holds Try.pinned (OpenSpec.upto spanRowsSpec)

/-- 'archivoltlaw08.SpanSpots', WHERE WHAT IT READS IS OF BULK AT MOST 1048576: true; the input reads as it did. -/
def spanSpotsUptoRow : OpenClaim := { program := "ytlbohmfhdchabaa", sum := "f3be6bf9d6a387c847c25c1a6fd15d081ced0a22b88660cec7252d27724cb8d4", func := "archivolt/archivoltlaw08.SpanSpots", spec := "spanSpots", unfollowed := true, recurses := true, apart := false, narrowed := true }
def SpanSpotsUptoSaid : Prop := spanSpotsUptoRow.holds Try.pinned (OpenSpec.upto spanSpotsSpec)

/-- 'archivoltlaw08.SpanStates', WHERE WHAT IT READS IS OF BULK AT MOST 1048576: true; the input reads as it did. -/
def spanStatesUptoRow : OpenClaim := { program := "ytlbohmfhdchabaa", sum := "f3be6bf9d6a387c847c25c1a6fd15d081ced0a22b88660cec7252d27724cb8d4", func := "archivolt/archivoltlaw08.SpanStates", spec := "spanStates", unfollowed := true, recurses := true, apart := false, narrowed := true }
def SpanStatesUptoSaid : Prop := spanStatesUptoRow.holds Try.pinned (OpenSpec.upto spanStatesSpec)

/-- 'archivoltlaw08.SpanRebuilt', WHERE WHAT IT READS IS OF BULK AT MOST 1048576: true; the input reads as it did. -/
def spanRebuiltUptoRow : OpenClaim := { program := "ytlbohmfhdchabaa", sum := "f3be6bf9d6a387c847c25c1a6fd15d081ced0a22b88660cec7252d27724cb8d4", func := "archivolt/archivoltlaw08.SpanRebuilt", spec := "spanRebuilt", unfollowed := true, recurses := true, apart := false, narrowed := true }
def SpanRebuiltUptoSaid : Prop := spanRebuiltUptoRow.holds Try.pinned (OpenSpec.upto spanRebuiltSpec)

/-- 'archivoltlaw08.SpanExtends', WHERE WHAT IT READS IS OF BULK AT MOST 1048576: true; the input reads as it did. -/
def spanExtendsUptoRow : OpenClaim := { program := "ytlbohmfhdchabaa", sum := "f3be6bf9d6a387c847c25c1a6fd15d081ced0a22b88660cec7252d27724cb8d4", func := "archivolt/archivoltlaw08.SpanExtends", spec := "spanExtends", unfollowed := true, recurses := true, apart := false, narrowed := true }
def SpanExtendsUptoSaid : Prop := spanExtendsUptoRow.holds Try.pinned (OpenSpec.upto spanExtendsSpec)

end Rows
end Go.Proofs.Ytlbohmfhdchabaa
