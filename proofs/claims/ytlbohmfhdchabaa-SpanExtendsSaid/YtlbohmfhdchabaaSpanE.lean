/- Span: of whatever layout; methods through the interface, whatever the kind. -/
import Derived.Test.YtlbohmfhdchabaaSpanD1
import Derived.Test.YtlbohmfhdchabaaSpanD2
import Derived.Test.YtlbohmfhdchabaaSpanD3
import Derived.Test.YtlbohmfhdchabaaSpanD4
import Derived.Test.YtlbohmfhdchabaaSpanD5
namespace Go.Proofs.Ytlbohmfhdchabaa
open Go.RowKit

/-- of, whatever the layout. -/
theorem of_any (L : Lay) (sl : Value) (w : World) (hs : IArg w sl L.n L.M) : Calls Try.prog 42 #[layV L sl] w (OfR L sl w) := by
  obtain ⟨K, n, M, C⟩ := L
  by_cases hK : 1 ≤ K ∧ K ≤ 5
  · by_cases hC : 1 ≤ C ∧ C ≤ 64
    · obtain rfl | rfl | rfl | rfl | rfl : K = 1 ∨ K = 2 ∨ K = 3 ∨ K = 4 ∨ K = 5 := by omega
      · exact of_plain n M C sl w hs hC
      · exact of_concat n M C sl w hs hC
      · exact of_stripe n M C sl w hs hC
      · exact of_mirror n M C sl w hs hC
      · exact of_parity n M C sl w hs hC
    · exact of_chunk K n M C sl w hs hK hC
  · exact of_kind K n M C sl w hs hK

/-- A geometry at hand. -/
structure Geo (w : World) (g : Nat) (L : Lay) (sl : Value) : Prop where
  right : L.Right
  row : RowAt w g 70 7 7 (geoV L sl)
  arg : IArg w sl L.n L.M

theorem Geo.all {w w' : World} {g : Nat} {L : Lay} {sl : Value} (h : Geo w g L sl) (hb : Below w.heap.size w w') : Geo w' g L sl := ⟨h.right, h.row.all hb, h.arg.all hb⟩

def sizeN (K : Int) : FuncId := if K = 1 then 76 else if K = 2 then 80 else if K = 3 then 84 else if K = 4 then 88 else 92
theorem method_size {K : Int} (h : 1 ≤ K ∧ K ≤ 5) (w : World) : (method 211 (kindT K) (.agg #[]) "archivolt/span.size").run Try.prog w = .ok (sizeN K, .agg #[]) w := by
  obtain rfl | rfl | rfl | rfl | rfl : K = 1 ∨ K = 2 ∨ K = 3 ∨ K = 4 ∨ K = 5 := by omega
  all_goals kernel_rfl
theorem enter_size {K : Int} (h : 1 ≤ K ∧ K ≤ 5) (args : Array Value) (w : World) : (callFunc (sizeN K) args).run Try.prog w = .ok (.enter (sizeN K) args) w := by
  obtain rfl | rfl | rfl | rfl | rfl : K = 1 ∨ K = 2 ∨ K = 3 ∨ K = 4 ∨ K = 5 := by omega
  · exact enters_of Try.func76 (by kernel_rfl) rfl args w
  · exact enters_of Try.func80 (by kernel_rfl) rfl args w
  · exact enters_of Try.func84 (by kernel_rfl) rfl args w
  · exact enters_of Try.func88 (by kernel_rfl) rfl args w
  · exact enters_of Try.func92 (by kernel_rfl) rfl args w
def placeN (K : Int) : FuncId := if K = 1 then 75 else if K = 2 then 79 else if K = 3 then 83 else if K = 4 then 87 else 91
theorem method_place {K : Int} (h : 1 ≤ K ∧ K ≤ 5) (w : World) : (method 211 (kindT K) (.agg #[]) "archivolt/span.place").run Try.prog w = .ok (placeN K, .agg #[]) w := by
  obtain rfl | rfl | rfl | rfl | rfl : K = 1 ∨ K = 2 ∨ K = 3 ∨ K = 4 ∨ K = 5 := by omega
  all_goals kernel_rfl
theorem enter_place {K : Int} (h : 1 ≤ K ∧ K ≤ 5) (args : Array Value) (w : World) : (callFunc (placeN K) args).run Try.prog w = .ok (.enter (placeN K) args) w := by
  obtain rfl | rfl | rfl | rfl | rfl : K = 1 ∨ K = 2 ∨ K = 3 ∨ K = 4 ∨ K = 5 := by omega
  · exact enters_of Try.func75 (by kernel_rfl) rfl args w
  · exact enters_of Try.func79 (by kernel_rfl) rfl args w
  · exact enters_of Try.func83 (by kernel_rfl) rfl args w
  · exact enters_of Try.func87 (by kernel_rfl) rfl args w
  · exact enters_of Try.func91 (by kernel_rfl) rfl args w
def pageN (K : Int) : FuncId := if K = 1 then 74 else if K = 2 then 78 else if K = 3 then 82 else if K = 4 then 86 else 90
theorem method_page {K : Int} (h : 1 ≤ K ∧ K ≤ 5) (w : World) : (method 211 (kindT K) (.agg #[]) "archivolt/span.page").run Try.prog w = .ok (pageN K, .agg #[]) w := by
  obtain rfl | rfl | rfl | rfl | rfl : K = 1 ∨ K = 2 ∨ K = 3 ∨ K = 4 ∨ K = 5 := by omega
  all_goals kernel_rfl
theorem enter_page {K : Int} (h : 1 ≤ K ∧ K ≤ 5) (args : Array Value) (w : World) : (callFunc (pageN K) args).run Try.prog w = .ok (.enter (pageN K) args) w := by
  obtain rfl | rfl | rfl | rfl | rfl : K = 1 ∨ K = 2 ∨ K = 3 ∨ K = 4 ∨ K = 5 := by omega
  · exact enters_of Try.func74 (by kernel_rfl) rfl args w
  · exact enters_of Try.func78 (by kernel_rfl) rfl args w
  · exact enters_of Try.func82 (by kernel_rfl) rfl args w
  · exact enters_of Try.func86 (by kernel_rfl) rfl args w
  · exact enters_of Try.func90 (by kernel_rfl) rfl args w

end Go.Proofs.Ytlbohmfhdchabaa
