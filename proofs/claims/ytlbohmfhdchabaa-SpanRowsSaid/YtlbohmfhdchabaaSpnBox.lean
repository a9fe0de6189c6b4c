/- Span: a layout, and a spot, in their boxes, as walks carry them on. -/
import Derived.Test.YtlbohmfhdchabaaSpanJ
namespace Go.Proofs.Ytlbohmfhdchabaa
open Go.RowKit

/-- A layout in its box, and what it reads. -/
structure LayAt (w0 : World) (L : Lay) (a : Option Addr) (cap : Nat) (W : World) : Prop where
  row : RowAt W w0.heap.size 24 3 3 (st3 (.int .i64 L.K) (.slice a L.n cap) (.int .i64 L.C))
  arg : IArg W (.slice a L.n cap) L.n L.M
  bel : Below w0.heap.size w0 W
theorem LayAt.all {w0 W W' : World} {L : Lay} {a : Option Addr} {cap : Nat} (h : LayAt w0 L a cap W) (hb : Below W.heap.size W W') : LayAt w0 L a cap W' :=
  ⟨h.row.all hb, h.arg.all hb, h.bel.trans (hb.mono h.bel.size)⟩
theorem LayAt.cells {w0 W : World} {L : Lay} {a : Option Addr} {cap : Nat} (h : LayAt w0 L a cap W) :
    W.cell? ⟨w0.heap.size, 0, none⟩ = some (.int .i64 L.K) ∧ W.cell? ⟨w0.heap.size, 1, none⟩ = some (.slice a L.n cap) ∧ W.cell? ⟨w0.heap.size, 2, none⟩ = some (.int .i64 L.C) := row3_cells h.row

/-- A layout and a spot in their boxes. -/
structure SpAt (w0 : World) (L : Lay) (a : Option Addr) (cap : Nat) (x y : Int) (W : World) : Prop where
  lay : LayAt w0 L a cap W
  spot : RowAt W (w0.heap.size + 1) 45 2 2 (st2 (.int .i64 x) (.int .i64 y))
theorem SpAt.all {w0 W W' : World} {L : Lay} {a : Option Addr} {cap : Nat} {x y : Int} (h : SpAt w0 L a cap x y W) (hb : Below W.heap.size W W') : SpAt w0 L a cap x y W' :=
  ⟨h.lay.all hb, h.spot.all hb⟩
theorem SpAt.cells {w0 W : World} {L : Lay} {a : Option Addr} {cap : Nat} {x y : Int} (h : SpAt w0 L a cap x y W) :
    W.cell? ⟨w0.heap.size, 0, none⟩ = some (.int .i64 L.K) ∧ W.cell? ⟨w0.heap.size, 1, none⟩ = some (.slice a L.n cap) ∧ W.cell? ⟨w0.heap.size, 2, none⟩ = some (.int .i64 L.C) ∧
    W.cell? ⟨w0.heap.size + 1, 0, none⟩ = some (.int .i64 x) ∧ W.cell? ⟨w0.heap.size + 1, 1, none⟩ = some (.int .i64 y) :=
  ⟨h.lay.cells.1, h.lay.cells.2.1, h.lay.cells.2.2, (row2_cells h.spot).1, (row2_cells h.spot).2⟩
theorem SpAt.bel {w0 W : World} {L : Lay} {a : Option Addr} {cap : Nat} {x y : Int} (h : SpAt w0 L a cap x y W) : Below w0.heap.size w0 W := h.lay.bel
theorem SpAt.arg {w0 W : World} {L : Lay} {a : Option Addr} {cap : Nat} {x y : Int} (h : SpAt w0 L a cap x y W) : IArg W (.slice a L.n cap) L.n L.M := h.lay.arg

end Go.Proofs.Ytlbohmfhdchabaa
