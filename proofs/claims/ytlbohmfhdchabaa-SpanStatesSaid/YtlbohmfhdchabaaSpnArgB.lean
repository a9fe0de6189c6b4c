/- Span: a list of bools as an argument, opened. -/
import Derived.Test.YtlbohmfhdchabaaSpnArgs
import Derived.Deep.Grids
namespace Go.Proofs.Ytlbohmfhdchabaa
open Go.ChangeShapes Go.WideShapes Go.ChangeAt Go.RowKit Go.Lib Go.Joins Go.Deep Go.WideElems Go.Maps

theorem bArg_of {W : World} {x : Addr} {len cap : Nat} {B : Nat → Bool} (hl : len ≤ cap) (hc : ∀ i, i < cap → W.cell? (x.add i) = some (.bool (B i))) : BArg W (.slice (some x) len cap) len B := by
  by_cases h0 : len = 0
  · subst h0
    exact .inl ⟨rfl, _, _, rfl⟩
  · obtain ⟨b, off, spot⟩ := x
    have hc0 := hc 0 (by omega)
    have hspot : spot = none := by simpa [Addr.add] using World.cell?_spot hc0
    subst hspot
    refine .inr ⟨b, off, cap, rfl, by omega, fun i hi => ?_⟩
    have := hc i (by omega)
    by_cases hi0 : i = 0
    · subst hi0; simpa [Addr.add, boolsV] using this
    · simpa [Addr.add, hi0, boolsV] using this

end Go.Proofs.Ytlbohmfhdchabaa
