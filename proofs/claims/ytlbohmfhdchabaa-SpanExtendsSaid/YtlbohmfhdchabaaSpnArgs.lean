/- Span: a layout, a spot, a list of bools as arguments, opened. -/
import Derived.Test.YtlbohmfhdchabaaSpanP
import Derived.OpenShut
import Derived.Lib.SmallJoins
import Derived.ChangeOld
namespace Go.Proofs.Ytlbohmfhdchabaa
open Go.ChangeShapes Go.WideShapes Go.ChangeAt Go.RowKit Go.Lib Go.Joins Go.Deep Go.WideElems Go.Maps

theorem iArg_of_row {W : World} {a : Option Addr} {len cap : Nat} {zs : List Int} (h : (a = none ∧ len = 0 ∧ cap = 0 ∧ zs = []) ∨
    ∃ x, a = some x ∧ len ≤ cap ∧ cap ≤ maxLen ∧ zs.length = cap ∧ (∀ i, i < zs.length → W.cell? (x.add i) = some (.int .i64 (zs.getD i 0))) ∧ ∀ n ∈ zs, (Lit.int .i64 n).wf = true) :
    IArg W (.slice a len cap) len (fun i => zs.getD i 0) := by
  rcases h with ⟨rfl, rfl, rfl, rfl⟩ | ⟨x, rfl, hl, hm, hz, hcell, hwz⟩
  · exact .inl ⟨rfl, _, _, rfl⟩
  · by_cases h0 : len = 0
    · subst h0
      exact .inl ⟨rfl, _, _, rfl⟩
    · obtain ⟨b, off, spot⟩ := x
      have hc := hcell 0 (by omega)
      have hspot : spot = none := by simpa [Addr.add] using World.cell?_spot hc
      subst hspot
      refine .inr ⟨b, off, cap, rfl, by omega, hl, hm, fun i hi => ?_, fun i hi => ?_⟩
      · have := hcell i (by omega)
        by_cases hi0 : i = 0
        · subst hi0; simpa [Addr.add, intsV] using this
        · simpa [Addr.add, hi0, intsV] using this
      · have hget : zs.getD i 0 = zs[i]'(by omega) := by simp [List.getD_eq_getElem?_getD, List.getElem?_eq_getElem (show i < zs.length by omega)]
        have hmem := hwz _ (List.getElem_mem (show i < zs.length by omega))
        rw [← hget] at hmem
        exact i64_of_wf hmem

theorem struct_lay : Try.prog.underlying 24 = some (.struct #[(Try.prog.fieldsOf 24)[0]!, (Try.prog.fieldsOf 24)[1]!, (Try.prog.fieldsOf 24)[2]!]) := by kernel_rfl
theorem types_lay : ((Try.prog.fieldsOf 24)[0]!).type = 3 ∧ ((Try.prog.fieldsOf 24)[1]!).type = 22 ∧ ((Try.prog.fieldsOf 24)[2]!).type = 3 := ⟨by kernel_rfl, by kernel_rfl, by kernel_rfl⟩
theorem one_lay : oneCellFields Try.prog #[(Try.prog.fieldsOf 24)[0]!, (Try.prog.fieldsOf 24)[1]!, (Try.prog.fieldsOf 24)[2]!] = true := by kernel_rfl
theorem cells_lay : Try.prog.cellsOf 24 = 3 := by kernel_rfl

theorem open_lay {H : Type} {enc : TypeId × Value → H} {W : World} {r : Reach} {b0 base : Nat} {held : Bool} {v : Value} {d : DataW H} {p : List MemPlace} (hv : Value.okWide Try.prog W r b0 24 v) (h : DataW.Trod enc Try.prog W base (fun _ => true) held 24 v d p) :
    ∃ (L : Lay) (sl : Value), v = layV L sl ∧ IArg W sl L.n L.M := by
  obtain ⟨v0, v1, v2, y0, y1, y2, n, rfl, -, -, h0, h1, h2⟩ := open_agg3 struct_lay one_lay cells_lay hv h
  rw [types_lay.1] at h0
  rw [types_lay.2.1] at h1
  rw [types_lay.2.2] at h2
  obtain ⟨K, hK, -, -⟩ := DataW.trod_int Try.underlying3 h0
  obtain ⟨C, hC, -, -⟩ := DataW.trod_int Try.underlying3 h2
  simp only [List.cons.injEq, and_true] at hK hC
  subst hK hC
  rcases open_ints Try.underlying22 Try.underlying3 (by kernel_rfl) h1 with ⟨hcs, _⟩ | ⟨x, l, c, zs, hcs, _, hl, hm, hz, _, hcell, hwz⟩
  · simp only [List.cons.injEq, and_true] at hcs
    subst hcs
    exact ⟨⟨K, 0, fun i => ([] : List Int).getD i 0, C⟩, _, rfl, iArg_of_row (.inl ⟨rfl, rfl, rfl, rfl⟩)⟩
  · simp only [List.cons.injEq, and_true] at hcs
    subst hcs
    exact ⟨⟨K, l, fun i => zs.getD i 0, C⟩, _, rfl, iArg_of_row (.inr ⟨_, rfl, hl, hm, by simpa using hz, hcell, hwz⟩)⟩

theorem struct_spot : Try.prog.underlying 45 = some (.struct #[(Try.prog.fieldsOf 45)[0]!, (Try.prog.fieldsOf 45)[1]!]) := by kernel_rfl
theorem types_spot : ((Try.prog.fieldsOf 45)[0]!).type = 3 ∧ ((Try.prog.fieldsOf 45)[1]!).type = 3 := ⟨by kernel_rfl, by kernel_rfl⟩
theorem one_spot : oneCellFields Try.prog #[(Try.prog.fieldsOf 45)[0]!, (Try.prog.fieldsOf 45)[1]!] = true := by kernel_rfl
theorem cells_spotT : Try.prog.cellsOf 45 = 2 := by kernel_rfl
theorem open_spot {H : Type} {enc : TypeId × Value → H} {W : World} {r : Reach} {b0 base : Nat} {held : Bool} {v : Value} {d : DataW H} {p : List MemPlace} (hv : Value.okWide Try.prog W r b0 45 v) (h : DataW.Trod enc Try.prog W base (fun _ => true) held 45 v d p) :
    ∃ s : Int × Int, v = spotA s := by
  obtain ⟨v0, v1, y0, y1, n, rfl, -, -, h0, h1⟩ := open_agg2 struct_spot one_spot cells_spotT hv h
  rw [types_spot.1] at h0
  rw [types_spot.2] at h1
  obtain ⟨a, ha, -, -⟩ := DataW.trod_int Try.underlying3 h0
  obtain ⟨b, hb, -, -⟩ := DataW.trod_int Try.underlying3 h1
  simp only [List.cons.injEq, and_true] at ha hb
  subst ha hb
  exact ⟨(a, b), rfl⟩

end Go.Proofs.Ytlbohmfhdchabaa
