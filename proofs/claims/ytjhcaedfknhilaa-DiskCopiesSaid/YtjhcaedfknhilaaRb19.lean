/- Acts, devices and lists of them as arguments, opened. Devices and lists of acts as arguments, opened. -/
import Derived.OpenShut
import Derived.Lib.SmallJoins
import Derived.ChangeOld
import Derived.Test.YtjhcaedfknhilaaRb12
import Derived.Test.YtjhcaedfknhilaaRb15
namespace Go.Proofs.Ytjhcaedfknhilaa
open Go.ChangeShapes Go.WideShapes Go.ChangeAt Go.RowKit Go.Lib Go.Joins Go.Deep Go.WideElems Go.Maps

theorem u8_of_wf {m : Int} (hm : (Lit.int .u8 m).wf = true) : 0 ≤ m ∧ m < 256 := by
  simp [Lit.wf] at hm
  have h1 : IntKind.u8.min = 0 := rfl
  have h2 : IntKind.u8.max = 255 := rfl
  omega
theorem getD_all {P : Int → Prop} {zs : List Int} (h : ∀ n ∈ zs, P n) (h0 : P 0) (i : Nat) : P (zs.getD i 0) := by
  rw [List.getD_eq_getElem?_getD]
  rcases hg : zs[i]? with _ | m
  · exact h0
  · exact h m (List.mem_of_getElem? hg)

theorem struct_act : Try.prog.underlying 51 = some (.struct #[(Try.prog.fieldsOf 51)[0]!, (Try.prog.fieldsOf 51)[1]!, (Try.prog.fieldsOf 51)[2]!, (Try.prog.fieldsOf 51)[3]!, (Try.prog.fieldsOf 51)[4]!]) := by kernel_rfl
theorem types_act : ((Try.prog.fieldsOf 51)[0]!).type = 3 ∧ ((Try.prog.fieldsOf 51)[1]!).type = 3 ∧ ((Try.prog.fieldsOf 51)[2]!).type = 3 ∧ ((Try.prog.fieldsOf 51)[3]!).type = 27 ∧ ((Try.prog.fieldsOf 51)[4]!).type = 29 := ⟨by kernel_rfl, by kernel_rfl, by kernel_rfl, by kernel_rfl, by kernel_rfl⟩
theorem oneF_act : oneCellFields Try.prog #[(Try.prog.fieldsOf 51)[0]!, (Try.prog.fieldsOf 51)[1]!, (Try.prog.fieldsOf 51)[2]!, (Try.prog.fieldsOf 51)[3]!, (Try.prog.fieldsOf 51)[4]!] = true := by kernel_rfl
theorem cells_act : Try.prog.cellsOf 51 = 5 := by kernel_rfl
theorem struct_put : Try.prog.underlying 62 = some (.struct #[(Try.prog.fieldsOf 62)[0]!, (Try.prog.fieldsOf 62)[1]!]) := by kernel_rfl
theorem types_put : ((Try.prog.fieldsOf 62)[0]!).type = 3 ∧ ((Try.prog.fieldsOf 62)[1]!).type = 27 := ⟨by kernel_rfl, by kernel_rfl⟩
theorem oneF_put : oneCellFields Try.prog #[(Try.prog.fieldsOf 62)[0]!, (Try.prog.fieldsOf 62)[1]!] = true := by kernel_rfl
theorem cells_put : Try.prog.cellsOf 62 = 2 := by kernel_rfl
theorem struct_dev : Try.prog.underlying 31 = some (.struct #[(Try.prog.fieldsOf 31)[0]!, (Try.prog.fieldsOf 31)[1]!, (Try.prog.fieldsOf 31)[2]!, (Try.prog.fieldsOf 31)[3]!, (Try.prog.fieldsOf 31)[4]!, (Try.prog.fieldsOf 31)[5]!]) := by kernel_rfl
theorem types_dev : ((Try.prog.fieldsOf 31)[0]!).type = 27 ∧ ((Try.prog.fieldsOf 31)[1]!).type = 28 ∧ ((Try.prog.fieldsOf 31)[2]!).type = 29 ∧ ((Try.prog.fieldsOf 31)[3]!).type = 4 ∧ ((Try.prog.fieldsOf 31)[4]!).type = 4 ∧ ((Try.prog.fieldsOf 31)[5]!).type = 3 := ⟨by kernel_rfl, by kernel_rfl, by kernel_rfl, by kernel_rfl, by kernel_rfl, by kernel_rfl⟩
theorem oneF_dev : oneCellFields Try.prog #[(Try.prog.fieldsOf 31)[0]!, (Try.prog.fieldsOf 31)[1]!, (Try.prog.fieldsOf 31)[2]!, (Try.prog.fieldsOf 31)[3]!, (Try.prog.fieldsOf 31)[4]!, (Try.prog.fieldsOf 31)[5]!] = true := by kernel_rfl
theorem cells_dev : Try.prog.cellsOf 31 = 6 := by kernel_rfl
theorem list5 {α : Type} {l : List α} (h : l.length = 5) : ∃ v0 v1 v2 v3 v4, l = [v0, v1, v2, v3, v4] := by
  rcases l with _ | ⟨a, _ | ⟨b, _ | ⟨c, _ | ⟨d, _ | ⟨e, _ | ⟨f, l⟩⟩⟩⟩⟩⟩ <;> simp at h
  exact ⟨a, b, c, d, e, rfl⟩
theorem list6 {α : Type} {l : List α} (h : l.length = 6) : ∃ v0 v1 v2 v3 v4 v5, l = [v0, v1, v2, v3, v4, v5] := by
  rcases l with _ | ⟨a, _ | ⟨b, _ | ⟨c, _ | ⟨d, _ | ⟨e, _ | ⟨f, _ | ⟨g, l⟩⟩⟩⟩⟩⟩⟩ <;> simp at h
  exact ⟨a, b, c, d, e, f, rfl⟩
theorem list2 {α : Type} {l : List α} (h : l.length = 2) : ∃ v0 v1, l = [v0, v1] := by
  rcases l with _ | ⟨a, _ | ⟨b, _ | ⟨c, l⟩⟩⟩ <;> simp at h
  exact ⟨a, b, rfl⟩
theorem agg_open {P : Program} {W : World} {r : Reach} {b0 : Nat} {t : TypeId} {fs : Array Field} {v : Value} (hs : P.underlying t = some (.struct fs)) (hv : Value.okWide P W r b0 t v) : ∃ cs, v = .agg cs := by
  obtain ⟨cs, h, _⟩ := okWide_struct hs hv
  exact ⟨cs, h⟩
section
variable {H : Type} {enc : TypeId × Value → H} {W : World} {base : Nat} {held : Bool}

/-- A list of bytes. -/
theorem bytes_open {fuel : Nat} {v : Value} {y : DataW H × List MemPlace} (h : DataW.trod enc Try.prog W base (fun _ => true) held fuel 27 [v] = some y) : ∃ n f, BArg W.heap.size W v n f := by
  rcases open_ints Try.underlying27 Try.underlying5 (by kernel_rfl) h with ⟨hcs, _⟩ | ⟨x, l, c, zs, hcs, _, hl, hm, hz, _, hcell, hwz⟩
  · simp only [List.cons.injEq, and_true] at hcs
    subst hcs
    exact ⟨0, fun _ => 0, fun _ => z1, .inl ⟨rfl, _, _, rfl⟩⟩
  · simp only [List.cons.injEq, and_true] at hcs
    subst hcs
    have hz' : zs.length = c := by simpa using hz
    refine ⟨l, fun i => zs.getD i 0, fun i => getD_all (P := fun m => 0 ≤ m ∧ m < 256) (fun m hm => u8_of_wf (hwz m hm)) (by decide) i, ?_⟩
    by_cases h0 : l = 0
    · subst h0
      exact .inl ⟨rfl, _, _, rfl⟩
    · obtain ⟨b, off, spot⟩ := x
      have hc := hcell 0 (by omega)
      have hspot : spot = none := by simpa [Addr.add] using World.cell?_spot hc
      subst hspot
      have hcells : Cells W b off l (byteF fun i => zs.getD i 0) := fun i hi => by
        have := hcell i (by omega)
        by_cases hi0 : i = 0
        · subst hi0; simpa [Addr.add, byteF] using this
        · simpa [Addr.add, hi0, byteF] using this
      exact .inr ⟨b, off, c, rfl, by omega, hl, hm, hcells, .inl (World.block_lt_of_cell? W ⟨b, off + 0, none⟩ (hcells 0 (by omega)))⟩
/-- A list of numbers. -/
theorem ints_open {fuel : Nat} {v : Value} {y : DataW H × List MemPlace} (h : DataW.trod enc Try.prog W base (fun _ => true) held fuel 29 [v] = some y) : ∃ n f, NArg W.heap.size W v n f := by
  rcases open_ints Try.underlying29 Try.underlying3 (by kernel_rfl) h with ⟨hcs, _⟩ | ⟨x, l, c, zs, hcs, _, hl, hm, hz, _, hcell, hwz⟩
  · simp only [List.cons.injEq, and_true] at hcs
    subst hcs
    exact ⟨0, fun _ => 0, fun _ => z0, .inl ⟨rfl, _, _, rfl⟩⟩
  · simp only [List.cons.injEq, and_true] at hcs
    subst hcs
    have hz' : zs.length = c := by simpa using hz
    refine ⟨l, fun i => zs.getD i 0, fun i => getD_all (P := fun m => -9223372036854775808 ≤ m ∧ m ≤ 9223372036854775807) (fun m hm => i64_of_wf (hwz m hm)) (by decide) i, ?_⟩
    by_cases h0 : l = 0
    · subst h0
      exact .inl ⟨rfl, _, _, rfl⟩
    · obtain ⟨b, off, spot⟩ := x
      have hc := hcell 0 (by omega)
      have hspot : spot = none := by simpa [Addr.add] using World.cell?_spot hc
      subst hspot
      have hcells : Cells W b off l (intsV fun i => zs.getD i 0) := fun i hi => by
        have := hcell i (by omega)
        by_cases hi0 : i = 0
        · subst hi0; simpa [Addr.add, intsV] using this
        · simpa [Addr.add, hi0, intsV] using this
      exact .inr ⟨b, off, c, rfl, by omega, hl, hm, hcells, .inl (World.block_lt_of_cell? W ⟨b, off + 0, none⟩ (hcells 0 (by omega)))⟩
theorem int_open {fuel : Nat} {v : Value} {y : DataW H × List MemPlace} (h : DataW.trod enc Try.prog W base (fun _ => true) held fuel 3 [v] = some y) : ∃ n, v = .int .i64 n ∧ -9223372036854775808 ≤ n ∧ n ≤ 9223372036854775807 := by
  obtain ⟨K, hK, _, hw⟩ := DataW.trod_int Try.underlying3 h
  simp only [List.cons.injEq, and_true] at hK
  exact ⟨K, hK, i64_of_wf hw⟩

theorem drop_take_one {α : Type} {l : List α} {i : Nat} {v : α} (h : l[i]? = some v) : (l.drop i).take 1 = [v] := by
  apply List.ext_getElem?
  intro j
  rw [List.getElem?_take, List.getElem?_drop]
  by_cases hj : j < 1
  · obtain rfl : j = 0 := by omega
    rw [if_pos hj, Nat.add_zero, h]
    rfl
  · rw [if_neg hj]
    exact (List.getElem?_eq_none (by show 1 ≤ j; omega)).symm
/-- The fields of a struct of cells. -/
theorem fields_open {P : Program} {t : TypeId} {fs : Array Field} {fuel : Nat} {cs : List Value} {x : DataW H × List MemPlace} {spare : Nat → Bool} (hs : P.underlying t = some (.struct fs)) (hone : oneCellFields P fs = true) (h : DataW.trod enc P W base spare held fuel t cs = some x) :
    cs.length = P.cellsOf t ∧ ∃ n, ∀ (i : Nat) (f : Field) (v : Value), fs[i]? = some f → cs[i]? = some v → ∃ y, DataW.trod enc P W base spare held n f.type [v] = some y := by
  obtain ⟨xs, n, _, _, hl, hlen, hf⟩ := DataW.trod_struct hs h
  refine ⟨hl, n, fun i f v hi hv => ?_⟩
  have h1 := hf i f hi
  obtain ⟨o, k⟩ := hone_of hone i f hi
  have hlt : i < fs.size := (Array.getElem?_eq_some_iff.1 hi).1
  rw [o, k, drop_take_one hv] at h1
  exact ⟨xs[i]'(by omega), by rw [h1]; exact List.getElem?_eq_getElem (by omega)⟩
/-- The cells of an act. -/
theorem deed_open {fuel : Nat} {cs : List Value} {y : DataW H × List MemPlace} (h : DataW.trod enc Try.prog W base (fun _ => true) held fuel 51 cs = some y) :
    ∃ A bv kv, cs = [.int .i64 A.kind, .int .i64 A.at', .int .i64 A.many, bv, kv] ∧ DeedAt W.heap.size W bv kv A := by
  obtain ⟨hl, n, hf⟩ := fields_open struct_act oneF_act h
  obtain ⟨v0, v1, v2, v3, v4, rfl⟩ := list5 (hl.trans cells_act)
  obtain ⟨y0, h0⟩ := hf 0 ((Try.prog.fieldsOf 51)[0]!) v0 rfl rfl
  obtain ⟨y1, h1⟩ := hf 1 ((Try.prog.fieldsOf 51)[1]!) v1 rfl rfl
  obtain ⟨y2, h2⟩ := hf 2 ((Try.prog.fieldsOf 51)[2]!) v2 rfl rfl
  obtain ⟨y3, h3⟩ := hf 3 ((Try.prog.fieldsOf 51)[3]!) v3 rfl rfl
  obtain ⟨y4, h4⟩ := hf 4 ((Try.prog.fieldsOf 51)[4]!) v4 rfl rfl
  rw [types_act.1] at h0
  rw [types_act.2.1] at h1
  rw [types_act.2.2.1] at h2
  rw [types_act.2.2.2.1] at h3
  rw [types_act.2.2.2.2] at h4
  obtain ⟨a0, rfl, r0⟩ := int_open h0
  obtain ⟨a1, rfl, r1⟩ := int_open h1
  obtain ⟨a2, rfl, r2⟩ := int_open h2
  obtain ⟨n3, f3, b3⟩ := bytes_open h3
  obtain ⟨n4, f4, b4⟩ := ints_open h4
  exact ⟨⟨a0, a1, a2, n3, f3, n4, f4⟩, v3, v4, rfl, r0, r1, r2, b3, b4⟩
set_option maxRecDepth 100000 in
theorem open_deed {r : Reach} {b0 : Nat} {v : Value} {d : DataW H} {p : List MemPlace} (hv : Value.okWide Try.prog W r b0 51 v) (h : DataW.Trod enc Try.prog W base (fun _ => true) held 51 v d p) :
    ∃ A bv kv, v = deedV bv kv A ∧ DeedAt W.heap.size W bv kv A := by
  obtain ⟨cs, rfl⟩ := agg_open (P := Try.prog) (W := W) (r := r) (b0 := b0) (v := v) struct_act hv
  obtain ⟨fuel, hf⟩ := h
  obtain ⟨A, bv, kv, hcs, hd⟩ := deed_open hf
  refine ⟨A, bv, kv, ?_, hd⟩
  have hcs' : cs.toList = [.int .i64 A.kind, .int .i64 A.at', .int .i64 A.many, bv, kv] := hcs
  unfold deedV
  rw [← Array.toArray_toList (xs := cs), hcs']
end

end Go.Proofs.Ytjhcaedfknhilaa

namespace Go.Proofs.Ytjhcaedfknhilaa
open Go.ChangeShapes Go.WideShapes Go.ChangeAt Go.RowKit Go.Lib Go.Joins Go.Deep Go.WideElems Go.Maps

theorem cells_get {w : World} {base : Nat} {a : Addr} {n : Nat} {cs : List Value} (h : w.cells? base a n = some cs) : cs.length = n ∧ ∀ i, i < n → w.cell? (a.add i) = cs[i]? := by
  unfold World.cells? at h
  split at h
  · have hl := mapM_some_length h
    refine ⟨by simpa using hl, fun i hi => ?_⟩
    exact mapM_some_get h i i (List.getElem?_range hi)
  · cases h

section
variable {H : Type} {enc : TypeId × Value → H} {W : World} {base : Nat} {held : Bool}

/-- A list of structs. -/
theorem slice_open {P : Program} {t e : TypeId} {k fuel : Nat} {v : Value} {y : DataW H × List MemPlace} (ht : P.underlying t = some (.slice e)) (hk : P.cellsOf e = k) (hk0 : 0 < k) (h : DataW.trod enc P W base (fun _ => true) held fuel t [v] = some y) :
    (∃ x c, v = .slice x 0 c) ∨ ∃ b off len cap n, v = .slice (some ⟨b, off, none⟩) len cap ∧ 0 < len ∧ len ≤ cap ∧ cap ≤ maxLen ∧
      ∀ i, i < len → ∃ cs z, DataW.trod enc P W base (fun _ => true) held n e cs = some z ∧ ∀ j, j < k → W.cell? ⟨b, off + i * k + j, none⟩ = cs[j]? := by
  rcases DataW.trod_slice ht h with ⟨hcs, _⟩ | ⟨a, len, cap, elems, rest, n, _, hcs, _, _, hl, hm, hlen, hel, _⟩
  · simp only [List.cons.injEq, and_true] at hcs
    exact .inl ⟨_, _, hcs⟩
  · simp only [List.cons.injEq, and_true] at hcs
    subst hcs
    by_cases h0 : len = 0
    · subst h0
      exact .inl ⟨_, _, rfl⟩
    · have hget : ∀ i, i < len → ∃ cs z, W.cells? base (a.add (i * k)) k = some cs ∧ DataW.trod enc P W base (fun _ => true) held n e cs = some z := fun i hi => by
        have h1 := hel i hi
        rw [hk, List.getElem?_eq_getElem (by omega)] at h1
        rcases hc : W.cells? base (a.add (i * k)) k with _ | cs
        · rw [hc] at h1; cases h1
        · rw [hc] at h1; exact ⟨cs, _, rfl, h1⟩
      obtain ⟨b, off, spot⟩ := a
      obtain ⟨cs0, z0, hc0, _⟩ := hget 0 (by omega)
      have hg := cells_get hc0
      have hc := hg.2 0 hk0
      rw [List.getElem?_eq_getElem (by omega)] at hc
      have hspot : spot = none := by simpa [Addr.add] using World.cell?_spot hc
      subst hspot
      refine .inr ⟨b, off, len, cap, n, rfl, by omega, hl, hm, fun i hi => ?_⟩
      obtain ⟨cs, z, h1, h2⟩ := hget i hi
      refine ⟨cs, z, h2, fun j hj => ?_⟩
      have := (cells_get h1).2 j hj
      rw [Addr.add_mid, Addr.add_mid] at this
      exact this
/-- A list of acts. -/
theorem deeds_open {fuel : Nat} {v : Value} {y : DataW H × List MemPlace} (h : DataW.trod enc Try.prog W base (fun _ => true) held fuel 37 [v] = some y) : ∃ m A, DList W.heap.size W v m A := by
  rcases slice_open Try.underlying37 cells_act (by omega) h with ⟨x, c, rfl⟩ | ⟨b, off, len, cap, n, rfl, h0, hl, hm, hel⟩
  · exact ⟨0, fun _ => ⟨0, 0, 0, 0, fun _ => 0, 0, fun _ => 0⟩, .inl ⟨rfl, _, _, rfl⟩⟩
  · have hall : ∀ i, ∃ T : Deed × Value × Value, i < len → DeedAt W.heap.size W T.2.1 T.2.2 T.1 ∧ ∀ j, j < 5 → W.cell? ⟨b, off + i * 5 + j, none⟩ = [Value.int .i64 T.1.kind, .int .i64 T.1.at', .int .i64 T.1.many, T.2.1, T.2.2][j]? := fun i => by
      by_cases hi : i < len
      · obtain ⟨cs, z, h1, h2⟩ := hel i hi
        obtain ⟨A, bv, kv, rfl, hd⟩ := deed_open h1
        exact ⟨(A, bv, kv), fun _ => ⟨hd, h2⟩⟩
      · exact ⟨(⟨0, 0, 0, 0, fun _ => 0, 0, fun _ => 0⟩, .bool false, .bool false), fun h => absurd h hi⟩
    obtain ⟨F, hF⟩ := Classical.skolem.1 hall
    refine ⟨len, fun i => (F i).1, .inr ⟨b, off, cap, fun i => (F i).2.1, fun i => (F i).2.2, rfl, h0, hl, hm, fun c hc => ?_, fun i hi => (hF i hi).1⟩⟩
    have h9 := (hF (c / 5) (by omega)).2 (c % 5) (by omega)
    rw [Nat.add_assoc, show c / 5 * 5 + c % 5 = c by omega] at h9
    rw [h9]
    unfold deedC
    have h5 : c % 5 = 0 ∨ c % 5 = 1 ∨ c % 5 = 2 ∨ c % 5 = 3 ∨ c % 5 = 4 := by omega
    rcases h5 with h5 | h5 | h5 | h5 | h5 <;> rw [h5] <;> rfl
/-- A list of Puts. -/
theorem puts_open {fuel : Nat} {v : Value} {y : DataW H × List MemPlace} (h : DataW.trod enc Try.prog W base (fun _ => true) held fuel 28 [v] = some y) : ∃ q a l f, QArg W.heap.size W v q a l f := by
  rcases slice_open Try.underlying28 cells_put (by omega) h with ⟨x, c, rfl⟩ | ⟨b, off, len, cap, n, rfl, h0, hl, hm, hel⟩
  · exact ⟨0, fun _ => 0, fun _ => 0, fun _ _ => 0, fun _ => z0, .inl ⟨rfl, _, _, rfl⟩⟩
  · have hall : ∀ i, ∃ T : Int × Nat × (Nat → Int) × Value, (-9223372036854775808 ≤ T.1 ∧ T.1 ≤ 9223372036854775807) ∧ (i < len → BArg W.heap.size W T.2.2.2 T.2.1 T.2.2.1 ∧ ∀ j, j < 2 → W.cell? ⟨b, off + i * 2 + j, none⟩ = [Value.int .i64 T.1, T.2.2.2][j]?) := fun i => by
      by_cases hi : i < len
      · obtain ⟨cs, z, h1, h2⟩ := hel i hi
        obtain ⟨hcl, n', hf⟩ := fields_open struct_put oneF_put h1
        obtain ⟨v0, v1, rfl⟩ := list2 (hcl.trans cells_put)
        obtain ⟨y0, g0⟩ := hf 0 ((Try.prog.fieldsOf 62)[0]!) v0 rfl rfl
        obtain ⟨y1, g1⟩ := hf 1 ((Try.prog.fieldsOf 62)[1]!) v1 rfl rfl
        rw [types_put.1] at g0
        rw [types_put.2] at g1
        obtain ⟨a0, rfl, r0⟩ := int_open g0
        obtain ⟨n1, f1, b1⟩ := bytes_open g1
        exact ⟨(a0, n1, f1, v1), r0, fun _ => ⟨b1, h2⟩⟩
      · exact ⟨(0, 0, fun _ => 0, .bool false), z0, fun h => absurd h hi⟩
    obtain ⟨F, hF⟩ := Classical.skolem.1 hall
    refine ⟨len, fun i => (F i).1, fun i => (F i).2.1, fun i => (F i).2.2.1, fun i => (hF i).1, .inr ⟨b, off, cap, fun i => (F i).2.2.2, rfl, h0, hl, hm, fun c hc => ?_, ?_, fun i hi => ((hF i).2 hi).1⟩⟩
    · have h9 := ((hF (c / 2)).2 (by omega)).2 (c % 2) (by omega)
      rw [Nat.add_assoc, show c / 2 * 2 + c % 2 = c by omega] at h9
      rw [h9]
      unfold putC
      have h5 : c % 2 = 0 ∨ c % 2 = 1 := by omega
      rcases h5 with h5 | h5 <;> rw [h5] <;> rfl
    · have h9 := ((hF 0).2 h0).2 0 (by omega)
      exact .inl (World.block_lt_of_cell? W ⟨b, off + 0 * 2 + 0, none⟩ h9)
theorem bool_open {fuel : Nat} {v : Value} {y : DataW H × List MemPlace} (h : DataW.trod enc Try.prog W base (fun _ => true) held fuel 4 [v] = some y) : ∃ b, v = .bool b := by
  obtain ⟨b, hb, _⟩ := DataW.trod_bool Try.underlying4 h
  simp only [List.cons.injEq, and_true] at hb
  exact ⟨b, hb⟩
set_option maxRecDepth 100000 in
/-- A device. -/
theorem open_dev {r : Reach} {b0 : Nat} {v : Value} {d : DataW H} {p : List MemPlace} (hv : Value.okWide Try.prog W r b0 31 v) (h : DataW.Trod enc Try.prog W base (fun _ => true) held 31 v d p) :
    ∃ X dv qv bv, v = devV dv qv bv X ∧ DevAt W.heap.size W dv qv bv X := by
  obtain ⟨cs, rfl⟩ := agg_open (P := Try.prog) (W := W) (r := r) (b0 := b0) (v := v) struct_dev hv
  obtain ⟨fuel, hf⟩ := h
  have hf' : DataW.trod enc Try.prog W base (fun _ => true) held fuel 31 cs.toList = some (d, p) := hf
  obtain ⟨hl, n, hfs⟩ := fields_open struct_dev oneF_dev hf'
  obtain ⟨v0, v1, v2, v3, v4, v5, hcs⟩ := list6 (hl.trans cells_dev)
  rw [hcs] at hfs
  obtain ⟨y0, h0⟩ := hfs 0 ((Try.prog.fieldsOf 31)[0]!) v0 rfl rfl
  obtain ⟨y1, h1⟩ := hfs 1 ((Try.prog.fieldsOf 31)[1]!) v1 rfl rfl
  obtain ⟨y2, h2⟩ := hfs 2 ((Try.prog.fieldsOf 31)[2]!) v2 rfl rfl
  obtain ⟨y3, h3⟩ := hfs 3 ((Try.prog.fieldsOf 31)[3]!) v3 rfl rfl
  obtain ⟨y4, h4⟩ := hfs 4 ((Try.prog.fieldsOf 31)[4]!) v4 rfl rfl
  obtain ⟨y5, h5⟩ := hfs 5 ((Try.prog.fieldsOf 31)[5]!) v5 rfl rfl
  rw [types_dev.1] at h0
  rw [types_dev.2.1] at h1
  rw [types_dev.2.2.1] at h2
  rw [types_dev.2.2.2.1] at h3
  rw [types_dev.2.2.2.2.1] at h4
  rw [types_dev.2.2.2.2.2] at h5
  obtain ⟨n0, f0, b0'⟩ := bytes_open h0
  obtain ⟨q, qa, ql, qb, b1⟩ := puts_open h1
  obtain ⟨n2, f2, b2⟩ := ints_open h2
  obtain ⟨a3, rfl⟩ := bool_open h3
  obtain ⟨a4, rfl⟩ := bool_open h4
  obtain ⟨a5, rfl, r5⟩ := int_open h5
  refine ⟨⟨n0, f0, q, qa, ql, qb, n2, f2, a3, a4, a5⟩, v0, v1, v2, ?_, b0', b1, b2, r5⟩
  unfold devV
  rw [← Array.toArray_toList (xs := cs), hcs]
end

end Go.Proofs.Ytjhcaedfknhilaa
