/- Devices and lists of acts as arguments, opened. -/
import Derived.Test.YtjhcaedfknhilaaRc12
import Derived.Test.YtjhcaedfknhilaaRc26
namespace Go.Proofs.Ytjhcaedfknhilaa
set_option linter.unusedVariables false
set_option linter.unusedSimpArgs false
open Go.ChangeShapes Go.WideShapes Go.ChangeAt Go.RowKit Go.Lib Go.Joins Go.Deep Go.WideElems Go.Maps

theorem cells_get {w : World} {base : Nat} {a : Addr} {n : Nat} {cs : List Value} (h : w.cells? base a n = some cs) : cs.length = n ∧ ∀ i, i < n → w.cell? (a.add i) = cs[i]? := by
  unfold World.cells? at h
  split at h
  · have hl := mapM_some_length h
    refine ⟨by simpa using hl, fun i hi => ?_⟩
    exact mapM_some_get h i i (List.getElem?_range hi)
  · cases h

section
variable {H : Type} {enc : TypeId × Value → H} {W : World} {base : Nat} {held : Bool}

/-- A list of structs. -/
theorem slice_open {P : Program} {t e : TypeId} {k fuel : Nat} {v : Value} {y : DataW H × List MemPlace} (ht : P.underlying t = some (.slice e)) (hk : P.cellsOf e = k) (hk0 : 0 < k) (h : DataW.trod enc P W base (fun _ => true) held fuel t [v] = some y) :
    (∃ x c, v = .slice x 0 c) ∨ ∃ b off len cap n, v = .slice (some ⟨b, off, none⟩) len cap ∧ 0 < len ∧ len ≤ cap ∧ cap ≤ maxLen ∧
      ∀ i, i < len → ∃ cs z, DataW.trod enc P W base (fun _ => true) held n e cs = some z ∧ ∀ j, j < k → W.cell? ⟨b, off + i * k + j, none⟩ = cs[j]? := by
  rcases DataW.trod_slice ht h with ⟨hcs, _⟩ | ⟨a, len, cap, elems, rest, n, _, hcs, _, _, hl, hm, hlen, hel, _⟩
  · simp only [List.cons.injEq, and_true] at hcs
    exact .inl ⟨_, _, hcs⟩
  · simp only [List.cons.injEq, and_true] at hcs
    subst hcs
    by_cases h0 : len = 0
    · subst h0
      exact .inl ⟨_, _, rfl⟩
    · have hget : ∀ i, i < len → ∃ cs z, W.cells? base (a.add (i * k)) k = some cs ∧ DataW.trod enc P W base (fun _ => true) held n e cs = some z := fun i hi => by
        have h1 := hel i hi
        rw [hk, List.getElem?_eq_getElem (by omega)] at h1
        rcases hc : W.cells? base (a.add (i * k)) k with _ | cs
        · rw [hc] at h1; cases h1
        · rw [hc] at h1; exact ⟨cs, _, rfl, h1⟩
      obtain ⟨b, off, spot⟩ := a
      obtain ⟨cs0, z0, hc0, _⟩ := hget 0 (by omega)
      have hg := cells_get hc0
      have hc := hg.2 0 hk0
      rw [List.getElem?_eq_getElem (by omega)] at hc
      have hspot : spot = none := by simpa [Addr.add] using World.cell?_spot hc
      subst hspot
      refine .inr ⟨b, off, len, cap, n, rfl, by omega, hl, hm, fun i hi => ?_⟩
      obtain ⟨cs, z, h1, h2⟩ := hget i hi
      refine ⟨cs, z, h2, fun j hj => ?_⟩
      have := (cells_get h1).2 j hj
      rw [Addr.add_mid, Addr.add_mid] at this
      exact this
/-- A list of acts. -/
theorem deeds_open {fuel : Nat} {v : Value} {y : DataW H × List MemPlace} (h : DataW.trod enc Try.prog W base (fun _ => true) held fuel 37 [v] = some y) : ∃ m A, DList W.heap.size W v m A := by
  rcases slice_open Try.underlying37 cells_act (by omega) h with ⟨x, c, rfl⟩ | ⟨b, off, len, cap, n, rfl, h0, hl, hm, hel⟩
  · exact ⟨0, fun _ => ⟨0, 0, 0, 0, fun _ => 0, 0, fun _ => 0⟩, .inl ⟨rfl, _, _, rfl⟩⟩
  · have hall : ∀ i, ∃ T : Deed × Value × Value, i < len → DeedAt W.heap.size W T.2.1 T.2.2 T.1 ∧ ∀ j, j < 5 → W.cell? ⟨b, off + i * 5 + j, none⟩ = [Value.int .i64 T.1.kind, .int .i64 T.1.at', .int .i64 T.1.many, T.2.1, T.2.2][j]? := fun i => by
      by_cases hi : i < len
      · obtain ⟨cs, z, h1, h2⟩ := hel i hi
        obtain ⟨A, bv, kv, rfl, hd⟩ := deed_open h1
        exact ⟨(A, bv, kv), fun _ => ⟨hd, h2⟩⟩
      · exact ⟨(⟨0, 0, 0, 0, fun _ => 0, 0, fun _ => 0⟩, .bool false, .bool false), fun h => absurd h hi⟩
    obtain ⟨F, hF⟩ := Classical.skolem.1 hall
    refine ⟨len, fun i => (F i).1, .inr ⟨b, off, cap, fun i => (F i).2.1, fun i => (F i).2.2, rfl, h0, hl, hm, fun c hc => ?_, fun i hi => (hF i hi).1⟩⟩
    have h9 := (hF (c / 5) (by omega)).2 (c % 5) (by omega)
    rw [Nat.add_assoc, show c / 5 * 5 + c % 5 = c by omega] at h9
    rw [h9]
    unfold deedC
    have h5 : c % 5 = 0 ∨ c % 5 = 1 ∨ c % 5 = 2 ∨ c % 5 = 3 ∨ c % 5 = 4 := by omega
    rcases h5 with h5 | h5 | h5 | h5 | h5 <;> rw [h5] <;> rfl
/-- A list of Puts. -/
theorem puts_open {fuel : Nat} {v : Value} {y : DataW H × List MemPlace} (h : DataW.trod enc Try.prog W base (fun _ => true) held fuel 28 [v] = some y) : ∃ q a l f, QArg W.heap.size W v q a l f := by
  rcases slice_open Try.underlying28 cells_put (by omega) h with ⟨x, c, rfl⟩ | ⟨b, off, len, cap, n, rfl, h0, hl, hm, hel⟩
  · exact ⟨0, fun _ => 0, fun _ => 0, fun _ _ => 0, fun _ => z0, .inl ⟨rfl, _, _, rfl⟩⟩
  · have hall : ∀ i, ∃ T : Int × Nat × (Nat → Int) × Value, (-9223372036854775808 ≤ T.1 ∧ T.1 ≤ 9223372036854775807) ∧ (i < len → BArg W.heap.size W T.2.2.2 T.2.1 T.2.2.1 ∧ ∀ j, j < 2 → W.cell? ⟨b, off + i * 2 + j, none⟩ = [Value.int .i64 T.1, T.2.2.2][j]?) := fun i => by
      by_cases hi : i < len
      · obtain ⟨cs, z, h1, h2⟩ := hel i hi
        obtain ⟨hcl, n', hf⟩ := fields_open struct_put oneF_put h1
        obtain ⟨v0, v1, rfl⟩ := list2 (hcl.trans cells_put)
        obtain ⟨y0, g0⟩ := hf 0 ((Try.prog.fieldsOf 62)[0]!) v0 rfl rfl
        obtain ⟨y1, g1⟩ := hf 1 ((Try.prog.fieldsOf 62)[1]!) v1 rfl rfl
        rw [types_put.1] at g0
        rw [types_put.2] at g1
        obtain ⟨a0, rfl, r0⟩ := int_open g0
        obtain ⟨n1, f1, b1⟩ := bytes_open g1
        exact ⟨(a0, n1, f1, v1), r0, fun _ => ⟨b1, h2⟩⟩
      · exact ⟨(0, 0, fun _ => 0, .bool false), z0, fun h => absurd h hi⟩
    obtain ⟨F, hF⟩ := Classical.skolem.1 hall
    refine ⟨len, fun i => (F i).1, fun i => (F i).2.1, fun i => (F i).2.2.1, fun i => (hF i).1, .inr ⟨b, off, cap, fun i => (F i).2.2.2, rfl, h0, hl, hm, fun c hc => ?_, ?_, fun i hi => ((hF i).2 hi).1⟩⟩
    · have h9 := ((hF (c / 2)).2 (by omega)).2 (c % 2) (by omega)
      rw [Nat.add_assoc, show c / 2 * 2 + c % 2 = c by omega] at h9
      rw [h9]
      unfold putC
      have h5 : c % 2 = 0 ∨ c % 2 = 1 := by omega
      rcases h5 with h5 | h5 <;> rw [h5] <;> rfl
    · have h9 := ((hF 0).2 h0).2 0 (by omega)
      exact .inl (World.block_lt_of_cell? W ⟨b, off + 0 * 2 + 0, none⟩ h9)
theorem bool_open {fuel : Nat} {v : Value} {y : DataW H × List MemPlace} (h : DataW.trod enc Try.prog W base (fun _ => true) held fuel 4 [v] = some y) : ∃ b, v = .bool b := by
  obtain ⟨b, hb, _⟩ := DataW.trod_bool Try.underlying4 h
  simp only [List.cons.injEq, and_true] at hb
  exact ⟨b, hb⟩
set_option maxRecDepth 100000 in
/-- A device. -/
theorem open_dev {r : Reach} {b0 : Nat} {v : Value} {d : DataW H} {p : List MemPlace} (hv : Value.okWide Try.prog W r b0 31 v) (h : DataW.Trod enc Try.prog W base (fun _ => true) held 31 v d p) :
    ∃ X dv qv bv, v = devV dv qv bv X ∧ DevAt W.heap.size W dv qv bv X := by
  obtain ⟨cs, rfl⟩ := agg_open (P := Try.prog) (W := W) (r := r) (b0 := b0) (v := v) struct_dev hv
  obtain ⟨fuel, hf⟩ := h
  have hf' : DataW.trod enc Try.prog W base (fun _ => true) held fuel 31 cs.toList = some (d, p) := hf
  obtain ⟨hl, n, hfs⟩ := fields_open struct_dev oneF_dev hf'
  obtain ⟨v0, v1, v2, v3, v4, v5, hcs⟩ := list6 (hl.trans cells_dev)
  rw [hcs] at hfs
  obtain ⟨y0, h0⟩ := hfs 0 ((Try.prog.fieldsOf 31)[0]!) v0 rfl rfl
  obtain ⟨y1, h1⟩ := hfs 1 ((Try.prog.fieldsOf 31)[1]!) v1 rfl rfl
  obtain ⟨y2, h2⟩ := hfs 2 ((Try.prog.fieldsOf 31)[2]!) v2 rfl rfl
  obtain ⟨y3, h3⟩ := hfs 3 ((Try.prog.fieldsOf 31)[3]!) v3 rfl rfl
  obtain ⟨y4, h4⟩ := hfs 4 ((Try.prog.fieldsOf 31)[4]!) v4 rfl rfl
  obtain ⟨y5, h5⟩ := hfs 5 ((Try.prog.fieldsOf 31)[5]!) v5 rfl rfl
  rw [types_dev.1] at h0
  rw [types_dev.2.1] at h1
  rw [types_dev.2.2.1] at h2
  rw [types_dev.2.2.2.1] at h3
  rw [types_dev.2.2.2.2.1] at h4
  rw [types_dev.2.2.2.2.2] at h5
  obtain ⟨n0, f0, b0'⟩ := bytes_open h0
  obtain ⟨q, qa, ql, qb, b1⟩ := puts_open h1
  obtain ⟨n2, f2, b2⟩ := ints_open h2
  obtain ⟨a3, rfl⟩ := bool_open h3
  obtain ⟨a4, rfl⟩ := bool_open h4
  obtain ⟨a5, rfl, r5⟩ := int_open h5
  refine ⟨⟨n0, f0, q, qa, ql, qb, n2, f2, a3, a4, a5⟩, v0, v1, v2, ?_, b0', b1, b2, r5⟩
  unfold devV
  rw [← Array.toArray_toList (xs := cs), hcs]
end

end Go.Proofs.Ytjhcaedfknhilaa
