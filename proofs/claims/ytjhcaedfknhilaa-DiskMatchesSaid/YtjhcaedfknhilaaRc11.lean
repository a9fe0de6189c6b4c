/- Disk: State. Disk: Copy. -/
import Derived.Deep.RegionHeldLaw
import Derived.Test.YtjhcaedfknhilaaRc10
namespace Go.Proofs.Ytjhcaedfknhilaa
set_option linter.unusedVariables false
set_option linter.unusedSimpArgs false
open Go.RowKit
attribute [local go_sem ↓] Go.wp_at_zero Go.wp_at_succ
attribute [-go_sem] loadCellsFrom storeCells
attribute [local go_sem] storeCells_one

/-- The bad ones of the first i sectors. -/
def badL (D : Dsk) (i : Nat) : List Nat := (List.range i).filter D.bad
theorem badL_succ (D : Dsk) (i : Nat) : badL D (i + 1) = badL D i ++ if D.bad i then [i] else [] := by
  unfold badL
  rw [List.range_succ, List.filter_append]
  congr 1
  rcases h : D.bad i with _ | _ <;> simp [h]
theorem badL_le (D : Dsk) (i : Nat) : (badL D i).length ≤ i := by
  unfold badL
  have := List.length_filter_le D.bad (List.range i)
  simpa using this
def badF (D : Dsk) (i k : Nat) : Int := ((badL D i).getD k 0 : Nat)
theorem badL_mem {D : Dsk} {i k : Nat} (h : k ∈ badL D i) : k < i ∧ D.bad k = true := by
  unfold badL at h
  rw [List.mem_filter, List.mem_range] at h
  exact h
theorem badF_range (D : Dsk) (i k : Nat) (hi : i ≤ 4096) : 0 ≤ badF D i k ∧ badF D i k < 4096 + 1 := by
  unfold badF
  refine ⟨by omega, ?_⟩
  rw [List.getD_eq_getElem?_getD]
  rcases h : (badL D i)[k]? with _ | m
  · simp
  · have := (badL_mem (List.mem_of_getElem? h)).1
    simp
    omega

theorem info_aput : ∃ z, (Try.prog.info? 62).map (fun i => (i.zero, i.size, i.bytes)) = some (some z, 2, 32) ∧ z.cells.size = 2 := ⟨.agg #[.int .i64 0, .slice none 0 0], by kernel_rfl, by kernel_rfl⟩
def qaF (D : Dsk) (i : Nat) : Int := if i < D.q then (D.qa i : Int) else 0
def dataF (D : Dsk) (k : Nat) : Int := D.sec (k / 64) (k % 64)
def Dsk.dev (D : Dsk) : Dev := ⟨D.n * 64, dataF D, D.q, qaF D, fun _ => 64, D.qb, (badL D D.n).length, badF D D.n, D.dead, D.armed, D.left⟩

theorem loadC_sector {W : World} {g : Nat} {e : TypeId} {c n : Nat} {F : Nat → Nat → Int} (h : RowAt W g e c (n * 64) (secV F)) {i : Nat} (hi : i < n) :
    (loadCellsFrom ⟨g, i * 64, none⟩ 0 64 #[]).run Try.prog W = .ok (secL (F i)).toArray W := by
  have := run_loadCells_list (P := Try.prog) W ⟨g, i * 64, none⟩ (secL (F i)) (fun j v hv => by
    rw [Addr.add_mid]
    exact secV_range h hi j v hv)
  rw [secL_len] at this
  exact this
/-- What a round over the sectors finds. -/
structure StI (w : World) (D : Dsk) (i j : Nat) (dv bv : Value) (wr : World) : Prop where
  below : Below w.heap.size w wr
  res : RowAt wr w.heap.size 31 6 6 (st6 (.slice none 0 0) (.slice none 0 0) (.slice none 0 0) (.bool false) (.bool false) (.int .i64 0))
  box : RowAt wr (w.heap.size + 1) 31 6 6 (st6 dv (.slice none 0 0) bv (.bool D.dead) (.bool D.armed) (.int .i64 D.left))
  data : Own wr (w.heap.size + 2) 5 dv (i * 64) (byteF (dataF D))
  bad : Own wr (w.heap.size + 2) 3 bv (badL D j).length (intsV (badF D j))
theorem StI.all {w wr w2 : World} {D : Dsk} {i j : Nat} {dv bv : Value} (h : StI w D i j dv bv wr) (hb : Below wr.heap.size wr w2) : StI w D i j dv bv w2 :=
  ⟨h.below.trans (hb.mono h.below.size), h.res.all hb, h.box.all hb, h.data.all hb, h.bad.all hb⟩
theorem StI.dat {w w2 w3 : World} {D : Dsk} {i j : Nat} {dv bv dv' : Value} (h : StI w D i j dv bv w2)
    (hown : Own w3 (w.heap.size + 2) 5 dv' (i * 64 + 64) (fun k => if k < i * 64 then byteF (dataF D) k else (fun l => Value.int .u8 (D.sec i l)) (k - i * 64))) (hg : w2.grownBy w3 dv.ownBlock) :
    StI w D (i + 1) j dv' bv (w3.setCell ⟨w.heap.size + 1, 0, none⟩ dv') ∧ (∃ u, w3.cell? ⟨w.heap.size + 1, 0, none⟩ = some u) ∧ w3.frozen? ⟨w.heap.size + 1, 0, none⟩ = false := by
  have hl := h.box.lt
  have hbox := h.box.grown hg (h.data.ne (by omega))
  refine ⟨⟨(h.data.toK.below h.below h.below.size (by omega) hg).setCell (p := ⟨w.heap.size + 1, 0, none⟩) (Nat.le_add_right _ _) _, (h.res.grown hg (h.data.ne (by omega))).setOther _ _ (by simp), (hbox.set 0 dv').congr fun k hk => ?_, ?_, (h.bad.grownT h.data.toK (by decide) hg).setOther _ _ (by simp)⟩, ⟨_, hbox.cell (i := 0) (by omega)⟩, hbox.frozen 0⟩
  · obtain rfl | rfl | rfl | rfl | rfl | rfl : k = 0 ∨ k = 1 ∨ k = 2 ∨ k = 3 ∨ k = 4 ∨ k = 5 := by omega
    all_goals rfl
  · rw [show (i + 1) * 64 = i * 64 + 64 from by omega]
    refine (hown.congr fun k hk => ?_).setOther _ _ (by simp)
    by_cases hk2 : k < i * 64
    · rw [if_pos hk2]
    · rw [if_neg hk2]
      unfold byteF dataF
      rw [show k / 64 = i from by omega, show k % 64 = k - i * 64 from by omega]
theorem StI.badd {w w2 w3 : World} {D : Dsk} {i j : Nat} {dv bv bv' : Value} (h : StI w D i j dv bv w2) (hj : D.bad j = true)
    (hown : Own w3 (w.heap.size + 2) 3 bv' ((badL D j).length + 1) (fun k => if k < (badL D j).length then intsV (badF D j) k else (fun _ => Value.int .i64 j) (k - (badL D j).length))) (hg : w2.grownBy w3 bv.ownBlock) :
    StI w D i (j + 1) dv bv' (w3.setCell ⟨w.heap.size + 1, 2, none⟩ bv') ∧ (∃ u, w3.cell? ⟨w.heap.size + 1, 2, none⟩ = some u) ∧ w3.frozen? ⟨w.heap.size + 1, 2, none⟩ = false := by
  have hl := h.box.lt
  have hbox := h.box.grown hg (h.bad.ne (by omega))
  have hs := badL_succ D j
  rw [hj, if_pos rfl] at hs
  refine ⟨⟨(h.bad.toK.below h.below h.below.size (by omega) hg).setCell (p := ⟨w.heap.size + 1, 2, none⟩) (Nat.le_add_right _ _) _, (h.res.grown hg (h.bad.ne (by omega))).setOther _ _ (by simp), (hbox.set 2 bv').congr fun k hk => ?_, (h.data.grownT h.bad.toK (by decide) hg).setOther _ _ (by simp), ?_⟩, ⟨_, hbox.cell (i := 2) (by omega)⟩, hbox.frozen 2⟩
  · obtain rfl | rfl | rfl | rfl | rfl | rfl : k = 0 ∨ k = 1 ∨ k = 2 ∨ k = 3 ∨ k = 4 ∨ k = 5 := by omega
    all_goals rfl
  · rw [hs, List.length_append]
    refine (Own.congr hown fun k hk => ?_).setOther _ _ (by simp)
    unfold intsV badF
    rw [hs]
    by_cases hk2 : k < (badL D j).length
    · rw [if_pos hk2, List.getD_eq_getElem?_getD, List.getD_eq_getElem?_getD, List.getElem?_append, if_pos hk2]
    · rw [if_neg hk2, List.getD_eq_getElem?_getD, List.getElem?_append, if_neg hk2]
      have hk1 : k < (badL D j).length + 1 := by simpa using hk
      obtain rfl : k = (badL D j).length := by omega
      simp
theorem StI.skip {w w2 : World} {D : Dsk} {i j : Nat} {dv bv : Value} (h : StI w D i j dv bv w2) (hj : D.bad j = false) : StI w D i (j + 1) dv bv w2 := by
  have hs := badL_succ D j
  rw [hj, if_neg (by simp), List.append_nil] at hs
  have hb := h.bad
  exact ⟨h.below, h.res, h.box, h.data, by unfold badF; rw [hs]; exact hb⟩

theorem size_dev : (Try.prog.info? 31).map (·.size) = some 6 := by kernel_rfl
/-- What a round over the queue finds. -/
structure StQ (w : World) (D : Dsk) (k : Nat) (dv uv bv : Value) (bvs : Nat → Value) (wr : World) : Prop where
  below : Below w.heap.size w wr
  res : RowAt wr w.heap.size 31 6 6 (st6 (.slice none 0 0) (.slice none 0 0) (.slice none 0 0) (.bool false) (.bool false) (.int .i64 0))
  box : RowAt wr (w.heap.size + 1) 31 6 6 (st6 dv uv bv (.bool D.dead) (.bool D.armed) (.int .i64 D.left))
  data : Own wr (w.heap.size + 2) 5 dv (D.n * 64) (byteF (dataF D))
  bad : Own wr (w.heap.size + 2) 3 bv (badL D D.n).length (intsV (badF D D.n))
  que : OwnK wr (w.heap.size + 2) 62 2 uv k (putC (qaF D) bvs)
  byt : ∀ i, i < k → Own wr (w.heap.size + 2) 5 (bvs i) 64 (byteF (D.qb i))
theorem StQ.all {w wr w2 : World} {D : Dsk} {k : Nat} {dv uv bv : Value} {bvs : Nat → Value} (h : StQ w D k dv uv bv bvs wr) (hb : Below wr.heap.size wr w2) : StQ w D k dv uv bv bvs w2 :=
  ⟨h.below.trans (hb.mono h.below.size), h.res.all hb, h.box.all hb, h.data.all hb, h.bad.all hb, h.que.all hb, fun i hi => (h.byt i hi).all hb⟩
theorem StI.toQ {w wr : World} {D : Dsk} {dv bv : Value} (h : StI w D D.n D.n dv bv wr) : StQ w D 0 dv (.slice none 0 0) bv (fun _ => .slice none 0 0) wr :=
  ⟨h.below, h.res, h.box, h.data, h.bad, .inl ⟨rfl, rfl⟩, fun i hi => absurd hi (Nat.not_lt_zero i)⟩
theorem StQ.next {w w2 w3 : World} {D : Dsk} {k : Nat} {dv uv bv v uv' : Value} {bvs : Nat → Value} (h : StQ w D k dv uv bv bvs w2) (hk : k < D.q) (hv : Own w2 (w.heap.size + 2) 5 v 64 (byteF (D.qb k)))
    (hown : OwnK w3 (w.heap.size + 2) 62 2 uv' (k + 1) (fun j => if j < k * 2 then putC (qaF D) bvs j else st2 (.int .i64 (D.qa k)) v (j - k * 2))) (hg : w2.grownBy w3 uv.ownBlock) :
    StQ w D (k + 1) dv uv' bv (fun j => if j < k then bvs j else v) (w3.setCell ⟨w.heap.size + 1, 1, none⟩ uv') ∧ (∃ u, w3.cell? ⟨w.heap.size + 1, 1, none⟩ = some u) ∧ w3.frozen? ⟨w.heap.size + 1, 1, none⟩ = false := by
  have hl := h.box.lt
  have hbox := h.box.grown hg (h.que.ne (by omega))
  refine ⟨⟨(h.que.below h.below h.below.size (by omega) hg).setCell (p := ⟨w.heap.size + 1, 1, none⟩) (Nat.le_add_right _ _) _, (h.res.grown hg (h.que.ne (by omega))).setOther _ _ (by simp), (hbox.set 1 uv').congr fun k hk => ?_, (h.data.grownT h.que (by decide) hg).setOther _ _ (by simp), (h.bad.grownT h.que (by decide) hg).setOther _ _ (by simp), ?_, fun i hi => ?_⟩, ⟨_, hbox.cell (i := 1) (by omega)⟩, hbox.frozen 1⟩
  · obtain rfl | rfl | rfl | rfl | rfl | rfl : k = 0 ∨ k = 1 ∨ k = 2 ∨ k = 3 ∨ k = 4 ∨ k = 5 := by omega
    all_goals rfl
  · refine (OwnK.congr hown fun j hj => ?_).setOther _ _ (by simp)
    unfold putC
    by_cases hj2 : j < k * 2
    · rw [if_pos hj2]
      by_cases h0 : j % 2 = 0
      · rw [if_pos h0, if_pos h0]
      · rw [if_neg h0, if_neg h0]
        dsimp only
        rw [if_pos (by omega)]
    · rw [if_neg hj2]
      unfold st2 qaF
      by_cases h0 : j % 2 = 0
      · rw [if_pos h0, if_pos (by omega), if_pos (by omega), show j / 2 = k from by omega]
      · rw [if_neg h0, if_neg (by omega)]
        dsimp only
        rw [if_neg (by omega)]
  · by_cases hik : i < k
    · simp only [if_pos hik]
      exact ((h.byt i hik).grownT h.que (by decide) hg).setOther _ _ (by simp)
    · simp only [if_neg hik]
      obtain rfl : i = k := by omega
      exact (hv.grownT h.que (by decide) hg).setOther _ _ (by simp)

theorem qaF_range {D : Dsk} (hok : D.Ok) (i : Nat) : 0 ≤ qaF D i ∧ qaF D i < 4096 := by
  unfold qaF
  have := hok.size
  split
  · have := hok.put i (by assumption)
    omega
  · omega
theorem state_dev {B : Nat} {w wr U : World} {D : Dsk} {dv uv bv : Value} {bvs : Nat → Value} (h : StQ w D D.q dv uv bv bvs wr) (hok : D.Ok) (hw : Wrote wr U w.heap.size) : DevAt B U dv uv bv D.dev ∧ Below w.heap.size w U := by
  have hs := hok.size
  have hl := hok.left
  refine ⟨⟨barg_own (h.data.wrote hw (by omega)) (fun i => hok.byte _ _), qarg_own (h.que.wrote hw (by omega)) (fun i => ?_) (fun i hi => barg_own ((h.byt i hi).wrote hw (by omega)) (hok.pbyte i)), narg_own (h.bad.wrote hw (by omega)) (fun i => ?_), by show -9223372036854775808 ≤ D.left ∧ D.left ≤ 9223372036854775807; omega⟩, hw.below h.below h.below.size (Nat.le_refl _)⟩
  · have h1 := qaF_range hok i
    show -9223372036854775808 ≤ qaF D i ∧ qaF D i ≤ 9223372036854775807
    omega
  · have h1 := badF_range D D.n i hs.2
    show -9223372036854775808 ≤ badF D D.n i ∧ badF D D.n i ≤ 9223372036854775807
    omega

theorem resDev {W : World} {g : Nat} {a b c d e f : Value} (h : RowAt W g 31 6 6 (st6 a b c d e f)) : (loadVar 31 ⟨g, 0, none⟩).run Try.prog W = .ok (.agg #[a, b, c, d, e, f]) W := by
  refine run_loadVar_mid W g 0 _ [a, b, c, d, e, f] _ (fun j v hj => ?_) Try.underlying31 rfl size_dev
  have hj6 : j < 6 := by
    rcases Nat.lt_or_ge j 6 with h1 | h1
    · exact h1
    · rw [List.getElem?_eq_none (by simp; omega)] at hj; cases hj
  rw [Nat.zero_add]
  have := h.cell (i := j) hj6
  rw [this]
  obtain rfl | rfl | rfl | rfl | rfl | rfl : j = 0 ∨ j = 1 ∨ j = 2 ∨ j = 3 ∨ j = 4 ∨ j = 5 := by omega
  all_goals (cases hj; rfl)
theorem loadC_dev {W : World} {g : Nat} {a b c d e f : Value} (h : RowAt W g 31 6 6 (st6 a b c d e f)) : (loadCellsFrom ⟨g, 0, none⟩ 0 6 #[]).run Try.prog W = .ok #[a, b, c, d, e, f] W := by
  have := run_loadCells_list (P := Try.prog) W ⟨g, 0, none⟩ [a, b, c, d, e, f] (fun j v hj => by
    have hj6 : j < 6 := by
      rcases Nat.lt_or_ge j 6 with h1 | h1
      · exact h1
      · rw [List.getElem?_eq_none (by simp; omega)] at hj; cases hj
    rw [Addr.add_mid, Nat.zero_add]
    have := h.cell (i := j) hj6
    rw [this]
    obtain rfl | rfl | rfl | rfl | rfl | rfl : j = 0 ∨ j = 1 ∨ j = 2 ∨ j = 3 ∨ j = 4 ∨ j = 5 := by omega
    all_goals (cases hj; rfl))
  exact this
theorem storeC_six {W : World} {g : Nat} {e : TypeId} {c : Nat} {G : Nat → Value} (h : RowAt W g e c 6 G) {x0 x1 x2 x3 x4 x5 : Value} (h1 : ∀ v ∈ [x0, x1, x2, x3, x4, x5], v.oneCell' = true) :
    (storeCells ⟨g, 0, none⟩ [x0, x1, x2, x3, x4, x5] 0).run Try.prog W = .ok () (W.setCells g 0 [x0, x1, x2, x3, x4, x5]) := by
  have ht := h.there (o := 0) (m := 6) (Nat.le_refl _)
  have := run_storeCells_cells (P := Try.prog) g 0 [x0, x1, x2, x3, x4, x5] 0 W (fun j hj => (ht j hj).1) (fun j hj => (ht j hj).2) h1
  simpa using this
theorem row_set6 {W : World} {g : Nat} {e : TypeId} {G : Nat → Value} (h : RowAt W g e 6 6 G) (x0 x1 x2 x3 x4 x5 : Value) : RowAt (W.setCells g 0 [x0, x1, x2, x3, x4, x5]) g e 6 6 (st6 x0 x1 x2 x3 x4 x5) ∧ Wrote W (W.setCells g 0 [x0, x1, x2, x3, x4, x5]) g := by
  obtain ⟨h1, h2⟩ := RowAt.setCells [x0, x1, x2, x3, x4, x5] 0 h
  refine ⟨h1.congr fun i hi => ?_, h2⟩
  obtain rfl | rfl | rfl | rfl | rfl | rfl : i = 0 ∨ i = 1 ∨ i = 2 ∨ i = 3 ∨ i = 4 ∨ i = 5 := by omega
  all_goals rfl

theorem six_one {a b c d e f : Value} (ha : a.oneCell' = true) (hb : b.oneCell' = true) (hc : c.oneCell' = true) (hd : d.oneCell' = true) (he : e.oneCell' = true) (hf : f.oneCell' = true) : ∀ v ∈ [a, b, c, d, e, f], v.oneCell' = true := by
  intro v hv
  simp only [List.mem_cons, List.not_mem_nil, or_false] at hv
  rcases hv with rfl | rfl | rfl | rfl | rfl | rfl <;> assumption
/-- A device stored into a box that was made last. -/
theorem storeC_dev (w : World) (z : Array Value) (hz : z.size = 6) (a b c d e f : Value) (h1 : ∀ v ∈ [a, b, c, d, e, f], v.oneCell' = true) :
    (storeCells ⟨w.heap.size, 0, none⟩ [a, b, c, d, e, f] 0).run Try.prog (w.alloc (.cells z 31)) = .ok () (w.alloc (.cells #[a, b, c, d, e, f] 31)) := by
  have := run_storeCells_new (P := Try.prog) w 31 z #[a, b, c, d, e, f] size_dev (by rw [hz]; rfl) (all_oneCell_toArray h1)
  simpa using this

set_option maxRecDepth 8000 in
set_option maxHeartbeats 4000000 in
theorem State_any {B g gs gb : Nat} {qv : Value} {D : Dsk} (w : World) (h : DiskIn B g gs gb qv D w) :
    Calls Try.prog 11 #[.pointer (some ⟨g, 0, none⟩)] w fun e w' => ∃ dv qv bv, e = .returned (.tuple #[devV dv qv bv D.dev, .int .i64 0]) ∧ DevAt B w' dv qv bv D.dev ∧ Below w.heap.size w w' := by
  have hlt := h.lt
  have hok := h.ok
  have hsz := h.ok.size
  have hgl := h.row.lt
  have hb1 : Below w.heap.size w (w.alloc (.cells #[.slice none 0 0, .slice none 0 0, .slice none 0 0, .bool false, .bool false, .int .i64 0] 31)) := (Below.refl _ w).alloc (Nat.le_refl _) _
  have hr0 := row_six w (.slice none 0 0) (.slice none 0 0) (.slice none 0 0) (.bool false) (.bool false) (.int .i64 0) 31
  obtain ⟨c0, c1, c2, c3, c4, c5⟩ := (h.all hb1).cells
  have Hd := Lib.hid h
  have Hb1 := Lib.hid hb1
  have Hr0 := Lib.hid hr0
  have Hs1 := Lib.hid (show (w.alloc (.cells #[.slice none 0 0, .slice none 0 0, .slice none 0 0, .bool false, .bool false, .int .i64 0] 31)).heap.size = w.heap.size + 1 by simp)
  clear h hok hb1 hr0
  go_enter Try.func11, Try.ntmps11
  go_upto_region 3 with fail
  generalize w.alloc (.cells #[.slice none 0 0, .slice none 0 0, .slice none 0 0, .bool false, .bool false, .int .i64 0] 31) = W at *
  have hs6 : (storeCells ⟨W.heap.size, 0, none⟩ [.slice none 0 0, .slice none 0 0, .slice none 0 0, .bool D.dead, .bool D.armed, .int .i64 D.left]).run Try.prog ((W.alloc (.cells #[.slice none 0 0, .slice none 0 0, .slice none 0 0, .bool false, .bool false, .int .i64 0] 31)).drew)
      = .ok () ((W.alloc (.cells #[.slice none 0 0, .slice none 0 0, .slice none 0 0, .bool D.dead, .bool D.armed, .int .i64 D.left] 31)).drew) :=
    storeC_dev W.drew #[.slice none 0 0, .slice none 0 0, .slice none 0 0, .bool false, .bool false, .int .i64 0] rfl (.slice none 0 0) (.slice none 0 0) (.slice none 0 0) (.bool D.dead) (.bool D.armed) (.int .i64 D.left) (six_one rfl rfl rfl rfl rfl rfl)
  go_region_held (fun w' => w'.cell? ⟨g, 3, none⟩ = some (.bool D.dead) ∧ w'.cell? ⟨g, 4, none⟩ = some (.bool D.armed) ∧ w'.cell? ⟨g, 5, none⟩ = some (.int .i64 D.left)) (go_keep) (fail)
  have hWs : W.heap.size = w.heap.size + 1 := Hs1.out
  have hb2 : Below w.heap.size w ((W.alloc (.cells #[.slice none 0 0, .slice none 0 0, .slice none 0 0, .bool D.dead, .bool D.armed, .int .i64 D.left] 31)).drew) := (Hb1.out.alloc (by omega) _).drew
  have hr2 := (row_six W (.slice none 0 0) (.slice none 0 0) (.slice none 0 0) (.bool D.dead) (.bool D.armed) (.int .i64 D.left) 31).drew
  rw [hWs] at hr2
  have hI0 : StI w D 0 0 (.slice none 0 0) (.slice none 0 0) ((W.alloc (.cells #[.slice none 0 0, .slice none 0 0, .slice none 0 0, .bool D.dead, .bool D.armed, .int .i64 D.left] 31)).drew) :=
    ⟨hb2, (Hr0.out.alloc _).drew, hr2, .inl ⟨rfl, by omega⟩, .inl ⟨rfl, rfl⟩⟩
  have HI0 := Lib.hid hI0
  obtain ⟨c0, c1, c2, c3, c4, c5⟩ := (Hd.out.all hb2).cells
  rw [hWs]
  have Hws := Lib.hid hWs
  clear hI0 hr2 hb2 hs6 hWs
  generalize ((W.alloc (.cells #[.slice none 0 0, .slice none 0 0, .slice none 0 0, .bool D.dead, .bool D.armed, .int .i64 D.left] 31)).drew) = V at *
  go_wp2_with fail
  clear c0 c1 c2 c3 c4 c5
  go_loopw [31] (fun t wr => ∃ i : Nat, i ≤ D.n ∧ t = .int .i64 i ∧ ∃ dv bv, StI w D i i dv bv wr) (fun t _ => D.n - (intOf t).toNat)
  case atStart => exact ⟨0, by omega, by go_num, _, _, HI0.out⟩
  case round =>
    obtain ⟨i, hi, rfl, dv, bv, hI⟩ := hrel
    have HI := Lib.hid hI; clear hI
    have HDr := Lib.hid (Hd.out.all HI.out.below)
    have hrl := HI.out.box.lt
    by_cases hlt2 : i < D.n
    · have hdlt : decide ((i : Int) < D.n) = true := decide_eq_true (by omega)
      have hl := loadC_sector HDr.out.sec hlt2
      have hs := fun w => storeC_secZ w (D.sec i)
      have hlen := secL_len (D.sec i)
      have Hrow := Lib.hid (box_sec wr (D.sec i))
      have Hb := Lib.hid ((Below.refl _ wr).alloc (Nat.le_refl _) (.cells (secL (D.sec i)).toArray 79))
      obtain ⟨c0, c1, c2, c3, c4, c5⟩ := HDr.out.cells
      have Hcs := Lib.hid (show (secL (D.sec i)).length = 64 from hlen)
      generalize secL (D.sec i) = cs at *
      go_upto_region 7 with fail
      have HV := Lib.hid (HI.out.all Hb.out)
      have HDV := Lib.hid (HDr.out.all Hb.out)
      have Hvl := Lib.hid (show wr.heap.size < (wr.alloc (.cells cs.toArray 79)).heap.size by simp)
      clear Hb HI hl hs hlen HDr c0 c1 c2 c3 c4 c5
      generalize wr.alloc (.cells cs.toArray 79) = V2 at *
      have hmo : Try.prog.follows .mixedOrders = true := by kernel_rfl
      have x0 := HV.out.box.drew.cell (i := 0) (by omega)
      have Hown := Lib.hid (HV.out.all (Below.refl _ V2).drew).data
      have Hsz := Lib.hid (show w.heap.size + 2 ≤ V2.drew.heap.size from by have := HV.out.box.lt; show w.heap.size + 2 ≤ V2.heap.size; omega)
      refine wp_calm ?_
      go_region_law ((refine step_append_o (by rfl) _ _ 27 5 _ _ (by rfl) Try.underlying27 info_u8d (by rfl) (w.heap.size + 2) dv (i * 64) _ (by rfl) Hown.out wr.heap.size 0 64 64 (fun k => .int .u8 (D.sec i k)) (by rfl) Hrow.out.drew.reads (fun _ _ => rfl) (by omega) (by decide) Hsz.out ?_; intro dv' w3 hown' hgr; obtain ⟨av, cv, rfl⟩ := (Own.slice hown'); have HN := Lib.hid ((HV.out.all (Below.refl _ V2).drew).dat hown' hgr); have ⟨_, ⟨_, k30⟩, z30⟩ := HN.out; clear hown' hgr))
      all_goals
        refine calm_normal ?_
        generalize w3.setCell ⟨w.heap.size + 1, 0, none⟩ (.slice av (i * 64 + 64) cv) = U at *
        have HU := Lib.hid HN.out.1
        have HDU := Lib.hid (Hd.out.all HU.out.below)
        obtain ⟨c0, c1, c2, c3, c4, c5⟩ := HDU.out.cells
        have e1 := HDU.out.bad.cell (i := i) (by omega)
        unfold badV at e1
        clear k30 z30 HN x0 Hown Hsz HV HDV Hvl
        rcases hbd : D.bad i with _ | _
        · rw [hbd] at e1
          have HN := Lib.hid (HU.out.skip hbd)
          clear hbd HU
          go_wp2
          go_roundw
          case rel => exact ⟨i + 1, by omega, by go_num, _, _, HN.out⟩
          case measure => simp [intOf]; omega
        · rw [hbd] at e1
          have Hbd := Lib.hid hbd; clear hbd
          have b2 := HU.out.box.cell (i := 2) (by omega)
          have hbl := badL_le D i
          go_wp2_with (with_reducible refine stopB .append ?_)
          refine Hold.go ?_
          refine wpList_append_o rfl _ _ 29 3 _ _ rfl Try.underlying29 info_int rfl (w.heap.size + 2) bv (badL D i).length (intsV (badF D i)) rfl (HU.out.bad.alloc _) U.heap.size 0 1 1 (fun _ => .int .i64 i) rfl (RowAt.new U #[.int .i64 i] 3 _ 1 (by simp) (one_cell rfl)).reads (fun _ _ => rfl) (by omega) (by decide) (by have := HU.out.box.lt; simp; omega) ?_
          intro bv' w4 hown' hgr _ _
          obtain ⟨av2, cv2, rfl⟩ := (Own.slice hown')
          have HN := Lib.hid ((HU.out.all ((Below.refl _ U).alloc (Nat.le_refl _) (.cells #[.int .i64 i] 3))).badd Hbd.out hown' hgr)
          obtain ⟨_, ⟨u9, k30⟩, z30⟩ := HN.out
          clear hown' hgr b2 c0 c1 c2 c3 c4 c5 e1
          go_wp2
          go_roundw
          case rel => exact ⟨i + 1, by omega, by go_num, _, _, HN.out.1⟩
          case measure => simp [intOf]; omega
    · obtain rfl : i = D.n := by omega
      have hdlt : decide ((D.n : Int) < D.n) = false := decide_eq_false (by omega)
      have HQ0 := Lib.hid HI.out.toQ
      obtain ⟨c0, c1, c2, c3, c4, c5⟩ := HDr.out.cells
      obtain ⟨qx, qcap, hqs⟩ := HDr.out.que.slice
      subst hqs
      have hq6 := HDr.out.ok.queue
      clear HI HDr HI0
      go_wp2_with fail
      clear c0 c1 c2 c3 c4 c5
      go_loopw [61] (fun t wr => ∃ k : Nat, k ≤ D.q ∧ t = .int .i64 k ∧ ∃ uv bvs, StQ w D k dv uv bv bvs wr) (fun t _ => D.q - (intOf t).toNat)
      case atStart => exact ⟨0, by omega, by go_num, _, _, HQ0.out⟩
      case round =>
        obtain ⟨k, hk, rfl, uv, bvs, hI⟩ := hrel
        have HI := Lib.hid hI; clear hI
        have HDr := Lib.hid (Hd.out.all HI.out.below)
        have hrl := HI.out.box.lt
        by_cases hlt3 : k < D.q
        · have hdlt : decide ((k : Int) < D.q) = true := decide_eq_true (by omega)
          rcases HDr.out.que with ⟨_, hq0⟩ | ⟨gq, cap, hv, hBq, hrow, hcap⟩
          · omega
          cases hv
          have hl := loadC_put hrow hlt3
          have hs := fun w => storeC_put w _ zero_put (D.qa k) (D.qb k)
          have hlen := secL_len (D.qb k)
          have hrp := box_put wr (D.qa k) (D.qb k)
          have Hb := Lib.hid ((Below.refl _ wr).alloc (Nat.le_refl _) (.cells (Value.int .i64 (D.qa k) :: secL (D.qb k)).toArray 81))
          have Hp := Lib.hid hrp
          clear hrow hrp
          generalize secL (D.qb k) = cs at *
          go_upto_region 14 with fail
          have HV := Lib.hid (HI.out.all Hb.out)
          have hvl : wr.heap.size < (wr.alloc (.cells (Value.int .i64 (D.qa k) :: cs).toArray 81)).heap.size := by simp
          clear Hb HI hl hs hlen HDr
          generalize wr.alloc (.cells (Value.int .i64 (D.qa k) :: cs).toArray 81) = V2 at *
          have HV2 := Lib.hid (HV.out.all (Below.refl _ V2).drew)
          have Hp2 := Lib.hid Hp.out.drew
          have x1 := HV2.out.box.cell (i := 1) (by omega)
          have p0 := (putV_range (n := 1) Hp2.out (i := 0) (by omega)).1
          rw [Nat.zero_mul] at p0
          have Hpc := Lib.hid (show Cells V2.drew wr.heap.size 1 (64 * 1) (byteF (D.qb k)) from fun i hi => by
            have h9 := (putV_range (n := 1) Hp2.out (i := 0) (by omega)).2 i (.int .u8 (D.qb k i)) (secL_get _ (by omega))
            rw [Nat.zero_mul, Nat.zero_add] at h9
            exact h9)
          obtain ⟨zp, hzp⟩ := info_aput
          have Hzp := Lib.hid hzp
          clear hzp HV Hp
          have hx : w.heap.size + 1 < V2.drew.heap.size := by show w.heap.size + 1 < V2.heap.size; omega
          refine wp_calm ?_
          go_region_law (first | ((refine step_call (by rfl) 37 #[.slice (some ⟨wr.heap.size, 1, none⟩) 64 64] (by go_simp) (Clone_u8 wr.heap.size 1 64 64 _ V2.drew Hpc.out (fun _ _ => rfl) (by decide)) ?_); rintro e w3 ⟨v, rfl, hov, hbv⟩; refine ⟨_, rfl, ?_⟩; obtain ⟨va, vc, rfl⟩ := hov.slice; have x1' := (HV2.out.box.all hbv).cell (i := 1) (by omega); have p0' : w3.cell? ⟨wr.heap.size, 0, none⟩ = some (.int .i64 (D.qa k)) := (hbv.cell (p := ⟨wr.heap.size, 0, none⟩) (by show wr.heap.size < V2.heap.size; omega)).trans p0; have hsz3 := hbv.size; have hx3 : w.heap.size + 1 < w3.heap.size := Nat.lt_of_lt_of_le hx hsz3; have Hov := Lib.hid (And.intro hov hbv); clear hov hbv) | ((refine step_append_k (by rfl) _ _ 28 62 _ 2 32 (by rfl) Try.underlying28 Hzp.out.1 Hzp.out.2 (by decide) (w.heap.size + 2) uv k _ (by rfl) ((HV2.out.all (Hov.out.2.alloc Hov.out.2.size _)).que) w3.heap.size 0 1 1 _ (by rfl) (row2 w3 (.int .i64 (D.qa k)) (.slice va 64 vc) 62).reads (fun j _ => by unfold st2; split <;> rfl) (by omega) (by decide) (by rw [World.size_alloc]; omega) ?_); intro uv' w4 hown' hgr; obtain ⟨ua, uc, rfl⟩ := hown'.slice; have HN := Lib.hid ((HV2.out.all (Hov.out.2.alloc Hov.out.2.size _)).next hlt3 ((Hov.out.1.toOwn.mono (by omega)).alloc _) hown' hgr); obtain ⟨_, ⟨u9, k30⟩, z30⟩ := HN.out; clear hown' hgr))
          all_goals
            refine calm_normal ?_
            go_wp2
            go_roundw
            case rel => exact ⟨k + 1, by omega, by go_num, _, _, HN.out.1⟩
            case measure => simp [intOf]; omega
        · obtain rfl : k = D.q := by omega
          have hdlt : decide ((D.q : Int) < D.q) = false := decide_eq_false (by omega)
          obtain ⟨da, dc, rfl⟩ := (Own.slice HI.out.data)
          obtain ⟨ua, uc, rfl⟩ := HI.out.que.slice
          obtain ⟨ba, bc, rfl⟩ := (Own.slice HI.out.bad)
          have hl6 := loadC_dev HI.out.box
          have hs6 := storeC_six HI.out.res (six_one (a := .slice da (D.n * 64) dc) (b := .slice ua D.q uc) (c := .slice ba (badL D D.n).length bc) (d := .bool D.dead) (e := .bool D.armed) (f := .int .i64 D.left) rfl rfl rfl rfl rfl rfl)
          have hfin := row_set6 HI.out.res (.slice da (D.n * 64) dc) (.slice ua D.q uc) (.slice ba (badL D D.n).length bc) (.bool D.dead) (.bool D.armed) (.int .i64 D.left)
          have hrd := resDev hfin.1
          have Hfin := Lib.hid hfin; clear hfin
          have Hok := Lib.hid HDr.out.ok
          clear HDr
          go_wp2_with fail
          have Hdev := Lib.hid (state_dev (B := B) HI.out Hok.out Hfin.out.2)
          exact bodyPost_ret (v := .tuple #[devV (.slice da (D.n * 64) dc) (.slice ua D.q uc) (.slice ba (badL D D.n).length bc) D.dev, .int .i64 0]) (by simp [results, Try.results11, asAddr, hrd, devV, Dsk.dev]) rfl ⟨_, _, _, rfl, Hdev.out⟩

end Go.Proofs.Ytjhcaedfknhilaa

namespace Go.Proofs.Ytjhcaedfknhilaa
set_option linter.unusedVariables false
set_option linter.unusedSimpArgs false
open Go.RowKit
attribute [local go_sem ↓] Go.wp_at_zero Go.wp_at_succ
attribute [-go_sem] loadCellsFrom storeCells
attribute [local go_sem] storeCells_one

theorem size_dsk : (Try.prog.info? 76).map (·.size) = some 6 := by kernel_rfl
theorem loadC_dsk {W : World} {g : Nat} {a b c d e f : Value} (h : RowAt W g 76 6 6 (st6 a b c d e f)) : (loadCellsFrom ⟨g, 0, none⟩ 0 6 #[]).run Try.prog W = .ok #[a, b, c, d, e, f] W := by
  have := run_loadCells_list (P := Try.prog) W ⟨g, 0, none⟩ [a, b, c, d, e, f] (fun j v hj => by
    have hj6 : j < 6 := by
      rcases Nat.lt_or_ge j 6 with h1 | h1
      · exact h1
      · rw [List.getElem?_eq_none (by simp; omega)] at hj; cases hj
    rw [Addr.add_mid, Nat.zero_add]
    have := h.cell (i := j) hj6
    rw [this]
    obtain rfl | rfl | rfl | rfl | rfl | rfl : j = 0 ∨ j = 1 ∨ j = 2 ∨ j = 3 ∨ j = 4 ∨ j = 5 := by omega
    all_goals (cases hj; rfl))
  exact this
theorem storeC_dsk (w : World) (z : Array Value) (hz : z.size = 6) (a b c d e f : Value) (h1 : ∀ v ∈ [a, b, c, d, e, f], v.oneCell' = true) :
    (storeCells ⟨w.heap.size, 0, none⟩ [a, b, c, d, e, f] 0).run Try.prog (w.alloc (.cells z 76)) = .ok () (w.alloc (.cells #[a, b, c, d, e, f] 76)) := by
  have := run_storeCells_new (P := Try.prog) w 76 z #[a, b, c, d, e, f] size_dsk (by rw [hz]; rfl) (all_oneCell_toArray h1)
  simpa using this

/-- What has been cloned so far. -/
structure CopyI (D : Dsk) (V : World) (s b p : Option Value) (W : World) : Prop where
  below : Below V.heap.size V W
  sec : ∀ v, s = some v → OwnK W V.heap.size 79 64 v D.n (secV D.sec)
  bad : ∀ v, b = some v → OwnK W V.heap.size 4 1 v D.n (badV D.bad)
  que : ∀ v, p = some v → OwnK W V.heap.size 81 65 v D.q (putV D.qa D.qb)
theorem CopyI.init (D : Dsk) (V : World) : CopyI D V none none none V := ⟨Below.refl _ _, (fun _ e => by cases e), (fun _ e => by cases e), (fun _ e => by cases e)⟩
theorem CopyI.all {D : Dsk} {V W W' : World} {s b p : Option Value} (h : CopyI D V s b p W) (hb : Below W.heap.size W W') : CopyI D V s b p W' :=
  ⟨h.below.trans (hb.mono h.below.size), fun v e => (h.sec v e).all hb, fun v e => (h.bad v e).all hb, fun v e => (h.que v e).all hb⟩
theorem CopyI.putS {D : Dsk} {V W W' : World} {s b p : Option Value} {v : Value} (h : CopyI D V s b p W) (hb : Below W.heap.size W W') (ho : OwnK W' W.heap.size 79 64 v D.n (secV D.sec)) : CopyI D V (some v) b p W' :=
  have h' := h.all hb
  ⟨h'.below, fun _ e => by cases e; exact ho.mono h.below.size, h'.bad, h'.que⟩
theorem CopyI.putB {D : Dsk} {V W W' : World} {s b p : Option Value} {v : Value} (h : CopyI D V s b p W) (hb : Below W.heap.size W W') (ho : OwnK W' W.heap.size 4 1 v D.n (badV D.bad)) : CopyI D V s (some v) p W' :=
  have h' := h.all hb
  ⟨h'.below, h'.sec, fun _ e => by cases e; exact ho.mono h.below.size, h'.que⟩
theorem CopyI.putQ {D : Dsk} {V W W' : World} {s b p : Option Value} {v : Value} (h : CopyI D V s b p W) (hb : Below W.heap.size W W') (ho : OwnK W' W.heap.size 81 65 v D.q (putV D.qa D.qb)) : CopyI D V s b (some v) W' :=
  have h' := h.all hb
  ⟨h'.below, h'.sec, h'.bad, fun _ e => by cases e; exact ho.mono h.below.size⟩

/-- A clone of the queue, nil or not. -/
theorem Clone_que {B : Nat} {qv : Value} {D : Dsk} (w : World) (h : Puts w B qv D.q D.qa D.qb) (hq : D.q ≤ 65536) :
    Calls Try.prog 50 #[qv] w (ClonedP_put D.q (putV D.qa D.qb) w) := by
  rcases h with ⟨rfl, hq0⟩ | ⟨g, cap, rfl, hB, hr, hcap⟩
  · refine (Clone_put_nil w).mono ?_
    rintro e w' ⟨rfl, rfl⟩
    rw [hq0]
    exact ⟨_, rfl, .inl ⟨rfl, rfl⟩, Below.refl _ _⟩
  · exact Clone_put g 0 D.q cap _ w hr.reads (fun i _ => putV_one _ _ i) (by omega)

theorem copyKeep {B g gs gb : Nat} {qv : Value} {D : Dsk} {V W : World} (h : DiskIn B g gs gb qv D V) (hb : Below V.heap.size V W) :
    W.cell? ⟨g, 0, none⟩ = some (.slice (some ⟨gs, 0, none⟩) D.n D.cs) ∧ W.cell? ⟨g, 1, none⟩ = some (.slice (some ⟨gb, 0, none⟩) D.n D.cb) ∧ W.cell? ⟨g, 2, none⟩ = some qv :=
  have := (h.all hb).cells
  ⟨this.1, this.2.1, this.2.2.1⟩
theorem copySet {g c i : Nat} {W : World} {a b d v : Value} (h : W.cell? ⟨g, 0, none⟩ = some a ∧ W.cell? ⟨g, 1, none⟩ = some b ∧ W.cell? ⟨g, 2, none⟩ = some d) (hne : g ≠ c) :
    (W.setCell ⟨c, i, none⟩ v).cell? ⟨g, 0, none⟩ = some a ∧ (W.setCell ⟨c, i, none⟩ v).cell? ⟨g, 1, none⟩ = some b ∧ (W.setCell ⟨c, i, none⟩ v).cell? ⟨g, 2, none⟩ = some d :=
  have hb := Below.heap_setCell W ⟨c, i, none⟩ v g hne
  ⟨(World.cell?_of_block (a := ⟨g, 0, none⟩) hb).trans h.1, (World.cell?_of_block (a := ⟨g, 1, none⟩) hb).trans h.2.1, (World.cell?_of_block (a := ⟨g, 2, none⟩) hb).trans h.2.2⟩

theorem OwnK.pos {w : World} {B : Nat} {e : TypeId} {k : Nat} {v : Value} {n : Nat} {f : Nat → Value} (h : OwnK w B e k v n f) (hn : 0 < n) : ∃ g cap, v = .slice (some ⟨g, 0, none⟩) n cap ∧ B ≤ g ∧ RowAt w g e (cap * k) (n * k) f ∧ n ≤ cap ∧ cap ≤ maxLen := by
  rcases h with ⟨_, h⟩ | h
  · omega
  · exact h
theorem copy_fin {D : Dsk} {w0 V W : World} {B c : Nat} {sv bv pv a0 a1 a2 : Value} (h : CopyI D V (some sv) (some bv) (some pv) W) (hb0 : Below B w0 W) (hok : D.Ok) (hB : B ≤ V.heap.size) (hc : B ≤ c) (hr : RowAt W c 76 6 6 (st6 a0 a1 a2 (.bool D.dead) (.bool D.armed) (.int .i64 D.left))) :
    ∃ gs' gb' cs cb, DiskIn B c gs' gb' pv { D with cs := cs, cb := cb } (((W.setCell ⟨c, 0, none⟩ sv).setCell ⟨c, 1, none⟩ bv).setCell ⟨c, 2, none⟩ pv) ∧ Below B w0 (((W.setCell ⟨c, 0, none⟩ sv).setCell ⟨c, 1, none⟩ bv).setCell ⟨c, 2, none⟩ pv) := by
  have hn := hok.size
  obtain ⟨gs', cs, rfl, s1, s2, _, _⟩ := (h.sec _ rfl).pos (by omega)
  obtain ⟨gb', cb, rfl, b1, b2, _, _⟩ := (h.bad _ rfl).pos (by omega)
  have hq := h.que _ rfl
  have ns : c ≠ gs' := hr.neType s2 (by decide)
  have nb : c ≠ gb' := hr.neType b2 (by decide)
  refine ⟨gs', gb', cs, cb, ⟨(((hr.set 0 _).set 1 _).set 2 _).congr fun j hj => ?_, ((s2.setOther _ _ ns).setOther _ _ ns).setOther _ _ ns, ((b2.setOther _ _ nb).setOther _ _ nb).setOther _ _ nb, ?_, ⟨hc, by omega, by omega⟩, ⟨hok.size, hok.byte, hok.queue, hok.put, hok.pbyte, hok.left⟩⟩, ((hb0.setCell (p := ⟨c, 0, none⟩) hc _).setCell (p := ⟨c, 1, none⟩) hc _).setCell (p := ⟨c, 2, none⟩) hc _⟩
  · obtain rfl | rfl | rfl | rfl | rfl | rfl : j = 0 ∨ j = 1 ∨ j = 2 ∨ j = 3 ∨ j = 4 ∨ j = 5 := by omega
    all_goals rfl
  · rcases hq with hq | ⟨gq, cq, h1, h2, h3, h4, h5⟩
    · exact .inl hq
    · have nq : c ≠ gq := hr.neType h3 (by decide)
      exact .inr ⟨gq, cq, h1, by omega, ((h3.setOther _ _ nq).setOther _ _ nq).setOther _ _ nq, h5⟩

set_option maxRecDepth 8000 in
set_option maxHeartbeats 4000000 in
theorem Copy_any {B g gs gb : Nat} {qv : Value} {D : Dsk} (w : World) (h : DiskIn B g gs gb qv D w) :
    Calls Try.prog 25 #[.pointer (some ⟨g, 0, none⟩)] w fun e w' => ∃ g' gs' gb' qv' cs cb, e = .returned (.pointer (some ⟨g', 0, none⟩)) ∧ DiskIn w.heap.size g' gs' gb' qv' { D with cs := cs, cb := cb } w' ∧ Below w.heap.size w w' := by
  have hok := h.ok
  have hgl := h.row.lt
  obtain ⟨x, cap, hqs⟩ := h.que.slice
  have hqn : qv.oneCell' = true := by rw [hqs]; rfl
  have hl6 := loadC_dsk h.row
  have hs6 := storeC_dsk w #[.slice none 0 0, .slice none 0 0, .slice none 0 0, .bool false, .bool false, .int .i64 0] rfl (.slice (some ⟨gs, 0, none⟩) D.n D.cs) (.slice (some ⟨gb, 0, none⟩) D.n D.cb) qv (.bool D.dead) (.bool D.armed) (.int .i64 D.left) (six_one rfl rfl hqn rfl rfl rfl)
  have hb1 : Below w.heap.size w (w.alloc (.cells #[.slice (some ⟨gs, 0, none⟩) D.n D.cs, .slice (some ⟨gb, 0, none⟩) D.n D.cb, qv, .bool D.dead, .bool D.armed, .int .i64 D.left] 76)) := (Below.refl _ w).alloc (Nat.le_refl _) _
  have Hr1 := Lib.hid (row_six w (.slice (some ⟨gs, 0, none⟩) D.n D.cs) (.slice (some ⟨gb, 0, none⟩) D.n D.cb) qv (.bool D.dead) (.bool D.armed) (.int .i64 D.left) 76)
  have Hb1 := Lib.hid hb1
  have Hd := Lib.hid h
  have HD1 := Lib.hid (h.all hb1)
  have Hs1 := Lib.hid (show (w.alloc (.cells #[.slice (some ⟨gs, 0, none⟩) D.n D.cs, .slice (some ⟨gb, 0, none⟩) D.n D.cb, qv, .bool D.dead, .bool D.armed, .int .i64 D.left] 76)).heap.size = w.heap.size + 1 by simp)
  clear h hb1 hqn hqs hok
  go_enter Try.func25, Try.ntmps25
  go_upto_region 4 with fail
  clear hl6 hs6
  generalize w.alloc (.cells #[.slice (some ⟨gs, 0, none⟩) D.n D.cs, .slice (some ⟨gb, 0, none⟩) D.n D.cb, qv, .bool D.dead, .bool D.armed, .int .i64 D.left] 76) = V at *
  have HDV := Lib.hid (HD1.out.all (Below.refl _ V).drew)
  have hne : g ≠ w.heap.size := by omega
  have hn := HDV.out.ok.size
  have hq6 := HDV.out.ok.queue
  have HInv := Lib.hid (CopyI.init D V.drew)
  have Hne := Lib.hid hne; clear hne
  go_region_held_law (fun w' => w'.cell? ⟨g, 0, none⟩ = some (.slice (some ⟨gs, 0, none⟩) D.n D.cs) ∧ w'.cell? ⟨g, 1, none⟩ = some (.slice (some ⟨gb, 0, none⟩) D.n D.cb) ∧ w'.cell? ⟨g, 2, none⟩ = some qv)
    (first | exact copyKeep HDV.out HInv.out.below | exact copySet (copyKeep HDV.out HInv.out.below) Hne.out | exact copySet (copySet (copyKeep HDV.out HInv.out.below) Hne.out) Hne.out | exact copySet (copySet (copySet (copyKeep HDV.out HInv.out.below) Hne.out) Hne.out) Hne.out)
    (first | (go_at_call 48; ((with_reducible refine (Clone_sec gs 0 D.n D.cs (secV D.sec) _ (HDV.out.all HInv.out.below).sec.reads (fun _ _ => rfl) (by omega)).mono ?_); rintro e w3 ⟨v, rfl, ho, hb⟩); (obtain ⟨va, vc, rfl⟩ := ho.slice); (replace HInv := Lib.hid (HInv.out.putS hb ho)); clear ho hb) | (go_at_call 49; ((with_reducible refine (Clone_bool gb 0 D.n D.cb (badV D.bad) _ (HDV.out.all HInv.out.below).bad.reads (fun _ _ => rfl) (by omega)).mono ?_); rintro e w3 ⟨v, rfl, ho, hb⟩); (obtain ⟨va, vc, rfl⟩ := ho.slice); (replace HInv := Lib.hid (HInv.out.putB hb ho)); clear ho hb) | (go_at_call 50; ((with_reducible refine (Clone_que _ (HDV.out.all HInv.out.below).que hq6).mono ?_); rintro e w3 ⟨v, rfl, ho, hb⟩); (obtain ⟨va, vc, rfl⟩ := ho.slice); (replace HInv := Lib.hid (HInv.out.putQ hb ho)); (have hr5 := Hr1.out.drew.all HInv.out.below); (have y0 := hr5.cell (i := 0) (by omega)); (have y1 := hr5.cell (i := 1) (by omega)); (have y2 := hr5.cell (i := 2) (by omega)); (have z0 := hr5.frozen 0); (have z1 := hr5.frozen 1); (have z2 := hr5.frozen 2); (have Hr5 := Lib.hid hr5); clear ho hb hr5))
  obtain ⟨gs', gb', cs, cb, hfin⟩ := copy_fin (B := w.heap.size) (w0 := w) HInv.out ((Hb1.out.drew).trans (HInv.out.below.mono (by have := Hs1.out; show w.heap.size ≤ V.heap.size; omega))) Hd.out.ok (Nat.le_of_lt (by have := Hs1.out; show w.heap.size < V.heap.size; omega)) (Nat.le_refl _) Hr5.out
  have Hfin := Lib.hid hfin
  clear hfin
  go_wp2
  go_ret
  exact ⟨_, _, _, _, _, _, rfl, Hfin.out⟩

end Go.Proofs.Ytjhcaedfknhilaa
