/- Disk: Load. -/
import Derived.Test.YtjhcaedfknhilaaRc12
namespace Go.Proofs.Ytjhcaedfknhilaa
set_option linter.unusedVariables false
set_option linter.unusedSimpArgs false
open Go.RowKit
attribute [local go_sem ↓] Go.wp_at_zero Go.wp_at_succ
attribute [-go_sem] Instr.build Instr.buildSlice Instr.fill loadCellsFrom storeCells
attribute [local go_sem] storeCells_one

theorem built_dsk (gs gb k : Nat) (d a : Bool) (l : Int) : Try.prog.built 76 [(0, medV gs gb k), (2, .bool d), (3, .bool a), (4, .int .i64 l)] = some #[.slice (some ⟨gs, 0, none⟩) k k, .slice (some ⟨gb, 0, none⟩) k k, .slice none 0 0, .bool d, .bool a, .int .i64 l] := by kernel_rfl
theorem run_build_dsk (gs gb k : Nat) (d a : Bool) (l : Int) (w : World) : (Instr.build 76 #[(0, medV gs gb k), (2, .bool d), (3, .bool a), (4, .int .i64 l)]).run Try.prog w = .ok (.agg #[.slice (some ⟨gs, 0, none⟩) k k, .slice (some ⟨gb, 0, none⟩) k k, .slice none 0 0, .bool d, .bool a, .int .i64 l]) w :=
  run_build w _ _ _ (built_dsk gs gb k d a l)

theorem bool_cases (b : Bool) : b = false ∨ b = true := by cases b <;> simp
/-- What Load leaves. -/
def LoadP (B : Nat) (X : Dev) (w : World) (e : Ending) (w' : World) : Prop :=
  (¬ X.Right ∧ LoadNo w e w') ∨ (X.Right ∧ ∃ g gs gb uv, e = .returned (.tuple #[.pointer (some ⟨g, 0, none⟩), .int .i64 0]) ∧ DiskIn w.heap.size g gs gb uv X.dsk w' ∧ Below w.heap.size w w')

theorem load_first {B : Nat} {w V w3 : World} {dv qv bv : Value} {X : Dev} {gs gb k : Nat} (hI : LoadI w dv qv bv X (.pointer none) V) (hB : B ≤ w.heap.size) (hdev : DevAt B V dv qv bv X) (h1 : X.ok1) (h2 : X.ok2) (hk : X.n / 64 = k)
    (hs : V.heap.size ≤ gs) (hb : V.heap.size ≤ gb) (hrs : RowAt w3 gs 79 (k * 64) (k * 64) (fun _ => .int .u8 0)) (hrb : RowAt w3 gb 4 (k * 1) (k * 1) (fun _ => .bool false)) (hbl : Below V.heap.size V w3) :
    LoadJ B w dv qv bv X w3.heap.size gs gb (.slice none 0 0) 0 0 0 ((w3.alloc (.cells #[.slice (some ⟨gs, 0, none⟩) k k, .slice (some ⟨gb, 0, none⟩) k k, .slice none 0 0, .bool X.dead, .bool X.armed, .int .i64 X.left] 76)).setCell ⟨w.heap.size + 1, 0, none⟩ (.pointer (some ⟨w3.heap.size, 0, none⟩))) := by
  subst hk
  have hI3 := hI.all hbl
  have hl := hI3.err.lt
  have hVl := hI.below.size
  have hl2 := hI.err.lt
  have hb4 : Below w3.heap.size w3 (w3.alloc (.cells #[.slice (some ⟨gs, 0, none⟩) (X.n / 64) (X.n / 64), .slice (some ⟨gb, 0, none⟩) (X.n / 64) (X.n / 64), .slice none 0 0, .bool X.dead, .bool X.armed, .int .i64 X.left] 76)) := (Below.refl _ w3).alloc (Nat.le_refl _) _
  have hI4 := hI3.all hb4
  have hr := row_six w3 (.slice (some ⟨gs, 0, none⟩) (X.n / 64) (X.n / 64)) (.slice (some ⟨gb, 0, none⟩) (X.n / 64) (X.n / 64)) (.slice none 0 0) (.bool X.dead) (.bool X.armed) (.int .i64 X.left) 76
  have n0 : w.heap.size + 1 ≠ w3.heap.size := by omega
  have ns : w.heap.size + 1 ≠ gs := by omega
  have nb : w.heap.size + 1 ≠ gb := by omega
  refine ⟨⟨hI4.below.setCell (p := ⟨w.heap.size + 1, 0, none⟩) (Nat.le_add_right _ _) _, hI4.box.setOther _ _ (by simp), hI4.out.set1 _, hI4.err.setOther _ _ (by simp)⟩,
    ⟨hr.setOther _ _ n0, ((hrs.all hb4).setOther _ _ ns).congr fun m hm => ?_, ((hrb.all hb4).setOther _ _ nb).congr fun m hm => ?_, .inl ⟨rfl, rfl⟩, ⟨by show w.heap.size ≤ w3.heap.size; omega, by omega, by omega⟩, st_ok hdev h1 h2 (Nat.zero_le _) fun i hi => absurd hi (Nat.not_lt_zero i)⟩,
    ((hdev.all hbl).all hb4).keepD (keepsD_set hI4.out rfl (by omega) _)⟩
  · unfold secV Dev.st
    dsimp only
    rw [if_neg (Nat.not_lt_zero _)]
  · rfl

theorem load_keep {w W : World} {dv qv bv p : Value} {X : Dev} (h : LoadI w dv qv bv X p W) : W.cell? ⟨w.heap.size, 3, none⟩ = some (.bool X.dead) ∧ W.cell? ⟨w.heap.size, 4, none⟩ = some (.bool X.armed) ∧ W.cell? ⟨w.heap.size, 5, none⟩ = some (.int .i64 X.left) :=
  ⟨h.cells.2.2.2.1, h.cells.2.2.2.2.1, h.cells.2.2.2.2.2⟩
theorem load_keep2 {w W : World} {dv qv bv p u : Value} {X : Dev} (h : LoadI w dv qv bv X p W) (o : Obj) : ((W.setCell ⟨w.heap.size + 1, 0, none⟩ u).alloc o).cell? ⟨w.heap.size, 3, none⟩ = some (.bool X.dead) ∧ ((W.setCell ⟨w.heap.size + 1, 0, none⟩ u).alloc o).cell? ⟨w.heap.size, 4, none⟩ = some (.bool X.armed) ∧ ((W.setCell ⟨w.heap.size + 1, 0, none⟩ u).alloc o).cell? ⟨w.heap.size, 5, none⟩ = some (.int .i64 X.left) :=
  have hr := (h.box.setOther ⟨w.heap.size + 1, 0, none⟩ u (by simp)).alloc o
  ⟨hr.cell (i := 3) (by omega), hr.cell (i := 4) (by omega), hr.cell (i := 5) (by omega)⟩

theorem DevAt.dataAt {B : Nat} {W : World} {dx : Option Addr} {dcap k : Nat} {qv bv : Value} {X : Dev} (h : DevAt B W (.slice dx (k * 64) dcap) qv bv X) (hk : X.n = k * 64) (hk1 : 1 ≤ k) : ∃ b off, dx = some ⟨b, off, none⟩ ∧ k * 64 ≤ dcap ∧ Cells W b off (k * 64) (byteF X.data) := by
  rcases h.data with ⟨_, (⟨h0, _⟩ | ⟨b, off, cap, hv, h1, h2, h3, h4, _⟩)⟩
  · omega
  · injection hv with e1 e2 e3
    subst e1 e3
    rw [hk] at h2 h4
    exact ⟨b, off, rfl, h2, h4⟩
theorem Cells.one {W : World} {b off n : Nat} {f : Nat → Value} (h : Cells W b off n f) {i m : Nat} (hi : i + m ≤ n) : Cells W b (off + i) m (fun j => f (i + j)) := fun j hj => by
  have := h (i + j) (by omega)
  rw [← Nat.add_assoc] at this
  exact this

theorem DevAt.queAt {B : Nat} {W : World} {qx : Option Addr} {qcap : Nat} {dv bv : Value} {X : Dev} (h : DevAt B W dv (.slice qx X.q qcap) bv X) {j : Nat} (hj : j < X.q) :
    ∃ b off bx bcap, qx = some ⟨b, off, none⟩ ∧ W.cell? ⟨b, off + j * 2, none⟩ = some (.int .i64 (X.qa j)) ∧ W.cell? ⟨b, off + j * 2 + 1, none⟩ = some (.slice bx (X.ql j) bcap) ∧ BArg B W (.slice bx (X.ql j) bcap) (X.ql j) (X.qb j) ∧ X.ql j ≤ maxLen := by
  rcases h.queue with ⟨_, (⟨h0, _⟩ | ⟨b, off, cap, bvs, hv, h1, h2, h3, h4, _, h5⟩)⟩
  · omega
  · injection hv with e1 e2 e3
    subst e1 e3
    obtain ⟨bx, bcap, hb, hbm⟩ := (h5 j hj).slice
    have c0 := h4 (j * 2) (by omega)
    have c1 := h4 (j * 2 + 1) (by omega)
    unfold putC at c0 c1
    rw [if_pos (by omega), show j * 2 / 2 = j from by omega] at c0
    rw [if_neg (by omega), show (j * 2 + 1) / 2 = j from by omega, hb, ← Nat.add_assoc] at c1
    have h5j := h5 j hj
    rw [hb] at h5j
    exact ⟨b, off, bx, bcap, rfl, c0, c1, h5j, hbm⟩
theorem loadC_aput {W : World} {b o : Nat} {x y : Value} (h0 : W.cell? ⟨b, o, none⟩ = some x) (h1 : W.cell? ⟨b, o + 1, none⟩ = some y) : (loadCellsFrom ⟨b, o, none⟩ 0 2 #[]).run Try.prog W = .ok #[x, y] W := by
  have := run_loadCells_list (P := Try.prog) W ⟨b, o, none⟩ [x, y] (fun j v hj => by
    rw [Addr.add_mid]
    match j, hj with
    | 0, hj => cases hj; exact h0
    | 1, hj => cases hj; exact h1
    | j + 2, hj => cases hj)
  exact this
theorem size_aput : (Try.prog.info? 62).map (·.size) = some 2 := by kernel_rfl
theorem storeC_aput (w : World) (z : Array Value) (hz : z.size = 2) (x y : Value) (hx : x.oneCell' = true) (hy : y.oneCell' = true) :
    (storeCells ⟨w.heap.size, 0, none⟩ [x, y] 0).run Try.prog (w.alloc (.cells z 62)) = .ok () (w.alloc (.cells #[x, y] 62)) := by
  have := run_storeCells_new (P := Try.prog) w 62 z #[x, y] size_aput (by rw [hz]; rfl) (all_oneCell_toArray (cs := [x, y]) fun v hv => by
    simp only [List.mem_cons, List.not_mem_nil, or_false] at hv
    rcases hv with rfl | rfl <;> assumption)
  simpa using this

theorem bytes_at {B : Nat} {W : World} {ex : Option Addr} {n ecap : Nat} {f : Nat → Int} (h : BArg B W (.slice ex n ecap) n f) (hn : 0 < n) : ∃ b off, ex = some ⟨b, off, none⟩ ∧ Cells W b off n (byteF f) := by
  rcases h with ⟨_, (⟨h0, _⟩ | ⟨b, off, cap, hv, _, _, _, h4, _⟩)⟩
  · omega
  · injection hv with e1 e2 e3
    subst e1
    exact ⟨b, off, rfl, h4⟩
theorem cells_sec {W : World} {b off : Nat} {f : Nat → Int} (h : Cells W b off 64 (byteF f)) : (loadCellsFrom ⟨b, off, none⟩ 0 64 #[]).run Try.prog W = .ok (secL f).toArray W := by
  have h9 := run_loadCells_list (P := Try.prog) W ⟨b, off, none⟩ (secL f) (fun j v hv => by
    have hj64 : j < 64 := by
      rcases Nat.lt_or_ge j 64 with h1 | h1
      · exact h1
      · rw [List.getElem?_eq_none (by rw [secL_len]; exact h1)] at hv; cases hv
    rw [secL_get _ hj64] at hv
    cases hv
    rw [Addr.add_mid]
    exact h j hj64)
  rw [secL_len] at h9
  exact h9

theorem load_sec_cells {W : World} {b off : Nat} {f : Nat → Int} (h : Cells W b off 64 (byteF f)) : (Instr.loadAt 79 (.pointer (some ⟨b, off, none⟩))).run Try.prog W = .ok (.agg (secL f).toArray) W :=
  run_loadAt_mid W b off _ (secL f) _ (fun j v hv => by
    have hj64 : j < 64 := by
      rcases Nat.lt_or_ge j 64 with h1 | h1
      · exact h1
      · rw [List.getElem?_eq_none (by rw [secL_len]; exact h1)] at hv; cases hv
    rw [secL_get _ hj64] at hv
    cases hv
    exact h j hj64) under_sec rfl (by rw [secL_len]; exact size_sec)
theorem DevAt.badAt {B : Nat} {W : World} {bx : Option Addr} {bcap : Nat} {dv qv : Value} {X : Dev} (h : DevAt B W dv qv (.slice bx X.m bcap) X) {l : Nat} (hl : l < X.m) : ∃ b off, bx = some ⟨b, off, none⟩ ∧ ∀ i, i < X.m → W.cell? ⟨b, off + i, none⟩ = some (.int .i64 (X.bad i)) := by
  rcases h.bad with ⟨_, (⟨h0, _⟩ | ⟨b, off, cap, hv, h1, h2, h3, h4, _⟩)⟩
  · omega
  · injection hv with e1 e2 e3
    subst e1
    exact ⟨b, off, rfl, h4⟩
theorem range_sec_cells {W : World} {b off : Nat} {f : Nat → Int} (h : Cells W b off 64 (byteF f)) : W.rangeAt b off (secL f) := fun j v hv => by
  have hj64 : j < 64 := by
    rcases Nat.lt_or_ge j 64 with h1 | h1
    · exact h1
    · rw [List.getElem?_eq_none (by rw [secL_len]; exact h1)] at hv; cases hv
  rw [secL_get _ hj64] at hv
  cases hv
  exact h j hj64
/-- A list of bytes lies in no queue's block. -/
theorem bytes_ne {B B' : Nat} {W w0 : World} {b o n c : Nat} {f : Nat → Int} (h : BArg B W (.slice (some ⟨b, o, none⟩) n c) n f) (hn : 0 < n) (hb : Below W.drew.heap.size W.drew w0) (hB : B ≤ B') {v : Value} {m : Nat} {F : Nat → Value} (hown : OwnK w0 B' 81 65 v m F) : some b ≠ v.ownBlock := by
  intro e9
  rcases hown with ⟨rfl, _⟩ | ⟨gq, cq, rfl, q2, ⟨cur, q3, _⟩, q4⟩
  · cases e9
  · cases e9
    rcases h with ⟨_, (⟨h0, _⟩ | ⟨b', o', c', hv, _, _, _, h4, h5⟩)⟩
    · omega
    · cases hv
      have hlt := h4.lt hn
      have hb9 := hb.block gq hlt
      rcases h5 with h5 | ⟨cur2, fr, h5⟩
      · have h6 : gq < B := h5
        have h7 : B' ≤ gq := q2
        omega
      · have h6 : W.drew.heap[gq]? = some (.cells cur2 5 fr) := h5
        rw [hb9, h6] at q3
        cases q3
theorem still_val {P : Program} {ops : Array Oper} {w : World} {Q : Act → Prop} {a : Act} {o : Oper} {rest : List Oper} (hg : Region.wanted o (yielded ops a.tmps) = true) (v : Value) (hrun : (execOp a.eval o).run P w = .ok (.value v) w) (h : wpStill P ops w Q rest (a.put o.dst v)) : wpStill P ops w Q (o :: rest) a := by
  unfold wpStill
  rw [if_pos hg]
  unfold Oper.still
  rw [hrun]
  exact ⟨rfl, h⟩

/-- A store into a block that is no disk's. -/
theorem DiskIn.otherT {B g gs gb k : Nat} {qv : Value} {D : Dsk} {W : World} (h : DiskIn B g gs gb qv D W) {e : TypeId} {c n : Nat} {F : Nat → Value} (hr : RowAt W k e c n F) (he : diskT e = false) (i : Nat) (u : Value) : DiskIn B g gs gb qv D (W.setCell ⟨k, i, none⟩ u) := by
  unfold diskT at he
  simp only [Bool.or_eq_false_iff, beq_eq_false_iff_ne, ne_eq] at he
  obtain ⟨⟨⟨h1, h2⟩, h3⟩, h4⟩ := he
  exact ⟨h.row.setOther _ _ (hr.neType h.row h1), h.sec.setOther _ _ (hr.neType h.sec h2), h.bad.setOther _ _ (hr.neType h.bad h3), h.que.other hr h4 i u, h.base, h.ok⟩
theorem okB_next {X : Dev} {l m : Nat} (h : X.okB l) (hm : X.bad l = m) (hmk : m < X.n / 64) (hl : l = 0 ∨ X.bad (l - 1) < X.bad l) : X.okB (l + 1) := fun i hi => by
  by_cases hil : i = l
  · subst hil
    exact ⟨by omega, by omega, hl⟩
  · exact h i (by omega)
theorem load_last {B : Nat} {w W : World} {dv qv bv : Value} {X : Dev} {g gs gb : Nat} {uv : Value} {i j l : Nat} (h : LoadJ B w dv qv bv X g gs gb uv i j l W) :
    ((W.setCell ⟨w.heap.size + 1, 0, none⟩ (.pointer (some ⟨g, 0, none⟩))).setCell ⟨w.heap.size + 1 + 1, 0, none⟩ (.int .i64 0)).cell? ⟨w.heap.size + 1, 0, none⟩ = some (.pointer (some ⟨g, 0, none⟩)) ∧
    ((W.setCell ⟨w.heap.size + 1, 0, none⟩ (.pointer (some ⟨g, 0, none⟩))).setCell ⟨w.heap.size + 1 + 1, 0, none⟩ (.int .i64 0)).cell? ⟨w.heap.size + 1 + 1, 0, none⟩ = some (.int .i64 0) ∧
    DiskIn w.heap.size g gs gb uv (X.st i j l) ((W.setCell ⟨w.heap.size + 1, 0, none⟩ (.pointer (some ⟨g, 0, none⟩))).setCell ⟨w.heap.size + 1 + 1, 0, none⟩ (.int .i64 0)) ∧
    Below w.heap.size w ((W.setCell ⟨w.heap.size + 1, 0, none⟩ (.pointer (some ⟨g, 0, none⟩))).setCell ⟨w.heap.size + 1 + 1, 0, none⟩ (.int .i64 0)) := by
  have ro := h.load.out.set1 (.pointer (some ⟨g, 0, none⟩))
  have re := h.load.err.setOther ⟨w.heap.size + 1, 0, none⟩ (.pointer (some ⟨g, 0, none⟩)) (by simp)
  have hd1 := h.disk.otherT h.load.out (by decide) 0 (.pointer (some ⟨g, 0, none⟩))
  refine ⟨(ro.setOther ⟨w.heap.size + 1 + 1, 0, none⟩ (.int .i64 0) (by simp)).cell (i := 0) (by omega), (re.set1 (.int .i64 0)).cell (i := 0) (by omega), hd1.otherT re (by decide) 0 _, ?_⟩
  exact (h.load.below.setCell (p := ⟨w.heap.size + 1, 0, none⟩) (Nat.le_add_right _ _) _).setCell (p := ⟨w.heap.size + 1 + 1, 0, none⟩) (by show w.heap.size ≤ w.heap.size + 1 + 1; omega) _
/-- What the loads of an append read. -/
def LoadS (o g p b2 o2 : Nat) (uv sv : Value) (m : Int) (cs : List Value) (W : World) : Prop :=
  W.cell? ⟨o, 0, none⟩ = some (.pointer (some ⟨g, 0, none⟩)) ∧ W.cell? ⟨g, 2, none⟩ = some uv ∧ W.cell? ⟨p, 0, none⟩ = some (.int .i64 m) ∧ W.cell? ⟨p, 1, none⟩ = some sv ∧ W.rangeAt b2 o2 cs
theorem LoadS.move {o g p b2 o2 : Nat} {uv sv : Value} {m : Int} {cs : List Value} {W W' : World} (h : LoadS o g p b2 o2 uv sv m cs W) (ho : W'.heap[o]? = W.heap[o]?) (hg : W'.heap[g]? = W.heap[g]?) (hp : W'.heap[p]? = W.heap[p]?) (hb : W'.heap[b2]? = W.heap[b2]?) : LoadS o g p b2 o2 uv sv m cs W' :=
  ⟨(World.cell?_of_block (a := ⟨o, 0, none⟩) ho).trans h.1, (World.cell?_of_block (a := ⟨g, 2, none⟩) hg).trans h.2.1, (World.cell?_of_block (a := ⟨p, 0, none⟩) hp).trans h.2.2.1, (World.cell?_of_block (a := ⟨p, 1, none⟩) hp).trans h.2.2.2.1,
    fun j v hj => (World.cell?_of_block (a := ⟨b2, o2 + j, none⟩) hb).trans (h.2.2.2.2 j v hj)⟩

set_option maxRecDepth 100000 in
set_option maxHeartbeats 8000000 in
theorem Load_main {B : Nat} {dv qv bv : Value} {X : Dev} (w : World) (h : DevAt B w dv qv bv X) (hB : B ≤ w.heap.size) (h1 : X.ok1) (h2 : X.ok2) : Calls Try.prog 28 #[devV dv qv bv X] w (LoadP B X w) := by
  obtain ⟨dx, dcap, hds, hdm⟩ := h.data.slice
  obtain ⟨qx, qcap, hqs, hqm⟩ := h.queue.slice
  obtain ⟨bx, bcap, hbs, hbm⟩ := h.bad.slice
  subst hds hqs hbs
  unfold maxLen at hdm hqm hbm
  have H1 := Lib.hid h1
  have H2 := Lib.hid h2
  obtain ⟨a1, a2, a3, a4⟩ := h1
  obtain ⟨k, hk⟩ : ∃ k, X.n = k * 64 := ⟨X.n / 64, by omega⟩
  have hkn : X.n / 64 = k := by omega
  have HI0 := loadI_first w (.slice dx X.n dcap) (.slice qx X.q qcap) (.slice bx X.m bcap) X
  have HD0 := h.all HI0.below
  rw [hk] at HI0 HD0 hdm ⊢
  obtain ⟨c0, c1, c2, c3, c4, c5⟩ := HI0.cells
  have HI := Lib.hid HI0
  have HD := Lib.hid HD0
  have Hk := Lib.hid hk
  have Hkn := Lib.hid hkn
  have hk1 : 1 ≤ k := by omega
  have hk2 : decide ((k : Int) ≤ 4096) = true := decide_eq_true (by omega)
  have hk4 : k ≤ 4096 := by omega
  have hq2 : decide ((X.q : Int) ≤ 65536) = true := decide_eq_true (by omega)
  have hq3 : (X.q : Int) ≤ 65536 := by omega
  clear a1 a2 a3 hk h h2 HI0 HD0 hkn
  unfold devV
  go_enter_defers Try.func28, Try.ntmps28
  go_wp2_with fail
  generalize ((w.alloc (.cells #[.slice dx (k * 64) dcap, .slice qx X.q qcap, .slice bx X.m bcap, .bool X.dead, .bool X.armed, .int .i64 X.left] 31)).alloc (.cells #[.pointer none] 22)).alloc (.cells #[.int .i64 0] 23) = V at *
  refine (want_ok 1 _).mono ?_
  rintro e w1 ⟨rfl, rfl⟩
  go_upto_region 4 with fail
  go_cut [61] from 34 to 61 (fun s61 wx => s61 = .tuple #[] ∧ V = wx)
  case first =>
    obtain ⟨b1, b2, b3⟩ := H2.out
    have hL : decide (0 ≤ X.left) = true := decide_eq_true b1
    rcases bool_cases X.armed with hA | hA
    · rw [hA] at c4
      have hZ : X.left = 0 := b2.resolve_left (by rw [hA]; simp)
      rw [hZ] at c5
      rcases bool_cases X.dead with hD | hD
      · rw [hD] at c3
        have HA := Lib.hid (And.intro hA (And.intro hD hZ)); clear hA hD hZ b2 b3
        go_wp2_with fail
        refine (want_ok 1 _).mono ?_
        rintro e w1 ⟨rfl, rfl⟩
        go_wp2_with fail
        go_meet
        case rel => exact ⟨rfl, rfl⟩
      · rw [hD] at c3
        have hq0 : X.q = 0 := by
          rcases Nat.eq_zero_or_pos X.q with h9 | h9
          · exact h9
          · exact absurd ⟨hD, .inr h9⟩ b3
        rw [hq0] at c1
        have HA := Lib.hid (And.intro hA (And.intro hD (And.intro hZ hq0))); clear hA hD hZ hq0 b2 b3
        go_wp2_with fail
        refine (want_ok 1 _).mono ?_
        rintro e w1 ⟨rfl, rfl⟩
        go_wp2_with fail
        go_meet
        case rel => exact ⟨rfl, rfl⟩
    · rw [hA] at c4
      have hD : X.dead = false := by
        rcases bool_cases X.dead with hD | hD
        · exact hD
        · exact absurd ⟨hD, .inl hA⟩ b3
      rw [hD] at c3
      have HA := Lib.hid (And.intro hA hD); clear hA hD b2 b3
      go_wp2_with fail
      refine (want_ok 1 _).mono ?_
      rintro e w1 ⟨rfl, rfl⟩
      go_wp2_with fail
      go_meet
      case rel => exact ⟨rfl, rfl⟩
  obtain ⟨rfl, rfl⟩ := hcut
  go_upto_region 5 with fail
  have HIv := Lib.hid (HI.out.all (Below.refl _ V).drew)
  have HDv := Lib.hid (HD.out.all (Below.refl _ V).drew)
  clear c0 c1 c2 c3 c4 c5
  refine wp_calm ?_
  go_region_held_law (fun w' => w'.cell? ⟨w.heap.size, 3, none⟩ = some (.bool X.dead) ∧ w'.cell? ⟨w.heap.size, 4, none⟩ = some (.bool X.armed) ∧ w'.cell? ⟨w.heap.size, 5, none⟩ = some (.int .i64 X.left))
    (first | exact load_keep HIv.out | exact load_keep (HIv.out.all hbl) | exact load_keep ((HIv.out.all hbl).all ((Below.refl _ _).alloc (Nat.le_refl _) _)) | exact load_keep2 (HIv.out.all hbl) _)
    (first | (go_at_call 34; ((with_reducible refine (blank_any k hk4 _).mono ?_); rintro e w3 ⟨gs, gb, rfl, hgs, hgb, hgne, hrs, hrb, hbl⟩); (have hbd := fun w => run_build_dsk gs gb k X.dead X.armed X.left w); (have Hrs := Lib.hid (And.intro hrs hrb)); (have o0 := (HIv.out.all hbl).out.cell (i := 0) (by omega)); (have oz := (HIv.out.all hbl).out.frozen 0); (have ol := (HIv.out.all hbl).out.lt); clear hrs hrb))
  refine calm_normal ?_
  have hJ := load_first HIv.out hB HDv.out H1.out H2.out Hkn.out hgs hgb Hrs.out.1 Hrs.out.2 hbl
  rw [World.setCell_alloc_past _ _ _ _ ol] at hJ
  have HJ := Lib.hid hJ
  clear hJ Hrs hbl hbd o0 oz ol HIv HDv HI HD hgs hgb hgne
  generalize w3.heap.size = g at *
  generalize (w3.setCell ⟨w.heap.size + 1, 0, none⟩ (.pointer (some ⟨g, 0, none⟩))).alloc (.cells #[.slice (some ⟨gs, 0, none⟩) k k, .slice (some ⟨gb, 0, none⟩) k k, .slice none 0 0, .bool X.dead, .bool X.armed, .int .i64 X.left] 76) = U at *
  obtain ⟨c0, c1, c2, c3, c4, c5⟩ := HJ.out.load.cells
  have o0 := HJ.out.load.out.cell (i := 0) (by omega)
  obtain ⟨d0, d1, d2, d3, d4, d5⟩ := HJ.out.disk.cells
  have hnk : (X.st 0 0 0).n = k := Hkn.out
  have hck : (X.st 0 0 0).cs = k := Hkn.out
  have hbk : (X.st 0 0 0).cb = k := Hkn.out
  rw [hnk, hck] at d0
  rw [hnk, hbk] at d1
  clear hnk hck hbk
  go_wp2_with fail
  clear c0 c1 c2 c3 c4 c5 d0 d1 d2 d3 d4 d5 o0
  have hmo : Try.prog.follows .mixedOrders = true := by kernel_rfl
  have hsz8 : (Try.prog.info? 5).map (·.size) = some 1 := by kernel_rfl
  have Hsz8 := Lib.hid hsz8; clear hsz8
  go_loopw [78] (fun t wr => ∃ i : Nat, i ≤ k ∧ t = .int .i64 i ∧ LoadJ B w (.slice dx (k * 64) dcap) (.slice qx X.q qcap) (.slice bx X.m bcap) X g gs gb (.slice none 0 0) i 0 0 wr) (fun t _ => k - (intOf t).toNat)
  case atStart => exact ⟨0, by omega, by go_num, HJ.out⟩
  case round =>
    obtain ⟨i, hi, rfl, hI⟩ := hrel
    have HI := Lib.hid hI; clear hI
    have hnk : (X.st i 0 0).n = k := Hkn.out
    have hck : (X.st i 0 0).cs = k := Hkn.out
    by_cases hlt2 : i < k
    · have hdlt : decide ((i : Int) < k) = true := decide_eq_true (by omega)
      obtain ⟨b, off, hdx, hcd, hcells⟩ := HI.out.dev.dataAt Hk.out hk1
      subst hdx
      obtain ⟨c0, -⟩ := HI.out.load.cells
      have o0 := HI.out.load.out.cell (i := 0) (by omega)
      obtain ⟨d0, -⟩ := HI.out.disk.cells
      rw [hnk, hck] at d0
      have Hrow := Lib.hid (show RowAt wr gs 79 ((X.n / 64) * 64) ((X.n / 64) * 64) (secV (X.st i 0 0).sec) from HI.out.disk.sec)
      have Hcells := Lib.hid (hcells.one (i := i * 64) (m := k * 64 - i * 64) (by omega))
      have q1 : (0 : Int) ≤ (i : Int) * 64 := by omega
      have q2 : (i : Int) * 64 ≤ (k : Int) * 64 := by omega
      have q3 : ((i : Int) * 64).toNat = i * 64 := by omega
      have q4 : ¬ (dcap = i * 64) := by omega
      have q6 : IntKind.i64.wrap ((i : Int) * 64) = (i : Int) * 64 := IntWalk.i64_in _ (by omega)
      have hmin : 64 = Nat.min (k * 64 - i * 64) 64 := (Nat.min_eq_right (show 64 ≤ k * 64 - i * 64 by omega)).symm
      have Hmin := Lib.hid hmin
      clear hcells hnk hck hmin
      go_upto_region 9 with fail
      go_still_tail 13, hmo
      refine wpList_copy_t (w := wr.drew) rfl _ _ 27 27 5 79 rfl Try.underlying27 Hsz8.out gs (i * 64) 64 64 _ _ _ rfl Hrow.out.drew b (off + i * 64) (k * 64 - i * 64) (dcap - i * 64) _ rfl Hcells.out (fun _ _ => rfl) 64 Hmin.out (by rw [Hkn.out]; omega) ?_
      intro w4 hrow4 hw4
      have HN := Lib.hid ((HI.out.all (Below.refl _ wr).drew).sec hB hw4 hrow4)
      clear hrow4 hw4 Hrow c0 o0 d0 Hcells
      go_wp2
      go_roundw
      case rel => exact ⟨i + 1, by omega, by go_num, HN.out⟩
      case measure => simp [intOf]; omega
    · obtain rfl : k = i := by omega
      have hdlt : decide ((k : Int) < k) = false := decide_eq_false (by omega)
      obtain ⟨c0, c1, c2, c3, c4, c5⟩ := HI.out.load.cells
      clear HJ
      go_wp2_with fail
      clear c0 c1 c2 c3 c4 c5
      go_loopw [99] (fun t wr => ∃ j : Nat, j ≤ X.q ∧ t = .int .i64 j ∧ X.okQ j ∧ ∃ uv, LoadJ B w (.slice dx (k * 64) dcap) (.slice qx X.q qcap) (.slice bx X.m bcap) X g gs gb uv k j 0 wr) (fun t _ => X.q - (intOf t).toNat)
      case atStart => exact ⟨0, by omega, by go_num, fun i hi => absurd hi (Nat.not_lt_zero i), _, HI.out⟩
      case round =>
        obtain ⟨j, hj, rfl, hok, uv, hI⟩ := hrel
        have HJ := Lib.hid hI; clear hI
        have Hok := Lib.hid hok; clear hok
        by_cases hlt3 : j < X.q
        · have hdlt : decide ((j : Int) < X.q) = true := decide_eq_true (by omega)
          obtain ⟨b, off, ex, ecap, hqx, e0, e1, hba, hbl⟩ := HJ.out.dev.queAt hlt3
          subst hqx
          have Hba := Lib.hid hba; clear hba
          unfold maxLen at hbl
          have hl2 := loadC_aput e0 e1
          have hs2 := fun w => storeC_aput w #[.int .i64 0, .slice none 0 0] rfl (.int .i64 (X.qa j)) (.slice ex (X.ql j) ecap) rfl rfl
          have Hp := Lib.hid (row2 wr (.int .i64 (X.qa j)) (.slice ex (X.ql j) ecap) 62)
          have HJ2 := Lib.hid (HJ.out.all ((Below.refl _ wr).alloc (Nat.le_refl _) (.cells #[.int .i64 (X.qa j), .slice ex (X.ql j) ecap] 62)))
          have hne := HJ.out.load.err.lt
          by_cases hp : 0 ≤ X.qa j
          · obtain ⟨m, hm⟩ : ∃ m : Nat, X.qa j = m := ⟨(X.qa j).toNat, by omega⟩
            have Hm := Lib.hid hm
            rw [hm] at e0 hl2 hs2 Hp HJ2
            clear hp hm
            by_cases hmk : m < k
            · have hdk : decide ((m : Int) < k) = true := decide_eq_true (by omega)
              by_cases hql : X.ql j = 64
              · have Hql := Lib.hid hql
                rw [hql] at e1 hl2 hs2 Hp HJ2 Hba
                clear hql
                go_wp2_with fail
                refine (want_ok 1 _).mono ?_
                rintro e w1 ⟨rfl, rfl⟩
                go_upto_region 15 with fail
                have hb9 : Below wr.heap.size wr (wr.alloc (.cells #[.int .i64 m, .slice ex 64 ecap] 62)) := (Below.refl _ wr).alloc (Nat.le_refl _) _
                have Hba2 := Lib.hid (Hba.out.all hb9)
                clear hl2 hs2 e0 e1 hb9
                generalize wr.alloc (.cells #[.int .i64 m, .slice ex 64 ecap] 62) = wx at *
                obtain ⟨b2, o2, hex, hbc⟩ := bytes_at Hba2.out (by decide)
                subst hex
                have Hrg := Lib.hid (range_sec_cells (W := wx.drew) hbc)
                have Hi2 := Lib.hid (show (Try.prog.info? 79).map (·.size) = some (secL (X.qb j)).length by rw [secL_len]; exact size_sec)
                have Hb2x := Lib.hid (hbc.lt (by decide))
                have Hb2l := Lib.hid (show b2 < (wx.drew.alloc (.cells (Value.int .i64 (m : Int) :: secL (X.qb j)).toArray 81)).heap.size from by have := Hb2x.out; simp; omega)
                have harr := fun w => run_arrayAt_sec ⟨b2, o2, none⟩ 64 ecap (by decide) w
                have hbd := fun (w : World) => run_build_put (m : Int) (X.qb j) w
                have hbs := fun (w : World) => run_bs_one (P := Try.prog) w 74 81 (Value.int .i64 (m : Int) :: secL (X.qb j)).toArray 65 Try.underlying74 (by obtain ⟨z, hz, _⟩ := info_putd; exact info_of_map hz) (by decide) (by decide) (by simp [secL_len])
                have Hrow := Lib.hid (show Cells _ wx.drew.heap.size 0 (1 * 65) _ from (box_put wx.drew m (X.qb j)).reads)
                have HJ3 := Lib.hid (HJ2.out.all (((Below.refl _ wx).drew).alloc (Nat.le_refl _) (.cells (Value.int .i64 (m : Int) :: secL (X.qb j)).toArray 81)))
                obtain ⟨ux, ucap, huv⟩ := HJ2.out.disk.que.slice
                have hjq : (X.st k j 0).q = j := rfl
                rw [hjq] at huv
                subst huv
                have Hown := Lib.hid (show OwnK _ w.heap.size 81 65 _ j _ from HJ3.out.disk.que.own)
                have Hb2n := Lib.hid (bytes_ne (w0 := wx.drew.alloc (.cells (Value.int .i64 (m : Int) :: secL (X.qb j)).toArray 81)) Hba2.out (by decide) ((Below.refl _ wx.drew).alloc (Nat.le_refl _) _) hB Hown.out)
                obtain ⟨d0, d1, d2, d3, d4, d5⟩ := HJ2.out.disk.cells
                have o0 := HJ2.out.load.out.cell (i := 0) (by omega)
                have p0 : wx.cell? ⟨wr.heap.size, 0, none⟩ = some (.int .i64 m) := Hp.out.cell (i := 0) (by omega)
                have p1 : wx.cell? ⟨wr.heap.size, 1, none⟩ = some (.slice (some ⟨b2, o2, none⟩) 64 ecap) := Hp.out.cell (i := 1) (by omega)
                obtain ⟨zp, hzp⟩ := info_putd
                have ZP := Lib.hid hzp
                have hlen := secL_len (X.qb j)
                have Hqa := Lib.hid (show 0 ≤ X.qa j ∧ X.qa j < (X.n / 64 : Nat) from by rw [Hm.out, Hkn.out]; omega)
                have Hmt := Lib.hid (show (X.qa j).toNat = m from by rw [Hm.out]; rfl)
                have Hsz := Lib.hid (show w.heap.size ≤ (wx.drew.alloc (.cells (Value.int .i64 (m : Int) :: secL (X.qb j)).toArray 81)).heap.size from HJ3.out.load.below.size)
                clear hbc hzp hjq
                generalize secL (X.qb j) = cs at *
                have HS0 := Lib.hid (show LoadS (w.heap.size + 1) g wr.heap.size b2 o2 (.slice ux j ucap) (.slice (some ⟨b2, o2, none⟩) 64 ecap) m cs wx.drew from ⟨o0, d2, p0, p1, Hrg.out⟩)
                have hb8 : Below wx.drew.heap.size wx.drew (wx.drew.alloc (.cells (Value.int .i64 (m : Int) :: cs).toArray 81)) := (Below.refl _ wx.drew).alloc (Nat.le_refl _) _
                have HS3 := Lib.hid (HS0.out.move (hb8.block _ HJ2.out.load.out.lt) (hb8.block _ HJ2.out.disk.row.lt) (hb8.block _ Hp.out.lt) (hb8.block _ Hb2x.out))
                have Hp3 := Lib.hid (Hp.out.drew.all hb8)
                clear hb8
                refine wp_calm ?_
                refine wp_region_J 16 (LoadS (w.heap.size + 1) g wr.heap.size b2 o2 (.slice ux j ucap) (.slice (some ⟨b2, o2, none⟩) 64 ecap) m cs) hmo ?_
                refine wpAnyJ_take (i := 0) (v := ?_) (by kernel_rfl) rfl (by kernel_rfl) (by kernel_rfl) (by kernel_rfl) (fun _ _ _ h => h) HS0.out (yieldsIf_run (by rfl) ?_) ?_
                rotate_left 1
                · intro w hSw; (unfold LoadS at hSw); (go_simp <;> with_reducible rfl)
                (try simp only [Act.put, List.setIfInBounds_toArray, List.set_cons_zero, List.set_cons_succ])
                refine wpAnyJ_take (i := 1) (v := ?_) (by kernel_rfl) rfl (by kernel_rfl) (by kernel_rfl) (by kernel_rfl) (fun _ _ _ h => h) HS0.out (yieldsIf_run (by rfl) ?_) ?_
                rotate_left 1
                · intro w hSw; (unfold LoadS at hSw); (go_simp <;> with_reducible rfl)
                (try simp only [Act.put, List.setIfInBounds_toArray, List.set_cons_zero, List.set_cons_succ])
                refine wpAnyJ_take (i := 2) (v := ?_) (by kernel_rfl) rfl (by kernel_rfl) (by kernel_rfl) (by kernel_rfl) (fun _ _ _ h => h) HS0.out (yieldsIf_run (by rfl) ?_) ?_
                rotate_left 1
                · intro w hSw; (unfold LoadS at hSw); (go_simp <;> with_reducible rfl)
                (try simp only [Act.put, List.setIfInBounds_toArray, List.set_cons_zero, List.set_cons_succ])
                refine wpAnyJ_take (i := 3) (v := ?_) (by kernel_rfl) rfl (by kernel_rfl) (by kernel_rfl) (by kernel_rfl) (fun _ _ _ h => h) HS0.out (yieldsIf_run (by rfl) ?_) ?_
                rotate_left 1
                · intro w hSw; (unfold LoadS at hSw); (go_simp <;> with_reducible rfl)
                (try simp only [Act.put, List.setIfInBounds_toArray, List.set_cons_zero, List.set_cons_succ])
                refine wpAnyJ_take (i := 4) (v := ?_) (by kernel_rfl) rfl (by kernel_rfl) (by kernel_rfl) (by kernel_rfl) (fun _ _ _ h => h) HS0.out (yieldsIf_run (by rfl) ?_) ?_
                rotate_left 1
                · intro w hSw; (unfold LoadS at hSw); (go_simp <;> with_reducible rfl)
                (try simp only [Act.put, List.setIfInBounds_toArray, List.set_cons_zero, List.set_cons_succ])
                refine wpAnyJ_take (i := 5) (v := ?_) (by kernel_rfl) rfl (by kernel_rfl) (by kernel_rfl) (by kernel_rfl) (fun _ _ _ h => h) HS0.out (yieldsIf_run (by rfl) ?_) ?_
                rotate_left 1
                · intro w hSw; (unfold LoadS at hSw); (go_simp <;> with_reducible rfl)
                (try simp only [Act.put, List.setIfInBounds_toArray, List.set_cons_zero, List.set_cons_succ])
                refine wpAnyJ_take (i := 6) (v := ?_) (by kernel_rfl) rfl (by kernel_rfl) (by kernel_rfl) (by kernel_rfl) (fun _ _ _ h => h) HS0.out (yieldsIf_run (by rfl) ?_) ?_
                rotate_left 1
                · intro w hSw; (unfold LoadS at hSw); (go_simp <;> with_reducible rfl)
                (try simp only [Act.put, List.setIfInBounds_toArray, List.set_cons_zero, List.set_cons_succ])
                refine wpAnyJ_take (i := 7) (v := ?_) (by kernel_rfl) rfl (by kernel_rfl) (by kernel_rfl) (by kernel_rfl) (fun _ _ _ h => h) HS0.out (yieldsIf_run (by rfl) ?_) ?_
                rotate_left 1
                · intro w hSw; (unfold LoadS at hSw); (go_simp <;> with_reducible rfl)
                (try simp only [Act.put, List.setIfInBounds_toArray, List.set_cons_zero, List.set_cons_succ])
                refine wpAnyJ_take (i := 8) (v := ?_) (by kernel_rfl) rfl (by kernel_rfl) (by kernel_rfl) (by kernel_rfl) (fun _ _ _ h => h) HS0.out (yieldsIf_run (by rfl) ?_) ?_
                rotate_left 1
                · intro w hSw; (unfold LoadS at hSw); (go_simp <;> with_reducible rfl)
                (try simp only [Act.put, List.setIfInBounds_toArray, List.set_cons_zero, List.set_cons_succ])
                refine wpAnyJ_take (i := 9) (by kernel_rfl) rfl (by kernel_rfl) (by kernel_rfl) (by kernel_rfl) (fun _ _ _ h => h) HS0.out (yieldsIf_run (by rfl) (v := .pointer (some ⟨b2, o2, none⟩)) (fun w hSw => by unfold LoadS at hSw; go_simp)) ?_
                (try simp only [Act.put, List.setIfInBounds_toArray, List.set_cons_zero, List.set_cons_succ])
                refine wpAnyJ_take (i := 10) (by kernel_rfl) rfl (by kernel_rfl) (by kernel_rfl) (by kernel_rfl) (fun _ _ _ h => h) HS0.out (yieldsIf_load_mid (by rfl) 79 _ rfl b2 o2 rfl cs _ (fun w hSw => hSw.2.2.2.2) under_sec rfl Hi2.out) ?_
                (try simp only [Act.put, List.setIfInBounds_toArray, List.set_cons_zero, List.set_cons_succ])
                refine wpAnyJ_take (i := 11) (by kernel_rfl) rfl (by kernel_rfl) (by kernel_rfl) (by kernel_rfl) (fun _ _ _ h => h) HS0.out (yieldsIf_run (by rfl) (v := .agg (Value.int .i64 (m : Int) :: cs).toArray) (fun w hSw => by clear hSw; go_simp)) ?_
                (try simp only [Act.put, List.setIfInBounds_toArray, List.set_cons_zero, List.set_cons_succ])
                refine wpAnyJ_one (i := 12) (by kernel_rfl) rfl (fun K hK => ?_)
                replace hK := Lib.hid hK
                rw [if_pos (by rfl)]
                go_simp
                refine hK.out _ _ (.inl HS3.out) ?_
                clear hK
                (try simp only [Act.put, List.setIfInBounds_toArray, List.set_cons_zero, List.set_cons_succ])
                refine wpAnyJ_one (i := 13) (by kernel_rfl) rfl (fun K hK => ?_)
                replace hK := Lib.hid hK
                refine step_append_k (w := wx.drew.alloc (.cells (Value.int .i64 (m : Int) :: cs).toArray 81)) (by rfl) _ _ 74 81 zp 65 72 (by rfl) Try.underlying74 ZP.out.1 ZP.out.2 (by decide) w.heap.size (.slice ux j ucap) j (putV (X.st k j 0).qa (X.st k j 0).qb) (by rfl) Hown.out wx.drew.heap.size 0 1 1 (putV (fun _ => m) (fun _ => X.qb j)) (by rfl) Hrow.out (fun j _ => putV_one _ _ j) (by omega) (by decide) Hsz.out ?_
                intro uv' w4 hown' hgr
                obtain ⟨ua, uc, rfl⟩ := hown'.slice
                have HN := Lib.hid (HJ3.out.put hB hlt3 a4 Hqa.out (by rw [Hmt.out]; exact hown') hgr)
                obtain ⟨_, ⟨u9, k30⟩, z30⟩ := HN.out
                have HS4 := Lib.hid (HS3.out.move (hgr.block _ HJ3.out.load.out.lt (fun e => by have := Hown.out.typed e.symm HJ3.out.load.out; revert this; decide)) (hgr.block _ HJ3.out.disk.row.lt (fun e => by have := Hown.out.typed e.symm HJ3.out.disk.row; revert this; decide)) (hgr.block _ Hp3.out.lt (fun e => by have := Hown.out.typed e.symm Hp3.out; revert this; decide)) (hgr.block b2 Hb2l.out Hb2n.out))
                clear hown' hgr
                refine hK.out _ _ (.inl HS4.out) ?_
                clear hK
                (try simp only [Act.put, List.setIfInBounds_toArray, List.set_cons_zero, List.set_cons_succ])
                refine wpAnyJ_one (i := 14) (by kernel_rfl) rfl (fun K hK => ?_)
                replace hK := Lib.hid hK
                rw [if_pos (by rfl)]
                go_simp
                refine hK.out _ _ (.inl HS4.out) ?_
                clear hK
                (try simp only [Act.put, List.setIfInBounds_toArray, List.set_cons_zero, List.set_cons_succ])
                refine wpAnyJ_one (i := 15) (by kernel_rfl) rfl (fun K hK => ?_)
                replace hK := Lib.hid hK
                rw [if_pos (by rfl)]
                go_simp
                refine hK.out _ _ (.inl HS4.out) ?_
                clear hK
                (try simp only [Act.put, List.setIfInBounds_toArray, List.set_cons_zero, List.set_cons_succ])
                refine wpAnyJ_one (i := 16) (by kernel_rfl) rfl (fun K hK => ?_)
                replace hK := Lib.hid hK
                rw [if_pos (by rfl)]
                go_simp
                refine hK.out _ _ (.inr rfl) ?_
                clear hK
                (try simp only [Act.put, List.setIfInBounds_toArray, List.set_cons_zero, List.set_cons_succ])
                refine wpAnyJ_done (by kernel_rfl) ?_ _
                refine calm_normal ?_
                have Hok2 := Lib.hid (show X.okQ (j + 1) from fun i hi => by
                  by_cases hij : i = j
                  · subst hij
                    exact ⟨Hqa.out.1, Hqa.out.2, Hql.out⟩
                  · exact Hok.out i (by omega))
                clear d0 d1 d2 d3 d4 d5 o0 p0 p1
                go_wp2
                go_roundw
                case rel => exact ⟨j + 1, by omega, by go_num, Hok2.out, _, HN.out.1⟩
                case measure => simp [intOf]; omega
              · have hdq : ((X.ql j : Int) == 64) = false := by rw [beq_eq_false_iff_ne]; omega
                have Hno := Lib.hid (show ¬ X.Right from fun hr => hql (hr.h3 j hlt3).2.2)
                clear hql
                go_wp2_with fail
                refine (want_not 1 _).mono ?_
                rintro e w1 ⟨rfl, rfl⟩
                clear hl2 hs2
                generalize wr.alloc (.cells #[.int .i64 m, .slice ex (X.ql j) ecap] 62) = wx at *
                go_wp2
                refine leaves_cons (f := 32) (args := #[.pointer (some ⟨w.heap.size + 1, 0, none⟩), .pointer (some ⟨w.heap.size + 1 + 1, 0, none⟩)]) (by simp) (by simp [go_sem]) ?_
                refine HJ2.out.load.catch.mono ?_
                rintro e u' w'' ⟨rfl, rfl, rfl⟩
                have y0 := HJ2.out.load.fin.1
                have y1 := HJ2.out.load.fin.2.1
                have Hbb := Lib.hid HJ2.out.load.fin.2.2
                simp [Leaves, settle, results, Try.results28, go_sem, y0, y1, failR]
                exact .inl ⟨Hno.out, rfl, Hbb.out⟩
            · have hdk : decide ((m : Int) < k) = false := decide_eq_false (by omega)
              have Hno := Lib.hid (show ¬ X.Right from fun hr => by
                have h9 := (hr.h3 j hlt3).2.1
                rw [Hm.out, Hkn.out] at h9
                omega)
              go_wp2_with fail
              refine (want_not 1 _).mono ?_
              rintro e w1 ⟨rfl, rfl⟩
              clear hl2 hs2
              generalize wr.alloc (.cells #[.int .i64 m, .slice ex (X.ql j) ecap] 62) = wx at *
              go_wp2
              refine leaves_cons (f := 32) (args := #[.pointer (some ⟨w.heap.size + 1, 0, none⟩), .pointer (some ⟨w.heap.size + 1 + 1, 0, none⟩)]) (by simp) (by simp [go_sem]) ?_
              refine HJ2.out.load.catch.mono ?_
              rintro e u' w'' ⟨rfl, rfl, rfl⟩
              have y0 := HJ2.out.load.fin.1
              have y1 := HJ2.out.load.fin.2.1
              have Hbb := Lib.hid HJ2.out.load.fin.2.2
              simp [Leaves, settle, results, Try.results28, go_sem, y0, y1, failR]
              exact .inl ⟨Hno.out, rfl, Hbb.out⟩
          · have hdp : decide (0 ≤ X.qa j) = false := decide_eq_false hp
            have Hno := Lib.hid (show ¬ X.Right from fun hr => hp (hr.h3 j hlt3).1)
            clear hp
            go_wp2_with fail
            refine (want_not 1 _).mono ?_
            rintro e w1 ⟨rfl, rfl⟩
            clear hl2 hs2
            generalize wr.alloc (.cells #[.int .i64 (X.qa j), .slice ex (X.ql j) ecap] 62) = wx at *
            go_wp2
            refine leaves_cons (f := 32) (args := #[.pointer (some ⟨w.heap.size + 1, 0, none⟩), .pointer (some ⟨w.heap.size + 1 + 1, 0, none⟩)]) (by simp) (by simp [go_sem]) ?_
            refine HJ2.out.load.catch.mono ?_
            rintro e u' w'' ⟨rfl, rfl, rfl⟩
            have y0 := HJ2.out.load.fin.1
            have y1 := HJ2.out.load.fin.2.1
            have Hbb := Lib.hid HJ2.out.load.fin.2.2
            simp [Leaves, settle, results, Try.results28, go_sem, y0, y1, failR]
            exact .inl ⟨Hno.out, rfl, Hbb.out⟩
        · have hjq : j = X.q := by omega
          rw [hjq] at HJ Hok ⊢
          have hdlt : decide ((X.q : Int) < X.q) = false := decide_eq_false (by omega)
          obtain ⟨c0, c1, c2, c3, c4, c5⟩ := HJ.out.load.cells
          clear HI hjq hlt3
          go_wp2_with fail
          clear c0 c1 c2 c3 c4 c5
          go_loopw [139] (fun t wr => ∃ l : Nat, l ≤ X.m ∧ t = .int .i64 l ∧ X.okB l ∧ LoadJ B w (.slice dx (k * 64) dcap) (.slice qx X.q qcap) (.slice bx X.m bcap) X g gs gb uv k X.q l wr) (fun t _ => X.m - (intOf t).toNat)
          case atStart => exact ⟨0, by omega, by go_num, fun i hi => absurd hi (Nat.not_lt_zero i), HJ.out⟩
          case round =>
            obtain ⟨l, hl, rfl, hob, hI⟩ := hrel
            have HL := Lib.hid hI; clear hI
            have Hob := Lib.hid hob; clear hob
            by_cases hlt4 : l < X.m
            · have hdlt : decide ((l : Int) < X.m) = true := decide_eq_true (by omega)
              obtain ⟨b, off, hbx, hcells⟩ := HL.out.dev.badAt hlt4
              subst hbx
              obtain ⟨c0, c1, c2, c3, c4, c5⟩ := HL.out.load.cells
              have e0 : wr.cell? ⟨b, off + l, none⟩ = some (.int .i64 (X.bad l)) := hcells l hlt4
              have Hc := Lib.hid hcells; clear hcells
              by_cases hp : 0 ≤ X.bad l
              · obtain ⟨m, hm⟩ : ∃ m : Nat, X.bad l = m := ⟨(X.bad l).toNat, by omega⟩
                have Hm := Lib.hid hm
                rw [hm] at e0
                clear hp hm
                by_cases hmk : m < k
                · have hdk : decide ((m : Int) < k) = true := decide_eq_true (by omega)
                  have HmK := Lib.hid hmk; clear hmk
                  by_cases hl0 : l = 0
                  · have hb0 : ((l : Int) == 0) = true := by rw [beq_iff_eq]; omega
                    have Hob2 := Lib.hid (okB_next Hob.out Hm.out (by have := HmK.out; have := Hkn.out; omega) (.inl hl0))
                    clear hl0
                    have hmk := HmK.out
                    have o0 := HL.out.load.out.cell (i := 0) (by omega)
                    obtain ⟨d0, d1, d2, d3, d4, d5⟩ := HL.out.disk.cells
                    have hnk2 : (X.st k X.q l).n = k := Hkn.out
                    have hbk2 : (X.st k X.q l).cb = k := Hkn.out
                    rw [hnk2, hbk2] at d1
                    have eb := HL.out.disk.bad.cell (i := m) (by rw [hnk2]; omega)
                    have zb := HL.out.disk.bad.frozen m
                    have HN := Lib.hid (HL.out.bad hB Hm.out)
                    clear hnk2 hbk2
                    go_wp2_with fail
                    refine (want_ok 1 _).mono ?_
                    rintro e w1 ⟨rfl, rfl⟩
                    go_wp2
                    go_roundw
                    case rel => exact ⟨l + 1, by omega, by go_num, Hob2.out, HN.out⟩
                    case measure => simp [intOf]; omega
                  · have hb0 : ((l : Int) == 0) = false := by rw [beq_eq_false_iff_ne]; omega
                    have e9 : wr.cell? ⟨b, off + (l - 1), none⟩ = some (.int .i64 (X.bad (l - 1))) := Hc.out (l - 1) (by omega)
                    have q1 : (0 : Int) ≤ (l : Int) - 1 := by omega
                    have q2 : ((l : Int) - 1).toNat = l - 1 := by omega
                    have q3 : IntKind.i64.wrap ((l : Int) - 1) = (l : Int) - 1 := IntWalk.i64_in _ (by omega)
                    have q4 : (l : Int) - 1 < X.m := by omega
                    have q5 : 1 ≤ (l : Int) := by omega
                    have Hl0 := Lib.hid hl0; clear hl0
                    by_cases hgt : X.bad (l - 1) < m
                    · have hdg : decide (X.bad (l - 1) < (m : Int)) = true := decide_eq_true hgt
                      have Hob2 := Lib.hid (okB_next Hob.out Hm.out (by have := HmK.out; have := Hkn.out; omega) (.inr (by rw [Hm.out]; exact hgt)))
                      clear hgt
                      have hmk := HmK.out
                      generalize X.bad (l - 1) = y at *
                      have o0 := HL.out.load.out.cell (i := 0) (by omega)
                      obtain ⟨d0, d1, d2, d3, d4, d5⟩ := HL.out.disk.cells
                      have hnk2 : (X.st k X.q l).n = k := Hkn.out
                      have hbk2 : (X.st k X.q l).cb = k := Hkn.out
                      rw [hnk2, hbk2] at d1
                      have eb := HL.out.disk.bad.cell (i := m) (by rw [hnk2]; omega)
                      have zb := HL.out.disk.bad.frozen m
                      have HN := Lib.hid (HL.out.bad hB Hm.out)
                      clear hnk2 hbk2
                      go_wp2_with fail
                      refine (want_ok 1 _).mono ?_
                      rintro e w1 ⟨rfl, rfl⟩
                      go_wp2
                      go_roundw
                      case rel => exact ⟨l + 1, by omega, by go_num, Hob2.out, HN.out⟩
                      case measure => simp [intOf]; omega
                    · have hdg : decide (X.bad (l - 1) < (m : Int)) = false := decide_eq_false hgt
                      have Hno := Lib.hid (show ¬ X.Right from fun hr => by
                        rcases (hr.h4 l hlt4).2.2 with h9 | h9
                        · exact Hl0.out h9
                        · rw [Hm.out] at h9; exact hgt h9)
                      clear hgt
                      generalize X.bad (l - 1) = y at *
                      go_wp2_with fail
                      refine (want_not 1 _).mono ?_
                      rintro e w1 ⟨rfl, rfl⟩
                      go_wp2
                      refine leaves_cons (f := 32) (args := #[.pointer (some ⟨w.heap.size + 1, 0, none⟩), .pointer (some ⟨w.heap.size + 1 + 1, 0, none⟩)]) (by simp) (by simp [go_sem]) ?_
                      refine HL.out.load.catch.mono ?_
                      rintro e u' w'' ⟨rfl, rfl, rfl⟩
                      have y0 := HL.out.load.fin.1
                      have y1 := HL.out.load.fin.2.1
                      have Hbb := Lib.hid HL.out.load.fin.2.2
                      simp [Leaves, settle, results, Try.results28, go_sem, y0, y1, failR]
                      exact .inl ⟨Hno.out, rfl, Hbb.out⟩
                · have hdk : decide ((m : Int) < k) = false := decide_eq_false (by omega)
                  have Hno := Lib.hid (show ¬ X.Right from fun hr => by
                    have h9 := (hr.h4 l hlt4).2.1
                    rw [Hm.out, Hkn.out] at h9
                    omega)
                  go_wp2_with fail
                  refine (want_not 1 _).mono ?_
                  rintro e w1 ⟨rfl, rfl⟩
                  go_wp2
                  refine leaves_cons (f := 32) (args := #[.pointer (some ⟨w.heap.size + 1, 0, none⟩), .pointer (some ⟨w.heap.size + 1 + 1, 0, none⟩)]) (by simp) (by simp [go_sem]) ?_
                  refine HL.out.load.catch.mono ?_
                  rintro e u' w'' ⟨rfl, rfl, rfl⟩
                  have y0 := HL.out.load.fin.1
                  have y1 := HL.out.load.fin.2.1
                  have Hbb := Lib.hid HL.out.load.fin.2.2
                  simp [Leaves, settle, results, Try.results28, go_sem, y0, y1, failR]
                  exact .inl ⟨Hno.out, rfl, Hbb.out⟩
              · have hdp : decide (0 ≤ X.bad l) = false := decide_eq_false hp
                have Hno := Lib.hid (show ¬ X.Right from fun hr => hp (hr.h4 l hlt4).1)
                clear hp
                go_wp2_with fail
                refine (want_not 1 _).mono ?_
                rintro e w1 ⟨rfl, rfl⟩
                go_wp2
                refine leaves_cons (f := 32) (args := #[.pointer (some ⟨w.heap.size + 1, 0, none⟩), .pointer (some ⟨w.heap.size + 1 + 1, 0, none⟩)]) (by simp) (by simp [go_sem]) ?_
                refine HL.out.load.catch.mono ?_
                rintro e u' w'' ⟨rfl, rfl, rfl⟩
                have y0 := HL.out.load.fin.1
                have y1 := HL.out.load.fin.2.1
                have Hbb := Lib.hid HL.out.load.fin.2.2
                simp [Leaves, settle, results, Try.results28, go_sem, y0, y1, failR]
                exact .inl ⟨Hno.out, rfl, Hbb.out⟩
            · have hlm : l = X.m := by omega
              rw [hlm] at HL Hob ⊢
              have hdlt : decide ((X.m : Int) < X.m) = false := decide_eq_false (by omega)
              have o0 := HL.out.load.out.cell (i := 0) (by omega)
              have oz := HL.out.load.out.frozen 0
              have e0 := HL.out.load.err.cell (i := 0) (by omega)
              have ez := HL.out.load.err.frozen 0
              have hfin := load_last HL.out
              have hrd : X.st k X.q X.m = X.dsk := by unfold Dev.dsk; rw [Hkn.out]
              rw [hrd] at hfin
              have HF := Lib.hid hfin
              have y0 := Lib.hid hfin.1
              have y1 := Lib.hid hfin.2.1
              have Hri := Lib.hid (show X.Right from ⟨H1.out, H2.out, Hok.out, Hob.out⟩)
              clear hfin hrd hlm
              go_wp2
              refine leaves_cons (f := 32) (args := #[.pointer (some ⟨w.heap.size + 1, 0, none⟩), .pointer (some ⟨w.heap.size + 1 + 1, 0, none⟩)]) (by simp) (by simp [go_sem]) ?_
              refine (catch_idle_d _ _ _).mono ?_
              rintro e u' w'' ⟨rfl, rfl, rfl⟩
              simp [Leaves, settle, results, Try.results28, go_sem, y0.out, y1.out]
              exact .inr ⟨Hri.out, _, _, _, _, rfl, HF.out.2.2.1, HF.out.2.2.2⟩

end Go.Proofs.Ytjhcaedfknhilaa
