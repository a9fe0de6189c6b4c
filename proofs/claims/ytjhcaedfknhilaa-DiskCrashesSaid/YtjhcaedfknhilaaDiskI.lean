/- Disk: perform. -/
import Derived.Test.YtjhcaedfknhilaaDiskH
import Derived.StillTailTactics
namespace Go.Proofs.Ytjhcaedfknhilaa
open Go.RowKit
attribute [local go_sem ↓] Go.wp_at_zero Go.wp_at_succ

/-- An element of the queue as a value. -/
def putA (a : Nat) (f : Nat → Int) : Value := .agg (Value.int .i64 a :: secL f).toArray

def Dsk.perform (D : Dsk) (a : Nat) (f : Nat → Int) : Dsk := { D with sec := fun i j => if i = a then f j else D.sec i j, bad := fun i => if i = a then false else D.bad i }

theorem secV_range {W : World} {g : Nat} {e : TypeId} {c n : Nat} {F : Nat → Nat → Int} (h : RowAt W g e c (n * 64) (secV F)) {i : Nat} (hi : i < n) : W.rangeAt g (i * 64) (secL (F i)) := by
  intro j v hj
  have hj64 : j < 64 := by
    rcases Nat.lt_or_ge j 64 with h1 | h1
    · exact h1
    · rw [List.getElem?_eq_none (by rw [secL_len]; exact h1)] at hj; cases hj
  rw [secL_get (F i) hj64] at hj
  cases hj
  have hk : i * 64 + j < n * 64 := by omega
  have := h.cell hk
  unfold secV at this
  rw [show (i * 64 + j) / 64 = i from by omega, show (i * 64 + j) % 64 = j from by omega] at this
  exact this

theorem RowAt.there {W : World} {g : Nat} {e : TypeId} {c n : Nat} {F : Nat → Value} (h : RowAt W g e c n F) {o m : Nat} (hm : o + m ≤ n) : W.there g o m := fun j hj =>
  ⟨by rw [h.cell (i := o + j) (by omega)]; rfl, h.frozen _⟩

theorem size_sec : (Try.prog.info? 79).map (·.size) = some 64 := by kernel_rfl

theorem guard_sec : Try.prog.eqGuardType Try.prog.depth 79 = false := by kernel_rfl

/-- A put in a box of its own. -/
theorem box_put (w : World) (a : Nat) (f : Nat → Int) : RowAt (w.alloc (.cells (Value.int .i64 a :: secL f).toArray 81)) w.heap.size 81 65 65 (putV (fun _ => a) (fun _ => f)) :=
  row_of w _ _ _ (by simp [secL_len]) (fun i hi => by
    rw [List.getElem?_toArray]
    cases i with
    | zero => rfl
    | succ j =>
      rw [List.getElem?_cons_succ, secL_get f (by omega)]
      unfold putV
      rw [if_neg (by omega), show (j + 1) % 65 - 1 = j from by omega]) rfl
theorem putV_range {W : World} {g : Nat} {e : TypeId} {c n : Nat} {A : Nat → Nat} {F : Nat → Nat → Int} (h : RowAt W g e c (n * 65) (putV A F)) {i : Nat} (hi : i < n) :
    W.cell? ⟨g, i * 65, none⟩ = some (.int .i64 (A i)) ∧ W.rangeAt g (i * 65 + 1) (secL (F i)) := by
  constructor
  · have := h.cell (i := i * 65) (by omega)
    unfold putV at this
    rw [if_pos (by omega), show i * 65 / 65 = i from by omega] at this
    exact this
  · intro j v hj
    have hj64 : j < 64 := by
      rcases Nat.lt_or_ge j 64 with h1 | h1
      · exact h1
      · rw [List.getElem?_eq_none (by rw [secL_len]; exact h1)] at hj; cases hj
    rw [secL_get (F i) hj64] at hj
    cases hj
    have := h.cell (i := i * 65 + 1 + j) (by omega)
    unfold putV at this
    rw [if_neg (by omega), show (i * 65 + 1 + j) / 65 = i from by omega, show (i * 65 + 1 + j) % 65 - 1 = j from by omega] at this
    exact this

theorem still_load {P : Program} {ops : Array Oper} {w : World} {Q : Act → Prop} {a : Act} {o : Oper} {rest : List Oper} (hg : Region.wanted o (yielded ops a.tmps) = true) (ty : TypeId) (x : Operand) (ho : o.op = .load ty x)
    (p : Addr) (hx : a.eval x = .pointer (some p)) (v : Value) (hrun : (Instr.loadAt ty (.pointer (some p))).run P w = .ok v w) (h : wpStill P ops w Q rest (a.put o.dst v)) : wpStill P ops w Q (o :: rest) a := by
  unfold wpStill
  rw [if_pos hg]
  unfold Oper.still execOp
  rw [ho]
  simp only [hx, Sem.run_bind, hrun, Result.andThen_ok, Sem.run_pure]
  exact ⟨rfl, h⟩

theorem DiskIn.perform {B g gs gb : Nat} {qv : Value} {D : Dsk} {W : World} (h : DiskIn B g gs gb qv D W) {a : Nat} (ha : a < D.n) (f : Nat → Int) (hf : ∀ j, 0 ≤ f j ∧ f j < 256) :
    DiskIn B g gs gb qv (D.perform a f) ((W.setCells gs (a * 64) (secL f)).setCell ⟨gb, a, none⟩ (.bool false)) := by
  obtain ⟨n1, n2, n3⟩ := h.ne
  have ho := h.ok
  obtain ⟨hs, hw⟩ := RowAt.setCells (secL f) (a * 64) h.sec
  have hbad := h.bad.wrote hw (Ne.symm n3)
  refine ⟨(h.row.wrote hw n1).setOther _ _ (Ne.symm n2), (hs.congr fun i hi => ?_).setOther _ _ (Ne.symm n3), (hbad.set a (.bool false)).congr fun i _ => ?_, ?_, h.base, ⟨ho.size, fun i j => ?_, ho.queue, ho.put, ho.pbyte, ho.left⟩⟩
  · rw [secL_len]
    unfold secV Dsk.perform
    dsimp only
    by_cases hin : a * 64 ≤ i ∧ i < a * 64 + 64
    · rw [if_pos hin, if_pos (by omega), List.getD_eq_getElem?_getD, secL_get f (by omega), show i % 64 = i - a * 64 from by omega]
      rfl
    · rw [if_neg hin, if_neg (by omega)]
  · unfold badV Dsk.perform
    dsimp only
    by_cases hia : i = a
    · rw [if_pos hia, if_pos hia]
    · rw [if_neg hia, if_neg hia]
  · rcases h.que with hq | ⟨gq, cap, q1, q2, q3, q4⟩
    · exact .inl hq
    · exact .inr ⟨gq, cap, q1, q2, (q3.wrote hw (q3.neType h.sec (by decide))).setOther _ _ (h.bad.neType q3 (by decide)), q4⟩
  · show 0 ≤ (if i = a then f j else D.sec i j) ∧ (if i = a then f j else D.sec i j) < 256
    split
    · exact hf j
    · exact ho.byte i j

theorem DiskIn.perform_same {B g gs gb : Nat} {qv : Value} {D : Dsk} {W : World} (h : DiskIn B g gs gb qv D W) {a : Nat} (f : Nat → Int) (hf : ∀ j, 0 ≤ f j ∧ f j < 256) (hor : (D.bad a || !sameS (D.sec a) f) = false) : DiskIn B g gs gb qv (D.perform a f) W := by
  have ho := h.ok
  obtain ⟨hb, hs⟩ : D.bad a = false ∧ sameS (D.sec a) f = true := by simpa using hor
  have hs := sameS_iff.1 hs
  refine ⟨h.row, h.sec.congr fun i hi => ?_, h.bad.congr fun i hi => ?_, h.que, h.base, ⟨ho.size, fun i j => ?_, ho.queue, ho.put, ho.pbyte, ho.left⟩⟩
  · unfold secV Dsk.perform
    dsimp only
    by_cases hia : i / 64 = a
    · rw [if_pos hia, hia, hs _ (Nat.mod_lt _ (by decide))]
    · rw [if_neg hia]
  · unfold badV Dsk.perform
    dsimp only
    by_cases hia : i = a
    · rw [if_pos hia, hia, hb]
    · rw [if_neg hia]
  · show 0 ≤ (if i = a then f j else D.sec i j) ∧ (if i = a then f j else D.sec i j) < 256
    split
    · exact hf j
    · exact ho.byte i j

/-- A load by a law, in a region whose operations only read. -/
theorem quiet_load {P : Program} {ops : Array Oper} {C : World → Prop} {Q : Act → Prop} {a : Act} {o : Oper} {rest : List Oper} (hg : Region.wanted o (yielded ops a.tmps) = true) (ty : TypeId) (x : Operand) (ho : o.op = .load ty x)
    (p : Addr) (hx : a.eval x = .pointer (some p)) (v : Value) (hrun : ∀ w, C w → (Instr.loadAt ty (.pointer (some p))).run P w = .ok v w) (h : wpQuiet P ops C Q rest (a.put o.dst v)) : wpQuiet P ops C Q (o :: rest) a := by
  unfold wpQuiet
  rw [if_pos hg]
  refine ⟨v, fun w hw => ?_, h⟩
  unfold Oper.quietAt execOp
  rw [ho]
  simp only [hx, Sem.run_bind, hrun w hw, Result.andThen_ok, Sem.run_pure]
  exact ⟨rfl, rfl⟩

theorem perfS {W : World} {g gs bx n a cn : Nat} {A B C D E F : Value} {G : Nat → Value} {f : Nat → Int} (hr : RowAt W g 76 6 6 (st6 A B C D E F)) (hs : RowAt W gs 79 cn (n * 64) G)
    (hx : RowAt W bx 81 65 65 (putV (fun _ => a) (fun _ => f))) (ha : a < n) :
    W.cell? ⟨g, 0, none⟩ = some A ∧ W.cell? ⟨g, 1, none⟩ = some B ∧ W.cell? ⟨bx, 0, none⟩ = some (.int .i64 a) ∧ W.rangeAt bx 1 (secL f) ∧ W.there gs (a * 64) 64 := by
  obtain ⟨p0, p1⟩ := putV_range (n := 1) hx (i := 0) (by omega)
  rw [Nat.zero_mul] at p0
  rw [Nat.zero_mul, Nat.zero_add] at p1
  exact ⟨hr.cell (i := 0) (by omega), hr.cell (i := 1) (by omega), p0, p1, hs.there (by omega)⟩

/-- All that was there stands, but for two blocks. -/
def Only2 (a b : Nat) (w w' : World) : Prop := w.heap.size ≤ w'.heap.size ∧ ∀ k, k < w.heap.size → k ≠ a → k ≠ b → w'.heap[k]? = w.heap[k]?
theorem Only2.refl (a b : Nat) (w : World) : Only2 a b w w := ⟨Nat.le_refl _, fun _ _ _ _ => rfl⟩
theorem only2_below {a b : Nat} {w w' : World} (h : Below w.heap.size w w') : Only2 a b w w' := ⟨h.size, fun k hk _ _ => h.block k hk⟩
theorem Only2.trans {a b : Nat} {w w1 w2 : World} (h : Only2 a b w w1) (h' : Only2 a b w1 w2) : Only2 a b w w2 :=
  ⟨Nat.le_trans h.1 h'.1, fun k hk h1 h2 => (h'.2 k (Nat.lt_of_lt_of_le hk h.1) h1 h2).trans (h.2 k hk h1 h2)⟩
theorem Only2.drewN {a b : Nat} {w w' : World} (h : Only2 a b w w') (k : Nat) : Only2 a b w (w'.drewN k) := h
theorem Only2.drew {a b : Nat} {w w' : World} (h : Only2 a b w w') : Only2 a b w w'.drew := h
theorem Only2.wrote {a b : Nat} {w w1 w2 : World} (h : Only2 a b w w1) (h' : Wrote w1 w2 a) : Only2 a b w w2 :=
  h.trans ⟨h'.1.size, fun _ _ h1 _ => h'.block h1⟩
theorem Only2.setB {a b : Nat} {w w1 : World} (h : Only2 a b w w1) (i : Nat) (v : Value) : Only2 a b w (w1.setCell ⟨b, i, none⟩ v) :=
  h.trans ⟨by simp, fun k _ _ h2 => Below.heap_setCell w1 ⟨b, i, none⟩ v k h2⟩

set_option maxRecDepth 8000 in
set_option maxHeartbeats 600000 in
theorem perform_any {B g gs gb : Nat} {qv : Value} {D : Dsk} (a : Nat) (f : Nat → Int) (w : World) (h : DiskIn B g gs gb qv D w) (ha : a < D.n) (hf : ∀ j, 0 ≤ f j ∧ f j < 256) :
    Calls Try.prog 60 #[.pointer (some ⟨g, 0, none⟩), putA a f] w fun e w' => e = .returned (.tuple #[]) ∧ DiskIn B g gs gb qv (D.perform a f) w' ∧ Below B w w' ∧ Only2 gs gb w w' := by
  have hsz := h.ok.size
  have hlt := h.lt
  have hb0 : Below w.heap.size w (w.alloc (.cells (Value.int .i64 a :: secL f).toArray 81)) := (Below.refl _ w).alloc (Nat.le_refl _) _
  have hbx := box_put w a f
  have hW := h.all hb0
  obtain ⟨p0, p1⟩ := putV_range (n := 1) hbx (i := 0) (by omega)
  rw [Nat.zero_mul] at p0
  rw [Nat.zero_mul, Nat.zero_add] at p1
  obtain ⟨c0, c1, c2, c3, c4, c5⟩ := hW.cells
  have e3 := hW.bad.cell (i := a) (by omega)
  have e4 := secV_range hW.sec ha
  have HW := Lib.hid hW
  have HBX := Lib.hid hbx
  have HBW := Lib.hid (And.intro ((Below.refl B w).alloc hlt (.cells (Value.int .i64 a :: secL f).toArray 81)) (only2_below (a := gs) (b := gb) hb0))
  have Hd := Lib.hid h
  have Hf := Lib.hid hf; clear hf
  have hu := under_sec
  have hi1 : (Try.prog.info? 79).map (·.size) = some (secL (D.sec a)).length := by rw [secL_len]; exact size_sec
  have hi2 : (Try.prog.info? 79).map (·.size) = some (secL f).length := by rw [secL_len]; exact size_sec
  have hcmp := fun w => equal_sec (D.sec a) f w
  have hgd := guard_sec
  have Hbx := Lib.hid (fun k => (putV_range (n := 1) (hbx.all (below_drewN _ _ k)) (i := 0) (by omega)).2)
  have Hbx0 := Lib.hid (fun k => (by have h9 := (putV_range (n := 1) (hbx.all (below_drewN _ _ k)) (i := 0) (by omega)).1; rw [Nat.zero_mul] at h9; exact h9 : ((w.alloc (.cells (Value.int .i64 a :: secL f).toArray 81)).drewN k).cell? ⟨w.heap.size, 0, none⟩ = some (.int .i64 a)))
  unfold badV at e3
  clear hW h c2 c3 c4 c5 hbx
  unfold putA
  go_enter Try.func60, Try.ntmps60
  go_upto_region 1 with fail
  generalize (w.alloc (.cells (Value.int .i64 a :: secL f).toArray 81)) = W at *
  have hl1 : ∀ k, (Instr.loadAt 79 (.pointer (some ⟨gs, a * 64, none⟩))).run Try.prog (W.drewN k) = .ok (.agg (secL (D.sec a)).toArray) (W.drewN k) := fun k => run_loadAt_mid _ _ _ _ _ _ (secV_range (HW.out.all (below_drewN _ _ k)).sec ha) hu rfl hi1
  have hl2 : ∀ k, (Instr.loadAt 79 (.pointer (some ⟨w.heap.size, 1, none⟩))).run Try.prog (W.drewN k) = .ok (.agg (secL f).toArray) (W.drewN k) := fun k => run_loadAt_mid _ _ _ _ _ _ (Hbx.out k) hu rfl hi2
  have Hl1 := Lib.hid hl1
  have Hl2 := Lib.hid hl2
  clear hu hi1 hi2 e4 p1 hl1 hl2
  go_cut [24] from 4 to 40 (fun s24 wx => s24 = .bool (D.bad a || !sameS (D.sec a) f) ∧ ∃ k, wx = W.drewN k)
  case first =>
    rcases hb : D.bad a with _ | _
    · rw [hb] at e3
      have Hb := Lib.hid hb; clear hb
      rcases hsm : sameS (D.sec a) f with _ | _ <;> rw [hsm] at hcmp <;> have Hs := Lib.hid hsm <;> clear hsm
      · refine wp_region_quiet_lit (by kernel_rfl) (by kernel_rfl) ?_
        iterate 16 (quiet_step (fail))
        refine quiet_load (by rfl) 79 _ (by rfl) ⟨gs, a * 64, none⟩ (by rfl) _ (fun w hw => by obtain ⟨k, rfl⟩ := hw; exact Hl1.out k) ?_
        iterate 1 (quiet_step (fail))
        refine quiet_load (by rfl) 79 _ (by rfl) ⟨w.heap.size, 1, none⟩ (by rfl) _ (fun w hw => by obtain ⟨k, rfl⟩ := hw; exact Hl2.out k) ?_
        iterate 2 (quiet_step (fail))
        refine wpQuiet_nil ?_
        intro w2 hw2
        go_wp2_with fail
        go_meet
        case rel => exact ⟨by rw [Hb.out, Hs.out]; rfl, hw2⟩
      · refine wp_region_quiet_lit (by kernel_rfl) (by kernel_rfl) ?_
        iterate 16 (quiet_step (fail))
        refine quiet_load (by rfl) 79 _ (by rfl) ⟨gs, a * 64, none⟩ (by rfl) _ (fun w hw => by obtain ⟨k, rfl⟩ := hw; exact Hl1.out k) ?_
        iterate 1 (quiet_step (fail))
        refine quiet_load (by rfl) 79 _ (by rfl) ⟨w.heap.size, 1, none⟩ (by rfl) _ (fun w hw => by obtain ⟨k, rfl⟩ := hw; exact Hl2.out k) ?_
        iterate 2 (quiet_step (fail))
        refine wpQuiet_nil ?_
        intro w2 hw2
        go_wp2_with fail
        go_meet
        case rel => exact ⟨by rw [Hb.out, Hs.out]; rfl, hw2⟩
    · rw [hb] at e3
      have Hb := Lib.hid hb; clear hb
      go_quiet (fail)
      go_wp2_with fail
      go_meet
      case rel => exact ⟨by rw [Hb.out]; rfl, _, rfl⟩
  obtain ⟨rfl, k, rfl⟩ := hcut
  have HWk := Lib.hid (HW.out.all (below_drewN _ _ k))
  rcases hor : (D.bad a || !sameS (D.sec a) f) with _ | _
  · have Hfin := Lib.hid (And.intro (HWk.out.perform_same f Hf.out hor) (And.intro (HBW.out.1.trans (below_drewN _ _ k)) (HBW.out.2.drewN k)))
    clear hor hcmp
    go_wp2
    go_end0
    exact ⟨rfl, Hfin.out⟩
  · have hwk := HWk.out
    have hbxk := HBX.out.all (below_drewN _ _ k)
    have hbw0 := And.intro (HBW.out.1.trans (below_drewN _ _ k)) (HBW.out.2.drewN k)
    clear HWk Hbx Hbx0 HW HBX HBW
    generalize W.drewN k = V at *
    have hwd := hwk.all ((Below.refl _ V).drew)
    have hbxd := hbxk.all ((Below.refl _ V).drew)
    obtain ⟨hss, hww⟩ := RowAt.setCells (secL f) (a * 64) hwd.sec
    have hbad1 := hwd.bad.wrote hww (Ne.symm hwd.ne.2.2)
    have hr1 := hwd.row.wrote hww hwd.ne.1
    have hx1 := hbxd.wrote hww (hbxd.neType hwd.sec (by decide))
    have e5 := hbad1.cell (i := a) (by omega)
    have f5 := hbad1.frozen a
    unfold badV at e5
    have hrow6 := (hwk.bad.wrote (RowAt.setCells (secL f) (a * 64) hwk.sec).2 (Ne.symm hwk.ne.2.2)).drew
    have e6 := hrow6.cell (i := a) (by omega)
    have f6 := hrow6.frozen a
    unfold badV at e6
    have K0 := Lib.hid (perfS hwd.row hwd.sec hbxd ha)
    have K1 := Lib.hid (perfS hr1 hss hx1 ha)
    have K2 := Lib.hid (perfS (hr1.setOther ⟨gb, a, none⟩ (.bool false) (Ne.symm hwd.ne.2.1)) (hss.setOther ⟨gb, a, none⟩ (.bool false) (Ne.symm hwd.ne.2.2)) (hx1.setOther ⟨gb, a, none⟩ (.bool false) (hwd.bad.neType hbxd (by decide))) ha)
    have Hfin := Lib.hid (hwd.perform ha f Hf.out)
    have hbw : Below B w V.drew := hbw0.1.drew
    have hon : Only2 gs gb w V.drew := hbw0.2.drew
    have Hbel := Lib.hid (And.intro ((hww.below hbw hwd.lt hwd.base.2.1).setCell (p := ⟨gb, a, none⟩) hwd.base.2.2 (.bool false)) ((hon.wrote hww).setB a (.bool false)))
    have hu := under_sec
    have hi2 : (Try.prog.info? 79).map (·.size) = some (secL f).length := by rw [secL_len]; exact size_sec
    have hi3 : (Try.prog.info? 79).map (·.size) = some (secL f).toArray.size := by rw [List.size_toArray, secL_len]; exact size_sec
    have hlen := secL_len f
    have hone : ∀ v ∈ secL f, v.oneCell' = true := fun v hv => by
      obtain ⟨j, _, rfl⟩ := List.mem_map.1 hv
      rfl
    clear hcmp hor hwd hbxd hss hww hbad1 hr1 hx1 hbw hon hrow6 hwk hbxk hbw0
    generalize secL f = cs at *
    go_upto_region 2 with fail
    go_region_held (fun w' => w'.cell? ⟨g, 0, none⟩ = some (.slice (some ⟨gs, 0, none⟩) D.n D.cs) ∧ w'.cell? ⟨g, 1, none⟩ = some (.slice (some ⟨gb, 0, none⟩) D.n D.cb) ∧ w'.cell? ⟨w.heap.size, 0, none⟩ = some (.int .i64 a) ∧ w'.rangeAt w.heap.size 1 cs ∧ w'.there gs (a * 64) 64) (first | (with_reducible exact K1.out) | (with_reducible exact K2.out) | (with_reducible exact K0.out)) (fail)
    go_wp2
    go_end0
    exact ⟨rfl, Hfin.out, Hbel.out⟩

end Go.Proofs.Ytjhcaedfknhilaa
