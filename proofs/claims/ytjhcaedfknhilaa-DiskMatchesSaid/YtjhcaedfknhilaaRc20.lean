/- The reference: Die, Replace, Stop, Sync, Read. The reference: Sync, Read. The reference: Read. The reference: Write. -/
import Derived.Test.YtjhcaedfknhilaaRc19
namespace Go.Proofs.Ytjhcaedfknhilaa
set_option linter.unusedVariables false
set_option linter.unusedSimpArgs false
open Go.RowKit
attribute [local go_sem ↓] Go.wp_at_zero Go.wp_at_succ
attribute [-go_sem] loadCellsFrom storeCells
attribute [local go_sem] storeCells_one

/-- A device is returned, and an error. -/
def RefOut (B : Nat) (D' : Dsk) (c : Int) (w : World) (e : Ending) (w' : World) : Prop := ∃ dv qv bv, e = .returned (.tuple #[devV dv qv bv D'.dev, .int .i64 c]) ∧ DevAt B w' dv qv bv D'.dev ∧ Below w.heap.size w w'
def RefOne (B : Nat) (D' : Dsk) (w : World) (e : Ending) (w' : World) : Prop := ∃ dv qv bv, e = .returned (devV dv qv bv D'.dev) ∧ DevAt B w' dv qv bv D'.dev ∧ Below w.heap.size w w'
def RefStopP (B : Nat) (D : Dsk) (a : Int) (w : World) (e : Ending) (w' : World) : Prop :=
  (a < -1 ∧ RefOut B D 1 w e w') ∨ (-1 ≤ a ∧ D.dead = true ∧ RefOut B D 7 w e w') ∨ (-1 ≤ a ∧ D.dead = false ∧ RefOut B (D.arm (decide (0 ≤ a)) (if 0 ≤ a then a else 0)) 0 w e w')
theorem qarg_empty (B : Nat) (w : World) {E : Dsk} (h : E.q = 0) (l : Nat → Nat) (f : Nat → Nat → Int) : QArg B w (.slice none 0 0) 0 (qaF E) l f := by
  refine ⟨fun i => ?_, .inl ⟨rfl, _, _, rfl⟩⟩
  unfold qaF
  rw [h, if_neg (Nat.not_lt_zero i)]
  exact z0
theorem die_at {B : Nat} {w : World} {dv qv bv : Value} {D : Dsk} (h : DevAt B w dv qv bv D.dev) : DevAt B w dv (.slice none 0 0) bv D.die.dev := ⟨h.data, qarg_empty B w (E := D.die) rfl _ _, h.bad, z0⟩
theorem flushed_at {B : Nat} {w : World} {dv qv bv : Value} {D : Dsk} (h : DevAt B w dv qv bv D.dev) : DevAt B w dv (.slice none 0 0) bv D.flushed.dev := ⟨h.data, qarg_empty B w (E := D.flushed) rfl _ _, h.bad, h.left⟩
theorem arm_at {B : Nat} {w : World} {dv qv bv : Value} {D : Dsk} (h : DevAt B w dv qv bv D.dev) (a : Bool) {l : Int} (hl : -9223372036854775808 ≤ l ∧ l ≤ 9223372036854775807) : DevAt B w dv qv bv (D.arm a l).dev := ⟨h.data, h.queue, h.bad, hl⟩

set_option maxRecDepth 100000 in
set_option maxHeartbeats 2000000 in
theorem RefDie_any {B : Nat} {dv qv bv : Value} {D : Dsk} (w : World) (h : DevAt B w dv qv bv D.dev) (hB : B ≤ w.heap.size) :
    Calls Try.prog 56 #[devV dv qv bv D.dev] w (RefOne B D.die w) := by
  obtain ⟨dx, dc, rfl, -⟩ := h.data.slice
  obtain ⟨qx, qc, rfl, hqm⟩ := h.queue.slice
  obtain ⟨bx, bc, rfl, -⟩ := h.bad.slice
  have hI := refI_new w (.slice dx D.dev.n dc) (.slice qx D.dev.q qc) (.slice bx D.dev.m bc) (.bool D.dev.dead) (.bool D.dev.armed) (.int .i64 D.dev.left)
  have HD := Lib.hid (h.all hI.below)
  have HI := Lib.hid hI
  clear h hI hqm
  unfold devV
  go_enter Try.func56, Try.ntmps56
  go_upto_region 1 with fail
  generalize (w.alloc (.cells #[.slice dx D.dev.n dc, .slice qx D.dev.q qc, .slice bx D.dev.m bc, .bool D.dev.dead, .bool D.dev.armed, .int .i64 D.dev.left] 31)).alloc (.cells #[.slice none 0 0, .slice none 0 0, .slice none 0 0, .bool false, .bool false, .int .i64 0] 31) = W at *
  have hs1 := (HI.out).set hB 3 (.bool true) (a' := .slice dx D.dev.n dc) (b' := .slice qx D.dev.q qc) (c' := .slice bx D.dev.m bc) (d' := .bool true) (e' := .bool D.dev.armed) (f' := .int .i64 D.dev.left) (fun k hk => by
    obtain rfl | rfl | rfl | rfl | rfl | rfl : k = 0 ∨ k = 1 ∨ k = 2 ∨ k = 3 ∨ k = 4 ∨ k = 5 := by omega
    all_goals rfl)
  have f1 := (HI.out).box.frozen 3
  have c1 := (HI.out).box.cell (i := 3) (by omega)
  have hs2 := (hs1.1).set hB 1 (.slice none 0 0) (a' := .slice dx D.dev.n dc) (b' := .slice none 0 0) (c' := .slice bx D.dev.m bc) (d' := .bool true) (e' := .bool D.dev.armed) (f' := .int .i64 D.dev.left) (fun k hk => by
    obtain rfl | rfl | rfl | rfl | rfl | rfl : k = 0 ∨ k = 1 ∨ k = 2 ∨ k = 3 ∨ k = 4 ∨ k = 5 := by omega
    all_goals rfl)
  have f2 := (hs1.1).box.frozen 1
  have c2 := (hs1.1).box.cell (i := 1) (by omega)
  have hs3 := (hs2.1).set hB 4 (.bool false) (a' := .slice dx D.dev.n dc) (b' := .slice none 0 0) (c' := .slice bx D.dev.m bc) (d' := .bool true) (e' := .bool false) (f' := .int .i64 D.dev.left) (fun k hk => by
    obtain rfl | rfl | rfl | rfl | rfl | rfl : k = 0 ∨ k = 1 ∨ k = 2 ∨ k = 3 ∨ k = 4 ∨ k = 5 := by omega
    all_goals rfl)
  have f3 := (hs2.1).box.frozen 4
  have c3 := (hs2.1).box.cell (i := 4) (by omega)
  have hs4 := (hs3.1).set hB 5 (.int .i64 0) (a' := .slice dx D.dev.n dc) (b' := .slice none 0 0) (c' := .slice bx D.dev.m bc) (d' := .bool true) (e' := .bool false) (f' := .int .i64 0) (fun k hk => by
    obtain rfl | rfl | rfl | rfl | rfl | rfl : k = 0 ∨ k = 1 ∨ k = 2 ∨ k = 3 ∨ k = 4 ∨ k = 5 := by omega
    all_goals rfl)
  have f4 := (hs3.1).box.frozen 5
  have c4 := (hs3.1).box.cell (i := 5) (by omega)
  have HI2 := Lib.hid (hs4.1)
  have HK2 := Lib.hid ((((hs1.2).trans hs2.2).trans hs3.2).trans hs4.2)
  clear hs1 hs2 hs3 hs4
  go_upto_region 5 with fail
  clear f1 c1 f2 c2 f3 c3 f4 c4
  generalize ((((W.setCell ⟨w.heap.size, 3, none⟩ (.bool true)).setCell ⟨w.heap.size, 1, none⟩ (.slice none 0 0)).setCell ⟨w.heap.size, 4, none⟩ (.bool false)).setCell ⟨w.heap.size, 5, none⟩ (.int .i64 0)) = W2 at *
  have HZ := Lib.hid (HI2.out.fin hB (x0 := .slice dx D.dev.n dc) (x1 := .slice none 0 0) (x2 := .slice bx D.dev.m bc) (x3 := .bool true) (x4 := .bool false) (x5 := .int .i64 0) (six_one rfl rfl rfl rfl rfl rfl))
  have hs := HZ.out.store
  have hload := HI2.out.load
  have hld := HZ.out.load
  go_wp2_with fail
  have hfin : RefOne B (D.die) w (.returned (.agg #[.slice dx D.dev.n dc, .slice none 0 0, .slice bx D.dev.m bc, .bool true, .bool false, .int .i64 0])) _ := ⟨_, _, _, rfl, (die_at (HD.out.keepD (HK2.out.trans HZ.out.keeps))), HZ.out.below⟩
  refine bodyPost_ret (v := .agg #[.slice dx D.dev.n dc, .slice none 0 0, .slice bx D.dev.m bc, .bool true, .bool false, .int .i64 0]) (by simp [results, Try.results56, asAddr, hld]) rfl ?_
  exact hfin

set_option maxRecDepth 100000 in
set_option maxHeartbeats 2000000 in
theorem RefStop_any {B : Nat} {dv qv bv : Value} {D : Dsk} (a : Int) (w : World) (h : DevAt B w dv qv bv D.dev) (hB : B ≤ w.heap.size) (ha : -9223372036854775808 ≤ a ∧ a ≤ 9223372036854775807) :
    Calls Try.prog 58 #[devV dv qv bv D.dev, .int .i64 a] w (RefStopP B D a w) := by
  obtain ⟨dx, dc, rfl, -⟩ := h.data.slice
  obtain ⟨qx, qc, rfl, hqm⟩ := h.queue.slice
  obtain ⟨bx, bc, rfl, -⟩ := h.bad.slice
  have hI := refI_new w (.slice dx D.dev.n dc) (.slice qx D.dev.q qc) (.slice bx D.dev.m bc) (.bool D.dev.dead) (.bool D.dev.armed) (.int .i64 D.dev.left)
  have HD := Lib.hid (h.all hI.below)
  have HI := Lib.hid hI
  clear h hI hqm
  unfold devV
  go_enter Try.func58, Try.ntmps58
  go_upto_region 1 with fail
  generalize (w.alloc (.cells #[.slice dx D.dev.n dc, .slice qx D.dev.q qc, .slice bx D.dev.m bc, .bool D.dev.dead, .bool D.dev.armed, .int .i64 D.dev.left] 31)).alloc (.cells #[.slice none 0 0, .slice none 0 0, .slice none 0 0, .bool false, .bool false, .int .i64 0] 31) = W at *
  have Ha := Lib.hid ha
  clear ha
  by_cases h1 : a < -1
  · have d1 : decide (a < -1) = true := decide_eq_true h1
    have HZ := Lib.hid (HI.out.fin hB (x0 := .slice dx D.dev.n dc) (x1 := .slice qx D.dev.q qc) (x2 := .slice bx D.dev.m bc) (x3 := .bool D.dev.dead) (x4 := .bool D.dev.armed) (x5 := .int .i64 D.dev.left) (six_one rfl rfl rfl rfl rfl rfl))
    have hs := HZ.out.store
    have hload := HI.out.load
    have hld := HZ.out.load
    go_wp2_with fail
    have hfin : RefOut B (D) 1 w (.returned (.tuple #[.agg #[.slice dx D.dev.n dc, .slice qx D.dev.q qc, .slice bx D.dev.m bc, .bool D.dev.dead, .bool D.dev.armed, .int .i64 D.dev.left], .int .i64 1])) _ := ⟨_, _, _, rfl, HD.out.keepD HZ.out.keeps, HZ.out.below⟩
    refine bodyPost_ret (v := .tuple #[.agg #[.slice dx D.dev.n dc, .slice qx D.dev.q qc, .slice bx D.dev.m bc, .bool D.dev.dead, .bool D.dev.armed, .int .i64 D.dev.left], .int .i64 1]) (by simp [results, Try.results58, asAddr, hld]) rfl ?_
    exact (.inl ⟨h1, hfin⟩)
  · have d1 : decide (a < -1) = false := decide_eq_false h1
    obtain ⟨-, -, -, a3, a4, a5⟩ := cells6 HI.out.box
    rcases bool_cases D.dead with hd | hd
    · have Hd := Lib.hid hd
      have a3' : W.cell? ⟨w.heap.size, 3, none⟩ = some (.bool false) := by rw [← hd]; exact a3
      have Hle := Lib.hid (show -1 ≤ a by omega)
      clear hd a3
      by_cases h2 : 0 ≤ a
      · have d2 : decide (a ≥ 0) = true := decide_eq_true h2
        have H2 := Lib.hid h2
        have hmx : (if 0 < a then a else 0) = a := by split <;> omega
        have hs1 := (HI.out).set hB 4 (.bool true) (a' := .slice dx D.dev.n dc) (b' := .slice qx D.dev.q qc) (c' := .slice bx D.dev.m bc) (d' := .bool D.dev.dead) (e' := .bool true) (f' := .int .i64 D.dev.left) (fun k hk => by
          obtain rfl | rfl | rfl | rfl | rfl | rfl : k = 0 ∨ k = 1 ∨ k = 2 ∨ k = 3 ∨ k = 4 ∨ k = 5 := by omega
          all_goals rfl)
        have f1 := (HI.out).box.frozen 4
        have c1 := (HI.out).box.cell (i := 4) (by omega)
        have hs2 := (hs1.1).set hB 5 (.int .i64 a) (a' := .slice dx D.dev.n dc) (b' := .slice qx D.dev.q qc) (c' := .slice bx D.dev.m bc) (d' := .bool D.dev.dead) (e' := .bool true) (f' := .int .i64 a) (fun k hk => by
          obtain rfl | rfl | rfl | rfl | rfl | rfl : k = 0 ∨ k = 1 ∨ k = 2 ∨ k = 3 ∨ k = 4 ∨ k = 5 := by omega
          all_goals rfl)
        have f2 := (hs1.1).box.frozen 5
        have c2 := (hs1.1).box.cell (i := 5) (by omega)
        have HI2 := Lib.hid (hs2.1)
        have HK2 := Lib.hid ((hs1.2).trans hs2.2)
        clear hs1 hs2
        go_upto_region 7 with fail
        clear f1 c1 f2 c2
        generalize ((W.setCell ⟨w.heap.size, 4, none⟩ (.bool true)).setCell ⟨w.heap.size, 5, none⟩ (.int .i64 a)) = W2 at *
        clear d1 d2 hmx h1 h2
        have HZ := Lib.hid (HI2.out.fin hB (x0 := .slice dx D.dev.n dc) (x1 := .slice qx D.dev.q qc) (x2 := .slice bx D.dev.m bc) (x3 := .bool D.dev.dead) (x4 := .bool true) (x5 := .int .i64 a) (six_one rfl rfl rfl rfl rfl rfl))
        have hs := HZ.out.store
        have hload := HI2.out.load
        have hld := HZ.out.load
        go_wp2_with fail
        have hfin : RefOut B (D.arm true a) 0 w (.returned (.tuple #[.agg #[.slice dx D.dev.n dc, .slice qx D.dev.q qc, .slice bx D.dev.m bc, .bool D.dev.dead, .bool true, .int .i64 a], .int .i64 0])) _ := ⟨_, _, _, rfl, arm_at (HD.out.keepD (HK2.out.trans HZ.out.keeps)) true Ha.out, HZ.out.below⟩
        refine bodyPost_ret (v := .tuple #[.agg #[.slice dx D.dev.n dc, .slice qx D.dev.q qc, .slice bx D.dev.m bc, .bool D.dev.dead, .bool true, .int .i64 a], .int .i64 0]) (by simp [results, Try.results58, asAddr, hld]) rfl ?_
        exact (.inr (.inr ⟨Hle.out, Hd.out, by rw [decide_eq_true (show 0 ≤ a by have := H2.out; omega), if_pos (show 0 ≤ a by have := H2.out; omega)]; exact hfin⟩))
      · have d2 : decide (a ≥ 0) = false := decide_eq_false h2
        have H2 := Lib.hid h2
        have hmx : (if 0 < a then a else 0) = 0 := by split <;> omega
        have hs1 := (HI.out).set hB 4 (.bool false) (a' := .slice dx D.dev.n dc) (b' := .slice qx D.dev.q qc) (c' := .slice bx D.dev.m bc) (d' := .bool D.dev.dead) (e' := .bool false) (f' := .int .i64 D.dev.left) (fun k hk => by
          obtain rfl | rfl | rfl | rfl | rfl | rfl : k = 0 ∨ k = 1 ∨ k = 2 ∨ k = 3 ∨ k = 4 ∨ k = 5 := by omega
          all_goals rfl)
        have f1 := (HI.out).box.frozen 4
        have c1 := (HI.out).box.cell (i := 4) (by omega)
        have hs2 := (hs1.1).set hB 5 (.int .i64 0) (a' := .slice dx D.dev.n dc) (b' := .slice qx D.dev.q qc) (c' := .slice bx D.dev.m bc) (d' := .bool D.dev.dead) (e' := .bool false) (f' := .int .i64 0) (fun k hk => by
          obtain rfl | rfl | rfl | rfl | rfl | rfl : k = 0 ∨ k = 1 ∨ k = 2 ∨ k = 3 ∨ k = 4 ∨ k = 5 := by omega
          all_goals rfl)
        have f2 := (hs1.1).box.frozen 5
        have c2 := (hs1.1).box.cell (i := 5) (by omega)
        have HI2 := Lib.hid (hs2.1)
        have HK2 := Lib.hid ((hs1.2).trans hs2.2)
        clear hs1 hs2
        go_upto_region 7 with fail
        clear f1 c1 f2 c2
        generalize ((W.setCell ⟨w.heap.size, 4, none⟩ (.bool false)).setCell ⟨w.heap.size, 5, none⟩ (.int .i64 0)) = W2 at *
        clear d1 d2 hmx h1 h2
        have HZ := Lib.hid (HI2.out.fin hB (x0 := .slice dx D.dev.n dc) (x1 := .slice qx D.dev.q qc) (x2 := .slice bx D.dev.m bc) (x3 := .bool D.dev.dead) (x4 := .bool false) (x5 := .int .i64 0) (six_one rfl rfl rfl rfl rfl rfl))
        have hs := HZ.out.store
        have hload := HI2.out.load
        have hld := HZ.out.load
        go_wp2_with fail
        have hfin : RefOut B (D.arm false 0) 0 w (.returned (.tuple #[.agg #[.slice dx D.dev.n dc, .slice qx D.dev.q qc, .slice bx D.dev.m bc, .bool D.dev.dead, .bool false, .int .i64 0], .int .i64 0])) _ := ⟨_, _, _, rfl, arm_at (HD.out.keepD (HK2.out.trans HZ.out.keeps)) false z0, HZ.out.below⟩
        refine bodyPost_ret (v := .tuple #[.agg #[.slice dx D.dev.n dc, .slice qx D.dev.q qc, .slice bx D.dev.m bc, .bool D.dev.dead, .bool false, .int .i64 0], .int .i64 0]) (by simp [results, Try.results58, asAddr, hld]) rfl ?_
        exact (.inr (.inr ⟨Hle.out, Hd.out, by rw [decide_eq_false (show ¬ 0 ≤ a by have := H2.out; omega), if_neg (show ¬ 0 ≤ a by have := H2.out; omega)]; exact hfin⟩))
    · have Hd := Lib.hid hd
      have a3' : W.cell? ⟨w.heap.size, 3, none⟩ = some (.bool true) := by rw [← hd]; exact a3
      have Hle := Lib.hid (show -1 ≤ a by omega)
      clear hd a3
      have HZ := Lib.hid (HI.out.fin hB (x0 := .slice dx D.dev.n dc) (x1 := .slice qx D.dev.q qc) (x2 := .slice bx D.dev.m bc) (x3 := .bool D.dev.dead) (x4 := .bool D.dev.armed) (x5 := .int .i64 D.dev.left) (six_one rfl rfl rfl rfl rfl rfl))
      have hs := HZ.out.store
      have hload := HI.out.load
      have hld := HZ.out.load
      go_wp2_with fail
      have hfin : RefOut B (D) 7 w (.returned (.tuple #[.agg #[.slice dx D.dev.n dc, .slice qx D.dev.q qc, .slice bx D.dev.m bc, .bool D.dev.dead, .bool D.dev.armed, .int .i64 D.dev.left], .int .i64 7])) _ := ⟨_, _, _, rfl, HD.out.keepD HZ.out.keeps, HZ.out.below⟩
      refine bodyPost_ret (v := .tuple #[.agg #[.slice dx D.dev.n dc, .slice qx D.dev.q qc, .slice bx D.dev.m bc, .bool D.dev.dead, .bool D.dev.armed, .int .i64 D.dev.left], .int .i64 7]) (by simp [results, Try.results58, asAddr, hld]) rfl ?_
      exact (.inr (.inl ⟨Hle.out, Hd.out, hfin⟩))

theorem newDev_zero {B : Nat} {w : World} {dv qv bv : Value} {n : Nat} (h : DevAt B w dv qv bv (newDev n)) (hr : (Dsk.zero n).Ok) : DevAt B w dv qv bv (Dsk.zero n).dev := by
  have hs := newDev_same n
  refine ⟨?_, ?_, ?_, z0⟩
  · exact h.data
  · refine ⟨fun i => ?_, ?_⟩
    · show -9223372036854775808 ≤ qaF (Dsk.zero n) i ∧ qaF (Dsk.zero n) i ≤ 9223372036854775807
      unfold qaF
      rw [if_neg (show ¬ i < (Dsk.zero n).q from Nat.not_lt_zero i)]
      exact z0
    · rcases h.queue with ⟨_, (h1 | ⟨_, _, _, _, _, h1, _⟩)⟩
      · exact .inl h1
      · exact absurd h1 (Nat.lt_irrefl 0)
  · refine ⟨fun i => ?_, ?_⟩
    · have := badF_range (Dsk.zero n) n i hr.size.2
      show -9223372036854775808 ≤ badF (Dsk.zero n) n i ∧ badF (Dsk.zero n) n i ≤ 9223372036854775807
      omega
    · have hm : (Dsk.zero n).dev.m = 0 := hs.m.symm
      rcases h.bad with ⟨_, (h1 | ⟨_, _, _, _, h1, _⟩)⟩
      · exact .inl ⟨hm, h1.2⟩
      · exact absurd h1 (Nat.lt_irrefl 0)
theorem newDev_devV (dv qv bv : Value) (n : Nat) : devV dv qv bv (newDev n) = devV dv qv bv (Dsk.zero n).dev := rfl

set_option maxRecDepth 100000 in
set_option maxHeartbeats 2000000 in
theorem RefReplace_any {B : Nat} {dv qv bv : Value} {D : Dsk} (w : World) (h : DevAt B w dv qv bv D.dev) (hok : D.Ok) (hB : B ≤ w.heap.size) :
    Calls Try.prog 57 #[devV dv qv bv D.dev] w (RefOne B (Dsk.zero D.n) w) := by
  obtain ⟨dx, dc, rfl, -⟩ := h.data.slice
  obtain ⟨qx, qc, rfl, hqm⟩ := h.queue.slice
  obtain ⟨bx, bc, rfl, -⟩ := h.bad.slice
  have hI := refI_new w (.slice dx D.dev.n dc) (.slice qx D.dev.q qc) (.slice bx D.dev.m bc) (.bool D.dev.dead) (.bool D.dev.armed) (.int .i64 D.dev.left)
  have HD := Lib.hid (h.all hI.below)
  have HI := Lib.hid hI
  clear h hI hqm
  unfold devV
  go_enter Try.func57, Try.ntmps57
  go_upto_region 1 with fail
  generalize (w.alloc (.cells #[.slice dx D.dev.n dc, .slice qx D.dev.q qc, .slice bx D.dev.m bc, .bool D.dev.dead, .bool D.dev.armed, .int .i64 D.dev.left] 31)).alloc (.cells #[.slice none 0 0, .slice none 0 0, .slice none 0 0, .bool false, .bool false, .int .i64 0] 31) = W at *
  have hload := HI.out.load
  have hsz := hok.size
  have hq : D.dev.n / 64 = D.n := by show D.n * 64 / 64 = D.n; omega
  have Hq := Lib.hid hq
  have Hz := Lib.hid (Dsk.zero_ok hsz)
  clear hq hok
  go_wp2_with fail
  refine (Sectors_any W HD.out).mono ?_
  rintro e w2 ⟨rfl, hb⟩
  rw [Hq.out]
  have HI2 := Lib.hid (HI.out.all hb)
  clear hb hload HI HD
  go_wp2_with fail
  refine (RefNew_any B D.n hsz w2).mono ?_
  rintro e w3 ⟨dv3, qv3, bv3, rfl, hd, hb⟩
  obtain ⟨d3, dc3, rfl, -⟩ := hd.data.slice
  obtain ⟨q3, qc3, rfl, -⟩ := hd.queue.slice
  obtain ⟨b3, bc3, rfl, -⟩ := hd.bad.slice
  have HI3 := Lib.hid (HI2.out.all hb)
  have HD3 := Lib.hid (newDev_zero hd Hz.out)
  have HB3 := Lib.hid hb
  clear hd hb HI2
  unfold devV
  have HZ := Lib.hid (HI3.out.fin hB (x0 := .slice d3 (newDev D.n).n dc3) (x1 := .slice q3 (newDev D.n).q qc3) (x2 := .slice b3 (newDev D.n).m bc3) (x3 := .bool (newDev D.n).dead) (x4 := .bool (newDev D.n).armed) (x5 := .int .i64 (newDev D.n).left) (six_one rfl rfl rfl rfl rfl rfl))
  have hs := HZ.out.store
  have hld := HZ.out.load
  go_wp2_with fail
  exact bodyPost_ret (v := devV (.slice d3 (newDev D.n).n dc3) (.slice q3 (newDev D.n).q qc3) (.slice b3 (newDev D.n).m bc3) (newDev D.n)) (by simp [results, Try.results57, asAddr, hld, devV]) rfl ⟨_, _, _, congrArg Ending.returned (newDev_devV _ _ _ D.n), HD3.out.keepD HZ.out.keeps, HZ.out.below⟩

end Go.Proofs.Ytjhcaedfknhilaa

namespace Go.Proofs.Ytjhcaedfknhilaa
set_option linter.unusedVariables false
set_option linter.unusedSimpArgs false
open Go.RowKit
attribute [local go_sem ↓] Go.wp_at_zero Go.wp_at_succ
attribute [-go_sem] loadCellsFrom storeCells
attribute [local go_sem] storeCells_one

def RefSyncP (B : Nat) (D : Dsk) (w : World) (e : Ending) (w' : World) : Prop :=
  (D.off = true ∧ RefOut B D 7 w e w') ∨ (D.off = false ∧ RefOut B D.sync 0 w e w')
theorem performs_ok {D : Dsk} (h : D.Ok) {A : Nat → Nat} {F : Nat → Nat → Int} (hf : ∀ i j, 0 ≤ F i j ∧ F i j < 256) : ∀ k, (D.performs A F k).Ok
  | 0 => h
  | k + 1 => perform_ok (performs_ok h hf k) (A k) (hf k)
theorem loadC_two {W : World} {b o : Nat} {v0 v1 : Value} (h0 : W.cell? ⟨b, o, none⟩ = some v0) (h1 : W.cell? ⟨b, o + 1, none⟩ = some v1) :
    (loadCellsFrom ⟨b, o, none⟩ 0 2 #[]).run Try.prog W = .ok #[v0, v1] W := by
  have := run_loadCells_list (P := Try.prog) W ⟨b, o, none⟩ [v0, v1] (fun j v hj => by
    have hj6 : j < 2 := by
      rcases Nat.lt_or_ge j 2 with h1 | h1
      · exact h1
      · rw [List.getElem?_eq_none (by simp; omega)] at hj; cases hj
    rw [Addr.add_mid]
    obtain rfl | rfl : j = 0 ∨ j = 1 := by omega
    all_goals (cases hj; assumption))
  exact this
/-- What a round of Sync finds. -/
def SyncI (B : Nat) (D : Dsk) (A : Nat → Nat) (F : Nat → Nat → Int) (qv : Value) (w : World) (r k : Nat) (W : World) : Prop :=
  ∃ dv bv E, E = D.performs A F k ∧ RefI w r dv qv bv (.bool E.dev.dead) (.bool E.dev.armed) (.int .i64 E.dev.left) W ∧ DevAt B W dv qv bv E.dev
theorem performs_dev (D : Dsk) (A : Nat → Nat) (F : Nat → Nat → Int) (k : Nat) : (D.performs A F k).dev.q = D.dev.q ∧ (D.performs A F k).dev.qa = D.dev.qa ∧ (D.performs A F k).dev.qb = D.dev.qb ∧ (D.performs A F k).dev.dead = D.dev.dead ∧ (D.performs A F k).dev.armed = D.dev.armed ∧ (D.performs A F k).dev.left = D.dev.left ∧ (D.performs A F k).n = D.n := by
  obtain ⟨h1, h2, h3, h4, h5, h6, h7⟩ := D.performs_same A F k
  refine ⟨h2, ?_, h4, h5, h6, h7, h1⟩
  show qaF (D.performs A F k) = qaF D
  funext i
  unfold qaF
  rw [h2, h3]
/-- A store of a device into the box. -/
theorem RefI.put {w W : World} {r : Nat} {a b c d e f : Value} (h : RefI w r a b c d e f W) {B : Nat} (hB : B ≤ w.heap.size) (x0 x1 x2 x3 x4 x5 : Value) :
    RefI w r x0 x1 x2 x3 x4 x5 (W.setCells w.heap.size 0 [x0, x1, x2, x3, x4, x5]) ∧ KeepsD B W (W.setCells w.heap.size 0 [x0, x1, x2, x3, x4, x5]) := by
  have hs := row_set6 h.box x0 x1 x2 x3 x4 x5
  have hl := h.res.lt
  have hr := h.hr
  exact ⟨⟨h.hr, hs.2.below h.below (by omega) (Nat.le_refl _), hs.1, h.res.wrote hs.2 (by omega)⟩, keepsD_wrote hs.2 h.box rfl hB⟩

set_option maxRecDepth 100000 in
set_option maxHeartbeats 4000000 in
theorem RefSync_any {B : Nat} {dv qv bv : Value} {D : Dsk} (w : World) (h : DevAt B w dv qv bv D.dev) (hok : D.Ok) (hB : B ≤ w.heap.size) :
    Calls Try.prog 53 #[devV dv qv bv D.dev] w (RefSyncP B D w) := by
  have hmo : Try.prog.follows .mixedOrders = true := by kernel_rfl
  have Hok := Lib.hid hok
  have hqq : D.dev.q ≤ 65536 := hok.queue
  clear hok
  obtain ⟨dx, dc, rfl, -⟩ := h.data.slice
  obtain ⟨qx, qc, rfl, hqm⟩ := h.queue.slice
  obtain ⟨bx, bc, rfl, -⟩ := h.bad.slice
  have hI := refI_new w (.slice dx D.dev.n dc) (.slice qx D.dev.q qc) (.slice bx D.dev.m bc) (.bool D.dev.dead) (.bool D.dev.armed) (.int .i64 D.dev.left)
  have HD := Lib.hid (h.all hI.below)
  have HI := Lib.hid hI
  clear h hI hqm
  unfold devV
  go_enter Try.func53, Try.ntmps53
  go_upto_region 1 with fail
  generalize (w.alloc (.cells #[.slice dx D.dev.n dc, .slice qx D.dev.q qc, .slice bx D.dev.m bc, .bool D.dev.dead, .bool D.dev.armed, .int .i64 D.dev.left] 31)).alloc (.cells #[.slice none 0 0, .slice none 0 0, .slice none 0 0, .bool false, .bool false, .int .i64 0] 31) = W at *
  have hload := HI.out.load
  go_wp2_with fail
  refine (off_any W HD.out).mono ?_
  rintro e w2 ⟨rfl, hb⟩
  rw [dev_off]
  have HI2 := Lib.hid (HI.out.all hb)
  have HD2 := Lib.hid (HD.out.all hb)
  clear hload hb HI HD
  rcases bool_cases D.off with ho | ho
  rotate_left 1
  · rw [ho]
    have Ho := Lib.hid ho
    clear ho
    have HZ := Lib.hid (HI2.out.fin hB (x0 := .slice dx D.dev.n dc) (x1 := .slice qx D.dev.q qc) (x2 := .slice bx D.dev.m bc) (x3 := .bool D.dev.dead) (x4 := .bool D.dev.armed) (x5 := .int .i64 D.dev.left) (six_one rfl rfl rfl rfl rfl rfl))
    have hs := HZ.out.store
    have hload := HI2.out.load
    have hld := HZ.out.load
    go_wp2_with fail
    have hfin : RefOut B (D) 7 w (.returned (.tuple #[.agg #[.slice dx D.dev.n dc, .slice qx D.dev.q qc, .slice bx D.dev.m bc, .bool D.dev.dead, .bool D.dev.armed, .int .i64 D.dev.left], .int .i64 7])) _ := ⟨_, _, _, rfl, HD2.out.keepD HZ.out.keeps, HZ.out.below⟩
    refine bodyPost_ret (v := .tuple #[.agg #[.slice dx D.dev.n dc, .slice qx D.dev.q qc, .slice bx D.dev.m bc, .bool D.dev.dead, .bool D.dev.armed, .int .i64 D.dev.left], .int .i64 7]) (by simp [results, Try.results53, asAddr, hld]) rfl ?_
    exact (.inl ⟨Ho.out, hfin⟩)
  rw [ho]
  have Ho := Lib.hid ho
  clear ho
  obtain ⟨q, hq⟩ : ∃ q, D.dev.q = q := ⟨_, rfl⟩
  have Hq := Lib.hid hq
  rw [hq] at hqq
  have HI0 := Lib.hid (show SyncI B D D.qa D.qb (.slice qx q qc) w (w.heap.size + 1) 0 w2 by rw [← hq]; exact ⟨_, _, D, rfl, HI2.out, HD2.out⟩)
  clear hq HI2 HD2
  go_wp2_with fail
  go_loopw [4] (fun t wr => ∃ k : Nat, k ≤ q ∧ t = .int .i64 k ∧ SyncI B D D.qa D.qb (.slice qx q qc) w (w.heap.size + 1) k wr) (fun t _ => q - (intOf t).toNat)
  case atStart => exact ⟨0, by omega, by go_num, HI0.out⟩
  case round =>
    obtain ⟨k, hk, rfl, dv2, bv2, E, hE, hI, hD⟩ := hrel
    have HE := Lib.hid hE
    have HIk := Lib.hid hI
    have HDk := Lib.hid hD
    obtain ⟨d2, dc2, rfl, -⟩ := hD.data.slice
    obtain ⟨b2, bc2, rfl, -⟩ := hD.bad.slice
    obtain ⟨p1, p2, p3, p4, p5, p6, p7⟩ := performs_dev D D.qa D.qb k
    rw [← hE] at p1 p2 p3 p4 p5 p6 p7
    have HP := Lib.hid (And.intro p1 (And.intro p2 (And.intro p3 (And.intro p4 (And.intro p5 (And.intro p6 p7))))))
    clear hE hI hD p1 p2 p3 p4 p5 p6 p7
    obtain ⟨-, x1, -⟩ := cells6 HIk.out.box
    by_cases hlt : k < q
    · have hdlt : decide ((k : Int) < q) = true := decide_eq_true (by omega)
      have hkq : k < D.q := by have := Hq.out; show k < D.dev.q; omega
      have hkE : k < E.dev.q := by rw [HP.out.1]; exact hkq
      obtain ⟨b, o, c, uv, e1, d0, d1, hbytes⟩ := HDk.out.queue.elem hkE
      rw [HP.out.1, Hq.out] at e1
      cases e1
      rw [HP.out.2.1, qa_dev hkq] at d0
      have hbd : Below wr.heap.size wr wr.drew := (Below.refl _ wr).drew
      have hld2 : (loadCellsFrom ⟨b, o + k * 2, none⟩ 0 2 #[]).run Try.prog wr.drew = .ok #[.int .i64 (D.qa k), uv] wr.drew := loadC_two (W := wr.drew) d0 d1
      have hload : (loadCellsFrom ⟨w.heap.size, 0, none⟩ 0 6 #[]).run Try.prog wr.drew = .ok #[.slice d2 E.dev.n dc2, .slice (some ⟨b, o, none⟩) q qc, .slice b2 E.dev.m bc2, .bool E.dev.dead, .bool E.dev.armed, .int .i64 E.dev.left] wr.drew := (HIk.out.all hbd).load
      have hx : 0 ≤ (k : Int) := by omega
      have hx2 : (k : Int) < q := by omega
      have Hbd := Lib.hid hbd
      clear hbd
      have Hby := Lib.hid (show BArg B wr uv 64 (E.dev.qb k) from hbytes)
      have Hkq := Lib.hid hkq
      obtain ⟨ux, uc, rfl, -⟩ := hbytes.slice
      clear hbytes hkE hkq
      go_upto_region 6 with fail
      go_still_tail 6, hmo
      have HIK := Lib.hid (HIk.out.all Hbd.out)
      have HDK := Lib.hid (HDk.out.all Hbd.out)
      have HBY := Lib.hid (Hby.out.all Hbd.out)
      clear hload hld2 d0 d1
      change wpList _ _ _ _ _ wr.drew
      generalize wr.drew = w3 at *
      go_wp2_with fail
      refine (RefPerform_any (D.qa k) w3 HDK.out HBY.out (by rw [HE.out]; exact performs_ok Hok.out Hok.out.pbyte k) (by rw [HP.out.2.2.2.2.2.2]; exact Hok.out.put k Hkq.out) (by have := HIK.out.below.size; omega)).mono ?_
      rintro e w4 ⟨dv4, bv4, rfl, hd, hb⟩
      obtain ⟨d4, dc4, rfl, -⟩ := hd.data.slice
      obtain ⟨b4, bc4, rfl, -⟩ := hd.bad.slice
      have hE2 : E.perform (D.qa k) (E.dev.qb k) = D.performs D.qa D.qb (k + 1) := by
        show E.perform (D.qa k) (E.dev.qb k) = (D.performs D.qa D.qb k).perform (D.qa k) (D.qb k)
        rw [HP.out.2.2.1, ← HE.out]
        rfl
      have HE2 := Lib.hid hE2
      have HI4 := Lib.hid (HIK.out.all hb)
      have HD4 := Lib.hid hd
      clear hb hd hE2
      generalize E.perform (D.qa k) (E.dev.qb k) = E2 at *
      have hs := storeC_six HI4.out.box (six_one (a := .slice d4 E2.dev.n dc4) (b := .slice (some ⟨b, o, none⟩) q qc) (c := .slice b4 E2.dev.m bc4) (d := .bool E2.dev.dead) (e := .bool E2.dev.armed) (f := .int .i64 E2.dev.left) rfl rfl rfl rfl rfl rfl)
      have hput := HI4.out.put hB (.slice d4 E2.dev.n dc4) (.slice (some ⟨b, o, none⟩) q qc) (.slice b4 E2.dev.m bc4) (.bool E2.dev.dead) (.bool E2.dev.armed) (.int .i64 E2.dev.left)
      have HN := Lib.hid (show SyncI B D D.qa D.qb (.slice (some ⟨b, o, none⟩) q qc) w (w.heap.size + 1) (k + 1) _ from ⟨_, _, E2, HE2.out, hput.1, HD4.out.keepD hput.2⟩)
      clear hput
      unfold devV
      go_wp2_with fail
      go_roundw
      case rel => exact ⟨k + 1, by omega, by go_num, HN.out⟩
      case measure => simp [intOf]; omega
    · obtain rfl : q = k := by omega
      have hdlt : decide ((q : Int) < q) = false := decide_eq_false (by omega)
      have hs1 := (HIk.out).set hB 1 (.slice none 0 0) (a' := .slice d2 E.dev.n dc2) (b' := .slice none 0 0) (c' := .slice b2 E.dev.m bc2) (d' := .bool E.dev.dead) (e' := .bool E.dev.armed) (f' := .int .i64 E.dev.left) (fun k hk => by
        obtain rfl | rfl | rfl | rfl | rfl | rfl : k = 0 ∨ k = 1 ∨ k = 2 ∨ k = 3 ∨ k = 4 ∨ k = 5 := by omega
        all_goals rfl)
      have f1 := (HIk.out).box.frozen 1
      have c1 := (HIk.out).box.cell (i := 1) (by omega)
      have HI2 := Lib.hid (hs1.1)
      have HK2 := Lib.hid (hs1.2)
      clear hs1
      go_upto_region 8 with fail
      clear f1 c1
      generalize (wr.setCell ⟨w.heap.size, 1, none⟩ (.slice none 0 0)) = W2 at *
      have HD2 := Lib.hid (flushed_at (HDk.out.keepD HK2.out))
      have hlf : E.flushed.dev.armed = true → 0 ≤ E.flushed.dev.left := fun _ => by
        have := Hok.out.left.1
        show 0 ≤ E.dev.left
        rw [HP.out.2.2.2.2.2.1]
        exact this
      have Hlf := Lib.hid hlf
      have hload := HI2.out.load
      clear hlf x1
      go_wp2_with fail
      refine (used_any (X := E.flushed.dev) W2 HD2.out (by have := HI2.out.below.size; omega) Hlf.out).mono ?_
      rintro e w5 ⟨rfl, hd, hb⟩
      rw [dev_used] at hd ⊢
      have HI5 := Lib.hid (HI2.out.all hb)
      have HD5 := Lib.hid hd
      have hE2 : E.flushed.used = D.sync := by
        unfold Dsk.sync
        rw [HE.out]
        have h9 : D.q = q := Hq.out
        rw [h9]
      have HE2 := Lib.hid hE2
      clear hd hb hload hE2 HI2 HD2 HIk HDk
      generalize E.flushed.used = E2 at *
      unfold devV
      have HZ := Lib.hid (HI5.out.fin hB (x0 := .slice d2 E.dev.n dc2) (x1 := .slice none 0 0) (x2 := .slice b2 E.dev.m bc2) (x3 := .bool E2.dev.dead) (x4 := .bool E2.dev.armed) (x5 := .int .i64 E2.dev.left) (six_one rfl rfl rfl rfl rfl rfl))
      have hs := HZ.out.store
      have hld := HZ.out.load
      go_wp2_with fail
      have HD6 := Lib.hid (HD5.out.keepD HZ.out.keeps)
      have hfin : RefOut B (E2) 0 w (.returned (.tuple #[.agg #[.slice d2 E.dev.n dc2, .slice none 0 0, .slice b2 E.dev.m bc2, .bool E2.dev.dead, .bool E2.dev.armed, .int .i64 E2.dev.left], .int .i64 0])) _ := ⟨_, _, _, rfl, HD6.out, HZ.out.below⟩
      refine bodyPost_ret (v := .tuple #[.agg #[.slice d2 E.dev.n dc2, .slice none 0 0, .slice b2 E.dev.m bc2, .bool E2.dev.dead, .bool E2.dev.armed, .int .i64 E2.dev.left], .int .i64 0]) (by simp [results, Try.results53, asAddr, hld]) rfl ?_
      exact (.inr ⟨Ho.out, by rw [← HE2.out]; exact hfin⟩)

end Go.Proofs.Ytjhcaedfknhilaa

namespace Go.Proofs.Ytjhcaedfknhilaa
set_option linter.unusedVariables false
set_option linter.unusedSimpArgs false
open Go.RowKit
attribute [local go_sem ↓] Go.wp_at_zero Go.wp_at_succ
attribute [-go_sem] loadCellsFrom storeCells
attribute [local go_sem] storeCells_one

/-- What Read returns. -/
def RefReadP (B : Nat) (D : Dsk) (a m : Int) (w : World) (e : Ending) (w' : World) : Prop :=
  ∃ v c, e = .returned (.tuple #[v, .int .i64 c]) ∧ Below w.heap.size w w' ∧ ((¬ inD D a m ∧ c = 1 ∧ v = .slice none 0 0) ∨ (inD D a m ∧ D.off = true ∧ c = 7 ∧ v = .slice none 0 0) ∨ (inD D a m ∧ D.off = false ∧ ¬ readOk D a.toNat m.toNat ∧ c = 7 ∧ v = .slice none 0 0) ∨
    (inD D a m ∧ D.off = false ∧ readOk D a.toNat m.toNat ∧ c = 0 ∧ BArg B w' v (m.toNat * 64) (readI D a.toNat)))
/-- What a round of Read finds. -/
def RefReadI (D : Dsk) (a : Nat) (W : World) (i : Nat) (v : Value) (wr : World) : Prop :=
  Own wr W.heap.size 5 v (i * 64) (byteF (readI D a)) ∧ readOk D a i ∧ Below W.heap.size W wr
theorem RefReadI.next {D : Dsk} {a i : Nat} {W wr w2 w3 : World} {v v' : Value} {f : Nat → Int} (h : RefReadI D a W i v wr) (hf : D.has (a + i) = some f) (hb : Below wr.heap.size wr w2)
    (hown : Own w3 W.heap.size 5 v' (i * 64 + 64) (fun k => if k < i * 64 then byteF (readI D a) k else byteF f (k - i * 64))) (hg : w2.grownBy w3 v.ownBlock) : RefReadI D a W (i + 1) v' w3 := by
  have h2 := h.1.all hb
  have hl := h.2.2.size
  refine ⟨?_, fun k hk => ?_, (h.2.2.trans (hb.mono hl)).grown hg (by have := hb.size; omega) (fun k hk => (h2.isCells k hk).1)⟩
  · rw [show (i + 1) * 64 = i * 64 + 64 by omega]
    refine hown.congr fun k hk => ?_
    by_cases hk2 : k < i * 64
    · rw [if_pos hk2]
    · rw [if_neg hk2]
      unfold byteF readI Dsk.hasF
      rw [show k / 64 = i by omega, hf, show k % 64 = k - i * 64 by omega]
      rfl
  · by_cases hki : k = i
    · subst hki; exact ⟨f, hf⟩
    · exact h.2.1 k (by omega)

set_option maxRecDepth 100000 in
set_option maxHeartbeats 4000000 in
theorem RefRead_any {B : Nat} {dv qv bv : Value} {D : Dsk} (a m : Int) (w : World) (h : DevAt B w dv qv bv D.dev) (hok : D.Ok) :
    Calls Try.prog 51 #[devV dv qv bv D.dev, .int .i64 a, .int .i64 m] w (RefReadP B D a m w) := by
  obtain ⟨dx, dc, rfl, -⟩ := h.data.slice
  obtain ⟨qx, qc, rfl, -⟩ := h.queue.slice
  obtain ⟨bx, bc, rfl, -⟩ := h.bad.slice
  have hr := row_six w (.slice dx D.dev.n dc) (.slice qx D.dev.q qc) (.slice bx D.dev.m bc) (.bool D.dev.dead) (.bool D.dev.armed) (.int .i64 D.dev.left) 31
  have hbl := (Below.refl _ w).alloc (Nat.le_refl w.heap.size) (.cells #[.slice dx D.dev.n dc, .slice qx D.dev.q qc, .slice bx D.dev.m bc, .bool D.dev.dead, .bool D.dev.armed, .int .i64 D.dev.left] 31)
  have HB := Lib.hid hbl
  have HD := Lib.hid (h.all hbl)
  have HR := Lib.hid hr
  have Hok := Lib.hid hok
  have hsz := hok.size
  have hload := loadC_dev hr
  clear hr h hbl hok
  unfold devV
  go_enter Try.func51, Try.ntmps51
  go_upto_region 1 with fail
  generalize w.alloc (.cells #[.slice dx D.dev.n dc, .slice qx D.dev.q qc, .slice bx D.dev.m bc, .bool D.dev.dead, .bool D.dev.armed, .int .i64 D.dev.left] 31) = W at *
  go_wp2_with fail
  refine (within_any a m W HD.out).mono ?_
  rintro e w2 ⟨⟨b, rfl, hin⟩, hb⟩
  rw [inX_dev] at hin
  have HD2 := Lib.hid (HD.out.all hb)
  have HR2 := Lib.hid (HR.out.all hb)
  have HB2 := Lib.hid (HB.out.trans (hb.mono HB.out.size))
  clear hload hb HD HR HB
  rcases bool_cases b with rfl | rfl
  · have Hin := Lib.hid (show ¬ inD D a m from fun h => by have := hin.2 h; cases this)
    clear hin
    go_wp2_with fail
    exact bodyPost_ret (v := .tuple #[.slice none 0 0, .int .i64 1]) (by simp [results, Try.results51]) rfl ⟨_, _, rfl, HB2.out, .inl ⟨Hin.out, rfl, rfl⟩⟩
  have Hin := Lib.hid (hin.1 rfl)
  have hload := loadC_dev HR2.out
  clear hin
  go_wp2_with fail
  refine (off_any w2 HD2.out).mono ?_
  rintro e w3 ⟨rfl, hb⟩
  rw [dev_off]
  have HD3 := Lib.hid (HD2.out.all hb)
  have HR3 := Lib.hid (HR2.out.all hb)
  have HB3 := Lib.hid (HB2.out.trans (hb.mono HB2.out.size))
  clear hload hb HD2 HR2 HB2
  rcases bool_cases D.off with ho | ho
  rotate_left 1
  · rw [ho]
    have Ho := Lib.hid ho
    clear ho
    go_wp2_with fail
    exact bodyPost_ret (v := .tuple #[.slice none 0 0, .int .i64 7]) (by simp [results, Try.results51]) rfl ⟨_, _, rfl, HB3.out, .inr (.inl ⟨Hin.out, Ho.out, rfl, rfl⟩)⟩
  rw [ho]
  have Ho := Lib.hid ho
  clear ho
  obtain ⟨i1, i2, i3, i4⟩ := Hin.out
  obtain ⟨A, rfl⟩ : ∃ A : Nat, a = A := ⟨a.toNat, by omega⟩
  obtain ⟨M, rfl⟩ : ∃ M : Nat, m = M := ⟨m.toNat, by omega⟩
  obtain ⟨N, hN⟩ : ∃ N, D.n = N := ⟨_, rfl⟩
  have HN := Lib.hid hN
  rw [hN] at hsz
  have hAM : A + M ≤ N := by rw [hN] at i3 i4; omega
  clear i1 i2 i3 i4 hN
  have hw1 : IntKind.i64.wrap ((A : Int) + M) = (A : Int) + M := IntWalk.i64_in _ (by omega)
  go_wp2_with fail
  go_loopw [8, 9] (fun s8 s9 wr => ∃ i : Nat, i ≤ M ∧ s9 = .int .i64 ((A + i : Nat) : Int) ∧ ∃ x c, s8 = .slice x (i * 64) c ∧ RefReadI D A w3 i (.slice x (i * 64) c) wr) (fun _ s9 _ => A + M - (intOf s9).toNat)
  case atStart => exact ⟨0, by omega, by first | rfl | simp, none, 0, by first | rfl | simp, Own.nil _ _ _ _, fun k hk => absurd hk (Nat.not_lt_zero k), Below.refl _ _⟩
  case round =>
    obtain ⟨i, hi, rfl, x, c, rfl, hI⟩ := hrel
    have HI := Lib.hid hI
    have HDr := Lib.hid (HD3.out.all hI.2.2)
    have hload := loadC_dev (HR3.out.all hI.2.2)
    clear hI
    by_cases hlt : i < M
    · have hdlt : decide (((A + i : Nat) : Int) < (A : Int) + M) = true := decide_eq_true (by omega)
      go_wp2_with fail
      refine (Has_any (A + i) wr HDr.out Hok.out (by rw [HN.out]; omega)).mono ?_
      rintro e w4 ⟨⟨v4, (⟨f, hf, rfl, hv⟩ | ⟨hf, rfl, rfl⟩)⟩, hb⟩
      · have Hf := Lib.hid hf
        have Hv := Lib.hid hv
        have Hb := Lib.hid hb
        obtain ⟨ux, uc, rfl, -⟩ := hv.slice
        obtain ⟨b8, o8, rfl, hcells⟩ := bytes_at hv (show 0 < 64 by decide)
        have Hc := Lib.hid hcells
        clear hf hv hb hload hcells
        go_wp2_with (with_reducible refine stopB .append ?_)
        refine Hold.go ?_
        refine wpList_append_o rfl _ _ 27 5 _ _ rfl Try.underlying27 info_u8d rfl w3.heap.size (.slice x (i * 64) c) (i * 64) (byteF (readI D A)) rfl (HI.out.1.all Hb.out) b8 o8 64 uc (byteF f) rfl Hc.out (fun _ _ => rfl) (by omega) (by decide) (by have := HI.out.2.2.size; have := Hb.out.size; omega) ?_
        intro v9 w9 hown hgr _ _
        obtain ⟨x9, c9, rfl⟩ := Own.slice hown
        have hnx := RefReadI.next HI.out Hf.out Hb.out hown hgr
        rw [show i * 64 + 64 = (i + 1) * 64 by omega] at hnx ⊢
        have HNx := Lib.hid hnx
        clear hown hgr hnx
        go_wp2
        go_roundw
        case rel => exact ⟨i + 1, by omega, by go_num, x9, c9, rfl, HNx.out⟩
        case measure => simp [intOf]; omega
      · have Hf := Lib.hid hf
        have Hb := Lib.hid hb
        clear hf hb hload
        have Hno := Lib.hid (show ¬ readOk D A M from fun h9 => by
          obtain ⟨f, h10⟩ := h9 i hlt
          have h11 : D.has (A + i) = some f := h10
          rw [Hf.out] at h11
          cases h11)
        go_wp2_with fail
        exact bodyPost_ret (v := .tuple #[.slice none 0 0, .int .i64 7]) (by simp [results, Try.results51]) rfl ⟨_, _, rfl, HB3.out.trans ((HI.out.2.2.trans (Hb.out.mono HI.out.2.2.size)).mono HB3.out.size), .inr (.inr (.inl ⟨Hin.out, Ho.out, Hno.out, rfl, rfl⟩))⟩
    · obtain rfl : M = i := by omega
      have hdlt : decide (((A + M : Nat) : Int) < (A : Int) + M) = false := decide_eq_false (by omega)
      clear hload
      go_wp2_with fail
      exact bodyPost_ret (v := .tuple #[.slice x (M * 64) c, .int .i64 0]) (by simp [results, Try.results51]) rfl ⟨_, _, rfl, HB3.out.trans (HI.out.2.2.mono HB3.out.size), .inr (.inr (.inr ⟨Hin.out, Ho.out, HI.out.2.1, rfl, barg_own HI.out.1 fun i => has_byte Hok.out _ _⟩))⟩

end Go.Proofs.Ytjhcaedfknhilaa

namespace Go.Proofs.Ytjhcaedfknhilaa
set_option linter.unusedVariables false
set_option linter.unusedSimpArgs false
open Go.RowKit

/-- append of nothing. -/
theorem append_zero {P : Program} {w : World} {o : Oper} {a : Act} (s x : Operand) (t e : TypeId) (z : Value) (k bytes : Nat)
    (hop : o.op = .call { callee := .builtin .append, args := #[s, x], argTypes := #[t, t] }) (ht : P.underlying t = some (.slice e))
    (hinfo : (P.info? e).map (fun i => (i.zero, i.size, i.bytes)) = some (some z, k, bytes))
    (g n c : Nat) (hs : a.eval s = .slice (some ⟨g, 0, none⟩) n c) (hn : n ≤ c) (b : Option Addr) (m : Nat) (hx : a.eval x = .slice b 0 m) :
    (execOp a.eval o).run P w = .ok (.value (.slice (some ⟨g, 0, none⟩) n c)) w := by
  obtain ⟨i0, hi, hz0, hz1, hz2⟩ := info_parts hinfo
  have h1 : (Builtin.append_ #[t, t] o.type #[.slice (some ⟨g, 0, none⟩) n c, .slice b 0 m]).run P w = .ok (.slice (some ⟨g, 0, none⟩) n c) w := by
    rcases b with _ | b
    · simp [Builtin.append_, run_underlying ht, sizeOf, typeInfo, zeroValue, hi, Builtin.lenOf, Builtin.firstCells, storeCells, hn]
    · simp [Builtin.append_, run_underlying ht, sizeOf, typeInfo, zeroValue, hi, Builtin.lenOf, Builtin.firstCells, loadCells, loadCellsFrom, storeCells, hn]
  unfold execOp
  simp only [hop, resolve, invoke, builtin, Sem.run_bind, Sem.run_pure, Result.andThen_ok, List.map_toArray, List.map_cons, List.map_nil, hs, hx, h1]

end Go.Proofs.Ytjhcaedfknhilaa
