/- Disk: Spoil; errors of arguments; nil disks. Disk: Spoil, done. Disk: sectors as values: equal or not. Disk: perform. -/
import Derived.ChangeKeysEq
import Derived.Laws.StructEq
import Derived.Deep.MidRow
import Derived.StillTailTactics
import Derived.Test.YtjhcaedfknhilaaRc3
namespace Go.Proofs.Ytjhcaedfknhilaa
set_option linter.unusedVariables false
set_option linter.unusedSimpArgs false
open Go.RowKit
attribute [local go_sem ↓] Go.wp_at_zero Go.wp_at_succ

set_option maxHeartbeats 2000000 in
theorem Stop_nil (n : Int) (w : World) : Calls Try.prog 19 #[.pointer none, .int .i64 n] w fun e w' => e = .returned (.int .i64 23) ∧ Below w.heap.size w w' := by
  have ho := ((row_new1 w w.heap.size (.int .i64 0) 23 rfl).alloc (.cells #[] 85)).alloc (.cells #[] 85)
  have x1 := ho.cell (i := 0) (by omega)
  have f1 := ho.frozen 0
  have Hcat := Lib.hid (catch_fail_n ⟨w.heap.size + 1, 0, none⟩ ⟨w.heap.size, 0, none⟩ 23 _ _ x1 f1)
  clear x1 f1 ho
  go_enter_defers Try.func19, Try.ntmps19
  go_wp2_with fail
  refine (want_not 23 _).mono ?_
  rintro e w1 ⟨rfl, rfl⟩
  go_wp2
  refine leaves_cons (f := 38) (args := #[.pointer (some ⟨w.heap.size + 1, 0, none⟩), .pointer (some ⟨w.heap.size, 0, none⟩)]) (by simp) (by simp [go_sem]) ?_
  refine Hcat.out.mono ?_
  rintro e u' w'' ⟨rfl, rfl, rfl⟩
  simp [Leaves, settle, results, Try.results19, go_sem, failR]
  exact (((Below.refl _ w).alloc (Nat.le_refl _) _).alloc (by simp) _).alloc (by simp; omega) _

set_option maxHeartbeats 2000000 in
theorem Spoil_nil (n : Int) (w : World) : Calls Try.prog 36 #[.pointer none, .int .i64 n] w fun e w' => e = .returned (.int .i64 23) ∧ Below w.heap.size w w' := by
  have ho := ((row_new1 w w.heap.size (.int .i64 0) 23 rfl).alloc (.cells #[] 85)).alloc (.cells #[] 85)
  have x1 := ho.cell (i := 0) (by omega)
  have f1 := ho.frozen 0
  have Hcat := Lib.hid (catch_fail_n ⟨w.heap.size + 1, 0, none⟩ ⟨w.heap.size, 0, none⟩ 23 _ _ x1 f1)
  clear x1 f1 ho
  go_enter_defers Try.func36, Try.ntmps36
  go_wp2_with fail
  refine (want_not 23 _).mono ?_
  rintro e w1 ⟨rfl, rfl⟩
  go_wp2
  refine leaves_cons (f := 38) (args := #[.pointer (some ⟨w.heap.size + 1, 0, none⟩), .pointer (some ⟨w.heap.size, 0, none⟩)]) (by simp) (by simp [go_sem]) ?_
  refine Hcat.out.mono ?_
  rintro e u' w'' ⟨rfl, rfl, rfl⟩
  simp [Leaves, settle, results, Try.results36, go_sem, failR]
  exact (((Below.refl _ w).alloc (Nat.le_refl _) _).alloc (by simp) _).alloc (by simp; omega) _

set_option maxHeartbeats 2000000 in
theorem Sync_nil  (w : World) : Calls Try.prog 22 #[.pointer none] w fun e w' => e = .returned (.int .i64 23) ∧ Below w.heap.size w w' := by
  have ho := ((row_new1 w w.heap.size (.int .i64 0) 23 rfl).alloc (.cells #[] 85)).alloc (.cells #[] 85)
  have x1 := ho.cell (i := 0) (by omega)
  have f1 := ho.frozen 0
  have Hcat := Lib.hid (catch_fail_n ⟨w.heap.size + 1, 0, none⟩ ⟨w.heap.size, 0, none⟩ 23 _ _ x1 f1)
  clear x1 f1 ho
  go_enter_defers Try.func22, Try.ntmps22
  go_wp2_with fail
  refine (want_not 23 _).mono ?_
  rintro e w1 ⟨rfl, rfl⟩
  go_wp2
  refine leaves_cons (f := 38) (args := #[.pointer (some ⟨w.heap.size + 1, 0, none⟩), .pointer (some ⟨w.heap.size, 0, none⟩)]) (by simp) (by simp [go_sem]) ?_
  refine Hcat.out.mono ?_
  rintro e u' w'' ⟨rfl, rfl, rfl⟩
  simp [Leaves, settle, results, Try.results22, go_sem, failR]
  exact (((Below.refl _ w).alloc (Nat.le_refl _) _).alloc (by simp) _).alloc (by simp; omega) _

set_option maxHeartbeats 2000000 in
theorem Write_nil (n : Int) (v : Value) (w : World) : Calls Try.prog 18 #[.pointer none, .int .i64 n, v] w fun e w' => e = .returned (.int .i64 23) ∧ Below w.heap.size w w' := by
  have ho := ((row_new1 w w.heap.size (.int .i64 0) 23 rfl).alloc (.cells #[] 85)).alloc (.cells #[] 85)
  have x1 := ho.cell (i := 0) (by omega)
  have f1 := ho.frozen 0
  have Hcat := Lib.hid (catch_fail_n ⟨w.heap.size + 1, 0, none⟩ ⟨w.heap.size, 0, none⟩ 23 _ _ x1 f1)
  clear x1 f1 ho
  go_enter_defers Try.func18, Try.ntmps18
  go_wp2_with fail
  refine (want_not 23 _).mono ?_
  rintro e w1 ⟨rfl, rfl⟩
  go_wp2
  refine leaves_cons (f := 38) (args := #[.pointer (some ⟨w.heap.size + 1, 0, none⟩), .pointer (some ⟨w.heap.size, 0, none⟩)]) (by simp) (by simp [go_sem]) ?_
  refine Hcat.out.mono ?_
  rintro e u' w'' ⟨rfl, rfl, rfl⟩
  simp [Leaves, settle, results, Try.results18, go_sem, failR]
  exact (((Below.refl _ w).alloc (Nat.le_refl _) _).alloc (by simp) _).alloc (by simp; omega) _

set_option maxHeartbeats 2000000 in
theorem Crash_nil (v : Value) (w : World) : Calls Try.prog 23 #[.pointer none, v] w fun e w' => e = .returned (.int .i64 23) ∧ Below w.heap.size w w' := by
  have ho := ((row_new1 w w.heap.size (.int .i64 0) 23 rfl).alloc (.cells #[] 85)).alloc (.cells #[] 85)
  have x1 := ho.cell (i := 0) (by omega)
  have f1 := ho.frozen 0
  have Hcat := Lib.hid (catch_fail_n ⟨w.heap.size + 1, 0, none⟩ ⟨w.heap.size, 0, none⟩ 23 _ _ x1 f1)
  clear x1 f1 ho
  go_enter_defers Try.func23, Try.ntmps23
  go_wp2_with fail
  refine (want_not 23 _).mono ?_
  rintro e w1 ⟨rfl, rfl⟩
  go_wp2
  refine leaves_cons (f := 38) (args := #[.pointer (some ⟨w.heap.size + 1, 0, none⟩), .pointer (some ⟨w.heap.size, 0, none⟩)]) (by simp) (by simp [go_sem]) ?_
  refine Hcat.out.mono ?_
  rintro e u' w'' ⟨rfl, rfl, rfl⟩
  simp [Leaves, settle, results, Try.results23, go_sem, failR]
  exact (((Below.refl _ w).alloc (Nat.le_refl _) _).alloc (by simp) _).alloc (by simp; omega) _

set_option maxHeartbeats 2000000 in
theorem Spoil_lo {B g gs gb : Nat} {qv : Value} {D : Dsk} (at_ : Int) (w : World) (h : DiskIn B g gs gb qv D w) (ha : at_ < 0) :
    Calls Try.prog 36 #[.pointer (some ⟨g, 0, none⟩), .int .i64 at_] w (Out1 B g gs gb qv 1 D w) := by
  have hlt := h.lt
  have ho := ((row_new1 w w.heap.size (.int .i64 0) 23 rfl).alloc (.cells #[] 85)).alloc (.cells #[] 85)
  have x1 := ho.cell (i := 0) (by omega)
  have f1 := ho.frozen 0
  have Hcat := Lib.hid (catch_fail_n ⟨w.heap.size + 1, 0, none⟩ ⟨w.heap.size, 0, none⟩ 1 _ _ x1 f1)
  have Hd := Lib.hid h
  obtain ⟨c0, c1, c2, c3, c4, c5⟩ := ((h.all ((Below.refl _ w).alloc (Nat.le_refl _) (.cells #[.int .i64 0] 23))).all ((Below.refl _ _).alloc (Nat.le_refl _) (.cells #[] 85))).cells
  clear x1 f1 ho
  have hd1 : decide (0 ≤ at_) = false := decide_eq_false (by omega)
  clear h
  go_enter_defers Try.func36, Try.ntmps36
  go_wp2_with fail
  refine (want_ok 23 _).mono ?_
  rintro e w1 ⟨rfl, rfl⟩
  go_wp2_with fail
  refine (want_not 1 _).mono ?_
  rintro e w1 ⟨rfl, rfl⟩
  go_wp2
  refine leaves_cons (f := 38) (args := #[.pointer (some ⟨w.heap.size + 1, 0, none⟩), .pointer (some ⟨w.heap.size, 0, none⟩)]) (by simp) (by simp [go_sem]) ?_
  refine Hcat.out.mono ?_
  rintro e u' w'' ⟨rfl, rfl, rfl⟩
  simp [Leaves, settle, results, Try.results36, go_sem, failR]
  exact out1_panic Hd.out

set_option maxHeartbeats 2000000 in
theorem Spoil_hi {B g gs gb : Nat} {qv : Value} {D : Dsk} (at_ : Int) (w : World) (h : DiskIn B g gs gb qv D w) (ha : 0 ≤ at_ ∧ (D.n : Int) ≤ at_) :
    Calls Try.prog 36 #[.pointer (some ⟨g, 0, none⟩), .int .i64 at_] w (Out1 B g gs gb qv 1 D w) := by
  have hlt := h.lt
  have ho := ((row_new1 w w.heap.size (.int .i64 0) 23 rfl).alloc (.cells #[] 85)).alloc (.cells #[] 85)
  have x1 := ho.cell (i := 0) (by omega)
  have f1 := ho.frozen 0
  have Hcat := Lib.hid (catch_fail_n ⟨w.heap.size + 1, 0, none⟩ ⟨w.heap.size, 0, none⟩ 1 _ _ x1 f1)
  have Hd := Lib.hid h
  obtain ⟨c0, c1, c2, c3, c4, c5⟩ := ((h.all ((Below.refl _ w).alloc (Nat.le_refl _) (.cells #[.int .i64 0] 23))).all ((Below.refl _ _).alloc (Nat.le_refl _) (.cells #[] 85))).cells
  clear x1 f1 ho
  have hd1 : decide (0 ≤ at_) = true := decide_eq_true (by omega)
  have hd2 : decide (at_ < D.n) = false := decide_eq_false (by omega)
  clear ha
  clear h
  go_enter_defers Try.func36, Try.ntmps36
  go_wp2_with fail
  refine (want_ok 23 _).mono ?_
  rintro e w1 ⟨rfl, rfl⟩
  go_wp2_with fail
  refine (want_not 1 _).mono ?_
  rintro e w1 ⟨rfl, rfl⟩
  go_wp2
  refine leaves_cons (f := 38) (args := #[.pointer (some ⟨w.heap.size + 1, 0, none⟩), .pointer (some ⟨w.heap.size, 0, none⟩)]) (by simp) (by simp [go_sem]) ?_
  refine Hcat.out.mono ?_
  rintro e u' w'' ⟨rfl, rfl, rfl⟩
  simp [Leaves, settle, results, Try.results36, go_sem, failR]
  exact out1_panic Hd.out

end Go.Proofs.Ytjhcaedfknhilaa

namespace Go.Proofs.Ytjhcaedfknhilaa
set_option linter.unusedVariables false
set_option linter.unusedSimpArgs false
open Go.RowKit
attribute [local go_sem ↓] Go.wp_at_zero Go.wp_at_succ

def Dsk.spoil (D : Dsk) (j : Nat) : Dsk := { D with bad := fun i => decide (i = j) || D.bad i }
theorem DiskIn.spoil {B g gs gb : Nat} {qv : Value} {D : Dsk} {W : World} (h : DiskIn B g gs gb qv D W) (j : Nat) : DiskIn B g gs gb qv (D.spoil j) (W.setCell ⟨gb, j, none⟩ (.bool true)) := by
  obtain ⟨n1, n2, n3⟩ := h.ne
  have ho := h.ok
  refine ⟨h.row.setOther _ _ (Ne.symm n2), h.sec.setOther _ _ (Ne.symm n3), (h.bad.set j (.bool true)).congr fun i _ => ?_, h.que.other h.bad (by decide) j _, h.base, ⟨ho.size, ho.byte, ho.queue, ho.put, ho.pbyte, ho.left⟩⟩
  unfold badV Dsk.spoil
  dsimp only
  by_cases hij : i = j
  · rw [if_pos hij, decide_eq_true hij, Bool.true_or]
  · rw [if_neg hij, decide_eq_false hij, Bool.false_or]

set_option maxHeartbeats 4000000 in
theorem Spoil_ok {B g gs gb : Nat} {qv : Value} {D : Dsk} (j : Nat) (w : World) (h : DiskIn B g gs gb qv D w) (ha : j < D.n) :
    Calls Try.prog 36 #[.pointer (some ⟨g, 0, none⟩), .int .i64 j] w (Out1 B g gs gb qv 0 (D.spoil j) w) := by
  have hlt := h.lt
  have hsz := h.ok.size
  have Hro := Lib.hid ((row_new1 w w.heap.size (.int .i64 0) 23 rfl).alloc (.cells #[] 85))
  have Hbw := Lib.hid (((Below.refl B w).alloc hlt (.cells #[.int .i64 0] 23)).alloc (by simp; omega) (.cells #[] 85))
  have hW := (h.all ((Below.refl _ w).alloc (Nat.le_refl _) (.cells #[.int .i64 0] 23))).all ((Below.refl _ _).alloc (Nat.le_refl _) (.cells #[] 85))
  obtain ⟨c0, c1, c2, c3, c4, c5⟩ := hW.cells
  have e3 := hW.bad.cell (i := j) (by omega)
  have z3 := hW.bad.frozen j
  have Hgne := Lib.hid (show gb ≠ w.heap.size from fun h9 => by have := h.bad.lt; omega)
  have HE := Lib.hid (hW.spoil j)
  have HR := Lib.hid (Hro.out.setOther ⟨gb, j, none⟩ (.bool true) Hgne.out)
  have HB := Lib.hid (Hbw.out.setCell (p := ⟨gb, j, none⟩) h.base.2.2 (.bool true))
  have HC := Lib.hid (((calm_below (((Below.refl _ w).alloc (Nat.le_refl _) (.cells #[.int .i64 0] 23)).alloc (by simp) (.cells #[] 85))).setDisk (i := j) hW.bad rfl (.bool true)).setNew (g := w.heap.size) (i := 0) (Nat.le_refl _) (.int .i64 0))
  unfold badV at e3
  clear hW h Hro Hbw
  have hd1 : decide ((j : Int) < D.n) = true := decide_eq_true (by omega)
  go_enter_defers Try.func36, Try.ntmps36
  go_wp2_with fail
  refine (want_ok 23 _).mono ?_
  rintro e w1 ⟨rfl, rfl⟩
  go_wp2_with fail
  refine (want_ok 1 _).mono ?_
  rintro e w1 ⟨rfl, rfl⟩
  go_upto_region 5 with fail
  clear c0 c1 c2 c3 c4 c5 e3 z3
  generalize (((w.alloc (.cells #[.int .i64 0] 23)).alloc (.cells #[] 85)).setCell ⟨gb, j, none⟩ (.bool true)) = W3 at *
  have x1 := HR.out.cell (i := 0) (by omega)
  have f1 := HR.out.frozen 0
  have y1 := Lib.hid ((HR.out.set1 (.int .i64 0)).cell (i := 0) (by omega))
  go_wp2
  refine leaves_cons (f := 38) (args := #[.pointer (some ⟨w.heap.size + 1, 0, none⟩), .pointer (some ⟨w.heap.size, 0, none⟩)]) (by simp) (by simp [go_sem]) ?_
  refine (catch_idle_n _ _ _).mono ?_
  rintro e u' w'' ⟨rfl, rfl, rfl⟩
  simp [Leaves, settle, results, Try.results36, go_sem, y1.out]
  exact ⟨rfl, HE.out.other HR.out 0 _, HB.out.setCell (p := ⟨w.heap.size, 0, none⟩) hlt _, HC.out⟩

/-- A call that succeeded. -/
def Dsk.used (D : Dsk) : Dsk := { D with left := if D.armed then D.left - 1 else D.left }

/-- All that was there stands, but for three blocks. -/
def Only3 (a b c : Nat) (w w' : World) : Prop := w.heap.size ≤ w'.heap.size ∧ ∀ k, k < w.heap.size → k ≠ a → k ≠ b → k ≠ c → w'.heap[k]? = w.heap[k]?
theorem Only3.refl (a b c : Nat) (w : World) : Only3 a b c w w := ⟨Nat.le_refl _, fun _ _ _ _ _ => rfl⟩
theorem Only3.setA {a b c : Nat} {w w1 : World} (h : Only3 a b c w w1) (i : Nat) (v : Value) : Only3 a b c w (w1.setCell ⟨a, i, none⟩ v) :=
  ⟨by simp; exact h.1, fun k hk h1 h2 h3 => (Below.heap_setCell w1 ⟨a, i, none⟩ v k h1).trans (h.2 k hk h1 h2 h3)⟩
theorem Only3.trans {a b c : Nat} {w w1 w2 : World} (h : Only3 a b c w w1) (h' : Only3 a b c w1 w2) : Only3 a b c w w2 :=
  ⟨Nat.le_trans h.1 h'.1, fun k hk h1 h2 h3 => (h'.2 k (Nat.lt_of_lt_of_le hk h.1) h1 h2 h3).trans (h.2 k hk h1 h2 h3)⟩
theorem only3_below {a b c : Nat} {w w' : World} (h : Below w.heap.size w w') : Only3 a b c w w' := ⟨h.size, fun k hk _ _ _ => h.block k hk⟩

theorem calm_only3 {B g gs gb : Nat} {qv : Value} {D : Dsk} {w w' : World} (h : DiskIn B g gs gb qv D w) (ho : Only3 g gs gb w w') : Calm w w' := by
  refine ⟨ho.1, fun b o hb hn => (ho.2 b (Array.getElem?_eq_some_iff.1 hb).1 ?_ ?_ ?_).trans hb⟩
  · rintro rfl; obtain ⟨cur, hg, _⟩ := h.row; rw [hg] at hb; cases hb; cases hn
  · rintro rfl; obtain ⟨cur, hg, _⟩ := h.sec; rw [hg] at hb; cases hb; cases hn
  · rintro rfl; obtain ⟨cur, hg, _⟩ := h.bad; rw [hg] at hb; cases hb; cases hn

set_option maxHeartbeats 4000000 in
theorem done_any {B g gs gb : Nat} {qv : Value} {D : Dsk} (w : World) (h : DiskIn B g gs gb qv D w) (hl : D.armed = true → 1 ≤ D.left) :
    Calls Try.prog 40 #[.pointer (some ⟨g, 0, none⟩)] w fun e w' => e = .returned (.tuple #[]) ∧ DiskIn B g gs gb qv D.used w' ∧ Below B w w' ∧ Only3 g gs gb w w' := by
  obtain ⟨c0, c1, c2, c3, c4, c5⟩ := h.cells
  have z5 := h.row.frozen 5
  have hb := h.base
  have hlf := h.ok.left
  rcases h1 : D.armed with _ | _
  · have hu : D.used = D := by unfold Dsk.used; rw [if_neg (by rw [h1]; simp)]
    rw [hu]
    rw [h1] at c4
    have Hd := Lib.hid h
    clear h hu h1 hl
    go_enter Try.func40, Try.ntmps40
    go_wp2
    go_end0
    exact ⟨rfl, Hd.out, Below.refl _ _, Only3.refl _ _ _ _⟩
  · have hl1 := hl h1
    have ho := h.ok
    have hE : DiskIn B g gs gb qv D.used (w.setCell ⟨g, 5, none⟩ (.int .i64 (D.left - 1))) := by
      refine h.put 5 (.int .i64 (D.left - 1)) (fun j hj => ?_) rfl rfl rfl rfl rfl rfl rfl rfl ⟨ho.size, ho.byte, ho.queue, ho.put, ho.pbyte, by unfold Dsk.used; rw [h1]; show 0 ≤ D.left - 1 ∧ D.left - 1 ≤ 9223372036854775807; omega⟩
      have hu : D.used.left = D.left - 1 := by unfold Dsk.used; rw [h1]; rfl
      obtain rfl | rfl | rfl | rfl | rfl | rfl : j = 0 ∨ j = 1 ∨ j = 2 ∨ j = 3 ∨ j = 4 ∨ j = 5 := by omega
      all_goals first | rfl | (show Value.int .i64 (D.left - 1) = .int .i64 D.used.left; rw [hu])
    have HE := Lib.hid (And.intro hE (And.intro ((Below.refl B w).setCell (p := ⟨g, 5, none⟩) hb.1 (.int .i64 (D.left - 1))) ((Only3.refl g gs gb w).setA 5 (.int .i64 (D.left - 1)))))
    rw [h1] at c4
    clear h hl h1 hE ho
    go_enter Try.func40, Try.ntmps40
    go_wp2
    go_end0
    exact ⟨rfl, HE.out⟩

end Go.Proofs.Ytjhcaedfknhilaa

namespace Go.Proofs.Ytjhcaedfknhilaa
set_option linter.unusedVariables false
set_option linter.unusedSimpArgs false
open Go.RowKit

/-- The bytes of a sector, as cells. -/
def secL (f : Nat → Int) : List Value := (List.range 64).map fun j => .int .u8 (f j)
theorem secL_len (f : Nat → Int) : (secL f).length = 64 := by simp [secL]
theorem secL_get (f : Nat → Int) {j : Nat} (hj : j < 64) : (secL f)[j]? = some (.int .u8 (f j)) := by simp [secL, hj]

theorem under_sec : Try.prog.underlying 79 = some (.array 64 5) := by kernel_rfl
theorem under_u8 : Try.prog.underlying 5 = some (.int .u8) := by kernel_rfl
theorem info_ex : ∃ i, Try.prog.info? 5 = some i := by
  cases h : Try.prog.info? 5 with
  | none => have : (Try.prog.info? 5).isSome = true := by kernel_rfl
            rw [h] at this; cases this
  | some i => exact ⟨i, rfl⟩
theorem cells_u8 : Try.prog.cellsOf 5 = 1 := by kernel_rfl

theorem part_u8 (f : Nat → Int) {j : Nat} (hj : j < 64) (w : World) : (part 5 (secL f).toArray j).run Try.prog w = .ok (.int .u8 (f j)) w := by
  have h1 : ((secL f).toArray)[j]? = some (.int .u8 (f j)) := by rw [List.getElem?_toArray]; exact secL_get f hj
  simp [part, isAgg, run_underlying under_u8, h1]

theorem eqItems_sec (f g : Nat → Int) (w : World) : ∀ is : List Nat, (∀ i ∈ is, i < 64) → (Op.eqItems 9999 5 1 (secL f).toArray (secL g).toArray is).run Try.prog w = .ok (is.all fun i => f i == g i) w
  | [], _ => by simp [Op.eqItems]
  | i :: is, h => by
    have hi := h i (by simp)
    have ih := eqItems_sec f g w is (fun k hk => h k (by simp [hk]))
    have e := run_equalIn_int (P := Try.prog) w 9998 5 .u8 .u8 (f i) (g i) under_u8
    simp only [Op.eqItems, Sem.run_bind, Nat.mul_one, part_u8 f hi w, part_u8 g hi w, Result.andThen_ok, e]
    rcases hb : (f i == g i) with _ | _
    · simp [hb]
    · simp [hb, ih]

def sameS (f g : Nat → Int) : Bool := (List.range 64).all fun i => f i == g i
theorem equal_sec (f g : Nat → Int) (w : World) : (Op.equalIn 10000 79 (.agg (secL f).toArray) (.agg (secL g).toArray)).run Try.prog w = .ok (sameS f g) w := by
  obtain ⟨i, hi⟩ := info_ex
  rw [run_equalIn_array w 9999 _ _ under_sec hi, cells_u8]
  exact eqItems_sec f g w _ (fun k hk => List.mem_range.1 hk)
theorem sameS_iff {f g : Nat → Int} : sameS f g = true ↔ ∀ j, j < 64 → f j = g j := by
  unfold sameS
  rw [List.all_eq_true]
  constructor
  · intro h j hj; simpa using h j (List.mem_range.2 hj)
  · intro h j hj; simpa using h j (List.mem_range.1 hj)

end Go.Proofs.Ytjhcaedfknhilaa

namespace Go.Proofs.Ytjhcaedfknhilaa
set_option linter.unusedVariables false
set_option linter.unusedSimpArgs false
open Go.RowKit
attribute [local go_sem ↓] Go.wp_at_zero Go.wp_at_succ

/-- An element of the queue as a value. -/
def putA (a : Nat) (f : Nat → Int) : Value := .agg (Value.int .i64 a :: secL f).toArray

def Dsk.perform (D : Dsk) (a : Nat) (f : Nat → Int) : Dsk := { D with sec := fun i j => if i = a then f j else D.sec i j, bad := fun i => if i = a then false else D.bad i }

theorem secV_range {W : World} {g : Nat} {e : TypeId} {c n : Nat} {F : Nat → Nat → Int} (h : RowAt W g e c (n * 64) (secV F)) {i : Nat} (hi : i < n) : W.rangeAt g (i * 64) (secL (F i)) := by
  intro j v hj
  have hj64 : j < 64 := by
    rcases Nat.lt_or_ge j 64 with h1 | h1
    · exact h1
    · rw [List.getElem?_eq_none (by rw [secL_len]; exact h1)] at hj; cases hj
  rw [secL_get (F i) hj64] at hj
  cases hj
  have hk : i * 64 + j < n * 64 := by omega
  have := h.cell hk
  unfold secV at this
  rw [show (i * 64 + j) / 64 = i from by omega, show (i * 64 + j) % 64 = j from by omega] at this
  exact this

theorem RowAt.there {W : World} {g : Nat} {e : TypeId} {c n : Nat} {F : Nat → Value} (h : RowAt W g e c n F) {o m : Nat} (hm : o + m ≤ n) : W.there g o m := fun j hj =>
  ⟨by rw [h.cell (i := o + j) (by omega)]; rfl, h.frozen _⟩

theorem size_sec : (Try.prog.info? 79).map (·.size) = some 64 := by kernel_rfl

theorem guard_sec : Try.prog.eqGuardType Try.prog.depth 79 = false := by kernel_rfl

/-- A put in a box of its own. -/
theorem box_put (w : World) (a : Nat) (f : Nat → Int) : RowAt (w.alloc (.cells (Value.int .i64 a :: secL f).toArray 81)) w.heap.size 81 65 65 (putV (fun _ => a) (fun _ => f)) :=
  row_of w _ _ _ (by simp [secL_len]) (fun i hi => by
    rw [List.getElem?_toArray]
    cases i with
    | zero => rfl
    | succ j =>
      rw [List.getElem?_cons_succ, secL_get f (by omega)]
      unfold putV
      rw [if_neg (by omega), show (j + 1) % 65 - 1 = j from by omega]) rfl
theorem putV_range {W : World} {g : Nat} {e : TypeId} {c n : Nat} {A : Nat → Nat} {F : Nat → Nat → Int} (h : RowAt W g e c (n * 65) (putV A F)) {i : Nat} (hi : i < n) :
    W.cell? ⟨g, i * 65, none⟩ = some (.int .i64 (A i)) ∧ W.rangeAt g (i * 65 + 1) (secL (F i)) := by
  constructor
  · have := h.cell (i := i * 65) (by omega)
    unfold putV at this
    rw [if_pos (by omega), show i * 65 / 65 = i from by omega] at this
    exact this
  · intro j v hj
    have hj64 : j < 64 := by
      rcases Nat.lt_or_ge j 64 with h1 | h1
      · exact h1
      · rw [List.getElem?_eq_none (by rw [secL_len]; exact h1)] at hj; cases hj
    rw [secL_get (F i) hj64] at hj
    cases hj
    have := h.cell (i := i * 65 + 1 + j) (by omega)
    unfold putV at this
    rw [if_neg (by omega), show (i * 65 + 1 + j) / 65 = i from by omega, show (i * 65 + 1 + j) % 65 - 1 = j from by omega] at this
    exact this

theorem still_load {P : Program} {ops : Array Oper} {w : World} {Q : Act → Prop} {a : Act} {o : Oper} {rest : List Oper} (hg : Region.wanted o (yielded ops a.tmps) = true) (ty : TypeId) (x : Operand) (ho : o.op = .load ty x)
    (p : Addr) (hx : a.eval x = .pointer (some p)) (v : Value) (hrun : (Instr.loadAt ty (.pointer (some p))).run P w = .ok v w) (h : wpStill P ops w Q rest (a.put o.dst v)) : wpStill P ops w Q (o :: rest) a := by
  unfold wpStill
  rw [if_pos hg]
  unfold Oper.still execOp
  rw [ho]
  simp only [hx, Sem.run_bind, hrun, Result.andThen_ok, Sem.run_pure]
  exact ⟨rfl, h⟩

theorem DiskIn.perform {B g gs gb : Nat} {qv : Value} {D : Dsk} {W : World} (h : DiskIn B g gs gb qv D W) {a : Nat} (ha : a < D.n) (f : Nat → Int) (hf : ∀ j, 0 ≤ f j ∧ f j < 256) :
    DiskIn B g gs gb qv (D.perform a f) ((W.setCells gs (a * 64) (secL f)).setCell ⟨gb, a, none⟩ (.bool false)) := by
  obtain ⟨n1, n2, n3⟩ := h.ne
  have ho := h.ok
  obtain ⟨hs, hw⟩ := RowAt.setCells (secL f) (a * 64) h.sec
  have hbad := h.bad.wrote hw (Ne.symm n3)
  refine ⟨(h.row.wrote hw n1).setOther _ _ (Ne.symm n2), (hs.congr fun i hi => ?_).setOther _ _ (Ne.symm n3), (hbad.set a (.bool false)).congr fun i _ => ?_, ?_, h.base, ⟨ho.size, fun i j => ?_, ho.queue, ho.put, ho.pbyte, ho.left⟩⟩
  · rw [secL_len]
    unfold secV Dsk.perform
    dsimp only
    by_cases hin : a * 64 ≤ i ∧ i < a * 64 + 64
    · rw [if_pos hin, if_pos (by omega), List.getD_eq_getElem?_getD, secL_get f (by omega), show i % 64 = i - a * 64 from by omega]
      rfl
    · rw [if_neg hin, if_neg (by omega)]
  · unfold badV Dsk.perform
    dsimp only
    by_cases hia : i = a
    · rw [if_pos hia, if_pos hia]
    · rw [if_neg hia, if_neg hia]
  · rcases h.que with hq | ⟨gq, cap, q1, q2, q3, q4⟩
    · exact .inl hq
    · exact .inr ⟨gq, cap, q1, q2, (q3.wrote hw (q3.neType h.sec (by decide))).setOther _ _ (h.bad.neType q3 (by decide)), q4⟩
  · show 0 ≤ (if i = a then f j else D.sec i j) ∧ (if i = a then f j else D.sec i j) < 256
    split
    · exact hf j
    · exact ho.byte i j

theorem DiskIn.perform_same {B g gs gb : Nat} {qv : Value} {D : Dsk} {W : World} (h : DiskIn B g gs gb qv D W) {a : Nat} (f : Nat → Int) (hf : ∀ j, 0 ≤ f j ∧ f j < 256) (hor : (D.bad a || !sameS (D.sec a) f) = false) : DiskIn B g gs gb qv (D.perform a f) W := by
  have ho := h.ok
  obtain ⟨hb, hs⟩ : D.bad a = false ∧ sameS (D.sec a) f = true := by simpa using hor
  have hs := sameS_iff.1 hs
  refine ⟨h.row, h.sec.congr fun i hi => ?_, h.bad.congr fun i hi => ?_, h.que, h.base, ⟨ho.size, fun i j => ?_, ho.queue, ho.put, ho.pbyte, ho.left⟩⟩
  · unfold secV Dsk.perform
    dsimp only
    by_cases hia : i / 64 = a
    · rw [if_pos hia, hia, hs _ (Nat.mod_lt _ (by decide))]
    · rw [if_neg hia]
  · unfold badV Dsk.perform
    dsimp only
    by_cases hia : i = a
    · rw [if_pos hia, hia, hb]
    · rw [if_neg hia]
  · show 0 ≤ (if i = a then f j else D.sec i j) ∧ (if i = a then f j else D.sec i j) < 256
    split
    · exact hf j
    · exact ho.byte i j

/-- A load by a law, in a region whose operations only read. -/
theorem quiet_load {P : Program} {ops : Array Oper} {C : World → Prop} {Q : Act → Prop} {a : Act} {o : Oper} {rest : List Oper} (hg : Region.wanted o (yielded ops a.tmps) = true) (ty : TypeId) (x : Operand) (ho : o.op = .load ty x)
    (p : Addr) (hx : a.eval x = .pointer (some p)) (v : Value) (hrun : ∀ w, C w → (Instr.loadAt ty (.pointer (some p))).run P w = .ok v w) (h : wpQuiet P ops C Q rest (a.put o.dst v)) : wpQuiet P ops C Q (o :: rest) a := by
  unfold wpQuiet
  rw [if_pos hg]
  refine ⟨v, fun w hw => ?_, h⟩
  unfold Oper.quietAt execOp
  rw [ho]
  simp only [hx, Sem.run_bind, hrun w hw, Result.andThen_ok, Sem.run_pure]
  exact ⟨rfl, rfl⟩

theorem perfS {W : World} {g gs bx n a cn : Nat} {A B C D E F : Value} {G : Nat → Value} {f : Nat → Int} (hr : RowAt W g 76 6 6 (st6 A B C D E F)) (hs : RowAt W gs 79 cn (n * 64) G)
    (hx : RowAt W bx 81 65 65 (putV (fun _ => a) (fun _ => f))) (ha : a < n) :
    W.cell? ⟨g, 0, none⟩ = some A ∧ W.cell? ⟨g, 1, none⟩ = some B ∧ W.cell? ⟨bx, 0, none⟩ = some (.int .i64 a) ∧ W.rangeAt bx 1 (secL f) ∧ W.there gs (a * 64) 64 := by
  obtain ⟨p0, p1⟩ := putV_range (n := 1) hx (i := 0) (by omega)
  rw [Nat.zero_mul] at p0
  rw [Nat.zero_mul, Nat.zero_add] at p1
  exact ⟨hr.cell (i := 0) (by omega), hr.cell (i := 1) (by omega), p0, p1, hs.there (by omega)⟩

/-- All that was there stands, but for two blocks. -/
def Only2 (a b : Nat) (w w' : World) : Prop := w.heap.size ≤ w'.heap.size ∧ ∀ k, k < w.heap.size → k ≠ a → k ≠ b → w'.heap[k]? = w.heap[k]?
theorem Only2.refl (a b : Nat) (w : World) : Only2 a b w w := ⟨Nat.le_refl _, fun _ _ _ _ => rfl⟩
theorem only2_below {a b : Nat} {w w' : World} (h : Below w.heap.size w w') : Only2 a b w w' := ⟨h.size, fun k hk _ _ => h.block k hk⟩
theorem Only2.trans {a b : Nat} {w w1 w2 : World} (h : Only2 a b w w1) (h' : Only2 a b w1 w2) : Only2 a b w w2 :=
  ⟨Nat.le_trans h.1 h'.1, fun k hk h1 h2 => (h'.2 k (Nat.lt_of_lt_of_le hk h.1) h1 h2).trans (h.2 k hk h1 h2)⟩
theorem Only2.drewN {a b : Nat} {w w' : World} (h : Only2 a b w w') (k : Nat) : Only2 a b w (w'.drewN k) := h
theorem Only2.drew {a b : Nat} {w w' : World} (h : Only2 a b w w') : Only2 a b w w'.drew := h
theorem Only2.wrote {a b : Nat} {w w1 w2 : World} (h : Only2 a b w w1) (h' : Wrote w1 w2 a) : Only2 a b w w2 :=
  h.trans ⟨h'.1.size, fun _ _ h1 _ => h'.block h1⟩
theorem Only2.setB {a b : Nat} {w w1 : World} (h : Only2 a b w w1) (i : Nat) (v : Value) : Only2 a b w (w1.setCell ⟨b, i, none⟩ v) :=
  h.trans ⟨by simp, fun k _ _ h2 => Below.heap_setCell w1 ⟨b, i, none⟩ v k h2⟩

set_option maxRecDepth 8000 in
set_option maxHeartbeats 600000 in
theorem perform_any {B g gs gb : Nat} {qv : Value} {D : Dsk} (a : Nat) (f : Nat → Int) (w : World) (h : DiskIn B g gs gb qv D w) (ha : a < D.n) (hf : ∀ j, 0 ≤ f j ∧ f j < 256) :
    Calls Try.prog 60 #[.pointer (some ⟨g, 0, none⟩), putA a f] w fun e w' => e = .returned (.tuple #[]) ∧ DiskIn B g gs gb qv (D.perform a f) w' ∧ Below B w w' ∧ Only2 gs gb w w' := by
  have hsz := h.ok.size
  have hlt := h.lt
  have hb0 : Below w.heap.size w (w.alloc (.cells (Value.int .i64 a :: secL f).toArray 81)) := (Below.refl _ w).alloc (Nat.le_refl _) _
  have hbx := box_put w a f
  have hW := h.all hb0
  obtain ⟨p0, p1⟩ := putV_range (n := 1) hbx (i := 0) (by omega)
  rw [Nat.zero_mul] at p0
  rw [Nat.zero_mul, Nat.zero_add] at p1
  obtain ⟨c0, c1, c2, c3, c4, c5⟩ := hW.cells
  have e3 := hW.bad.cell (i := a) (by omega)
  have e4 := secV_range hW.sec ha
  have HW := Lib.hid hW
  have HBX := Lib.hid hbx
  have HBW := Lib.hid (And.intro ((Below.refl B w).alloc hlt (.cells (Value.int .i64 a :: secL f).toArray 81)) (only2_below (a := gs) (b := gb) hb0))
  have Hd := Lib.hid h
  have Hf := Lib.hid hf; clear hf
  have hu := under_sec
  have hi1 : (Try.prog.info? 79).map (·.size) = some (secL (D.sec a)).length := by rw [secL_len]; exact size_sec
  have hi2 : (Try.prog.info? 79).map (·.size) = some (secL f).length := by rw [secL_len]; exact size_sec
  have hcmp := fun w => equal_sec (D.sec a) f w
  have hgd := guard_sec
  have Hbx := Lib.hid (fun k => (putV_range (n := 1) (hbx.all (below_drewN _ _ k)) (i := 0) (by omega)).2)
  have Hbx0 := Lib.hid (fun k => (by have h9 := (putV_range (n := 1) (hbx.all (below_drewN _ _ k)) (i := 0) (by omega)).1; rw [Nat.zero_mul] at h9; exact h9 : ((w.alloc (.cells (Value.int .i64 a :: secL f).toArray 81)).drewN k).cell? ⟨w.heap.size, 0, none⟩ = some (.int .i64 a)))
  unfold badV at e3
  clear hW h c2 c3 c4 c5 hbx
  unfold putA
  go_enter Try.func60, Try.ntmps60
  go_upto_region 1 with fail
  generalize (w.alloc (.cells (Value.int .i64 a :: secL f).toArray 81)) = W at *
  have hl1 : ∀ k, (Instr.loadAt 79 (.pointer (some ⟨gs, a * 64, none⟩))).run Try.prog (W.drewN k) = .ok (.agg (secL (D.sec a)).toArray) (W.drewN k) := fun k => run_loadAt_mid _ _ _ _ _ _ (secV_range (HW.out.all (below_drewN _ _ k)).sec ha) hu rfl hi1
  have hl2 : ∀ k, (Instr.loadAt 79 (.pointer (some ⟨w.heap.size, 1, none⟩))).run Try.prog (W.drewN k) = .ok (.agg (secL f).toArray) (W.drewN k) := fun k => run_loadAt_mid _ _ _ _ _ _ (Hbx.out k) hu rfl hi2
  have Hl1 := Lib.hid hl1
  have Hl2 := Lib.hid hl2
  clear hu hi1 hi2 e4 p1 hl1 hl2
  go_cut [24] from 4 to 40 (fun s24 wx => s24 = .bool (D.bad a || !sameS (D.sec a) f) ∧ ∃ k, wx = W.drewN k)
  case first =>
    rcases hb : D.bad a with _ | _
    · rw [hb] at e3
      have Hb := Lib.hid hb; clear hb
      rcases hsm : sameS (D.sec a) f with _ | _ <;> rw [hsm] at hcmp <;> have Hs := Lib.hid hsm <;> clear hsm
      · refine wp_region_quiet_lit (by kernel_rfl) (by kernel_rfl) ?_
        iterate 16 (quiet_step (fail))
        refine quiet_load (by rfl) 79 _ (by rfl) ⟨gs, a * 64, none⟩ (by rfl) _ (fun w hw => by obtain ⟨k, rfl⟩ := hw; exact Hl1.out k) ?_
        iterate 1 (quiet_step (fail))
        refine quiet_load (by rfl) 79 _ (by rfl) ⟨w.heap.size, 1, none⟩ (by rfl) _ (fun w hw => by obtain ⟨k, rfl⟩ := hw; exact Hl2.out k) ?_
        iterate 2 (quiet_step (fail))
        refine wpQuiet_nil ?_
        intro w2 hw2
        go_wp2_with fail
        go_meet
        case rel => exact ⟨by rw [Hb.out, Hs.out]; rfl, hw2⟩
      · refine wp_region_quiet_lit (by kernel_rfl) (by kernel_rfl) ?_
        iterate 16 (quiet_step (fail))
        refine quiet_load (by rfl) 79 _ (by rfl) ⟨gs, a * 64, none⟩ (by rfl) _ (fun w hw => by obtain ⟨k, rfl⟩ := hw; exact Hl1.out k) ?_
        iterate 1 (quiet_step (fail))
        refine quiet_load (by rfl) 79 _ (by rfl) ⟨w.heap.size, 1, none⟩ (by rfl) _ (fun w hw => by obtain ⟨k, rfl⟩ := hw; exact Hl2.out k) ?_
        iterate 2 (quiet_step (fail))
        refine wpQuiet_nil ?_
        intro w2 hw2
        go_wp2_with fail
        go_meet
        case rel => exact ⟨by rw [Hb.out, Hs.out]; rfl, hw2⟩
    · rw [hb] at e3
      have Hb := Lib.hid hb; clear hb
      go_quiet (fail)
      go_wp2_with fail
      go_meet
      case rel => exact ⟨by rw [Hb.out]; rfl, _, rfl⟩
  obtain ⟨rfl, k, rfl⟩ := hcut
  have HWk := Lib.hid (HW.out.all (below_drewN _ _ k))
  rcases hor : (D.bad a || !sameS (D.sec a) f) with _ | _
  · have Hfin := Lib.hid (And.intro (HWk.out.perform_same f Hf.out hor) (And.intro (HBW.out.1.trans (below_drewN _ _ k)) (HBW.out.2.drewN k)))
    clear hor hcmp
    go_wp2
    go_end0
    exact ⟨rfl, Hfin.out⟩
  · have hwk := HWk.out
    have hbxk := HBX.out.all (below_drewN _ _ k)
    have hbw0 := And.intro (HBW.out.1.trans (below_drewN _ _ k)) (HBW.out.2.drewN k)
    clear HWk Hbx Hbx0 HW HBX HBW
    generalize W.drewN k = V at *
    have hwd := hwk.all ((Below.refl _ V).drew)
    have hbxd := hbxk.all ((Below.refl _ V).drew)
    obtain ⟨hss, hww⟩ := RowAt.setCells (secL f) (a * 64) hwd.sec
    have hbad1 := hwd.bad.wrote hww (Ne.symm hwd.ne.2.2)
    have hr1 := hwd.row.wrote hww hwd.ne.1
    have hx1 := hbxd.wrote hww (hbxd.neType hwd.sec (by decide))
    have e5 := hbad1.cell (i := a) (by omega)
    have f5 := hbad1.frozen a
    unfold badV at e5
    have hrow6 := (hwk.bad.wrote (RowAt.setCells (secL f) (a * 64) hwk.sec).2 (Ne.symm hwk.ne.2.2)).drew
    have e6 := hrow6.cell (i := a) (by omega)
    have f6 := hrow6.frozen a
    unfold badV at e6
    have K0 := Lib.hid (perfS hwd.row hwd.sec hbxd ha)
    have K1 := Lib.hid (perfS hr1 hss hx1 ha)
    have K2 := Lib.hid (perfS (hr1.setOther ⟨gb, a, none⟩ (.bool false) (Ne.symm hwd.ne.2.1)) (hss.setOther ⟨gb, a, none⟩ (.bool false) (Ne.symm hwd.ne.2.2)) (hx1.setOther ⟨gb, a, none⟩ (.bool false) (hwd.bad.neType hbxd (by decide))) ha)
    have Hfin := Lib.hid (hwd.perform ha f Hf.out)
    have hbw : Below B w V.drew := hbw0.1.drew
    have hon : Only2 gs gb w V.drew := hbw0.2.drew
    have Hbel := Lib.hid (And.intro ((hww.below hbw hwd.lt hwd.base.2.1).setCell (p := ⟨gb, a, none⟩) hwd.base.2.2 (.bool false)) ((hon.wrote hww).setB a (.bool false)))
    have hu := under_sec
    have hi2 : (Try.prog.info? 79).map (·.size) = some (secL f).length := by rw [secL_len]; exact size_sec
    have hi3 : (Try.prog.info? 79).map (·.size) = some (secL f).toArray.size := by rw [List.size_toArray, secL_len]; exact size_sec
    have hlen := secL_len f
    have hone : ∀ v ∈ secL f, v.oneCell' = true := fun v hv => by
      obtain ⟨j, _, rfl⟩ := List.mem_map.1 hv
      rfl
    clear hcmp hor hwd hbxd hss hww hbad1 hr1 hx1 hbw hon hrow6 hwk hbxk hbw0
    generalize secL f = cs at *
    go_upto_region 2 with fail
    go_region_held (fun w' => w'.cell? ⟨g, 0, none⟩ = some (.slice (some ⟨gs, 0, none⟩) D.n D.cs) ∧ w'.cell? ⟨g, 1, none⟩ = some (.slice (some ⟨gb, 0, none⟩) D.n D.cb) ∧ w'.cell? ⟨w.heap.size, 0, none⟩ = some (.int .i64 a) ∧ w'.rangeAt w.heap.size 1 cs ∧ w'.there gs (a * 64) 64) (first | (with_reducible exact K1.out) | (with_reducible exact K2.out) | (with_reducible exact K0.out)) (fail)
    go_wp2
    go_end0
    exact ⟨rfl, Hfin.out, Hbel.out⟩

end Go.Proofs.Ytjhcaedfknhilaa
