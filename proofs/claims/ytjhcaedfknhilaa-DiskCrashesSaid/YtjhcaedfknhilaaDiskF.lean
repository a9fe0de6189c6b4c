/- Disk: Spoil; errors of arguments; nil disks. -/
import Derived.Test.YtjhcaedfknhilaaDiskE
namespace Go.Proofs.Ytjhcaedfknhilaa
open Go.RowKit
attribute [local go_sem ↓] Go.wp_at_zero Go.wp_at_succ

set_option maxHeartbeats 2000000 in
theorem Stop_nil (n : Int) (w : World) : Calls Try.prog 19 #[.pointer none, .int .i64 n] w fun e w' => e = .returned (.int .i64 23) ∧ Below w.heap.size w w' := by
  have ho := ((row_new1 w w.heap.size (.int .i64 0) 23 rfl).alloc (.cells #[] 85)).alloc (.cells #[] 85)
  have x1 := ho.cell (i := 0) (by omega)
  have f1 := ho.frozen 0
  have Hcat := Lib.hid (catch_fail_n ⟨w.heap.size + 1, 0, none⟩ ⟨w.heap.size, 0, none⟩ 23 _ _ x1 f1)
  clear x1 f1 ho
  go_enter_defers Try.func19, Try.ntmps19
  go_wp2_with fail
  refine (want_not 23 _).mono ?_
  rintro e w1 ⟨rfl, rfl⟩
  go_wp2
  refine leaves_cons (f := 38) (args := #[.pointer (some ⟨w.heap.size + 1, 0, none⟩), .pointer (some ⟨w.heap.size, 0, none⟩)]) (by simp) (by simp [go_sem]) ?_
  refine Hcat.out.mono ?_
  rintro e u' w'' ⟨rfl, rfl, rfl⟩
  simp [Leaves, settle, results, Try.results19, go_sem, failR]
  exact (((Below.refl _ w).alloc (Nat.le_refl _) _).alloc (by simp) _).alloc (by simp; omega) _

set_option maxHeartbeats 2000000 in
theorem Spoil_nil (n : Int) (w : World) : Calls Try.prog 36 #[.pointer none, .int .i64 n] w fun e w' => e = .returned (.int .i64 23) ∧ Below w.heap.size w w' := by
  have ho := ((row_new1 w w.heap.size (.int .i64 0) 23 rfl).alloc (.cells #[] 85)).alloc (.cells #[] 85)
  have x1 := ho.cell (i := 0) (by omega)
  have f1 := ho.frozen 0
  have Hcat := Lib.hid (catch_fail_n ⟨w.heap.size + 1, 0, none⟩ ⟨w.heap.size, 0, none⟩ 23 _ _ x1 f1)
  clear x1 f1 ho
  go_enter_defers Try.func36, Try.ntmps36
  go_wp2_with fail
  refine (want_not 23 _).mono ?_
  rintro e w1 ⟨rfl, rfl⟩
  go_wp2
  refine leaves_cons (f := 38) (args := #[.pointer (some ⟨w.heap.size + 1, 0, none⟩), .pointer (some ⟨w.heap.size, 0, none⟩)]) (by simp) (by simp [go_sem]) ?_
  refine Hcat.out.mono ?_
  rintro e u' w'' ⟨rfl, rfl, rfl⟩
  simp [Leaves, settle, results, Try.results36, go_sem, failR]
  exact (((Below.refl _ w).alloc (Nat.le_refl _) _).alloc (by simp) _).alloc (by simp; omega) _

set_option maxHeartbeats 2000000 in
theorem Sync_nil  (w : World) : Calls Try.prog 22 #[.pointer none] w fun e w' => e = .returned (.int .i64 23) ∧ Below w.heap.size w w' := by
  have ho := ((row_new1 w w.heap.size (.int .i64 0) 23 rfl).alloc (.cells #[] 85)).alloc (.cells #[] 85)
  have x1 := ho.cell (i := 0) (by omega)
  have f1 := ho.frozen 0
  have Hcat := Lib.hid (catch_fail_n ⟨w.heap.size + 1, 0, none⟩ ⟨w.heap.size, 0, none⟩ 23 _ _ x1 f1)
  clear x1 f1 ho
  go_enter_defers Try.func22, Try.ntmps22
  go_wp2_with fail
  refine (want_not 23 _).mono ?_
  rintro e w1 ⟨rfl, rfl⟩
  go_wp2
  refine leaves_cons (f := 38) (args := #[.pointer (some ⟨w.heap.size + 1, 0, none⟩), .pointer (some ⟨w.heap.size, 0, none⟩)]) (by simp) (by simp [go_sem]) ?_
  refine Hcat.out.mono ?_
  rintro e u' w'' ⟨rfl, rfl, rfl⟩
  simp [Leaves, settle, results, Try.results22, go_sem, failR]
  exact (((Below.refl _ w).alloc (Nat.le_refl _) _).alloc (by simp) _).alloc (by simp; omega) _

set_option maxHeartbeats 2000000 in
theorem Write_nil (n : Int) (v : Value) (w : World) : Calls Try.prog 18 #[.pointer none, .int .i64 n, v] w fun e w' => e = .returned (.int .i64 23) ∧ Below w.heap.size w w' := by
  have ho := ((row_new1 w w.heap.size (.int .i64 0) 23 rfl).alloc (.cells #[] 85)).alloc (.cells #[] 85)
  have x1 := ho.cell (i := 0) (by omega)
  have f1 := ho.frozen 0
  have Hcat := Lib.hid (catch_fail_n ⟨w.heap.size + 1, 0, none⟩ ⟨w.heap.size, 0, none⟩ 23 _ _ x1 f1)
  clear x1 f1 ho
  go_enter_defers Try.func18, Try.ntmps18
  go_wp2_with fail
  refine (want_not 23 _).mono ?_
  rintro e w1 ⟨rfl, rfl⟩
  go_wp2
  refine leaves_cons (f := 38) (args := #[.pointer (some ⟨w.heap.size + 1, 0, none⟩), .pointer (some ⟨w.heap.size, 0, none⟩)]) (by simp) (by simp [go_sem]) ?_
  refine Hcat.out.mono ?_
  rintro e u' w'' ⟨rfl, rfl, rfl⟩
  simp [Leaves, settle, results, Try.results18, go_sem, failR]
  exact (((Below.refl _ w).alloc (Nat.le_refl _) _).alloc (by simp) _).alloc (by simp; omega) _

set_option maxHeartbeats 2000000 in
theorem Crash_nil (v : Value) (w : World) : Calls Try.prog 23 #[.pointer none, v] w fun e w' => e = .returned (.int .i64 23) ∧ Below w.heap.size w w' := by
  have ho := ((row_new1 w w.heap.size (.int .i64 0) 23 rfl).alloc (.cells #[] 85)).alloc (.cells #[] 85)
  have x1 := ho.cell (i := 0) (by omega)
  have f1 := ho.frozen 0
  have Hcat := Lib.hid (catch_fail_n ⟨w.heap.size + 1, 0, none⟩ ⟨w.heap.size, 0, none⟩ 23 _ _ x1 f1)
  clear x1 f1 ho
  go_enter_defers Try.func23, Try.ntmps23
  go_wp2_with fail
  refine (want_not 23 _).mono ?_
  rintro e w1 ⟨rfl, rfl⟩
  go_wp2
  refine leaves_cons (f := 38) (args := #[.pointer (some ⟨w.heap.size + 1, 0, none⟩), .pointer (some ⟨w.heap.size, 0, none⟩)]) (by simp) (by simp [go_sem]) ?_
  refine Hcat.out.mono ?_
  rintro e u' w'' ⟨rfl, rfl, rfl⟩
  simp [Leaves, settle, results, Try.results23, go_sem, failR]
  exact (((Below.refl _ w).alloc (Nat.le_refl _) _).alloc (by simp) _).alloc (by simp; omega) _

set_option maxHeartbeats 2000000 in
theorem Spoil_lo {B g gs gb : Nat} {qv : Value} {D : Dsk} (at_ : Int) (w : World) (h : DiskIn B g gs gb qv D w) (ha : at_ < 0) :
    Calls Try.prog 36 #[.pointer (some ⟨g, 0, none⟩), .int .i64 at_] w (Out1 B g gs gb qv 1 D w) := by
  have hlt := h.lt
  have ho := ((row_new1 w w.heap.size (.int .i64 0) 23 rfl).alloc (.cells #[] 85)).alloc (.cells #[] 85)
  have x1 := ho.cell (i := 0) (by omega)
  have f1 := ho.frozen 0
  have Hcat := Lib.hid (catch_fail_n ⟨w.heap.size + 1, 0, none⟩ ⟨w.heap.size, 0, none⟩ 1 _ _ x1 f1)
  have Hd := Lib.hid h
  obtain ⟨c0, c1, c2, c3, c4, c5⟩ := ((h.all ((Below.refl _ w).alloc (Nat.le_refl _) (.cells #[.int .i64 0] 23))).all ((Below.refl _ _).alloc (Nat.le_refl _) (.cells #[] 85))).cells
  clear x1 f1 ho
  have hd1 : decide (0 ≤ at_) = false := decide_eq_false (by omega)
  clear h
  go_enter_defers Try.func36, Try.ntmps36
  go_wp2_with fail
  refine (want_ok 23 _).mono ?_
  rintro e w1 ⟨rfl, rfl⟩
  go_wp2_with fail
  refine (want_not 1 _).mono ?_
  rintro e w1 ⟨rfl, rfl⟩
  go_wp2
  refine leaves_cons (f := 38) (args := #[.pointer (some ⟨w.heap.size + 1, 0, none⟩), .pointer (some ⟨w.heap.size, 0, none⟩)]) (by simp) (by simp [go_sem]) ?_
  refine Hcat.out.mono ?_
  rintro e u' w'' ⟨rfl, rfl, rfl⟩
  simp [Leaves, settle, results, Try.results36, go_sem, failR]
  exact out1_panic Hd.out

set_option maxHeartbeats 2000000 in
theorem Spoil_hi {B g gs gb : Nat} {qv : Value} {D : Dsk} (at_ : Int) (w : World) (h : DiskIn B g gs gb qv D w) (ha : 0 ≤ at_ ∧ (D.n : Int) ≤ at_) :
    Calls Try.prog 36 #[.pointer (some ⟨g, 0, none⟩), .int .i64 at_] w (Out1 B g gs gb qv 1 D w) := by
  have hlt := h.lt
  have ho := ((row_new1 w w.heap.size (.int .i64 0) 23 rfl).alloc (.cells #[] 85)).alloc (.cells #[] 85)
  have x1 := ho.cell (i := 0) (by omega)
  have f1 := ho.frozen 0
  have Hcat := Lib.hid (catch_fail_n ⟨w.heap.size + 1, 0, none⟩ ⟨w.heap.size, 0, none⟩ 1 _ _ x1 f1)
  have Hd := Lib.hid h
  obtain ⟨c0, c1, c2, c3, c4, c5⟩ := ((h.all ((Below.refl _ w).alloc (Nat.le_refl _) (.cells #[.int .i64 0] 23))).all ((Below.refl _ _).alloc (Nat.le_refl _) (.cells #[] 85))).cells
  clear x1 f1 ho
  have hd1 : decide (0 ≤ at_) = true := decide_eq_true (by omega)
  have hd2 : decide (at_ < D.n) = false := decide_eq_false (by omega)
  clear ha
  clear h
  go_enter_defers Try.func36, Try.ntmps36
  go_wp2_with fail
  refine (want_ok 23 _).mono ?_
  rintro e w1 ⟨rfl, rfl⟩
  go_wp2_with fail
  refine (want_not 1 _).mono ?_
  rintro e w1 ⟨rfl, rfl⟩
  go_wp2
  refine leaves_cons (f := 38) (args := #[.pointer (some ⟨w.heap.size + 1, 0, none⟩), .pointer (some ⟨w.heap.size, 0, none⟩)]) (by simp) (by simp [go_sem]) ?_
  refine Hcat.out.mono ?_
  rintro e u' w'' ⟨rfl, rfl, rfl⟩
  simp [Leaves, settle, results, Try.results36, go_sem, failR]
  exact out1_panic Hd.out

end Go.Proofs.Ytjhcaedfknhilaa
