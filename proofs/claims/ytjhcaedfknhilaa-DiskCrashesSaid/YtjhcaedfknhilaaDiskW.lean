/- Disk: errors of Write. -/
import Derived.Test.YtjhcaedfknhilaaDiskV
namespace Go.Proofs.Ytjhcaedfknhilaa
open Go.RowKit
attribute [local go_sem ↓] Go.wp_at_zero Go.wp_at_succ

set_option maxHeartbeats 4000000 in
theorem Write_len {B g gs gb : Nat} {qv : Value} {D : Dsk} (a : Int) (n : Nat) (bx : Option Addr) (bcap : Nat) (w : World) (h : DiskIn B g gs gb qv D w) (hm : n ≤ maxLen) (hn : n % 64 ≠ 0) :
    Calls Try.prog 18 #[.pointer (some ⟨g, 0, none⟩), .int .i64 a, .slice bx n bcap] w (Out1 B g gs gb qv 1 D w) := by
  have hsz := h.ok.size
  unfold maxLen at hm
  have ho := ((row_new1 w w.heap.size (.int .i64 0) 23 rfl).alloc (.cells #[] 85)).alloc (.cells #[] 85)
  have x1 := ho.cell (i := 0) (by omega)
  have f1 := ho.frozen 0
  have Hcat := Lib.hid (catch_fail_n ⟨w.heap.size + 1, 0, none⟩ ⟨w.heap.size, 0, none⟩ 1 _ _ x1 f1)
  have Hd := Lib.hid h
  have hW := ((h.all ((Below.refl _ w).alloc (Nat.le_refl _) (.cells #[.int .i64 0] 23))).all ((Below.refl _ _).alloc (Nat.le_refl _) (.cells #[] 85)))
  obtain ⟨c0, c1, c2, c3, c4, c5⟩ := hW.cells
  have HW := Lib.hid hW
  have hne : ((n : Int) % 64 == 0) = false := by rw [beq_eq_false_iff_ne]; omega
  clear hW x1 f1 ho h hn
  go_enter_defers Try.func18, Try.ntmps18
  go_wp2_with fail
  refine (want_ok 23 _).mono ?_
  rintro e w1 ⟨rfl, rfl⟩
  go_wp2_with fail
  refine (want_not 1 _).mono ?_
  rintro e w1 ⟨rfl, rfl⟩
  go_wp2
  refine leaves_cons (f := 38) (args := #[.pointer (some ⟨w.heap.size + 1, 0, none⟩), .pointer (some ⟨w.heap.size, 0, none⟩)]) (by simp) (by simp [go_sem]) ?_
  refine Hcat.out.mono ?_
  rintro e u' w'' ⟨rfl, rfl, rfl⟩
  simp [Leaves, settle, results, Try.results18, go_sem, failR]
  exact out1_panic Hd.out

set_option maxHeartbeats 4000000 in
theorem Write_arg {B g gs gb : Nat} {qv : Value} {D : Dsk} (a : Int) (k : Nat) (bx : Option Addr) (bcap : Nat) (w : World) (h : DiskIn B g gs gb qv D w) (hm : k * 64 ≤ maxLen) (ha : ¬ (0 ≤ a ∧ a ≤ D.n ∧ (k : Int) ≤ D.n - a)) :
    Calls Try.prog 18 #[.pointer (some ⟨g, 0, none⟩), .int .i64 a, .slice bx (k * 64) bcap] w (Out1 B g gs gb qv 1 D w) := by
  have hsz := h.ok.size
  unfold maxLen at hm
  have ho := ((row_new1 w w.heap.size (.int .i64 0) 23 rfl).alloc (.cells #[] 85)).alloc (.cells #[] 85)
  have x1 := ho.cell (i := 0) (by omega)
  have f1 := ho.frozen 0
  have Hcat := Lib.hid (catch_fail_n ⟨w.heap.size + 1, 0, none⟩ ⟨w.heap.size, 0, none⟩ 1 _ _ x1 f1)
  have Hd := Lib.hid h
  have hW := ((h.all ((Below.refl _ w).alloc (Nat.le_refl _) (.cells #[.int .i64 0] 23))).all ((Below.refl _ _).alloc (Nat.le_refl _) (.cells #[] 85)))
  obtain ⟨c0, c1, c2, c3, c4, c5⟩ := hW.cells
  have HW := Lib.hid hW
  have hdec : (decide (0 ≤ a) = false) ∨ (0 ≤ a ∧ decide (a ≤ D.n) = false) ∨ (0 ≤ a ∧ decide (a ≤ D.n) = true ∧ decide ((k : Int) ≤ D.n - a) = false ∧ a ≤ 4096) := by
    by_cases h1 : 0 ≤ a
    · by_cases h2 : a ≤ D.n
      · exact .inr (.inr ⟨h1, decide_eq_true h2, decide_eq_false (fun h4 => ha ⟨h1, h2, h4⟩), by omega⟩)
      · exact .inr (.inl ⟨h1, decide_eq_false h2⟩)
    · exact .inl (decide_eq_false h1)
  clear hW x1 f1 ho h ha
  go_enter_defers Try.func18, Try.ntmps18
  rcases hdec with h1 | ⟨h1, h2⟩ | ⟨h1, h2, h3, h4⟩
  all_goals
    go_wp2_with fail
    refine (want_ok 23 _).mono ?_
    rintro e w1 ⟨rfl, rfl⟩
    go_wp2_with fail
    refine (want_not 1 _).mono ?_
    rintro e w1 ⟨rfl, rfl⟩
    go_wp2
    refine leaves_cons (f := 38) (args := #[.pointer (some ⟨w.heap.size + 1, 0, none⟩), .pointer (some ⟨w.heap.size, 0, none⟩)]) (by simp) (by simp [go_sem]) ?_
    refine Hcat.out.mono ?_
    rintro e u' w'' ⟨rfl, rfl, rfl⟩
    simp [Leaves, settle, results, Try.results18, go_sem, failR]
    exact out1_panic Hd.out

set_option maxHeartbeats 4000000 in
theorem Write_off {B g gs gb : Nat} {qv : Value} {D : Dsk} (a : Nat) (k : Nat) (bx : Option Addr) (bcap : Nat) (w : World) (h : DiskIn B g gs gb qv D w) (hm : k * 64 ≤ maxLen) (ha : a + k ≤ D.n) (hoff : D.off = true) :
    Calls Try.prog 18 #[.pointer (some ⟨g, 0, none⟩), .int .i64 a, .slice bx (k * 64) bcap] w (Out1 B g gs gb qv 7 D w) := by
  have hsz := h.ok.size
  unfold maxLen at hm
  have ho := ((row_new1 w w.heap.size (.int .i64 0) 23 rfl).alloc (.cells #[] 85)).alloc (.cells #[] 85)
  have x1 := ho.cell (i := 0) (by omega)
  have f1 := ho.frozen 0
  have Hcat := Lib.hid (catch_fail_n ⟨w.heap.size + 1, 0, none⟩ ⟨w.heap.size, 0, none⟩ 7 _ _ x1 f1)
  have Hd := Lib.hid h
  have hW := ((h.all ((Below.refl _ w).alloc (Nat.le_refl _) (.cells #[.int .i64 0] 23))).all ((Below.refl _ _).alloc (Nat.le_refl _) (.cells #[] 85)))
  obtain ⟨c0, c1, c2, c3, c4, c5⟩ := hW.cells
  have HW := Lib.hid hW
  have Hoff := Lib.hid hoff
  have d1 : decide ((k : Int) ≤ (D.n : Int) - a) = true := decide_eq_true (by omega)
  clear hW x1 f1 ho h hoff
  go_enter_defers Try.func18, Try.ntmps18
  go_wp2_with fail
  refine (want_ok 23 _).mono ?_
  rintro e w1 ⟨rfl, rfl⟩
  go_wp2_with fail
  refine (want_ok 1 _).mono ?_
  rintro e w1 ⟨rfl, rfl⟩
  go_wp2_with fail
  refine (ready_not _ HW.out Hoff.out).mono ?_
  rintro e w1 ⟨rfl, rfl⟩
  go_wp2
  refine leaves_cons (f := 38) (args := #[.pointer (some ⟨w.heap.size + 1, 0, none⟩), .pointer (some ⟨w.heap.size, 0, none⟩)]) (by simp) (by simp [go_sem]) ?_
  refine Hcat.out.mono ?_
  rintro e u' w'' ⟨rfl, rfl, rfl⟩
  simp [Leaves, settle, results, Try.results18, go_sem, failR]
  exact out1_panic Hd.out

set_option maxHeartbeats 4000000 in
theorem Write_full {B g gs gb : Nat} {qv : Value} {D : Dsk} (a : Nat) (k : Nat) (bx : Option Addr) (bcap : Nat) (w : World) (h : DiskIn B g gs gb qv D w) (hm : k * 64 ≤ maxLen) (ha : a + k ≤ D.n) (hoff : D.off = false) (hq : ¬ D.q + k ≤ 65536) :
    Calls Try.prog 18 #[.pointer (some ⟨g, 0, none⟩), .int .i64 a, .slice bx (k * 64) bcap] w (Out1 B g gs gb qv 5 D w) := by
  have hsz := h.ok.size
  unfold maxLen at hm
  have ho := ((row_new1 w w.heap.size (.int .i64 0) 23 rfl).alloc (.cells #[] 85)).alloc (.cells #[] 85)
  have x1 := ho.cell (i := 0) (by omega)
  have f1 := ho.frozen 0
  have Hcat := Lib.hid (catch_fail_n ⟨w.heap.size + 1, 0, none⟩ ⟨w.heap.size, 0, none⟩ 5 _ _ x1 f1)
  have Hd := Lib.hid h
  have hW := ((h.all ((Below.refl _ w).alloc (Nat.le_refl _) (.cells #[.int .i64 0] 23))).all ((Below.refl _ _).alloc (Nat.le_refl _) (.cells #[] 85)))
  obtain ⟨c0, c1, c2, c3, c4, c5⟩ := hW.cells
  have HW := Lib.hid hW
  have Hoff := Lib.hid hoff
  obtain ⟨x, cap, hqs⟩ := h.que.slice
  have hok := h.ok.queue
  have d1 : decide ((k : Int) ≤ (D.n : Int) - a) = true := decide_eq_true (by omega)
  have d2 : decide ((D.q : Int) + k ≤ 65536) = false := decide_eq_false (by omega)
  rw [hqs] at c2
  clear hW x1 f1 ho h hoff hqs
  go_enter_defers Try.func18, Try.ntmps18
  go_wp2_with fail
  refine (want_ok 23 _).mono ?_
  rintro e w1 ⟨rfl, rfl⟩
  go_wp2_with fail
  refine (want_ok 1 _).mono ?_
  rintro e w1 ⟨rfl, rfl⟩
  go_wp2_with fail
  refine (ready_ok _ HW.out Hoff.out).mono ?_
  rintro e w1 ⟨rfl, rfl⟩
  go_wp2_with fail
  refine (want_not 5 _).mono ?_
  rintro e w1 ⟨rfl, rfl⟩
  go_wp2
  refine leaves_cons (f := 38) (args := #[.pointer (some ⟨w.heap.size + 1, 0, none⟩), .pointer (some ⟨w.heap.size, 0, none⟩)]) (by simp) (by simp [go_sem]) ?_
  refine Hcat.out.mono ?_
  rintro e u' w'' ⟨rfl, rfl, rfl⟩
  simp [Leaves, settle, results, Try.results18, go_sem, failR]
  exact out1_panic Hd.out

end Go.Proofs.Ytjhcaedfknhilaa
