/- Disk: errors of Read. -/
import Derived.Test.YtjhcaedfknhilaaDiskK
namespace Go.Proofs.Ytjhcaedfknhilaa
open Go.RowKit
attribute [local go_sem ↓] Go.wp_at_zero Go.wp_at_succ

set_option maxHeartbeats 2000000 in
theorem Read_nil (a m : Int) (w : World) : Calls Try.prog 20 #[.pointer none, .int .i64 a, .int .i64 m] w fun e w' => e = .returned (.tuple #[.slice none 0 0, .int .i64 23]) ∧ Below w.heap.size w w' := by
  have ho1 := (row_new1 w w.heap.size (.slice none 0 0) 27 rfl).alloc (.cells #[.int .i64 0] 23)
  have ho2 := row_new1 (w.alloc (.cells #[.slice none 0 0] 27)) (w.heap.size + 1) (.int .i64 0) 23 (by simp)
  have x0 := ho1.cell (i := 0) (by omega)
  have f0 := ho1.frozen 0
  have x1 := (ho2.setOther ⟨w.heap.size, 0, none⟩ (.slice none 0 0) (by simp)).cell (i := 0) (by omega)
  have f1 := (ho2.setOther ⟨w.heap.size, 0, none⟩ (.slice none 0 0) (by simp)).frozen 0
  have Hcat := Lib.hid (catch_fail_b ⟨w.heap.size, 0, none⟩ ⟨w.heap.size + 1, 0, none⟩ 23 _ _ _ x0 f0 x1 f1)
  have y1 := Lib.hid (((ho2.setOther ⟨w.heap.size, 0, none⟩ (.slice none 0 0) (by simp)).set1 (.int .i64 23)).cell (i := 0) (by omega))
  clear x0 f0 x1 f1 ho1 ho2
  go_enter_defers Try.func20, Try.ntmps20
  go_wp2_with fail
  refine (want_not 23 _).mono ?_
  rintro e w1 ⟨rfl, rfl⟩
  go_wp2
  refine leaves_cons (f := 41) (args := #[.pointer (some ⟨w.heap.size, 0, none⟩), .pointer (some ⟨w.heap.size + 1, 0, none⟩)]) (by simp) (by simp [go_sem]) ?_
  refine Hcat.out.mono ?_
  rintro e u' w'' ⟨rfl, rfl, rfl⟩
  simp [Leaves, settle, results, Try.results20, go_sem, y1.out, failR]
  exact ((Below.refl _ w).alloc (Nat.le_refl _) _).alloc (by simp) _

/-- What Read leaves that fails. -/
def Read2 (B g gs gb : Nat) (qv : Value) (c : Int) (D : Dsk) (w : World) (e : Ending) (w' : World) : Prop := e = .returned (.tuple #[.slice none 0 0, .int .i64 c]) ∧ DiskIn B g gs gb qv D w' ∧ Below w.heap.size w w'
theorem read2_of {B g gs gb : Nat} {qv : Value} {c : Int} {D : Dsk} {w : World} (h : DiskIn B g gs gb qv D w) :
    Read2 B g gs gb qv c D w (.returned (.tuple #[.slice none 0 0, .int .i64 c])) ((w.alloc (.cells #[.slice none 0 0] 27)).alloc (.cells #[.int .i64 c] 23)) := by
  have hb : Below w.heap.size w ((w.alloc (.cells #[.slice none 0 0] 27)).alloc (.cells #[.int .i64 c] 23)) := ((Below.refl _ w).alloc (Nat.le_refl _) _).alloc (by simp) _
  exact ⟨rfl, h.all hb, hb⟩

set_option maxHeartbeats 4000000 in
theorem Read_arg {B g gs gb : Nat} {qv : Value} {D : Dsk} (a m : Int) (w : World) (h : DiskIn B g gs gb qv D w) (ha : ¬ (0 ≤ a ∧ 0 ≤ m ∧ a ≤ D.n ∧ m ≤ D.n - a)) :
    Calls Try.prog 20 #[.pointer (some ⟨g, 0, none⟩), .int .i64 a, .int .i64 m] w (Read2 B g gs gb qv 1 D w) := by
  have ho1 := (row_new1 w w.heap.size (.slice none 0 0) 27 rfl).alloc (.cells #[.int .i64 0] 23)
  have ho2 := row_new1 (w.alloc (.cells #[.slice none 0 0] 27)) (w.heap.size + 1) (.int .i64 0) 23 (by simp)
  have x0 := ho1.cell (i := 0) (by omega)
  have f0 := ho1.frozen 0
  have x1 := (ho2.setOther ⟨w.heap.size, 0, none⟩ (.slice none 0 0) (by simp)).cell (i := 0) (by omega)
  have f1 := (ho2.setOther ⟨w.heap.size, 0, none⟩ (.slice none 0 0) (by simp)).frozen 0
  have Hcat := Lib.hid (catch_fail_b ⟨w.heap.size, 0, none⟩ ⟨w.heap.size + 1, 0, none⟩ 1 _ _ _ x0 f0 x1 f1)
  have y1 := Lib.hid (((ho2.setOther ⟨w.heap.size, 0, none⟩ (.slice none 0 0) (by simp)).set1 (.int .i64 1)).cell (i := 0) (by omega))
  clear x0 f0 x1 f1 ho1 ho2
  obtain ⟨c0, c1, c2, c3, c4, c5⟩ := ((h.all ((Below.refl _ w).alloc (Nat.le_refl _) (.cells #[.slice none 0 0] 27))).all ((Below.refl _ _).alloc (Nat.le_refl _) (.cells #[.int .i64 0] 23))).cells
  have Hd := Lib.hid h
  have hsz := h.ok.size
  clear h
  have hdec : (decide (0 ≤ a) = false) ∨ (0 ≤ a ∧ decide (0 ≤ m) = false) ∨ (0 ≤ a ∧ 0 ≤ m ∧ decide (a ≤ D.n) = false) ∨ (0 ≤ a ∧ 0 ≤ m ∧ a ≤ D.n ∧ decide (m ≤ D.n - a) = false) := by
    by_cases h1 : 0 ≤ a
    · by_cases h2 : 0 ≤ m
      · by_cases h3 : a ≤ D.n
        · exact .inr (.inr (.inr ⟨h1, h2, h3, decide_eq_false (fun h4 => ha ⟨h1, h2, h3, h4⟩)⟩))
        · exact .inr (.inr (.inl ⟨h1, h2, decide_eq_false h3⟩))
      · exact .inr (.inl ⟨h1, decide_eq_false h2⟩)
    · exact .inl (decide_eq_false h1)
  clear ha
  go_enter_defers Try.func20, Try.ntmps20
  rcases hdec with h1 | ⟨h1, h2⟩ | ⟨h1, h2, h3⟩ | ⟨h1, h2, h3, h4⟩
  all_goals
    go_wp2_with fail
    refine (want_ok 23 _).mono ?_
    rintro e w1 ⟨rfl, rfl⟩
    go_wp2_with fail
    refine (want_not 1 _).mono ?_
    rintro e w1 ⟨rfl, rfl⟩
    go_wp2
    refine leaves_cons (f := 41) (args := #[.pointer (some ⟨w.heap.size, 0, none⟩), .pointer (some ⟨w.heap.size + 1, 0, none⟩)]) (by simp) (by simp [go_sem]) ?_
    refine Hcat.out.mono ?_
    rintro e u' w'' ⟨rfl, rfl, rfl⟩
    simp [Leaves, settle, results, Try.results20, go_sem, y1.out, failR]
    exact read2_of Hd.out

set_option maxHeartbeats 4000000 in
theorem Read_off {B g gs gb : Nat} {qv : Value} {D : Dsk} (a m : Int) (w : World) (h : DiskIn B g gs gb qv D w) (ha : 0 ≤ a ∧ 0 ≤ m ∧ a ≤ D.n ∧ m ≤ D.n - a) (hoff : D.off = true) :
    Calls Try.prog 20 #[.pointer (some ⟨g, 0, none⟩), .int .i64 a, .int .i64 m] w (Read2 B g gs gb qv 7 D w) := by
  have ho1 := (row_new1 w w.heap.size (.slice none 0 0) 27 rfl).alloc (.cells #[.int .i64 0] 23)
  have ho2 := row_new1 (w.alloc (.cells #[.slice none 0 0] 27)) (w.heap.size + 1) (.int .i64 0) 23 (by simp)
  have x0 := ho1.cell (i := 0) (by omega)
  have f0 := ho1.frozen 0
  have x1 := (ho2.setOther ⟨w.heap.size, 0, none⟩ (.slice none 0 0) (by simp)).cell (i := 0) (by omega)
  have f1 := (ho2.setOther ⟨w.heap.size, 0, none⟩ (.slice none 0 0) (by simp)).frozen 0
  have Hcat := Lib.hid (catch_fail_b ⟨w.heap.size, 0, none⟩ ⟨w.heap.size + 1, 0, none⟩ 7 _ _ _ x0 f0 x1 f1)
  have y1 := Lib.hid (((ho2.setOther ⟨w.heap.size, 0, none⟩ (.slice none 0 0) (by simp)).set1 (.int .i64 7)).cell (i := 0) (by omega))
  clear x0 f0 x1 f1 ho1 ho2
  obtain ⟨c0, c1, c2, c3, c4, c5⟩ := ((h.all ((Below.refl _ w).alloc (Nat.le_refl _) (.cells #[.slice none 0 0] 27))).all ((Below.refl _ _).alloc (Nat.le_refl _) (.cells #[.int .i64 0] 23))).cells
  have Hd := Lib.hid h
  have HW := Lib.hid ((h.all ((Below.refl _ w).alloc (Nat.le_refl _) (.cells #[.slice none 0 0] 27))).all ((Below.refl _ _).alloc (Nat.le_refl _) (.cells #[.int .i64 0] 23)))
  have hsz := h.ok.size
  have Hoff := Lib.hid hoff
  clear h hoff
  obtain ⟨h1, h2, h3, h4⟩ := ha
  have d3 : decide (a ≤ D.n) = true := decide_eq_true h3
  have d4 : decide (m ≤ D.n - a) = true := decide_eq_true h4
  go_enter_defers Try.func20, Try.ntmps20
  go_wp2_with fail
  refine (want_ok 23 _).mono ?_
  rintro e w1 ⟨rfl, rfl⟩
  go_wp2_with fail
  refine (want_ok 1 _).mono ?_
  rintro e w1 ⟨rfl, rfl⟩
  go_wp2_with fail
  refine (ready_not _ HW.out Hoff.out).mono ?_
  rintro e w1 ⟨rfl, rfl⟩
  go_wp2
  refine leaves_cons (f := 41) (args := #[.pointer (some ⟨w.heap.size, 0, none⟩), .pointer (some ⟨w.heap.size + 1, 0, none⟩)]) (by simp) (by simp [go_sem]) ?_
  refine Hcat.out.mono ?_
  rintro e u' w'' ⟨rfl, rfl, rfl⟩
  simp [Leaves, settle, results, Try.results20, go_sem, y1.out, failR]
  exact read2_of Hd.out

end Go.Proofs.Ytjhcaedfknhilaa
