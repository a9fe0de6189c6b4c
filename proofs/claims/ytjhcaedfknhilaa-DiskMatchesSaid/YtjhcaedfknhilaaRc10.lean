/- Disk: errors of Write. Disk: slices.Clone at four types. Devices as plain data: in memory, and plainly. -/
import Derived.Test.YtjhcaedfknhilaaRc9
namespace Go.Proofs.Ytjhcaedfknhilaa
set_option linter.unusedVariables false
set_option linter.unusedSimpArgs false
open Go.RowKit
attribute [local go_sem ↓] Go.wp_at_zero Go.wp_at_succ

set_option maxHeartbeats 4000000 in
theorem Write_len {B g gs gb : Nat} {qv : Value} {D : Dsk} (a : Int) (n : Nat) (bx : Option Addr) (bcap : Nat) (w : World) (h : DiskIn B g gs gb qv D w) (hm : n ≤ maxLen) (hn : n % 64 ≠ 0) :
    Calls Try.prog 18 #[.pointer (some ⟨g, 0, none⟩), .int .i64 a, .slice bx n bcap] w (Out1 B g gs gb qv 1 D w) := by
  have hsz := h.ok.size
  unfold maxLen at hm
  have ho := ((row_new1 w w.heap.size (.int .i64 0) 23 rfl).alloc (.cells #[] 85)).alloc (.cells #[] 85)
  have x1 := ho.cell (i := 0) (by omega)
  have f1 := ho.frozen 0
  have Hcat := Lib.hid (catch_fail_n ⟨w.heap.size + 1, 0, none⟩ ⟨w.heap.size, 0, none⟩ 1 _ _ x1 f1)
  have Hd := Lib.hid h
  have hW := ((h.all ((Below.refl _ w).alloc (Nat.le_refl _) (.cells #[.int .i64 0] 23))).all ((Below.refl _ _).alloc (Nat.le_refl _) (.cells #[] 85)))
  obtain ⟨c0, c1, c2, c3, c4, c5⟩ := hW.cells
  have HW := Lib.hid hW
  have hne : ((n : Int) % 64 == 0) = false := by rw [beq_eq_false_iff_ne]; omega
  clear hW x1 f1 ho h hn
  go_enter_defers Try.func18, Try.ntmps18
  go_wp2_with fail
  refine (want_ok 23 _).mono ?_
  rintro e w1 ⟨rfl, rfl⟩
  go_wp2_with fail
  refine (want_not 1 _).mono ?_
  rintro e w1 ⟨rfl, rfl⟩
  go_wp2
  refine leaves_cons (f := 38) (args := #[.pointer (some ⟨w.heap.size + 1, 0, none⟩), .pointer (some ⟨w.heap.size, 0, none⟩)]) (by simp) (by simp [go_sem]) ?_
  refine Hcat.out.mono ?_
  rintro e u' w'' ⟨rfl, rfl, rfl⟩
  simp [Leaves, settle, results, Try.results18, go_sem, failR]
  exact out1_panic Hd.out

set_option maxHeartbeats 4000000 in
theorem Write_arg {B g gs gb : Nat} {qv : Value} {D : Dsk} (a : Int) (k : Nat) (bx : Option Addr) (bcap : Nat) (w : World) (h : DiskIn B g gs gb qv D w) (hm : k * 64 ≤ maxLen) (ha : ¬ (0 ≤ a ∧ a ≤ D.n ∧ (k : Int) ≤ D.n - a)) :
    Calls Try.prog 18 #[.pointer (some ⟨g, 0, none⟩), .int .i64 a, .slice bx (k * 64) bcap] w (Out1 B g gs gb qv 1 D w) := by
  have hsz := h.ok.size
  unfold maxLen at hm
  have ho := ((row_new1 w w.heap.size (.int .i64 0) 23 rfl).alloc (.cells #[] 85)).alloc (.cells #[] 85)
  have x1 := ho.cell (i := 0) (by omega)
  have f1 := ho.frozen 0
  have Hcat := Lib.hid (catch_fail_n ⟨w.heap.size + 1, 0, none⟩ ⟨w.heap.size, 0, none⟩ 1 _ _ x1 f1)
  have Hd := Lib.hid h
  have hW := ((h.all ((Below.refl _ w).alloc (Nat.le_refl _) (.cells #[.int .i64 0] 23))).all ((Below.refl _ _).alloc (Nat.le_refl _) (.cells #[] 85)))
  obtain ⟨c0, c1, c2, c3, c4, c5⟩ := hW.cells
  have HW := Lib.hid hW
  have hdec : (decide (0 ≤ a) = false) ∨ (0 ≤ a ∧ decide (a ≤ D.n) = false) ∨ (0 ≤ a ∧ decide (a ≤ D.n) = true ∧ decide ((k : Int) ≤ D.n - a) = false ∧ a ≤ 4096) := by
    by_cases h1 : 0 ≤ a
    · by_cases h2 : a ≤ D.n
      · exact .inr (.inr ⟨h1, decide_eq_true h2, decide_eq_false (fun h4 => ha ⟨h1, h2, h4⟩), by omega⟩)
      · exact .inr (.inl ⟨h1, decide_eq_false h2⟩)
    · exact .inl (decide_eq_false h1)
  clear hW x1 f1 ho h ha
  go_enter_defers Try.func18, Try.ntmps18
  rcases hdec with h1 | ⟨h1, h2⟩ | ⟨h1, h2, h3, h4⟩
  all_goals
    go_wp2_with fail
    refine (want_ok 23 _).mono ?_
    rintro e w1 ⟨rfl, rfl⟩
    go_wp2_with fail
    refine (want_not 1 _).mono ?_
    rintro e w1 ⟨rfl, rfl⟩
    go_wp2
    refine leaves_cons (f := 38) (args := #[.pointer (some ⟨w.heap.size + 1, 0, none⟩), .pointer (some ⟨w.heap.size, 0, none⟩)]) (by simp) (by simp [go_sem]) ?_
    refine Hcat.out.mono ?_
    rintro e u' w'' ⟨rfl, rfl, rfl⟩
    simp [Leaves, settle, results, Try.results18, go_sem, failR]
    exact out1_panic Hd.out

set_option maxHeartbeats 4000000 in
theorem Write_off {B g gs gb : Nat} {qv : Value} {D : Dsk} (a : Nat) (k : Nat) (bx : Option Addr) (bcap : Nat) (w : World) (h : DiskIn B g gs gb qv D w) (hm : k * 64 ≤ maxLen) (ha : a + k ≤ D.n) (hoff : D.off = true) :
    Calls Try.prog 18 #[.pointer (some ⟨g, 0, none⟩), .int .i64 a, .slice bx (k * 64) bcap] w (Out1 B g gs gb qv 7 D w) := by
  have hsz := h.ok.size
  unfold maxLen at hm
  have ho := ((row_new1 w w.heap.size (.int .i64 0) 23 rfl).alloc (.cells #[] 85)).alloc (.cells #[] 85)
  have x1 := ho.cell (i := 0) (by omega)
  have f1 := ho.frozen 0
  have Hcat := Lib.hid (catch_fail_n ⟨w.heap.size + 1, 0, none⟩ ⟨w.heap.size, 0, none⟩ 7 _ _ x1 f1)
  have Hd := Lib.hid h
  have hW := ((h.all ((Below.refl _ w).alloc (Nat.le_refl _) (.cells #[.int .i64 0] 23))).all ((Below.refl _ _).alloc (Nat.le_refl _) (.cells #[] 85)))
  obtain ⟨c0, c1, c2, c3, c4, c5⟩ := hW.cells
  have HW := Lib.hid hW
  have Hoff := Lib.hid hoff
  have d1 : decide ((k : Int) ≤ (D.n : Int) - a) = true := decide_eq_true (by omega)
  clear hW x1 f1 ho h hoff
  go_enter_defers Try.func18, Try.ntmps18
  go_wp2_with fail
  refine (want_ok 23 _).mono ?_
  rintro e w1 ⟨rfl, rfl⟩
  go_wp2_with fail
  refine (want_ok 1 _).mono ?_
  rintro e w1 ⟨rfl, rfl⟩
  go_wp2_with fail
  refine (ready_not _ HW.out Hoff.out).mono ?_
  rintro e w1 ⟨rfl, rfl⟩
  go_wp2
  refine leaves_cons (f := 38) (args := #[.pointer (some ⟨w.heap.size + 1, 0, none⟩), .pointer (some ⟨w.heap.size, 0, none⟩)]) (by simp) (by simp [go_sem]) ?_
  refine Hcat.out.mono ?_
  rintro e u' w'' ⟨rfl, rfl, rfl⟩
  simp [Leaves, settle, results, Try.results18, go_sem, failR]
  exact out1_panic Hd.out

set_option maxHeartbeats 4000000 in
theorem Write_full {B g gs gb : Nat} {qv : Value} {D : Dsk} (a : Nat) (k : Nat) (bx : Option Addr) (bcap : Nat) (w : World) (h : DiskIn B g gs gb qv D w) (hm : k * 64 ≤ maxLen) (ha : a + k ≤ D.n) (hoff : D.off = false) (hq : ¬ D.q + k ≤ 65536) :
    Calls Try.prog 18 #[.pointer (some ⟨g, 0, none⟩), .int .i64 a, .slice bx (k * 64) bcap] w (Out1 B g gs gb qv 5 D w) := by
  have hsz := h.ok.size
  unfold maxLen at hm
  have ho := ((row_new1 w w.heap.size (.int .i64 0) 23 rfl).alloc (.cells #[] 85)).alloc (.cells #[] 85)
  have x1 := ho.cell (i := 0) (by omega)
  have f1 := ho.frozen 0
  have Hcat := Lib.hid (catch_fail_n ⟨w.heap.size + 1, 0, none⟩ ⟨w.heap.size, 0, none⟩ 5 _ _ x1 f1)
  have Hd := Lib.hid h
  have hW := ((h.all ((Below.refl _ w).alloc (Nat.le_refl _) (.cells #[.int .i64 0] 23))).all ((Below.refl _ _).alloc (Nat.le_refl _) (.cells #[] 85)))
  obtain ⟨c0, c1, c2, c3, c4, c5⟩ := hW.cells
  have HW := Lib.hid hW
  have Hoff := Lib.hid hoff
  obtain ⟨x, cap, hqs⟩ := h.que.slice
  have hok := h.ok.queue
  have d1 : decide ((k : Int) ≤ (D.n : Int) - a) = true := decide_eq_true (by omega)
  have d2 : decide ((D.q : Int) + k ≤ 65536) = false := decide_eq_false (by omega)
  rw [hqs] at c2
  clear hW x1 f1 ho h hoff hqs
  go_enter_defers Try.func18, Try.ntmps18
  go_wp2_with fail
  refine (want_ok 23 _).mono ?_
  rintro e w1 ⟨rfl, rfl⟩
  go_wp2_with fail
  refine (want_ok 1 _).mono ?_
  rintro e w1 ⟨rfl, rfl⟩
  go_wp2_with fail
  refine (ready_ok _ HW.out Hoff.out).mono ?_
  rintro e w1 ⟨rfl, rfl⟩
  go_wp2_with fail
  refine (want_not 5 _).mono ?_
  rintro e w1 ⟨rfl, rfl⟩
  go_wp2
  refine leaves_cons (f := 38) (args := #[.pointer (some ⟨w.heap.size + 1, 0, none⟩), .pointer (some ⟨w.heap.size, 0, none⟩)]) (by simp) (by simp [go_sem]) ?_
  refine Hcat.out.mono ?_
  rintro e u' w'' ⟨rfl, rfl, rfl⟩
  simp [Leaves, settle, results, Try.results18, go_sem, failR]
  exact out1_panic Hd.out

end Go.Proofs.Ytjhcaedfknhilaa

namespace Go.Proofs.Ytjhcaedfknhilaa
set_option linter.unusedVariables false
set_option linter.unusedSimpArgs false
open Go.RowKit
attribute [local go_sem ↓] Go.wp_at_zero Go.wp_at_succ

theorem info_secd : ∃ z, (Try.prog.info? 79).map (fun i => (i.zero, i.size, i.bytes)) = some (some z, 64, 64) ∧ z.cells.size = 64 := ⟨.agg (List.replicate 64 (.int .u8 0)).toArray, by kernel_rfl, by kernel_rfl⟩
theorem info_u8k : ∃ z, (Try.prog.info? 5).map (fun i => (i.zero, i.size, i.bytes)) = some (some z, 1, 1) ∧ z.cells.size = 1 := ⟨.int .u8 0, by kernel_rfl, by kernel_rfl⟩
theorem info_boolk : ∃ z, (Try.prog.info? 4).map (fun i => (i.zero, i.size, i.bytes)) = some (some z, 1, 1) ∧ z.cells.size = 1 := ⟨.bool false, by kernel_rfl, by kernel_rfl⟩

theorem Clone_u8_nil (w : World) : Calls Try.prog 37 #[.slice none 0 0] w fun e w' => e = .returned (.slice none 0 0) ∧ w = w' := by
  go_enter Try.func37, Try.ntmps37
  have heq := fun (wx : World) => Lib.run_eql_slice_nil (P := Try.prog) wx 27 5 none 0 0 0 0 Try.underlying27
  go_wp2
  go_ret
  exact ⟨rfl, rfl⟩
def ClonedP_u8 (n : Nat) (f : Nat → Value) (w : World) (e : Ending) (w' : World) : Prop := ∃ v, e = .returned v ∧ OwnK w' w.heap.size 5 1 v n f ∧ Below w.heap.size w w'
set_option maxHeartbeats 1000000 in
theorem Clone_u8 (b off n c : Nat) (f : Nat → Value) (w : World) (hc : Cells w b off (n * 1) f) (h1 : ∀ i, i < n * 1 → (f i).oneCell' = true) (hn : n ≤ 1000000) :
    Calls Try.prog 37 #[.slice (some ⟨b, off, none⟩) n c] w (ClonedP_u8 n f w) := by
  obtain ⟨z, hz⟩ := info_u8k
  have Hz := Lib.hid hz
  have Hc := Lib.hid (hc.alloc (.cells #[] 5))
  have H1 := Lib.hid h1
  clear hz hc h1
  go_enter Try.func37, Try.ntmps37
  have heq := fun (wx : World) => Lib.run_eql_slice_nil (P := Try.prog) wx 27 5 (some ⟨b, off, none⟩) n c 0 0 Try.underlying27
  go_wp2_with (with_reducible refine stopB .append ?_)
  refine Hold.go ?_
  have hrow : OwnK (w.alloc (.cells #[] 5)) w.heap.size 5 1 (.slice (some ⟨w.heap.size, 0, none⟩) 0 0) 0 f :=
    .inr ⟨w.heap.size, 0, rfl, Nat.le_refl _, ⟨#[], heap_alloc_new w _, by simp, by simp, fun i hi => by omega⟩, Nat.le_refl _, by decide⟩
  refine wpList_append_k rfl _ _ 27 5 z 1 1 rfl Try.underlying27 Hz.out.1 Hz.out.2 (by decide) w.heap.size _ 0 f rfl hrow b off n c f rfl Hc.out H1.out (by omega) (by decide) (by simp) ?_
  intro v' w' hown hgr
  obtain ⟨av, cv, rfl⟩ := hown.slice
  have Hb := Lib.hid (hrow.below ((Below.refl _ w).alloc (Nat.le_refl _) (.cells #[] 5)) (by simp) (Nat.le_refl _) hgr)
  have hown2 := hown.congr (f' := f) (fun i hi => by rw [if_neg (by omega), Nat.zero_mul, Nat.sub_zero])
  rw [Nat.zero_add] at hown2
  have Ho := Lib.hid hown2
  have Hn := Lib.hid (show 0 + n = n from Nat.zero_add n)
  clear hrow hown hgr hown2
  rw [Hn.out]
  go_wp2
  go_ret
  exact ⟨_, rfl, Ho.out, Hb.out⟩

theorem Clone_sec_nil (w : World) : Calls Try.prog 48 #[.slice none 0 0] w fun e w' => e = .returned (.slice none 0 0) ∧ w = w' := by
  go_enter Try.func48, Try.ntmps48
  have heq := fun (wx : World) => Lib.run_eql_slice_nil (P := Try.prog) wx 69 79 none 0 0 0 0 Try.underlying69
  go_wp2
  go_ret
  exact ⟨rfl, rfl⟩
def ClonedP_sec (n : Nat) (f : Nat → Value) (w : World) (e : Ending) (w' : World) : Prop := ∃ v, e = .returned v ∧ OwnK w' w.heap.size 79 64 v n f ∧ Below w.heap.size w w'
set_option maxHeartbeats 1000000 in
theorem Clone_sec (b off n c : Nat) (f : Nat → Value) (w : World) (hc : Cells w b off (n * 64) f) (h1 : ∀ i, i < n * 64 → (f i).oneCell' = true) (hn : n ≤ 1000000) :
    Calls Try.prog 48 #[.slice (some ⟨b, off, none⟩) n c] w (ClonedP_sec n f w) := by
  obtain ⟨z, hz⟩ := info_secd
  have Hz := Lib.hid hz
  have Hc := Lib.hid (hc.alloc (.cells #[] 79))
  have H1 := Lib.hid h1
  clear hz hc h1
  go_enter Try.func48, Try.ntmps48
  have heq := fun (wx : World) => Lib.run_eql_slice_nil (P := Try.prog) wx 69 79 (some ⟨b, off, none⟩) n c 0 0 Try.underlying69
  go_wp2_with (with_reducible refine stopB .append ?_)
  refine Hold.go ?_
  have hrow : OwnK (w.alloc (.cells #[] 79)) w.heap.size 79 64 (.slice (some ⟨w.heap.size, 0, none⟩) 0 0) 0 f :=
    .inr ⟨w.heap.size, 0, rfl, Nat.le_refl _, ⟨#[], heap_alloc_new w _, by simp, by simp, fun i hi => by omega⟩, Nat.le_refl _, by decide⟩
  refine wpList_append_k rfl _ _ 69 79 z 64 64 rfl Try.underlying69 Hz.out.1 Hz.out.2 (by decide) w.heap.size _ 0 f rfl hrow b off n c f rfl Hc.out H1.out (by omega) (by decide) (by simp) ?_
  intro v' w' hown hgr
  obtain ⟨av, cv, rfl⟩ := hown.slice
  have Hb := Lib.hid (hrow.below ((Below.refl _ w).alloc (Nat.le_refl _) (.cells #[] 79)) (by simp) (Nat.le_refl _) hgr)
  have hown2 := hown.congr (f' := f) (fun i hi => by rw [if_neg (by omega), Nat.zero_mul, Nat.sub_zero])
  rw [Nat.zero_add] at hown2
  have Ho := Lib.hid hown2
  have Hn := Lib.hid (show 0 + n = n from Nat.zero_add n)
  clear hrow hown hgr hown2
  rw [Hn.out]
  go_wp2
  go_ret
  exact ⟨_, rfl, Ho.out, Hb.out⟩

theorem Clone_bool_nil (w : World) : Calls Try.prog 49 #[.slice none 0 0] w fun e w' => e = .returned (.slice none 0 0) ∧ w = w' := by
  go_enter Try.func49, Try.ntmps49
  have heq := fun (wx : World) => Lib.run_eql_slice_nil (P := Try.prog) wx 70 4 none 0 0 0 0 Try.underlying70
  go_wp2
  go_ret
  exact ⟨rfl, rfl⟩
def ClonedP_bool (n : Nat) (f : Nat → Value) (w : World) (e : Ending) (w' : World) : Prop := ∃ v, e = .returned v ∧ OwnK w' w.heap.size 4 1 v n f ∧ Below w.heap.size w w'
set_option maxHeartbeats 1000000 in
theorem Clone_bool (b off n c : Nat) (f : Nat → Value) (w : World) (hc : Cells w b off (n * 1) f) (h1 : ∀ i, i < n * 1 → (f i).oneCell' = true) (hn : n ≤ 1000000) :
    Calls Try.prog 49 #[.slice (some ⟨b, off, none⟩) n c] w (ClonedP_bool n f w) := by
  obtain ⟨z, hz⟩ := info_boolk
  have Hz := Lib.hid hz
  have Hc := Lib.hid (hc.alloc (.cells #[] 4))
  have H1 := Lib.hid h1
  clear hz hc h1
  go_enter Try.func49, Try.ntmps49
  have heq := fun (wx : World) => Lib.run_eql_slice_nil (P := Try.prog) wx 70 4 (some ⟨b, off, none⟩) n c 0 0 Try.underlying70
  go_wp2_with (with_reducible refine stopB .append ?_)
  refine Hold.go ?_
  have hrow : OwnK (w.alloc (.cells #[] 4)) w.heap.size 4 1 (.slice (some ⟨w.heap.size, 0, none⟩) 0 0) 0 f :=
    .inr ⟨w.heap.size, 0, rfl, Nat.le_refl _, ⟨#[], heap_alloc_new w _, by simp, by simp, fun i hi => by omega⟩, Nat.le_refl _, by decide⟩
  refine wpList_append_k rfl _ _ 70 4 z 1 1 rfl Try.underlying70 Hz.out.1 Hz.out.2 (by decide) w.heap.size _ 0 f rfl hrow b off n c f rfl Hc.out H1.out (by omega) (by decide) (by simp) ?_
  intro v' w' hown hgr
  obtain ⟨av, cv, rfl⟩ := hown.slice
  have Hb := Lib.hid (hrow.below ((Below.refl _ w).alloc (Nat.le_refl _) (.cells #[] 4)) (by simp) (Nat.le_refl _) hgr)
  have hown2 := hown.congr (f' := f) (fun i hi => by rw [if_neg (by omega), Nat.zero_mul, Nat.sub_zero])
  rw [Nat.zero_add] at hown2
  have Ho := Lib.hid hown2
  have Hn := Lib.hid (show 0 + n = n from Nat.zero_add n)
  clear hrow hown hgr hown2
  rw [Hn.out]
  go_wp2
  go_ret
  exact ⟨_, rfl, Ho.out, Hb.out⟩

theorem Clone_put_nil (w : World) : Calls Try.prog 50 #[.slice none 0 0] w fun e w' => e = .returned (.slice none 0 0) ∧ w = w' := by
  go_enter Try.func50, Try.ntmps50
  have heq := fun (wx : World) => Lib.run_eql_slice_nil (P := Try.prog) wx 74 81 none 0 0 0 0 Try.underlying74
  go_wp2
  go_ret
  exact ⟨rfl, rfl⟩
def ClonedP_put (n : Nat) (f : Nat → Value) (w : World) (e : Ending) (w' : World) : Prop := ∃ v, e = .returned v ∧ OwnK w' w.heap.size 81 65 v n f ∧ Below w.heap.size w w'
set_option maxHeartbeats 1000000 in
theorem Clone_put (b off n c : Nat) (f : Nat → Value) (w : World) (hc : Cells w b off (n * 65) f) (h1 : ∀ i, i < n * 65 → (f i).oneCell' = true) (hn : n ≤ 1000000) :
    Calls Try.prog 50 #[.slice (some ⟨b, off, none⟩) n c] w (ClonedP_put n f w) := by
  obtain ⟨z, hz⟩ := info_putd
  have Hz := Lib.hid hz
  have Hc := Lib.hid (hc.alloc (.cells #[] 81))
  have H1 := Lib.hid h1
  clear hz hc h1
  go_enter Try.func50, Try.ntmps50
  have heq := fun (wx : World) => Lib.run_eql_slice_nil (P := Try.prog) wx 74 81 (some ⟨b, off, none⟩) n c 0 0 Try.underlying74
  go_wp2_with (with_reducible refine stopB .append ?_)
  refine Hold.go ?_
  have hrow : OwnK (w.alloc (.cells #[] 81)) w.heap.size 81 65 (.slice (some ⟨w.heap.size, 0, none⟩) 0 0) 0 f :=
    .inr ⟨w.heap.size, 0, rfl, Nat.le_refl _, ⟨#[], heap_alloc_new w _, by simp, by simp, fun i hi => by omega⟩, Nat.le_refl _, by decide⟩
  refine wpList_append_k rfl _ _ 74 81 z 65 72 rfl Try.underlying74 Hz.out.1 Hz.out.2 (by decide) w.heap.size _ 0 f rfl hrow b off n c f rfl Hc.out H1.out (by omega) (by decide) (by simp) ?_
  intro v' w' hown hgr
  obtain ⟨av, cv, rfl⟩ := hown.slice
  have Hb := Lib.hid (hrow.below ((Below.refl _ w).alloc (Nat.le_refl _) (.cells #[] 81)) (by simp) (Nat.le_refl _) hgr)
  have hown2 := hown.congr (f' := f) (fun i hi => by rw [if_neg (by omega), Nat.zero_mul, Nat.sub_zero])
  rw [Nat.zero_add] at hown2
  have Ho := Lib.hid hown2
  have Hn := Lib.hid (show 0 + n = n from Nat.zero_add n)
  clear hrow hown hgr hown2
  rw [Hn.out]
  go_wp2
  go_ret
  exact ⟨_, rfl, Ho.out, Hb.out⟩

end Go.Proofs.Ytjhcaedfknhilaa

namespace Go.Proofs.Ytjhcaedfknhilaa
set_option linter.unusedVariables false
set_option linter.unusedSimpArgs false
open Go.RowKit

/-- What a world keeps for such lists: all ahead of B, and all that is no disk's. -/
def Keeps (B : Nat) (w w' : World) : Prop := w.heap.size ≤ w'.heap.size ∧ ∀ (b : Nat) (o : Obj), w.heap[b]? = some o → (b < B ∨ notDisk o = true) → w'.heap[b]? = some o
theorem Keeps.refl (B : Nat) (w : World) : Keeps B w w := ⟨Nat.le_refl _, fun _ _ h _ => h⟩
theorem Keeps.trans {B : Nat} {w w1 w2 : World} (h : Keeps B w w1) (h' : Keeps B w1 w2) : Keeps B w w2 := ⟨Nat.le_trans h.1 h'.1, fun b o ho hn => h'.2 b o (h.2 b o ho hn) hn⟩
theorem keeps_below {B : Nat} {w w' : World} (h : Below w.heap.size w w') : Keeps B w w' := ⟨h.size, fun b o ho _ => (h.block b (Array.getElem?_eq_some_iff.1 ho).1).trans ho⟩
theorem keeps_calm {B : Nat} {w w' : World} (h : Below B w w') (hc : Calm w w') : Keeps B w w' := ⟨hc.1, fun b o ho hn => by
  rcases hn with hn | hn
  · exact (h.block b hn).trans ho
  · exact hc.2 b o ho hn⟩
/-- The types that such lists lie in. -/
def dataT (e : TypeId) : Bool := e == 5 || e == 3 || e == 62
def isData : Obj → Bool
  | .cells _ e _ => dataT e
  | _ => false
theorem data_notDisk {o : Obj} (h : isData o = true) : notDisk o = true := by
  cases o with
  | cells c e f =>
    have h' : dataT e = true := h
    show (!diskT e) = true
    unfold dataT at h'
    unfold diskT
    simp only [Bool.or_eq_true, beq_iff_eq] at h'
    rcases h' with (rfl | rfl) | rfl <;> rfl
  | _ => cases h
/-- What keeps all ahead of B, and all such lists. -/
def KeepsD (B : Nat) (w w' : World) : Prop := w.heap.size ≤ w'.heap.size ∧ ∀ (b : Nat) (o : Obj), w.heap[b]? = some o → (b < B ∨ isData o = true) → w'.heap[b]? = some o
theorem Keeps.data {B : Nat} {w w' : World} (h : Keeps B w w') : KeepsD B w w' := ⟨h.1, fun b o ho hn => h.2 b o ho (hn.imp id data_notDisk)⟩
theorem KeepsD.trans {B : Nat} {w w1 w2 : World} (h : KeepsD B w w1) (h' : KeepsD B w1 w2) : KeepsD B w w2 := ⟨Nat.le_trans h.1 h'.1, fun b o ho hn => h'.2 b o (h.2 b o ho hn) hn⟩
/-- A store into a block from B on that is no such list. -/
theorem keepsD_set {B g i : Nat} {W : World} {e : TypeId} {c n : Nat} {F : Nat → Value} (hr : RowAt W g e c n F) (he : dataT e = false) (hB : B ≤ g) (v : Value) : KeepsD B W (W.setCell ⟨g, i, none⟩ v) := by
  refine ⟨by simp, fun b o ho hn => (Below.heap_setCell W ⟨g, i, none⟩ v b ?_).trans ho⟩
  rintro rfl
  obtain ⟨cur, hg, _⟩ := hr
  rw [hg] at ho
  cases ho
  rcases hn with hn | hn
  · omega
  · have h9 : dataT e = true := hn
    rw [he] at h9; cases h9
theorem Blk.keep {B : Nat} {w w' : World} {e : TypeId} {b : Nat} (h : Blk B w e b) (hk : KeepsD B w w') (he : dataT e = true) : Blk B w' e b := by
  rcases h with h | ⟨cur, fr, h⟩
  · exact .inl h
  · exact .inr ⟨cur, fr, hk.2 b _ h (.inr he)⟩
theorem Cells.keep {B : Nat} {w w' : World} {b off n : Nat} {f : Nat → Value} {e : TypeId} (h : Cells w b off n f) (hb : Blk B w e b) (hk : KeepsD B w w') (he : dataT e = true) : Cells w' b off n f := by
  intro i hi
  have h1 := h i hi
  have hl := World.block_lt_of_cell? w ⟨b, off + i, none⟩ h1
  have ho : w.heap[b]? = some w.heap[b] := Array.getElem?_eq_getElem hl
  have : w'.heap[b]? = some w.heap[b] := hk.2 b _ ho (by
    rcases hb with hb | ⟨cur, fr, hb⟩
    · exact .inl hb
    · refine .inr ?_
      rw [ho] at hb
      injection hb with hb
      rw [hb]
      exact he)
  exact (World.cell?_of_block (a := ⟨b, off + i, none⟩) (this.trans ho.symm)).trans h1
theorem NArg.keep {B : Nat} {w w' : World} {v : Value} {n : Nat} {f : Nat → Int} (h : NArg B w v n f) (hk : KeepsD B w w') : NArg B w' v n f := by
  rcases h with ⟨hf, (h | ⟨b, off, cap, h1, h2, h3, h4, h5, h6⟩)⟩
  · exact ⟨hf, .inl h⟩
  · exact ⟨hf, .inr ⟨b, off, cap, h1, h2, h3, h4, h5.keep h6 hk rfl, h6.keep hk rfl⟩⟩
theorem BArg.keep {B : Nat} {w w' : World} {v : Value} {n : Nat} {f : Nat → Int} (h : BArg B w v n f) (hk : KeepsD B w w') : BArg B w' v n f := by
  rcases h with ⟨hf, (h | ⟨b, off, cap, h1, h2, h3, h4, h5, h6⟩)⟩
  · exact ⟨hf, .inl h⟩
  · exact ⟨hf, .inr ⟨b, off, cap, h1, h2, h3, h4, h5.keep (e := 5) h6 hk rfl, Blk.keep (e := 5) h6 hk rfl⟩⟩

/-- The cells of a list of Puts. -/
def putC (a : Nat → Int) (bv : Nat → Value) (k : Nat) : Value := if k % 2 = 0 then .int .i64 (a (k / 2)) else bv (k / 2)
/-- A list of Puts: their sectors, how many bytes each has, and the bytes. -/
def QArg (B : Nat) (w : World) (v : Value) (q : Nat) (a : Nat → Int) (l : Nat → Nat) (f : Nat → Nat → Int) : Prop :=
  (∀ i, -9223372036854775808 ≤ a i ∧ a i ≤ 9223372036854775807) ∧ ((q = 0 ∧ ∃ x cap, v = .slice x 0 cap) ∨ ∃ b off cap bv, v = .slice (some ⟨b, off, none⟩) q cap ∧ 0 < q ∧ q ≤ cap ∧ cap ≤ maxLen ∧ Cells w b off (q * 2) (putC a bv) ∧ Blk B w 62 b ∧ ∀ i, i < q → BArg B w (bv i) (l i) (f i))
theorem QArg.slice {B : Nat} {w : World} {v : Value} {q : Nat} {a : Nat → Int} {l : Nat → Nat} {f : Nat → Nat → Int} (h : QArg B w v q a l f) : ∃ x cap, v = .slice x q cap ∧ q ≤ maxLen := by
  rcases h with ⟨_, (⟨rfl, a, cap, rfl⟩ | ⟨b, off, cap, bv, rfl, _, h1, h2, _⟩)⟩
  · exact ⟨_, _, rfl, Nat.zero_le _⟩
  · exact ⟨_, _, rfl, Nat.le_trans h1 h2⟩
theorem QArg.keep {B : Nat} {w w' : World} {v : Value} {q : Nat} {a : Nat → Int} {l : Nat → Nat} {f : Nat → Nat → Int} (h : QArg B w v q a l f) (hk : KeepsD B w w') : QArg B w' v q a l f := by
  rcases h with ⟨hf, (h | ⟨b, off, cap, bv, h1, h2, h3, h4, h5, h6, h7⟩)⟩
  · exact ⟨hf, .inl h⟩
  · exact ⟨hf, .inr ⟨b, off, cap, bv, h1, h2, h3, h4, h5.keep h6 hk rfl, h6.keep hk rfl, fun i hi => (h7 i hi).keep hk⟩⟩

/-- A device, plainly. -/
structure Dev where
  n : Nat
  data : Nat → Int
  q : Nat
  qa : Nat → Int
  ql : Nat → Nat
  qb : Nat → Nat → Int
  m : Nat
  bad : Nat → Int
  dead : Bool
  armed : Bool
  left : Int

def devV (dv qv bv : Value) (X : Dev) : Value := .agg #[dv, qv, bv, .bool X.dead, .bool X.armed, .int .i64 X.left]
structure DevAt (B : Nat) (w : World) (dv qv bv : Value) (X : Dev) : Prop where
  data : BArg B w dv X.n X.data
  queue : QArg B w qv X.q X.qa X.ql X.qb
  bad : NArg B w bv X.m X.bad
  left : -9223372036854775808 ≤ X.left ∧ X.left ≤ 9223372036854775807
theorem DevAt.keepD {B : Nat} {w w' : World} {dv qv bv : Value} {X : Dev} (h : DevAt B w dv qv bv X) (hk : KeepsD B w w') : DevAt B w' dv qv bv X :=
  ⟨h.data.keep hk, h.queue.keep hk, h.bad.keep hk, h.left⟩
theorem DevAt.keep {B : Nat} {w w' : World} {dv qv bv : Value} {X : Dev} (h : DevAt B w dv qv bv X) (hk : Keeps B w w') : DevAt B w' dv qv bv X := h.keepD hk.data
theorem DevAt.all {B : Nat} {w w' : World} {dv qv bv : Value} {X : Dev} (h : DevAt B w dv qv bv X) (hb : Below w.heap.size w w') : DevAt B w' dv qv bv X := h.keep (keeps_below hb)

/-- Lists of the call's own. -/
theorem narg_own {B B' : Nat} {w : World} {v : Value} {n : Nat} {f : Nat → Int} (h : Own w B' 3 v n (intsV f)) (hf : ∀ i, -9223372036854775808 ≤ f i ∧ f i ≤ 9223372036854775807) : NArg B w v n f := by
  refine ⟨hf, ?_⟩
  by_cases hn : n = 0
  · subst hn
    obtain ⟨a, c, rfl⟩ := Own.slice h
    exact .inl ⟨rfl, _, _, rfl⟩
  · obtain ⟨g, cap, rfl, hB, hr, hm⟩ := h.row (by omega)
    have hrow := hr
    obtain ⟨cur, hg, _⟩ := hr
    exact .inr ⟨g, 0, cap, rfl, by omega, hrow.le, hm, hrow.reads, .inr ⟨cur, _, hg⟩⟩
theorem barg_own {B B' : Nat} {w : World} {v : Value} {n : Nat} {f : Nat → Int} (h : Own w B' 5 v n (byteF f)) (hf : ∀ i, 0 ≤ f i ∧ f i < 256) : BArg B w v n f := by
  refine ⟨hf, ?_⟩
  by_cases hn : n = 0
  · subst hn
    obtain ⟨a, c, rfl⟩ := Own.slice h
    exact .inl ⟨rfl, _, _, rfl⟩
  · obtain ⟨g, cap, rfl, hB, hr, hm⟩ := h.row (by omega)
    have hrow := hr
    obtain ⟨cur, hg, _⟩ := hr
    exact .inr ⟨g, 0, cap, rfl, by omega, hrow.le, hm, hrow.reads, .inr ⟨cur, _, hg⟩⟩
theorem qarg_own {B B' : Nat} {w : World} {v : Value} {q : Nat} {a : Nat → Int} {l : Nat → Nat} {f : Nat → Nat → Int} {bv : Nat → Value} (h : OwnK w B' 62 2 v q (putC a bv)) (ha : ∀ i, -9223372036854775808 ≤ a i ∧ a i ≤ 9223372036854775807)
    (hb : ∀ i, i < q → BArg B w (bv i) (l i) (f i)) : QArg B w v q a l f := by
  refine ⟨ha, ?_⟩
  rcases h with ⟨rfl, rfl⟩ | ⟨g, cap, rfl, hB, hr, hle, hm⟩
  · exact .inl ⟨rfl, _, _, rfl⟩
  · by_cases hn : q = 0
    · subst hn
      exact .inl ⟨rfl, _, _, rfl⟩
    · have hrow := hr
      obtain ⟨cur, hg, _⟩ := hr
      exact .inr ⟨g, 0, cap, bv, rfl, by omega, hle, hm, hrow.reads, .inr ⟨cur, _, hg⟩, hb⟩

end Go.Proofs.Ytjhcaedfknhilaa
