/- Disk: Load: what is refused at once. -/
import Derived.Test.YtjhcaedfknhilaaDiskZ
import Derived.Test.YtjhcaedfknhilaaReg
namespace Go.Proofs.Ytjhcaedfknhilaa
open Go.RowKit
attribute [local go_sem ↓] Go.wp_at_zero Go.wp_at_succ

def Dev.ok1 (X : Dev) : Prop := X.n % 64 = 0 ∧ 1 ≤ X.n / 64 ∧ X.n / 64 ≤ 4096 ∧ X.q ≤ 65536
def Dev.ok2 (X : Dev) : Prop := 0 ≤ X.left ∧ (X.armed = true ∨ X.left = 0) ∧ ¬ (X.dead = true ∧ (X.armed = true ∨ 0 < X.q))
def Dev.okQ (X : Dev) (k : Nat) : Prop := ∀ i, i < k → 0 ≤ X.qa i ∧ X.qa i < (X.n / 64 : Nat) ∧ X.ql i = 64
def Dev.okB (X : Dev) (k : Nat) : Prop := ∀ i, i < k → 0 ≤ X.bad i ∧ X.bad i < (X.n / 64 : Nat) ∧ (i = 0 ∨ X.bad (i - 1) < X.bad i)
/-- A device is valid. -/
structure Dev.Right (X : Dev) : Prop where
  h1 : X.ok1
  h2 : X.ok2
  h3 : X.okQ X.q
  h4 : X.okB X.m

/-- What Load leaves that refuses. -/
def LoadNo (w : World) (e : Ending) (w' : World) : Prop := e = .returned (.tuple #[.pointer none, .int .i64 1]) ∧ Below w.heap.size w w'

/-- What the walk of Load has at hand: the box of the argument, of the disk, of the error. -/
structure LoadI (w : World) (dv qv bv : Value) (X : Dev) (p : Value) (W : World) : Prop where
  below : Below w.heap.size w W
  box : RowAt W w.heap.size 31 6 6 (st6 dv qv bv (.bool X.dead) (.bool X.armed) (.int .i64 X.left))
  out : RowAt W (w.heap.size + 1) 22 1 1 (fun _ => p)
  err : RowAt W (w.heap.size + 1 + 1) 23 1 1 (fun _ => .int .i64 0)
theorem LoadI.all {w W W' : World} {dv qv bv p : Value} {X : Dev} (h : LoadI w dv qv bv X p W) (hb : Below W.heap.size W W') : LoadI w dv qv bv X p W' :=
  ⟨h.below.trans (hb.mono h.below.size), h.box.all hb, h.out.all hb, h.err.all hb⟩
theorem LoadI.cells {w W : World} {dv qv bv p : Value} {X : Dev} (h : LoadI w dv qv bv X p W) :
    W.cell? ⟨w.heap.size, 0, none⟩ = some dv ∧ W.cell? ⟨w.heap.size, 1, none⟩ = some qv ∧ W.cell? ⟨w.heap.size, 2, none⟩ = some bv ∧ W.cell? ⟨w.heap.size, 3, none⟩ = some (.bool X.dead) ∧ W.cell? ⟨w.heap.size, 4, none⟩ = some (.bool X.armed) ∧ W.cell? ⟨w.heap.size, 5, none⟩ = some (.int .i64 X.left) :=
  ⟨h.box.cell (i := 0) (by omega), h.box.cell (i := 1) (by omega), h.box.cell (i := 2) (by omega), h.box.cell (i := 3) (by omega), h.box.cell (i := 4) (by omega), h.box.cell (i := 5) (by omega)⟩
theorem loadI_first (w : World) (dv qv bv : Value) (X : Dev) :
    LoadI w dv qv bv X (.pointer none) (((w.alloc (.cells #[dv, qv, bv, .bool X.dead, .bool X.armed, .int .i64 X.left] 31)).alloc (.cells #[.pointer none] 22)).alloc (.cells #[.int .i64 0] 23)) :=
  ⟨(((Below.refl _ w).alloc (Nat.le_refl _) _).alloc (by simp) _).alloc (by simp; omega) _, ((row_six w dv qv bv _ _ _ _).alloc _).alloc _, (row_new1 _ (w.heap.size + 1) _ _ (by simp)).alloc _, row_new1 _ (w.heap.size + 1 + 1) _ _ (by simp)⟩
/-- Behind a panic. -/
theorem LoadI.catch {w W : World} {dv qv bv p : Value} {X : Dev} (h : LoadI w dv qv bv X p W) :
    CallsD Try.prog 32 #[.pointer (some ⟨w.heap.size + 1, 0, none⟩), .pointer (some ⟨w.heap.size + 1 + 1, 0, none⟩)] (.panicking (failP 1)) W fun e u' w' =>
      e = .returned (.tuple #[]) ∧ u' = .panicking (failR 1) ∧ w' = (W.setCell ⟨w.heap.size + 1, 0, none⟩ (.pointer none)).setCell ⟨w.heap.size + 1 + 1, 0, none⟩ (.int .i64 1) :=
  catch_fail_d _ _ 1 W _ _ (h.out.cell (i := 0) (by omega)) (h.out.frozen 0) ((h.err.setOther ⟨w.heap.size + 1, 0, none⟩ (.pointer none) (by simp)).cell (i := 0) (by omega)) ((h.err.setOther ⟨w.heap.size + 1, 0, none⟩ (.pointer none) (by simp)).frozen 0)
theorem LoadI.fin {w W : World} {dv qv bv p : Value} {X : Dev} (h : LoadI w dv qv bv X p W) :
    ((W.setCell ⟨w.heap.size + 1, 0, none⟩ (.pointer none)).setCell ⟨w.heap.size + 1 + 1, 0, none⟩ (.int .i64 1)).cell? ⟨w.heap.size + 1, 0, none⟩ = some (.pointer none) ∧
    ((W.setCell ⟨w.heap.size + 1, 0, none⟩ (.pointer none)).setCell ⟨w.heap.size + 1 + 1, 0, none⟩ (.int .i64 1)).cell? ⟨w.heap.size + 1 + 1, 0, none⟩ = some (.int .i64 1) ∧
    Below w.heap.size w ((W.setCell ⟨w.heap.size + 1, 0, none⟩ (.pointer none)).setCell ⟨w.heap.size + 1 + 1, 0, none⟩ (.int .i64 1)) :=
  ⟨((h.out.set1 (.pointer none)).setOther ⟨w.heap.size + 1 + 1, 0, none⟩ (.int .i64 1) (by simp)).cell (i := 0) (by omega), ((h.err.setOther ⟨w.heap.size + 1, 0, none⟩ (.pointer none) (by simp)).set1 (.int .i64 1)).cell (i := 0) (by omega),
    (h.below.setCell (p := ⟨w.heap.size + 1, 0, none⟩) (Nat.le_add_right _ _) _).setCell (p := ⟨w.heap.size + 1 + 1, 0, none⟩) (by show w.heap.size ≤ w.heap.size + 1 + 1; omega) _⟩

set_option maxRecDepth 100000 in
set_option maxHeartbeats 4000000 in
theorem Load_bad1 {B : Nat} {dv qv bv : Value} {X : Dev} (w : World) (h : DevAt B w dv qv bv X) (hn : ¬ X.ok1) : Calls Try.prog 28 #[devV dv qv bv X] w (LoadNo w) := by
  obtain ⟨dx, dcap, hds, hdm⟩ := h.data.slice
  obtain ⟨qx, qcap, hqs, hqm⟩ := h.queue.slice
  obtain ⟨bx, bcap, hbs, hbm⟩ := h.bad.slice
  subst hds hqs hbs
  unfold maxLen at hdm hqm hbm
  have HI := Lib.hid (loadI_first w (.slice dx X.n dcap) (.slice qx X.q qcap) (.slice bx X.m bcap) X)
  obtain ⟨c0, c1, c2, c3, c4, c5⟩ := HI.out.cells
  have hdec : ((X.n : Int) % 64 == 0) = false ∨ (∃ k, X.n = k * 64 ∧ k ≤ 9223372036854775807 ∧ (X.n = 0 ∨ (1 ≤ k ∧ decide ((k : Int) ≤ 4096) = false) ∨ (1 ≤ k ∧ decide ((k : Int) ≤ 4096) = true ∧ decide ((X.q : Int) ≤ 65536) = false ∧ 65536 < (X.q : Int) ∧ 65536 < X.q))) := by
    by_cases h1 : X.n % 64 = 0
    · refine .inr ⟨X.n / 64, by omega, by omega, ?_⟩
      by_cases h2 : 1 ≤ X.n / 64
      · by_cases h3 : X.n / 64 ≤ 4096
        · have h4 : ¬ X.q ≤ 65536 := fun h4 => hn ⟨h1, h2, h3, h4⟩
          exact .inr (.inr ⟨h2, decide_eq_true (by omega), decide_eq_false (by omega), by omega, by omega⟩)
        · exact .inr (.inl ⟨h2, decide_eq_false (by omega)⟩)
      · exact .inl (by omega)
    · exact .inl (by rw [beq_eq_false_iff_ne]; omega)
  clear h hn
  rcases hdec with h1 | ⟨k, hk, hk9, h1 | ⟨h1, h2⟩ | ⟨h1, h2, h3, h4, h5⟩⟩
  · unfold devV
    go_enter_defers Try.func28, Try.ntmps28
    go_wp2_with fail
    generalize ((w.alloc (.cells #[.slice dx X.n dcap, .slice qx X.q qcap, .slice bx X.m bcap, .bool X.dead, .bool X.armed, .int .i64 X.left] 31)).alloc (.cells #[.pointer none] 22)).alloc (.cells #[.int .i64 0] 23) = W at *
    refine (want_not 1 _).mono ?_
    rintro e w1 ⟨rfl, rfl⟩
    go_wp2
    refine leaves_cons (f := 32) (args := #[.pointer (some ⟨w.heap.size + 1, 0, none⟩), .pointer (some ⟨w.heap.size + 1 + 1, 0, none⟩)]) (by simp) (by simp [go_sem]) ?_
    refine HI.out.catch.mono ?_
    rintro e u' w'' ⟨rfl, rfl, rfl⟩
    have y0 := HI.out.fin.1
    have y1 := HI.out.fin.2.1
    have Hbb := Lib.hid HI.out.fin.2.2
    simp [Leaves, settle, results, Try.results28, go_sem, y0, y1, failR]
    exact ⟨rfl, Hbb.out⟩
  · clear c0 c1 c2 c3 c4 c5
    clear hk
    rw [h1] at HI hdm ⊢
    obtain ⟨c0, c1, c2, c3, c4, c5⟩ := HI.out.cells
    clear h1
    unfold devV
    go_enter_defers Try.func28, Try.ntmps28
    go_wp2_with fail
    generalize ((w.alloc (.cells #[.slice dx 0 dcap, .slice qx X.q qcap, .slice bx X.m bcap, .bool X.dead, .bool X.armed, .int .i64 X.left] 31)).alloc (.cells #[.pointer none] 22)).alloc (.cells #[.int .i64 0] 23) = W at *
    refine (want_not 1 _).mono ?_
    rintro e w1 ⟨rfl, rfl⟩
    go_wp2
    refine leaves_cons (f := 32) (args := #[.pointer (some ⟨w.heap.size + 1, 0, none⟩), .pointer (some ⟨w.heap.size + 1 + 1, 0, none⟩)]) (by simp) (by simp [go_sem]) ?_
    refine HI.out.catch.mono ?_
    rintro e u' w'' ⟨rfl, rfl, rfl⟩
    have y0 := HI.out.fin.1
    have y1 := HI.out.fin.2.1
    have Hbb := Lib.hid HI.out.fin.2.2
    simp [Leaves, settle, results, Try.results28, go_sem, y0, y1, failR]
    exact ⟨rfl, Hbb.out⟩
  · clear c0 c1 c2 c3 c4 c5
    rw [hk] at HI hdm ⊢
    obtain ⟨c0, c1, c2, c3, c4, c5⟩ := HI.out.cells
    clear hk
    unfold devV
    go_enter_defers Try.func28, Try.ntmps28
    go_wp2_with fail
    generalize ((w.alloc (.cells #[.slice dx (k * 64) dcap, .slice qx X.q qcap, .slice bx X.m bcap, .bool X.dead, .bool X.armed, .int .i64 X.left] 31)).alloc (.cells #[.pointer none] 22)).alloc (.cells #[.int .i64 0] 23) = W at *
    refine (want_not 1 _).mono ?_
    rintro e w1 ⟨rfl, rfl⟩
    go_wp2
    refine leaves_cons (f := 32) (args := #[.pointer (some ⟨w.heap.size + 1, 0, none⟩), .pointer (some ⟨w.heap.size + 1 + 1, 0, none⟩)]) (by simp) (by simp [go_sem]) ?_
    refine HI.out.catch.mono ?_
    rintro e u' w'' ⟨rfl, rfl, rfl⟩
    have y0 := HI.out.fin.1
    have y1 := HI.out.fin.2.1
    have Hbb := Lib.hid HI.out.fin.2.2
    simp [Leaves, settle, results, Try.results28, go_sem, y0, y1, failR]
    exact ⟨rfl, Hbb.out⟩
  · clear c0 c1 c2 c3 c4 c5
    rw [hk] at HI hdm ⊢
    obtain ⟨c0, c1, c2, c3, c4, c5⟩ := HI.out.cells
    clear hk
    unfold devV
    go_enter_defers Try.func28, Try.ntmps28
    go_wp2_with fail
    generalize ((w.alloc (.cells #[.slice dx (k * 64) dcap, .slice qx X.q qcap, .slice bx X.m bcap, .bool X.dead, .bool X.armed, .int .i64 X.left] 31)).alloc (.cells #[.pointer none] 22)).alloc (.cells #[.int .i64 0] 23) = W at *
    refine (want_not 1 _).mono ?_
    rintro e w1 ⟨rfl, rfl⟩
    go_wp2
    refine leaves_cons (f := 32) (args := #[.pointer (some ⟨w.heap.size + 1, 0, none⟩), .pointer (some ⟨w.heap.size + 1 + 1, 0, none⟩)]) (by simp) (by simp [go_sem]) ?_
    refine HI.out.catch.mono ?_
    rintro e u' w'' ⟨rfl, rfl, rfl⟩
    have y0 := HI.out.fin.1
    have y1 := HI.out.fin.2.1
    have Hbb := Lib.hid HI.out.fin.2.2
    simp [Leaves, settle, results, Try.results28, go_sem, y0, y1, failR]
    exact ⟨rfl, Hbb.out⟩

set_option maxRecDepth 100000 in
set_option maxHeartbeats 4000000 in
theorem Load_bad2 {B : Nat} {dv qv bv : Value} {X : Dev} (w : World) (h : DevAt B w dv qv bv X) (h1 : X.ok1) (hn : ¬ X.ok2) : Calls Try.prog 28 #[devV dv qv bv X] w (LoadNo w) := by
  obtain ⟨dx, dcap, hds, hdm⟩ := h.data.slice
  obtain ⟨qx, qcap, hqs, hqm⟩ := h.queue.slice
  obtain ⟨bx, bcap, hbs, hbm⟩ := h.bad.slice
  subst hds hqs hbs
  unfold maxLen at hdm hqm hbm
  have HI := Lib.hid (loadI_first w (.slice dx X.n dcap) (.slice qx X.q qcap) (.slice bx X.m bcap) X)
  obtain ⟨c0, c1, c2, c3, c4, c5⟩ := HI.out.cells
  obtain ⟨a1, a2, a3, a4⟩ := h1
  obtain ⟨k, hk⟩ : ∃ k, X.n = k * 64 := ⟨X.n / 64, by omega⟩
  have hk1 : 1 ≤ k := by omega
  have hk2 : decide ((k : Int) ≤ 4096) = true := decide_eq_true (by omega)
  have hq2 : decide ((X.q : Int) ≤ 65536) = true := decide_eq_true (by omega)
  have hq3 : (X.q : Int) ≤ 65536 := by omega
  clear c0 c1 c2 c3 c4 c5
  rw [hk] at HI hdm ⊢
  obtain ⟨c0, c1, c2, c3, c4, c5⟩ := HI.out.cells
  clear a1 a2 a3 hk h
  unfold devV
  go_enter_defers Try.func28, Try.ntmps28
  go_wp2_with fail
  generalize ((w.alloc (.cells #[.slice dx (k * 64) dcap, .slice qx X.q qcap, .slice bx X.m bcap, .bool X.dead, .bool X.armed, .int .i64 X.left] 31)).alloc (.cells #[.pointer none] 22)).alloc (.cells #[.int .i64 0] 23) = W at *
  refine (want_ok 1 _).mono ?_
  rintro e w1 ⟨rfl, rfl⟩
  rcases hL : decide (0 ≤ X.left) with _ | _
  · go_wp2_with fail
    refine (want_not 1 _).mono ?_
    rintro e w1 ⟨rfl, rfl⟩
    go_wp2
    refine leaves_cons (f := 32) (args := #[.pointer (some ⟨w.heap.size + 1, 0, none⟩), .pointer (some ⟨w.heap.size + 1 + 1, 0, none⟩)]) (by simp) (by simp [go_sem]) ?_
    refine HI.out.catch.mono ?_
    rintro e u' w'' ⟨rfl, rfl, rfl⟩
    have y0 := HI.out.fin.1
    have y1 := HI.out.fin.2.1
    have Hbb := Lib.hid HI.out.fin.2.2
    simp [Leaves, settle, results, Try.results28, go_sem, y0, y1, failR]
    exact ⟨rfl, Hbb.out⟩
  have hL0 : 0 ≤ X.left := of_decide_eq_true hL
  rcases hA : X.armed with _ | _
  · rw [hA] at c4
    rcases hZ : (X.left == 0) with _ | _
    · have HA := Lib.hid hA; clear hA
      go_wp2_with fail
      refine (want_not 1 _).mono ?_
      rintro e w1 ⟨rfl, rfl⟩
      go_wp2
      refine leaves_cons (f := 32) (args := #[.pointer (some ⟨w.heap.size + 1, 0, none⟩), .pointer (some ⟨w.heap.size + 1 + 1, 0, none⟩)]) (by simp) (by simp [go_sem]) ?_
      refine HI.out.catch.mono ?_
      rintro e u' w'' ⟨rfl, rfl, rfl⟩
      have y0 := HI.out.fin.1
      have y1 := HI.out.fin.2.1
      have Hbb := Lib.hid HI.out.fin.2.2
      simp [Leaves, settle, results, Try.results28, go_sem, y0, y1, failR]
      exact ⟨rfl, Hbb.out⟩
    have hZ0 : X.left = 0 := eq_of_beq hZ
    rcases hD : X.dead with _ | _
    · exact absurd ⟨hL0, .inr hZ0, fun hd => by rw [hD] at hd; cases hd.1⟩ hn
    rcases hQ : decide (0 < X.q) with _ | _
    · have hq0 : ¬ 0 < X.q := of_decide_eq_false hQ
      refine absurd ⟨hL0, .inr hZ0, fun hd => ?_⟩ hn
      rcases hd.2 with h9 | h9
      · rw [hA] at h9; cases h9
      · omega
    have hq0 : 0 < X.q := of_decide_eq_true hQ
    rw [hD] at c3
    have HA := Lib.hid hA; clear hA
    have HD := Lib.hid hD; clear hD
    have HZ := Lib.hid hZ0; clear hZ0
    go_wp2_with fail
    refine (want_not 1 _).mono ?_
    rintro e w1 ⟨rfl, rfl⟩
    go_wp2
    refine leaves_cons (f := 32) (args := #[.pointer (some ⟨w.heap.size + 1, 0, none⟩), .pointer (some ⟨w.heap.size + 1 + 1, 0, none⟩)]) (by simp) (by simp [go_sem]) ?_
    refine HI.out.catch.mono ?_
    rintro e u' w'' ⟨rfl, rfl, rfl⟩
    have y0 := HI.out.fin.1
    have y1 := HI.out.fin.2.1
    have Hbb := Lib.hid HI.out.fin.2.2
    simp [Leaves, settle, results, Try.results28, go_sem, y0, y1, failR]
    exact ⟨rfl, Hbb.out⟩
  · rw [hA] at c4
    rcases hD : X.dead with _ | _
    · exact absurd ⟨hL0, .inl hA, fun hd => by rw [hD] at hd; cases hd.1⟩ hn
    rw [hD] at c3
    have HA := Lib.hid hA; clear hA
    have HD := Lib.hid hD; clear hD
    go_wp2_with fail
    refine (want_not 1 _).mono ?_
    rintro e w1 ⟨rfl, rfl⟩
    go_wp2
    refine leaves_cons (f := 32) (args := #[.pointer (some ⟨w.heap.size + 1, 0, none⟩), .pointer (some ⟨w.heap.size + 1 + 1, 0, none⟩)]) (by simp) (by simp [go_sem]) ?_
    refine HI.out.catch.mono ?_
    rintro e u' w'' ⟨rfl, rfl, rfl⟩
    have y0 := HI.out.fin.1
    have y1 := HI.out.fin.2.1
    have Hbb := Lib.hid HI.out.fin.2.2
    simp [Leaves, settle, results, Try.results28, go_sem, y0, y1, failR]
    exact ⟨rfl, Hbb.out⟩

end Go.Proofs.Ytjhcaedfknhilaa
