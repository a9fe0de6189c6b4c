/- Disk: Stop, done. -/
import Derived.Test.YtjhcaedfknhilaaDiskD
namespace Go.Proofs.Ytjhcaedfknhilaa
open Go.RowKit
attribute [local go_sem ↓] Go.wp_at_zero Go.wp_at_succ

theorem DiskIn.lt {B g gs gb : Nat} {qv : Value} {D : Dsk} {W : World} (h : DiskIn B g gs gb qv D W) : B ≤ W.heap.size := by
  have := h.row.lt
  have := h.base.1
  omega
/-- The three blocks of a disk differ. -/
theorem DiskIn.ne {B g gs gb : Nat} {qv : Value} {D : Dsk} {W : World} (h : DiskIn B g gs gb qv D W) : g ≠ gs ∧ g ≠ gb ∧ gs ≠ gb :=
  ⟨h.row.neType h.sec (by decide), h.row.neType h.bad (by decide), h.sec.neType h.bad (by decide)⟩
theorem Puts.other {W : World} {B k : Nat} {v : Value} {q : Nat} {a : Nat → Nat} {f : Nat → Nat → Int} (h : Puts W B v q a f) {e : TypeId} {c n : Nat} {F : Nat → Value} (hr : RowAt W k e c n F) (he : e ≠ 81) (i : Nat) (u : Value) : Puts (W.setCell ⟨k, i, none⟩ u) B v q a f := by
  rcases h with h | ⟨g, cap, h1, h2, h3, h4⟩
  · exact .inl h
  · exact .inr ⟨g, cap, h1, h2, h3.setOther _ _ (hr.neType h3 he), h4⟩

/-- A store into a field of a disk's struct. -/
theorem DiskIn.put {B g gs gb : Nat} {qv : Value} {D D' : Dsk} {W : World} (h : DiskIn B g gs gb qv D W) (i : Nat) (u : Value)
    (hst : ∀ j, j < 6 → (if j = i then u else st6 (.slice (some ⟨gs, 0, none⟩) D.n D.cs) (.slice (some ⟨gb, 0, none⟩) D.n D.cb) qv (.bool D.dead) (.bool D.armed) (.int .i64 D.left) j) = st6 (.slice (some ⟨gs, 0, none⟩) D'.n D'.cs) (.slice (some ⟨gb, 0, none⟩) D'.n D'.cb) qv (.bool D'.dead) (.bool D'.armed) (.int .i64 D'.left) j)
    (hn : D'.n = D.n) (hs : D'.sec = D.sec) (hb : D'.bad = D.bad) (hq : D'.q = D.q) (ha : D'.qa = D.qa) (hf : D'.qb = D.qb) (hcs : D'.cs = D.cs) (hcb : D'.cb = D.cb) (ok : D'.Ok) : DiskIn B g gs gb qv D' (W.setCell ⟨g, i, none⟩ u) := by
  obtain ⟨n1, n2, n3⟩ := h.ne
  refine ⟨(h.row.set i u).congr hst, ?_, ?_, ?_, h.base, ok⟩
  · rw [hn, hs, hcs]; exact h.sec.setOther _ _ n1
  · rw [hn, hb, hcb]; exact h.bad.setOther _ _ n2
  · rw [hq, ha, hf]; exact h.que.other h.row (by decide) i u

/-- A store into a block that is no disk's. -/
theorem DiskIn.other {B g gs gb k : Nat} {qv : Value} {D : Dsk} {W : World} (h : DiskIn B g gs gb qv D W) {c n : Nat} {F : Nat → Value} (hr : RowAt W k 23 c n F) (i : Nat) (u : Value) : DiskIn B g gs gb qv D (W.setCell ⟨k, i, none⟩ u) :=
  ⟨h.row.setOther _ _ (hr.neType h.row (by decide)), h.sec.setOther _ _ (hr.neType h.sec (by decide)), h.bad.setOther _ _ (hr.neType h.bad (by decide)), h.que.other hr (by decide) i u, h.base, h.ok⟩

def Dsk.arm (D : Dsk) (a : Bool) (l : Int) : Dsk := { D with armed := a, left := l }
theorem DiskIn.arm {B g gs gb : Nat} {qv : Value} {D : Dsk} {W : World} (h : DiskIn B g gs gb qv D W) (a : Bool) (l : Int) (hl : 0 ≤ l ∧ l ≤ 9223372036854775807) :
    DiskIn B g gs gb qv (D.arm a l) ((W.setCell ⟨g, 4, none⟩ (.bool a)).setCell ⟨g, 5, none⟩ (.int .i64 l)) := by
  have ho := h.ok
  refine (h.put (D' := D.arm a D.left) 4 (.bool a) (fun j hj => ?_) rfl rfl rfl rfl rfl rfl rfl rfl ⟨ho.size, ho.byte, ho.queue, ho.put, ho.pbyte, ho.left⟩).put (D' := D.arm a l) 5 (.int .i64 l) (fun j hj => ?_) rfl rfl rfl rfl rfl rfl rfl rfl ⟨ho.size, ho.byte, ho.queue, ho.put, ho.pbyte, hl⟩
  all_goals
    obtain rfl | rfl | rfl | rfl | rfl | rfl : j = 0 ∨ j = 1 ∨ j = 2 ∨ j = 3 ∨ j = 4 ∨ j = 5 := by omega
    all_goals rfl

/-- The types that a disk's memory has. -/
def diskT (e : TypeId) : Bool := e == 76 || e == 79 || e == 4 || e == 81
def notDisk : Obj → Bool
  | .cells _ e _ => !diskT e
  | _ => true
/-- All that is no disk's stands. -/
def Calm (w w' : World) : Prop := w.heap.size ≤ w'.heap.size ∧ ∀ (b : Nat) (o : Obj), w.heap[b]? = some o → notDisk o = true → w'.heap[b]? = some o
theorem Calm.refl (w : World) : Calm w w := ⟨Nat.le_refl _, fun _ _ h _ => h⟩
theorem Calm.trans {w w1 w2 : World} (h : Calm w w1) (h' : Calm w1 w2) : Calm w w2 := ⟨Nat.le_trans h.1 h'.1, fun b o ho hn => h'.2 b o (h.2 b o ho hn) hn⟩
theorem calm_below {w w' : World} (h : Below w.heap.size w w') : Calm w w' := ⟨h.size, fun b o ho _ => (h.block b (Array.getElem?_eq_some_iff.1 ho).1).trans ho⟩
theorem Calm.drew {w w' : World} (h : Calm w w') : Calm w w'.drew := h
theorem Calm.alloc {w w' : World} (h : Calm w w') (o : Obj) : Calm w (w'.alloc o) := h.trans (calm_below ((Below.refl _ w').alloc (Nat.le_refl _) o))
theorem Calm.setDisk {w w' : World} (h : Calm w w') {g i : Nat} {e : TypeId} {c n : Nat} {F : Nat → Value} (hr : RowAt w' g e c n F) (he : diskT e = true) (v : Value) : Calm w (w'.setCell ⟨g, i, none⟩ v) := by
  refine ⟨by simp; exact h.1, fun b o ho hn => ?_⟩
  have h1 := h.2 b o ho hn
  refine (Below.heap_setCell w' ⟨g, i, none⟩ v b ?_).trans h1
  rintro rfl
  obtain ⟨cur, hg, _⟩ := hr
  rw [hg] at h1
  cases h1
  have h9 : (!diskT e) = true := hn
  rw [he] at h9
  cases h9
theorem Calm.setNew {w w' : World} (h : Calm w w') {g i : Nat} (hg : w.heap.size ≤ g) (v : Value) : Calm w (w'.setCell ⟨g, i, none⟩ v) := by
  refine ⟨by simp; exact h.1, fun b o ho hn => (Below.heap_setCell w' ⟨g, i, none⟩ v b ?_).trans (h.2 b o ho hn)⟩
  have := (Array.getElem?_eq_some_iff.1 ho).1
  show b ≠ g
  omega
theorem Calm.grown {w w1 w2 : World} {row : Option Nat} (h : Calm w w1) (hg : w1.grownBy w2 row) (hr : ∀ r, row = some r → ∃ o, w1.heap[r]? = some o ∧ notDisk o = false) : Calm w w2 := by
  refine ⟨Nat.le_trans h.1 hg.size, fun b o ho hn => ?_⟩
  have h1 := h.2 b o ho hn
  refine (hg.block b (Array.getElem?_eq_some_iff.1 h1).1 fun e => ?_).trans h1
  obtain ⟨o', h2, h3⟩ := hr b e.symm
  rw [h1] at h2
  cases h2
  rw [hn] at h3; cases h3

/-- What an operation that returns an error alone leaves. -/
def Out1 (B g gs gb : Nat) (qv : Value) (c : Int) (D' : Dsk) (w : World) (e : Ending) (w' : World) : Prop := e = .returned (.int .i64 c) ∧ DiskIn B g gs gb qv D' w' ∧ Below B w w' ∧ Calm w w'

theorem out1_panic {B g gs gb : Nat} {qv : Value} {D : Dsk} {w : World} {c : Int} (h : DiskIn B g gs gb qv D w) :
    Out1 B g gs gb qv c D w (.returned (.int .i64 c)) (((w.alloc (.cells #[.int .i64 c] 23)).alloc (.cells #[] 85)).alloc (.cells #[] 85)) := by
  have hlt := h.lt
  refine ⟨rfl, h.all ?_, ?_, calm_below ?_⟩
  rotate_left 2
  · exact (((Below.refl _ w).alloc (Nat.le_refl _) _).alloc (by simp) _).alloc (by simp; omega) _
  · exact (((Below.refl _ w).alloc (Nat.le_refl _) _).alloc (by simp) _).alloc (by simp; omega) _
  · exact (((Below.refl _ w).alloc hlt _).alloc (by simp; omega) _).alloc (by simp; omega) _

set_option maxHeartbeats 4000000 in
theorem Stop_arg {B g gs gb : Nat} {qv : Value} {D : Dsk} (after : Int) (w : World) (h : DiskIn B g gs gb qv D w) (ha : after < -1) :
    Calls Try.prog 19 #[.pointer (some ⟨g, 0, none⟩), .int .i64 after] w (Out1 B g gs gb qv 1 D w) := by
  have hlt := h.lt
  have ho := ((row_new1 w w.heap.size (.int .i64 0) 23 rfl).alloc (.cells #[] 85)).alloc (.cells #[] 85)
  have x1 := ho.cell (i := 0) (by omega)
  have f1 := ho.frozen 0
  have Hcat := Lib.hid (catch_fail_n ⟨w.heap.size + 1, 0, none⟩ ⟨w.heap.size, 0, none⟩ 1 _ _ x1 f1)
  have Hd := Lib.hid h
  clear x1 f1 ho h
  go_enter_defers Try.func19, Try.ntmps19
  go_wp2_with fail
  refine (want_ok 23 _).mono ?_
  rintro e w1 ⟨rfl, rfl⟩
  have ha2 : decide (-1 ≤ after) = false := decide_eq_false (by omega)
  go_wp2_with fail
  refine (want_not 1 _).mono ?_
  rintro e w1 ⟨rfl, rfl⟩
  go_wp2
  refine leaves_cons (f := 38) (args := #[.pointer (some ⟨w.heap.size + 1, 0, none⟩), .pointer (some ⟨w.heap.size, 0, none⟩)]) (by simp) (by simp [go_sem]) ?_
  refine Hcat.out.mono ?_
  rintro e u' w'' ⟨rfl, rfl, rfl⟩
  simp [Leaves, settle, results, Try.results19, go_sem, failR]
  exact out1_panic Hd.out

set_option maxHeartbeats 4000000 in
theorem Stop_dead {B g gs gb : Nat} {qv : Value} {D : Dsk} (after : Int) (w : World) (h : DiskIn B g gs gb qv D w) (ha : -1 ≤ after) (hdd : D.dead = true) :
    Calls Try.prog 19 #[.pointer (some ⟨g, 0, none⟩), .int .i64 after] w (Out1 B g gs gb qv 7 D w) := by
  have hlt := h.lt
  have ho := ((row_new1 w w.heap.size (.int .i64 0) 23 rfl).alloc (.cells #[] 85)).alloc (.cells #[] 85)
  have x1 := ho.cell (i := 0) (by omega)
  have f1 := ho.frozen 0
  have Hcat := Lib.hid (catch_fail_n ⟨w.heap.size + 1, 0, none⟩ ⟨w.heap.size, 0, none⟩ 7 _ _ x1 f1)
  have Hd := Lib.hid h
  obtain ⟨c0, c1, c2, c3, c4, c5⟩ := ((h.all ((Below.refl _ w).alloc (Nat.le_refl _) (.cells #[.int .i64 0] 23))).all ((Below.refl _ _).alloc (Nat.le_refl _) (.cells #[] 85))).cells
  clear x1 f1 ho h
  go_enter_defers Try.func19, Try.ntmps19
  rw [hdd] at c3
  clear hdd
  have ha2 : decide (-1 ≤ after) = true := decide_eq_true ha
  go_wp2_with fail
  refine (want_ok 23 _).mono ?_
  rintro e w1 ⟨rfl, rfl⟩
  go_wp2_with fail
  refine (want_ok 1 _).mono ?_
  rintro e w1 ⟨rfl, rfl⟩
  go_wp2_with fail
  refine (want_not 7 _).mono ?_
  rintro e w1 ⟨rfl, rfl⟩
  go_wp2
  refine leaves_cons (f := 38) (args := #[.pointer (some ⟨w.heap.size + 1, 0, none⟩), .pointer (some ⟨w.heap.size, 0, none⟩)]) (by simp) (by simp [go_sem]) ?_
  refine Hcat.out.mono ?_
  rintro e u' w'' ⟨rfl, rfl, rfl⟩
  simp [Leaves, settle, results, Try.results19, go_sem, failR]
  exact out1_panic Hd.out

set_option maxHeartbeats 4000000 in
theorem Stop_ok {B g gs gb : Nat} {qv : Value} {D : Dsk} (after : Int) (w : World) (h : DiskIn B g gs gb qv D w) (ha : -1 ≤ after ∧ after ≤ 9223372036854775807) (hdd : D.dead = false) :
    Calls Try.prog 19 #[.pointer (some ⟨g, 0, none⟩), .int .i64 after] w (Out1 B g gs gb qv 0 (D.arm (decide (0 ≤ after)) (if 0 ≤ after then after else 0)) w) := by
  have hlt := h.lt
  have ho := ((row_new1 w w.heap.size (.int .i64 0) 23 rfl).alloc (.cells #[] 85)).alloc (.cells #[] 85)
  have x1 := ho.cell (i := 0) (by omega)
  have f1 := ho.frozen 0
  have Hd := Lib.hid h
  have hW := (h.all ((Below.refl _ w).alloc (Nat.le_refl _) (.cells #[.int .i64 0] 23))).all ((Below.refl _ _).alloc (Nat.le_refl _) (.cells #[] 85))
  obtain ⟨c0, c1, c2, c3, c4, c5⟩ := hW.cells
  have z4 := hW.row.frozen 4
  have z5 := hW.row.frozen 5
  have HW := Lib.hid hW
  clear hW x1 f1 ho h
  have Hro := Lib.hid ((row_new1 w w.heap.size (.int .i64 0) 23 rfl).alloc (.cells #[] 85))
  have Hgne := Lib.hid (show g ≠ w.heap.size from fun h9 => by have := Hd.out.row.lt; omega)
  have Hbw := Lib.hid (((Below.refl B w).alloc hlt (.cells #[.int .i64 0] 23)).alloc (by simp; omega) (.cells #[] 85))
  have HCw := Lib.hid (calm_below (((Below.refl _ w).alloc (Nat.le_refl _) (.cells #[.int .i64 0] 23)).alloc (by simp) (.cells #[] 85)))
  rw [hdd] at c3
  clear hdd
  have ha2 : decide (-1 ≤ after) = true := decide_eq_true ha.1
  have hdec : (0 ≤ after ∧ decide (0 ≤ after) = true) ∨ (after = -1 ∧ decide (0 ≤ after) = false) := by
    by_cases h0 : 0 ≤ after
    · exact .inl ⟨h0, decide_eq_true h0⟩
    · exact .inr ⟨by omega, decide_eq_false h0⟩
  rcases hdec with ⟨h0, hd0⟩ | ⟨h0, hd0⟩
  · rw [hd0, if_pos h0]
    have hE := (HW.out.arm true after ⟨h0, ha.2⟩)
    have hro := (Hro.out.setOther ⟨g, 4, none⟩ (.bool true) Hgne.out).setOther ⟨g, 5, none⟩ (.int .i64 after) Hgne.out
    have hbz := (Hbw.out.setCell (p := ⟨g, 4, none⟩) Hd.out.base.1 (.bool true)).setCell (p := ⟨g, 5, none⟩) Hd.out.base.1 (.int .i64 after)
    have HE := Lib.hid hE; clear hE
    have HR := Lib.hid hro; clear hro
    have HB := Lib.hid hbz; clear hbz
    have HC := Lib.hid (((HCw.out.setDisk (i := 4) HW.out.row rfl (.bool true)).setDisk (i := 5) (HW.out.row.set 4 (.bool true)) rfl (.int .i64 after)).setNew (g := w.heap.size) (i := 0) (Nat.le_refl _) (.int .i64 0))
    go_enter_defers Try.func19, Try.ntmps19
    go_wp2_with fail
    refine (want_ok 23 _).mono ?_
    rintro e w1 ⟨rfl, rfl⟩
    go_wp2_with fail
    refine (want_ok 1 _).mono ?_
    rintro e w1 ⟨rfl, rfl⟩
    go_wp2_with fail
    refine (want_ok 7 _).mono ?_
    rintro e w1 ⟨rfl, rfl⟩
    go_upto_region 6 with fail
    clear c0 c1 c2 c3 c4 c5 z4 z5 HW Hro
    generalize ((((w.alloc (.cells #[.int .i64 0] 23)).alloc (.cells #[] 85)).setCell ⟨g, 4, none⟩ (.bool true)).setCell ⟨g, 5, none⟩ (.int .i64 after)) = W3 at *
    have x1 := HR.out.cell (i := 0) (by omega)
    have f1 := HR.out.frozen 0
    have y1 := Lib.hid ((HR.out.set1 (.int .i64 0)).cell (i := 0) (by omega))
    go_wp2
    refine leaves_cons (f := 38) (args := #[.pointer (some ⟨w.heap.size + 1, 0, none⟩), .pointer (some ⟨w.heap.size, 0, none⟩)]) (by simp) (by simp [go_sem]) ?_
    refine (catch_idle_n _ _ _).mono ?_
    rintro e u' w'' ⟨rfl, rfl, rfl⟩
    simp [Leaves, settle, results, Try.results19, go_sem, y1.out]
    exact ⟨rfl, HE.out.other HR.out 0 _, HB.out.setCell (p := ⟨w.heap.size, 0, none⟩) hlt _, HC.out⟩
  · rw [hd0, if_neg (by omega)]
    subst h0
    have hE := (HW.out.arm false 0 ⟨by decide, by decide⟩)
    have hro := (Hro.out.setOther ⟨g, 4, none⟩ (.bool false) Hgne.out).setOther ⟨g, 5, none⟩ (.int .i64 0) Hgne.out
    have hbz := (Hbw.out.setCell (p := ⟨g, 4, none⟩) Hd.out.base.1 (.bool false)).setCell (p := ⟨g, 5, none⟩) Hd.out.base.1 (.int .i64 0)
    have HE := Lib.hid hE; clear hE
    have HR := Lib.hid hro; clear hro
    have HB := Lib.hid hbz; clear hbz
    have HC := Lib.hid (((HCw.out.setDisk (i := 4) HW.out.row rfl (.bool false)).setDisk (i := 5) (HW.out.row.set 4 (.bool false)) rfl (.int .i64 0)).setNew (g := w.heap.size) (i := 0) (Nat.le_refl _) (.int .i64 0))
    go_enter_defers Try.func19, Try.ntmps19
    go_wp2_with fail
    refine (want_ok 23 _).mono ?_
    rintro e w1 ⟨rfl, rfl⟩
    go_wp2_with fail
    refine (want_ok 1 _).mono ?_
    rintro e w1 ⟨rfl, rfl⟩
    go_wp2_with fail
    refine (want_ok 7 _).mono ?_
    rintro e w1 ⟨rfl, rfl⟩
    go_upto_region 6 with fail
    clear c0 c1 c2 c3 c4 c5 z4 z5 HW Hro
    generalize ((((w.alloc (.cells #[.int .i64 0] 23)).alloc (.cells #[] 85)).setCell ⟨g, 4, none⟩ (.bool false)).setCell ⟨g, 5, none⟩ (.int .i64 0)) = W3 at *
    have x1 := HR.out.cell (i := 0) (by omega)
    have f1 := HR.out.frozen 0
    have y1 := Lib.hid ((HR.out.set1 (.int .i64 0)).cell (i := 0) (by omega))
    go_wp2
    refine leaves_cons (f := 38) (args := #[.pointer (some ⟨w.heap.size + 1, 0, none⟩), .pointer (some ⟨w.heap.size, 0, none⟩)]) (by simp) (by simp [go_sem]) ?_
    refine (catch_idle_n _ _ _).mono ?_
    rintro e u' w'' ⟨rfl, rfl, rfl⟩
    simp [Leaves, settle, results, Try.results19, go_sem, y1.out]
    exact ⟨rfl, HE.out.other HR.out 0 _, HB.out.setCell (p := ⟨w.heap.size, 0, none⟩) hlt _, HC.out⟩

end Go.Proofs.Ytjhcaedfknhilaa
