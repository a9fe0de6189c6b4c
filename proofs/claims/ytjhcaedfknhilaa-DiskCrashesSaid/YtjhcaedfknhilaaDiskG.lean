/- Disk: Spoil, done. -/
import Derived.Test.YtjhcaedfknhilaaDiskF
namespace Go.Proofs.Ytjhcaedfknhilaa
open Go.RowKit
attribute [local go_sem ↓] Go.wp_at_zero Go.wp_at_succ

def Dsk.spoil (D : Dsk) (j : Nat) : Dsk := { D with bad := fun i => decide (i = j) || D.bad i }
theorem DiskIn.spoil {B g gs gb : Nat} {qv : Value} {D : Dsk} {W : World} (h : DiskIn B g gs gb qv D W) (j : Nat) : DiskIn B g gs gb qv (D.spoil j) (W.setCell ⟨gb, j, none⟩ (.bool true)) := by
  obtain ⟨n1, n2, n3⟩ := h.ne
  have ho := h.ok
  refine ⟨h.row.setOther _ _ (Ne.symm n2), h.sec.setOther _ _ (Ne.symm n3), (h.bad.set j (.bool true)).congr fun i _ => ?_, h.que.other h.bad (by decide) j _, h.base, ⟨ho.size, ho.byte, ho.queue, ho.put, ho.pbyte, ho.left⟩⟩
  unfold badV Dsk.spoil
  dsimp only
  by_cases hij : i = j
  · rw [if_pos hij, decide_eq_true hij, Bool.true_or]
  · rw [if_neg hij, decide_eq_false hij, Bool.false_or]

set_option maxHeartbeats 4000000 in
theorem Spoil_ok {B g gs gb : Nat} {qv : Value} {D : Dsk} (j : Nat) (w : World) (h : DiskIn B g gs gb qv D w) (ha : j < D.n) :
    Calls Try.prog 36 #[.pointer (some ⟨g, 0, none⟩), .int .i64 j] w (Out1 B g gs gb qv 0 (D.spoil j) w) := by
  have hlt := h.lt
  have hsz := h.ok.size
  have Hro := Lib.hid ((row_new1 w w.heap.size (.int .i64 0) 23 rfl).alloc (.cells #[] 85))
  have Hbw := Lib.hid (((Below.refl B w).alloc hlt (.cells #[.int .i64 0] 23)).alloc (by simp; omega) (.cells #[] 85))
  have hW := (h.all ((Below.refl _ w).alloc (Nat.le_refl _) (.cells #[.int .i64 0] 23))).all ((Below.refl _ _).alloc (Nat.le_refl _) (.cells #[] 85))
  obtain ⟨c0, c1, c2, c3, c4, c5⟩ := hW.cells
  have e3 := hW.bad.cell (i := j) (by omega)
  have z3 := hW.bad.frozen j
  have Hgne := Lib.hid (show gb ≠ w.heap.size from fun h9 => by have := h.bad.lt; omega)
  have HE := Lib.hid (hW.spoil j)
  have HR := Lib.hid (Hro.out.setOther ⟨gb, j, none⟩ (.bool true) Hgne.out)
  have HB := Lib.hid (Hbw.out.setCell (p := ⟨gb, j, none⟩) h.base.2.2 (.bool true))
  have HC := Lib.hid (((calm_below (((Below.refl _ w).alloc (Nat.le_refl _) (.cells #[.int .i64 0] 23)).alloc (by simp) (.cells #[] 85))).setDisk (i := j) hW.bad rfl (.bool true)).setNew (g := w.heap.size) (i := 0) (Nat.le_refl _) (.int .i64 0))
  unfold badV at e3
  clear hW h Hro Hbw
  have hd1 : decide ((j : Int) < D.n) = true := decide_eq_true (by omega)
  go_enter_defers Try.func36, Try.ntmps36
  go_wp2_with fail
  refine (want_ok 23 _).mono ?_
  rintro e w1 ⟨rfl, rfl⟩
  go_wp2_with fail
  refine (want_ok 1 _).mono ?_
  rintro e w1 ⟨rfl, rfl⟩
  go_upto_region 5 with fail
  clear c0 c1 c2 c3 c4 c5 e3 z3
  generalize (((w.alloc (.cells #[.int .i64 0] 23)).alloc (.cells #[] 85)).setCell ⟨gb, j, none⟩ (.bool true)) = W3 at *
  have x1 := HR.out.cell (i := 0) (by omega)
  have f1 := HR.out.frozen 0
  have y1 := Lib.hid ((HR.out.set1 (.int .i64 0)).cell (i := 0) (by omega))
  go_wp2
  refine leaves_cons (f := 38) (args := #[.pointer (some ⟨w.heap.size + 1, 0, none⟩), .pointer (some ⟨w.heap.size, 0, none⟩)]) (by simp) (by simp [go_sem]) ?_
  refine (catch_idle_n _ _ _).mono ?_
  rintro e u' w'' ⟨rfl, rfl, rfl⟩
  simp [Leaves, settle, results, Try.results36, go_sem, y1.out]
  exact ⟨rfl, HE.out.other HR.out 0 _, HB.out.setCell (p := ⟨w.heap.size, 0, none⟩) hlt _, HC.out⟩

/-- A call that succeeded. -/
def Dsk.used (D : Dsk) : Dsk := { D with left := if D.armed then D.left - 1 else D.left }

/-- All that was there stands, but for three blocks. -/
def Only3 (a b c : Nat) (w w' : World) : Prop := w.heap.size ≤ w'.heap.size ∧ ∀ k, k < w.heap.size → k ≠ a → k ≠ b → k ≠ c → w'.heap[k]? = w.heap[k]?
theorem Only3.refl (a b c : Nat) (w : World) : Only3 a b c w w := ⟨Nat.le_refl _, fun _ _ _ _ _ => rfl⟩
theorem Only3.setA {a b c : Nat} {w w1 : World} (h : Only3 a b c w w1) (i : Nat) (v : Value) : Only3 a b c w (w1.setCell ⟨a, i, none⟩ v) :=
  ⟨by simp; exact h.1, fun k hk h1 h2 h3 => (Below.heap_setCell w1 ⟨a, i, none⟩ v k h1).trans (h.2 k hk h1 h2 h3)⟩
theorem Only3.trans {a b c : Nat} {w w1 w2 : World} (h : Only3 a b c w w1) (h' : Only3 a b c w1 w2) : Only3 a b c w w2 :=
  ⟨Nat.le_trans h.1 h'.1, fun k hk h1 h2 h3 => (h'.2 k (Nat.lt_of_lt_of_le hk h.1) h1 h2 h3).trans (h.2 k hk h1 h2 h3)⟩
theorem only3_below {a b c : Nat} {w w' : World} (h : Below w.heap.size w w') : Only3 a b c w w' := ⟨h.size, fun k hk _ _ _ => h.block k hk⟩

theorem calm_only3 {B g gs gb : Nat} {qv : Value} {D : Dsk} {w w' : World} (h : DiskIn B g gs gb qv D w) (ho : Only3 g gs gb w w') : Calm w w' := by
  refine ⟨ho.1, fun b o hb hn => (ho.2 b (Array.getElem?_eq_some_iff.1 hb).1 ?_ ?_ ?_).trans hb⟩
  · rintro rfl; obtain ⟨cur, hg, _⟩ := h.row; rw [hg] at hb; cases hb; cases hn
  · rintro rfl; obtain ⟨cur, hg, _⟩ := h.sec; rw [hg] at hb; cases hb; cases hn
  · rintro rfl; obtain ⟨cur, hg, _⟩ := h.bad; rw [hg] at hb; cases hb; cases hn

set_option maxHeartbeats 4000000 in
theorem done_any {B g gs gb : Nat} {qv : Value} {D : Dsk} (w : World) (h : DiskIn B g gs gb qv D w) (hl : D.armed = true → 1 ≤ D.left) :
    Calls Try.prog 40 #[.pointer (some ⟨g, 0, none⟩)] w fun e w' => e = .returned (.tuple #[]) ∧ DiskIn B g gs gb qv D.used w' ∧ Below B w w' ∧ Only3 g gs gb w w' := by
  obtain ⟨c0, c1, c2, c3, c4, c5⟩ := h.cells
  have z5 := h.row.frozen 5
  have hb := h.base
  have hlf := h.ok.left
  rcases h1 : D.armed with _ | _
  · have hu : D.used = D := by unfold Dsk.used; rw [if_neg (by rw [h1]; simp)]
    rw [hu]
    rw [h1] at c4
    have Hd := Lib.hid h
    clear h hu h1 hl
    go_enter Try.func40, Try.ntmps40
    go_wp2
    go_end0
    exact ⟨rfl, Hd.out, Below.refl _ _, Only3.refl _ _ _ _⟩
  · have hl1 := hl h1
    have ho := h.ok
    have hE : DiskIn B g gs gb qv D.used (w.setCell ⟨g, 5, none⟩ (.int .i64 (D.left - 1))) := by
      refine h.put 5 (.int .i64 (D.left - 1)) (fun j hj => ?_) rfl rfl rfl rfl rfl rfl rfl rfl ⟨ho.size, ho.byte, ho.queue, ho.put, ho.pbyte, by unfold Dsk.used; rw [h1]; show 0 ≤ D.left - 1 ∧ D.left - 1 ≤ 9223372036854775807; omega⟩
      have hu : D.used.left = D.left - 1 := by unfold Dsk.used; rw [h1]; rfl
      obtain rfl | rfl | rfl | rfl | rfl | rfl : j = 0 ∨ j = 1 ∨ j = 2 ∨ j = 3 ∨ j = 4 ∨ j = 5 := by omega
      all_goals first | rfl | (show Value.int .i64 (D.left - 1) = .int .i64 D.used.left; rw [hu])
    have HE := Lib.hid (And.intro hE (And.intro ((Below.refl B w).setCell (p := ⟨g, 5, none⟩) hb.1 (.int .i64 (D.left - 1))) ((Only3.refl g gs gb w).setA 5 (.int .i64 (D.left - 1)))))
    rw [h1] at c4
    clear h hl h1 hE ho
    go_enter Try.func40, Try.ntmps40
    go_wp2
    go_end0
    exact ⟨rfl, HE.out⟩

end Go.Proofs.Ytjhcaedfknhilaa
