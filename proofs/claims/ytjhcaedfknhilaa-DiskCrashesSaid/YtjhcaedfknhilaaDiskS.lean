/- Disk: Sync. -/
import Derived.Test.YtjhcaedfknhilaaDiskP
namespace Go.Proofs.Ytjhcaedfknhilaa
open Go.RowKit
attribute [local go_sem ↓] Go.wp_at_zero Go.wp_at_succ

set_option maxHeartbeats 4000000 in
theorem Sync_off {B g gs gb : Nat} {qv : Value} {D : Dsk} (w : World) (h : DiskIn B g gs gb qv D w) (hoff : D.off = true) :
    Calls Try.prog 22 #[.pointer (some ⟨g, 0, none⟩)] w (Out1 B g gs gb qv 7 D w) := by
  have ho := ((row_new1 w w.heap.size (.int .i64 0) 23 rfl).alloc (.cells #[] 85)).alloc (.cells #[] 85)
  have x1 := ho.cell (i := 0) (by omega)
  have f1 := ho.frozen 0
  have Hcat := Lib.hid (catch_fail_n ⟨w.heap.size + 1, 0, none⟩ ⟨w.heap.size, 0, none⟩ 7 _ _ x1 f1)
  have Hd := Lib.hid h
  have HW := Lib.hid ((h.all ((Below.refl _ w).alloc (Nat.le_refl _) (.cells #[.int .i64 0] 23))).all ((Below.refl _ _).alloc (Nat.le_refl _) (.cells #[] 85)))
  have Hoff := Lib.hid hoff
  clear x1 f1 ho h hoff
  go_enter_defers Try.func22, Try.ntmps22
  go_wp2_with fail
  refine (want_ok 23 _).mono ?_
  rintro e w1 ⟨rfl, rfl⟩
  go_wp2_with fail
  refine (ready_not _ HW.out Hoff.out).mono ?_
  rintro e w1 ⟨rfl, rfl⟩
  go_wp2
  refine leaves_cons (f := 38) (args := #[.pointer (some ⟨w.heap.size + 1, 0, none⟩), .pointer (some ⟨w.heap.size, 0, none⟩)]) (by simp) (by simp [go_sem]) ?_
  refine Hcat.out.mono ?_
  rintro e u' w'' ⟨rfl, rfl, rfl⟩
  simp [Leaves, settle, results, Try.results22, go_sem, failR]
  exact out1_panic Hd.out

/-- Sync done. -/
def Dsk.sync (D : Dsk) : Dsk := (D.performs D.qa D.qb D.q).flushed.used
def OutQ (B g gs gb : Nat) (c : Int) (D' : Dsk) (w : World) (e : Ending) (w' : World) : Prop := ∃ qv', Out1 B g gs gb qv' c D' w e w'

set_option maxHeartbeats 4000000 in
theorem Sync_ok {B g gs gb : Nat} {qv : Value} {D : Dsk} (w : World) (h : DiskIn B g gs gb qv D w) (hoff : D.off = false) :
    Calls Try.prog 22 #[.pointer (some ⟨g, 0, none⟩)] w (OutQ B g gs gb 0 D.sync w) := by
  have hlt := h.lt
  have hok := h.ok
  have Hlen := Lib.hid (show D.armed = true → 1 ≤ D.left from fun ha => by
    have := hok.left
    unfold Dsk.off at hoff
    rw [ha] at hoff
    rcases Int.lt_or_le D.left 1 with h1 | h1
    · have : D.left = 0 := by omega
      rw [this] at hoff
      simp at hoff
    · exact h1)
  obtain ⟨x, cap, hqs⟩ := h.que.slice
  subst hqs
  have Hro := Lib.hid ((row_new1 w w.heap.size (.int .i64 0) 23 rfl).alloc (.cells #[] 85))
  have Hbw := Lib.hid (((Below.refl B w).alloc hlt (.cells #[.int .i64 0] 23)).alloc (by simp; omega) (.cells #[] 85))
  have hW := (h.all ((Below.refl _ w).alloc (Nat.le_refl _) (.cells #[.int .i64 0] 23))).all ((Below.refl _ _).alloc (Nat.le_refl _) (.cells #[] 85))
  obtain ⟨c0, c1, c2, c3, c4, c5⟩ := hW.cells
  have Hcw := Lib.hid (calm_below (((Below.refl _ w).alloc (Nat.le_refl _) (.cells #[.int .i64 0] 23)).alloc (by simp) (.cells #[] 85)))
  have HW := Lib.hid hW
  have Hs2 := Lib.hid (show ((w.alloc (.cells #[.int .i64 0] 23)).alloc (.cells #[] 85)).heap.size = w.heap.size + 2 by simp)
  have Hoff := Lib.hid hoff
  have Hok := Lib.hid hok
  clear hW h hoff hok
  go_enter_defers Try.func22, Try.ntmps22
  go_wp2_with fail
  refine (want_ok 23 _).mono ?_
  rintro e w1 ⟨rfl, rfl⟩
  go_wp2_with fail
  refine (ready_ok _ HW.out Hoff.out).mono ?_
  rintro e w1 ⟨rfl, rfl⟩
  generalize (w.alloc (.cells #[.int .i64 0] 23)).alloc (.cells #[] 85) = W at *
  go_wp2_with fail
  refine (Values_any W).mono ?_
  rintro e w3 ⟨rfl, rfl⟩
  go_wp2_with fail
  have hv0 := row_new1 W W.heap.size (.slice x D.q cap) 74 rfl
  have hD3 := HW.out.all ((Below.refl _ W).alloc (Nat.le_refl _) (.cells #[.slice x D.q cap] 74))
  have hB3 : Below B w (W.alloc (.cells #[.slice x D.q cap] 74)) := Hbw.out.alloc (by have := Hs2.out; omega) _
  have hro3 := Hro.out.alloc (.cells #[.slice x D.q cap] 74)
  have hCV := Hcw.out.alloc (.cells #[.slice x D.q cap] 74)
  have hWl : W.heap.size = w.heap.size + 2 := Hs2.out
  clear c0 c1 c2 c3 c4 c5 Hbw Hro HW Hs2 Hcw
  generalize hV : W.alloc (.cells #[.slice x D.q cap] 74) = V at *
  have hvl : V.heap.size = w.heap.size + 3 := by rw [← hV]; simp; omega
  clear hV
  have HCV := Lib.hid hCV; clear hCV
  have Hv := Lib.hid hv0
  have HD3 := Lib.hid hD3
  have HB3 := Lib.hid hB3
  have Hro3 := Lib.hid hro3
  have Hvl := Lib.hid hvl
  have Hwl := Lib.hid hWl
  clear hv0 hD3 hB3 hro3 hvl hWl
  refine (flush_any V HD3.out 61 #[.pointer (some ⟨W.heap.size, 0, none⟩)] D.qa D.qb D.q (QueRd B W.heap.size (.slice x D.q cap) D.q D.qa D.qb) (fun _ _ => rfl)
    (fun N => values1_iter N B W.heap.size (.slice x D.q cap) D.q Hok.out.queue D.qa D.qb) Hok.out.put Hok.out.pbyte (fun U D' hd h1 h2 h3 ho => ?_)).mono ?_
  · refine ⟨(Hv.out.only2 ho (Hv.out.neType HD3.out.sec (by decide)) (Hv.out.neType HD3.out.bad (by decide))).cell (i := 0) (by omega), ?_⟩
    have hq := hd.que
    rw [h1, h2, h3] at hq
    exact hq
  rintro e w4 ⟨rfl, hD4, hB4, hO4⟩
  have hro4 := Hro3.out.only3 hO4 (Hro3.out.neType HD3.out.row (by decide)) (Hro3.out.neType HD3.out.sec (by decide)) (Hro3.out.neType HD3.out.bad (by decide))
  have Hro4 := Lib.hid hro4
  have HD4 := Lib.hid hD4
  have HB4 := Lib.hid (HB3.out.trans hB4)
  have HC4 := Lib.hid (HCV.out.trans (calm_only3 HD3.out hO4))
  clear hro4 hD4 hB4 hO4
  go_wp2_with fail
  have hul : (D.performs D.qa D.qb D.q).flushed.armed = true → 1 ≤ (D.performs D.qa D.qb D.q).flushed.left := by
    obtain ⟨-, -, -, -, -, p1, p2⟩ := D.performs_same D.qa D.qb D.q
    show (D.performs D.qa D.qb D.q).armed = true → 1 ≤ (D.performs D.qa D.qb D.q).left
    rw [p1, p2]
    exact Hlen.out
  have Hul := Lib.hid hul; clear hul
  refine (done_any w4 HD4.out Hul.out).mono ?_
  rintro e w5 ⟨rfl, hD5, hB5, hO5⟩
  have hro5 := Hro4.out.only3 hO5 (Hro4.out.neType HD4.out.row (by decide)) (Hro4.out.neType HD4.out.sec (by decide)) (Hro4.out.neType HD4.out.bad (by decide))
  have hro0 := hro5.set1 (.int .i64 0)
  have HD5 := Lib.hid (hD5.other hro5 0 (.int .i64 0))
  have HB5 := Lib.hid ((HB4.out.trans hB5).setCell (p := ⟨w.heap.size, 0, none⟩) hlt (.int .i64 0))
  have HC5 := Lib.hid ((HC4.out.trans (calm_only3 HD4.out hO5)).setNew (g := w.heap.size) (i := 0) (Nat.le_refl _) (.int .i64 0))
  have e0 := hro5.cell (i := 0) (by omega)
  have f0 := hro5.frozen 0
  have y1 := Lib.hid (hro0.cell (i := 0) (by omega))
  clear hro5 hro0 hD5 hB5 hO5 Hro3 Hro4 HD3 HD4 HB3 HB4
  go_wp2
  refine leaves_cons (f := 38) (args := #[.pointer (some ⟨w.heap.size + 1, 0, none⟩), .pointer (some ⟨w.heap.size, 0, none⟩)]) (by simp) (by simp [go_sem]) ?_
  refine (catch_idle_n _ _ _).mono ?_
  rintro e u' w'' ⟨rfl, rfl, rfl⟩
  simp [Leaves, settle, results, Try.results22, go_sem, y1.out]
  exact ⟨_, rfl, HD5.out, HB5.out, HC5.out⟩

end Go.Proofs.Ytjhcaedfknhilaa
