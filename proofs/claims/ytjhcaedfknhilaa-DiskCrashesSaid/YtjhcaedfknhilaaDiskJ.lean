/- Disk: die. -/
import Derived.Test.YtjhcaedfknhilaaDiskI
namespace Go.Proofs.Ytjhcaedfknhilaa
open Go.RowKit
attribute [local go_sem ↓] Go.wp_at_zero Go.wp_at_succ

def Dsk.die (D : Dsk) : Dsk := { D with q := 0, dead := true, armed := false, left := 0 }
theorem DiskIn.die {B g gs gb : Nat} {qv : Value} {D : Dsk} {W : World} (h : DiskIn B g gs gb qv D W) :
    DiskIn B g gs gb (.slice none 0 0) D.die ((((W.setCell ⟨g, 2, none⟩ (.slice none 0 0)).setCell ⟨g, 3, none⟩ (.bool true)).setCell ⟨g, 4, none⟩ (.bool false)).setCell ⟨g, 5, none⟩ (.int .i64 0)) := by
  obtain ⟨n1, n2, n3⟩ := h.ne
  have ho := h.ok
  refine ⟨((((h.row.set 2 (.slice none 0 0)).set 3 (.bool true)).set 4 (.bool false)).set 5 (.int .i64 0)).congr fun j hj => ?_, (((h.sec.setOther _ _ n1).setOther _ _ n1).setOther _ _ n1).setOther _ _ n1, (((h.bad.setOther _ _ n2).setOther _ _ n2).setOther _ _ n2).setOther _ _ n2, .inl ⟨rfl, rfl⟩, h.base,
    ⟨ho.size, ho.byte, Nat.zero_le _, fun i hi => absurd hi (Nat.not_lt_zero i), ho.pbyte, ⟨Int.le_refl 0, show (0 : Int) ≤ 9223372036854775807 by decide⟩⟩⟩
  obtain rfl | rfl | rfl | rfl | rfl | rfl : j = 0 ∨ j = 1 ∨ j = 2 ∨ j = 3 ∨ j = 4 ∨ j = 5 := by omega
  all_goals rfl

set_option maxHeartbeats 1000000 in
theorem die_any {B g gs gb : Nat} {qv : Value} {D : Dsk} (w : World) (h : DiskIn B g gs gb qv D w) :
    Calls Try.prog 70 #[.pointer (some ⟨g, 0, none⟩)] w fun e w' => e = .returned (.tuple #[]) ∧ DiskIn B g gs gb (.slice none 0 0) D.die w' ∧ Below B w w' ∧ Calm w w' := by
  obtain ⟨c0, c1, c2, c3, c4, c5⟩ := h.cells
  have z2 := h.row.frozen 2
  have z3 := h.row.frozen 3
  have z4 := h.row.frozen 4
  have z5 := h.row.frozen 5
  have Hfin := Lib.hid (And.intro h.die (And.intro (((((Below.refl B w).setCell (p := ⟨g, 2, none⟩) h.base.1 (.slice none 0 0)).setCell (p := ⟨g, 3, none⟩) h.base.1 (.bool true)).setCell (p := ⟨g, 4, none⟩) h.base.1 (.bool false)).setCell (p := ⟨g, 5, none⟩) h.base.1 (.int .i64 0)) (((((Calm.refl w).setDisk (i := 2) h.row rfl (.slice none 0 0)).setDisk (i := 3) (h.row.set 2 (.slice none 0 0)) rfl (.bool true)).setDisk (i := 4) ((h.row.set 2 (.slice none 0 0)).set 3 (.bool true)) rfl (.bool false)).setDisk (i := 5) (((h.row.set 2 (.slice none 0 0)).set 3 (.bool true)).set 4 (.bool false)) rfl (.int .i64 0))))
  clear h
  go_enter Try.func70, Try.ntmps70
  go_wp2
  go_end0
  exact ⟨rfl, Hfin.out⟩

set_option maxHeartbeats 2000000 in
theorem replace_any {B g gs gb : Nat} {qv : Value} {D : Dsk} (w : World) (h : DiskIn B g gs gb qv D w) :
    Calls Try.prog 71 #[.pointer (some ⟨g, 0, none⟩)] w fun e w' => e = .returned (.tuple #[]) ∧ ∃ gs2 gb2, DiskIn B g gs2 gb2 (.slice none 0 0) (Dsk.zero D.n) w' ∧ Below B w w' ∧ Calm w w' := by
  obtain ⟨c0, c1, c2, c3, c4, c5⟩ := h.cells
  have hsz := h.ok.size
  have hlt := h.lt
  have Hd := Lib.hid h
  go_enter Try.func71, Try.ntmps71
  go_wp2_with fail
  refine (blank_any D.n hsz.2 w).mono ?_
  rintro e w2 ⟨gs2, gb2, rfl, h1, h2, h3, h4, h5, hb⟩
  have hr := h.row.all hb
  have n1 : g ≠ gs2 := hr.neType h4 (by decide)
  have n2 : g ≠ gb2 := hr.neType h5 (by decide)
  have x0 := hr.cell (i := 0) (by omega)
  have x1 := hr.cell (i := 1) (by omega)
  have x2 := hr.cell (i := 2) (by omega)
  have x3 := hr.cell (i := 3) (by omega)
  have x4 := hr.cell (i := 4) (by omega)
  have x5 := hr.cell (i := 5) (by omega)
  have z0 := hr.frozen 0
  have z1 := hr.frozen 1
  have z2 := hr.frozen 2
  have z3 := hr.frozen 3
  have z4 := hr.frozen 4
  have z5 := hr.frozen 5
  have hrow : RowAt ((((((w2.setCell ⟨g, 0, none⟩ (.slice (some ⟨gs2, 0, none⟩) D.n D.n)).setCell ⟨g, 1, none⟩ (.slice (some ⟨gb2, 0, none⟩) D.n D.n)).setCell ⟨g, 2, none⟩ (.slice none 0 0)).setCell ⟨g, 3, none⟩ (.bool false)).setCell ⟨g, 4, none⟩ (.bool false)).setCell ⟨g, 5, none⟩ (.int .i64 0)) g 76 6 6 (st6 (.slice (some ⟨gs2, 0, none⟩) D.n D.n) (.slice (some ⟨gb2, 0, none⟩) D.n D.n) (.slice none 0 0) (.bool false) (.bool false) (.int .i64 0)) := ((((((hr.set 0 (.slice (some ⟨gs2, 0, none⟩) D.n D.n)).set 1 (.slice (some ⟨gb2, 0, none⟩) D.n D.n)).set 2 (.slice none 0 0)).set 3 (.bool false)).set 4 (.bool false)).set 5 (.int .i64 0)).congr fun j hj => by
    obtain rfl | rfl | rfl | rfl | rfl | rfl : j = 0 ∨ j = 1 ∨ j = 2 ∨ j = 3 ∨ j = 4 ∨ j = 5 := by omega
    all_goals rfl
  have hcalm := ((((((calm_below hb).setDisk (i := 0) hr rfl (.slice (some ⟨gs2, 0, none⟩) D.n D.n)).setDisk (i := 1) (hr.set 0 (.slice (some ⟨gs2, 0, none⟩) D.n D.n)) rfl (.slice (some ⟨gb2, 0, none⟩) D.n D.n)).setDisk (i := 2) ((hr.set 0 (.slice (some ⟨gs2, 0, none⟩) D.n D.n)).set 1 (.slice (some ⟨gb2, 0, none⟩) D.n D.n)) rfl (.slice none 0 0)).setDisk (i := 3) (((hr.set 0 (.slice (some ⟨gs2, 0, none⟩) D.n D.n)).set 1 (.slice (some ⟨gb2, 0, none⟩) D.n D.n)).set 2 (.slice none 0 0)) rfl (.bool false)).setDisk (i := 4) ((((hr.set 0 (.slice (some ⟨gs2, 0, none⟩) D.n D.n)).set 1 (.slice (some ⟨gb2, 0, none⟩) D.n D.n)).set 2 (.slice none 0 0)).set 3 (.bool false)) rfl (.bool false)).setDisk (i := 5) (((((hr.set 0 (.slice (some ⟨gs2, 0, none⟩) D.n D.n)).set 1 (.slice (some ⟨gb2, 0, none⟩) D.n D.n)).set 2 (.slice none 0 0)).set 3 (.bool false)).set 4 (.bool false)) rfl (.int .i64 0)
  have Hcalm := Lib.hid hcalm
  clear hcalm
  have Hfin := Lib.hid (And.intro (DiskIn.mk (B := B) (D := Dsk.zero D.n) hrow ((((((h4.setOther ⟨g, 0, none⟩ (.slice (some ⟨gs2, 0, none⟩) D.n D.n) n1).setOther ⟨g, 1, none⟩ (.slice (some ⟨gb2, 0, none⟩) D.n D.n) n1).setOther ⟨g, 2, none⟩ (.slice none 0 0) n1).setOther ⟨g, 3, none⟩ (.bool false) n1).setOther ⟨g, 4, none⟩ (.bool false) n1).setOther ⟨g, 5, none⟩ (.int .i64 0) n1) ((((((h5.setOther ⟨g, 0, none⟩ (.slice (some ⟨gs2, 0, none⟩) D.n D.n) n2).setOther ⟨g, 1, none⟩ (.slice (some ⟨gb2, 0, none⟩) D.n D.n) n2).setOther ⟨g, 2, none⟩ (.slice none 0 0) n2).setOther ⟨g, 3, none⟩ (.bool false) n2).setOther ⟨g, 4, none⟩ (.bool false) n2).setOther ⟨g, 5, none⟩ (.int .i64 0) n2) (.inl ⟨rfl, rfl⟩) ⟨h.base.1, by omega, by omega⟩ (Dsk.zero_ok hsz)) (((((((hb.mono hlt).setCell (p := ⟨g, 0, none⟩) h.base.1 (.slice (some ⟨gs2, 0, none⟩) D.n D.n)).setCell (p := ⟨g, 1, none⟩) h.base.1 (.slice (some ⟨gb2, 0, none⟩) D.n D.n)).setCell (p := ⟨g, 2, none⟩) h.base.1 (.slice none 0 0)).setCell (p := ⟨g, 3, none⟩) h.base.1 (.bool false)).setCell (p := ⟨g, 4, none⟩) h.base.1 (.bool false)).setCell (p := ⟨g, 5, none⟩) h.base.1 (.int .i64 0)))
  clear hr hrow h h4 h5 n1 n2 hb Hd c0 c1 c2 c3 c4 c5
  unfold medV
  go_wp2
  go_end0
  exact ⟨rfl, _, _, Hfin.out.1, Hfin.out.2, Hcalm.out⟩

end Go.Proofs.Ytjhcaedfknhilaa
