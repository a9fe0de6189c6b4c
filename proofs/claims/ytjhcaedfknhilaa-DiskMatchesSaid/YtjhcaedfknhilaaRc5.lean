/- Disk: die. Disk: event, Die, Replace. Disk: errors of Read. Disk: State and Copy of no disk. Disk: iterators over the queue. -/
import Derived.MapFrom
import Derived.Deep.WholeRow
import Derived.Test.YtjhcaedfknhilaaRc4
namespace Go.Proofs.Ytjhcaedfknhilaa
set_option linter.unusedVariables false
set_option linter.unusedSimpArgs false
open Go.RowKit
attribute [local go_sem ↓] Go.wp_at_zero Go.wp_at_succ

def Dsk.die (D : Dsk) : Dsk := { D with q := 0, dead := true, armed := false, left := 0 }
theorem DiskIn.die {B g gs gb : Nat} {qv : Value} {D : Dsk} {W : World} (h : DiskIn B g gs gb qv D W) :
    DiskIn B g gs gb (.slice none 0 0) D.die ((((W.setCell ⟨g, 2, none⟩ (.slice none 0 0)).setCell ⟨g, 3, none⟩ (.bool true)).setCell ⟨g, 4, none⟩ (.bool false)).setCell ⟨g, 5, none⟩ (.int .i64 0)) := by
  obtain ⟨n1, n2, n3⟩ := h.ne
  have ho := h.ok
  refine ⟨((((h.row.set 2 (.slice none 0 0)).set 3 (.bool true)).set 4 (.bool false)).set 5 (.int .i64 0)).congr fun j hj => ?_, (((h.sec.setOther _ _ n1).setOther _ _ n1).setOther _ _ n1).setOther _ _ n1, (((h.bad.setOther _ _ n2).setOther _ _ n2).setOther _ _ n2).setOther _ _ n2, .inl ⟨rfl, rfl⟩, h.base,
    ⟨ho.size, ho.byte, Nat.zero_le _, fun i hi => absurd hi (Nat.not_lt_zero i), ho.pbyte, ⟨Int.le_refl 0, show (0 : Int) ≤ 9223372036854775807 by decide⟩⟩⟩
  obtain rfl | rfl | rfl | rfl | rfl | rfl : j = 0 ∨ j = 1 ∨ j = 2 ∨ j = 3 ∨ j = 4 ∨ j = 5 := by omega
  all_goals rfl

set_option maxHeartbeats 1000000 in
theorem die_any {B g gs gb : Nat} {qv : Value} {D : Dsk} (w : World) (h : DiskIn B g gs gb qv D w) :
    Calls Try.prog 70 #[.pointer (some ⟨g, 0, none⟩)] w fun e w' => e = .returned (.tuple #[]) ∧ DiskIn B g gs gb (.slice none 0 0) D.die w' ∧ Below B w w' ∧ Calm w w' := by
  obtain ⟨c0, c1, c2, c3, c4, c5⟩ := h.cells
  have z2 := h.row.frozen 2
  have z3 := h.row.frozen 3
  have z4 := h.row.frozen 4
  have z5 := h.row.frozen 5
  have Hfin := Lib.hid (And.intro h.die (And.intro (((((Below.refl B w).setCell (p := ⟨g, 2, none⟩) h.base.1 (.slice none 0 0)).setCell (p := ⟨g, 3, none⟩) h.base.1 (.bool true)).setCell (p := ⟨g, 4, none⟩) h.base.1 (.bool false)).setCell (p := ⟨g, 5, none⟩) h.base.1 (.int .i64 0)) (((((Calm.refl w).setDisk (i := 2) h.row rfl (.slice none 0 0)).setDisk (i := 3) (h.row.set 2 (.slice none 0 0)) rfl (.bool true)).setDisk (i := 4) ((h.row.set 2 (.slice none 0 0)).set 3 (.bool true)) rfl (.bool false)).setDisk (i := 5) (((h.row.set 2 (.slice none 0 0)).set 3 (.bool true)).set 4 (.bool false)) rfl (.int .i64 0))))
  clear h
  go_enter Try.func70, Try.ntmps70
  go_wp2
  go_end0
  exact ⟨rfl, Hfin.out⟩

set_option maxHeartbeats 2000000 in
theorem replace_any {B g gs gb : Nat} {qv : Value} {D : Dsk} (w : World) (h : DiskIn B g gs gb qv D w) :
    Calls Try.prog 71 #[.pointer (some ⟨g, 0, none⟩)] w fun e w' => e = .returned (.tuple #[]) ∧ ∃ gs2 gb2, DiskIn B g gs2 gb2 (.slice none 0 0) (Dsk.zero D.n) w' ∧ Below B w w' ∧ Calm w w' := by
  obtain ⟨c0, c1, c2, c3, c4, c5⟩ := h.cells
  have hsz := h.ok.size
  have hlt := h.lt
  have Hd := Lib.hid h
  go_enter Try.func71, Try.ntmps71
  go_wp2_with fail
  refine (blank_any D.n hsz.2 w).mono ?_
  rintro e w2 ⟨gs2, gb2, rfl, h1, h2, h3, h4, h5, hb⟩
  have hr := h.row.all hb
  have n1 : g ≠ gs2 := hr.neType h4 (by decide)
  have n2 : g ≠ gb2 := hr.neType h5 (by decide)
  have x0 := hr.cell (i := 0) (by omega)
  have x1 := hr.cell (i := 1) (by omega)
  have x2 := hr.cell (i := 2) (by omega)
  have x3 := hr.cell (i := 3) (by omega)
  have x4 := hr.cell (i := 4) (by omega)
  have x5 := hr.cell (i := 5) (by omega)
  have z0 := hr.frozen 0
  have z1 := hr.frozen 1
  have z2 := hr.frozen 2
  have z3 := hr.frozen 3
  have z4 := hr.frozen 4
  have z5 := hr.frozen 5
  have hrow : RowAt ((((((w2.setCell ⟨g, 0, none⟩ (.slice (some ⟨gs2, 0, none⟩) D.n D.n)).setCell ⟨g, 1, none⟩ (.slice (some ⟨gb2, 0, none⟩) D.n D.n)).setCell ⟨g, 2, none⟩ (.slice none 0 0)).setCell ⟨g, 3, none⟩ (.bool false)).setCell ⟨g, 4, none⟩ (.bool false)).setCell ⟨g, 5, none⟩ (.int .i64 0)) g 76 6 6 (st6 (.slice (some ⟨gs2, 0, none⟩) D.n D.n) (.slice (some ⟨gb2, 0, none⟩) D.n D.n) (.slice none 0 0) (.bool false) (.bool false) (.int .i64 0)) := ((((((hr.set 0 (.slice (some ⟨gs2, 0, none⟩) D.n D.n)).set 1 (.slice (some ⟨gb2, 0, none⟩) D.n D.n)).set 2 (.slice none 0 0)).set 3 (.bool false)).set 4 (.bool false)).set 5 (.int .i64 0)).congr fun j hj => by
    obtain rfl | rfl | rfl | rfl | rfl | rfl : j = 0 ∨ j = 1 ∨ j = 2 ∨ j = 3 ∨ j = 4 ∨ j = 5 := by omega
    all_goals rfl
  have hcalm := ((((((calm_below hb).setDisk (i := 0) hr rfl (.slice (some ⟨gs2, 0, none⟩) D.n D.n)).setDisk (i := 1) (hr.set 0 (.slice (some ⟨gs2, 0, none⟩) D.n D.n)) rfl (.slice (some ⟨gb2, 0, none⟩) D.n D.n)).setDisk (i := 2) ((hr.set 0 (.slice (some ⟨gs2, 0, none⟩) D.n D.n)).set 1 (.slice (some ⟨gb2, 0, none⟩) D.n D.n)) rfl (.slice none 0 0)).setDisk (i := 3) (((hr.set 0 (.slice (some ⟨gs2, 0, none⟩) D.n D.n)).set 1 (.slice (some ⟨gb2, 0, none⟩) D.n D.n)).set 2 (.slice none 0 0)) rfl (.bool false)).setDisk (i := 4) ((((hr.set 0 (.slice (some ⟨gs2, 0, none⟩) D.n D.n)).set 1 (.slice (some ⟨gb2, 0, none⟩) D.n D.n)).set 2 (.slice none 0 0)).set 3 (.bool false)) rfl (.bool false)).setDisk (i := 5) (((((hr.set 0 (.slice (some ⟨gs2, 0, none⟩) D.n D.n)).set 1 (.slice (some ⟨gb2, 0, none⟩) D.n D.n)).set 2 (.slice none 0 0)).set 3 (.bool false)).set 4 (.bool false)) rfl (.int .i64 0)
  have Hcalm := Lib.hid hcalm
  clear hcalm
  have Hfin := Lib.hid (And.intro (DiskIn.mk (B := B) (D := Dsk.zero D.n) hrow ((((((h4.setOther ⟨g, 0, none⟩ (.slice (some ⟨gs2, 0, none⟩) D.n D.n) n1).setOther ⟨g, 1, none⟩ (.slice (some ⟨gb2, 0, none⟩) D.n D.n) n1).setOther ⟨g, 2, none⟩ (.slice none 0 0) n1).setOther ⟨g, 3, none⟩ (.bool false) n1).setOther ⟨g, 4, none⟩ (.bool false) n1).setOther ⟨g, 5, none⟩ (.int .i64 0) n1) ((((((h5.setOther ⟨g, 0, none⟩ (.slice (some ⟨gs2, 0, none⟩) D.n D.n) n2).setOther ⟨g, 1, none⟩ (.slice (some ⟨gb2, 0, none⟩) D.n D.n) n2).setOther ⟨g, 2, none⟩ (.slice none 0 0) n2).setOther ⟨g, 3, none⟩ (.bool false) n2).setOther ⟨g, 4, none⟩ (.bool false) n2).setOther ⟨g, 5, none⟩ (.int .i64 0) n2) (.inl ⟨rfl, rfl⟩) ⟨h.base.1, by omega, by omega⟩ (Dsk.zero_ok hsz)) (((((((hb.mono hlt).setCell (p := ⟨g, 0, none⟩) h.base.1 (.slice (some ⟨gs2, 0, none⟩) D.n D.n)).setCell (p := ⟨g, 1, none⟩) h.base.1 (.slice (some ⟨gb2, 0, none⟩) D.n D.n)).setCell (p := ⟨g, 2, none⟩) h.base.1 (.slice none 0 0)).setCell (p := ⟨g, 3, none⟩) h.base.1 (.bool false)).setCell (p := ⟨g, 4, none⟩) h.base.1 (.bool false)).setCell (p := ⟨g, 5, none⟩) h.base.1 (.int .i64 0)))
  clear hr hrow h h4 h5 n1 n2 hb Hd c0 c1 c2 c3 c4 c5
  unfold medV
  go_wp2
  go_end0
  exact ⟨rfl, _, _, Hfin.out.1, Hfin.out.2, Hcalm.out⟩

end Go.Proofs.Ytjhcaedfknhilaa

namespace Go.Proofs.Ytjhcaedfknhilaa
set_option linter.unusedVariables false
set_option linter.unusedSimpArgs false
open Go.RowKit
attribute [local go_sem ↓] Go.wp_at_zero Go.wp_at_succ
attribute [local go_sem] Oper.semAt_some

theorem insert_str {P : Program} {t kt et : TypeId} (ht : P.underlying t = some (.map kt et)) (hk : P.underlying kt = some .string) (w : World) (es : Array MapEntry) (c : Nat) (k : ByteArray) (v : Value)
    (hes : Instr.findNow .string (.string k) es.toList 0 = some none) :
    (Instr.mapUpdate t (.map (some w.heap.size)) (.string k) v).run P (w.alloc (.map es c)) = .ok () (w.alloc (.map (es.push { key := .string k, val := v, born := c }) (c + 1))) := by
  have hb : (w.alloc (.map es c)).heap[w.heap.size]? = some (.map es c) := by
    show (w.heap.push (.map es c))[w.heap.size]? = _
    simp
  have hkey : MapKept.IsKey .string (.string k) := by simp [MapKept.IsKey]
  simp [Instr.mapUpdate, run_underlying ht, MapKept.run_getObj_map hb, MapKept.run_checkKey hk hkey, MapKept.run_findKey hk hes, MapKept.run_setObj_map _ hb, Result.andThen]
  show ({ w with heap := (w.heap.push (.map es c)).setIfInBounds w.heap.size _ } : World) = { w with heap := w.heap.push _ }
  congr 1
  apply Array.ext'
  simp

def sDie : ByteArray := { data := #[100, 105, 101] }
def sRep : ByteArray := { data := #[114, 101, 112, 108, 97, 99, 101] }
def fE (k : ByteArray) (f : Nat) (p : Value) (c : Nat) : MapEntry := { key := .string k, val := .func (.func f) #[p] #[], born := c }
def eventObj (p : Value) : Obj := .map #[fE sDie 70 p 0, fE sRep 71 p 1] 2

theorem look_die (p : Value) {w : World} {b : Nat} (hb : w.heap[b]? = some (eventObj p)) :
    (Instr.lookup 117 (.map (some b)) (.string sDie) false).run Try.prog w = .ok (.func (.func 70) #[p] #[]) w := by
  have hkey : MapKept.IsKey .string (.string sDie) := by simp [MapKept.IsKey]
  have ht : Try.prog.underlying 117 = some (.map 9 1) := by kernel_rfl
  have hk : Try.prog.underlying 9 = some .string := by kernel_rfl
  have hf := MapKept.run_findKey (P := Try.prog) (w := w) hk (k := .string sDie) (l := [fE sDie 70 p 0, fE sRep 71 p 1]) (a := some (0, .func (.func 70) #[p] #[])) (by kernel_rfl)
  have hb' : w.heap[b]? = some (.map #[fE sDie 70 p 0, fE sRep 71 p 1] 2) := hb
  simp [Instr.lookup, run_underlying ht, MapKept.run_getObj_map hb', MapKept.run_checkKey hk hkey, hf, Result.andThen]

theorem look_rep (p : Value) {w : World} {b : Nat} (hb : w.heap[b]? = some (eventObj p)) :
    (Instr.lookup 117 (.map (some b)) (.string sRep) false).run Try.prog w = .ok (.func (.func 71) #[p] #[]) w := by
  have hkey : MapKept.IsKey .string (.string sRep) := by simp [MapKept.IsKey]
  have ht : Try.prog.underlying 117 = some (.map 9 1) := by kernel_rfl
  have hk : Try.prog.underlying 9 = some .string := by kernel_rfl
  have hf := MapKept.run_findKey (P := Try.prog) (w := w) hk (k := .string sRep) (l := [fE sDie 70 p 0, fE sRep 71 p 1]) (a := some (1, .func (.func 71) #[p] #[])) (by kernel_rfl)
  have hb' : w.heap[b]? = some (.map #[fE sDie 70 p 0, fE sRep 71 p 1] 2) := hb
  simp [Instr.lookup, run_underlying ht, MapKept.run_getObj_map hb', MapKept.run_checkKey hk hkey, hf, Result.andThen]

set_option maxHeartbeats 2000000 in
theorem event_die {B g gs gb : Nat} {qv : Value} {D : Dsk} (w : World) (h : DiskIn B g gs gb qv D w) :
    Calls Try.prog 63 #[.pointer (some ⟨g, 0, none⟩), .string sDie] w fun e w' => e = .returned (.int .i64 0) ∧ DiskIn B g gs gb (.slice none 0 0) D.die w' ∧ Below B w w' ∧ Calm w w' := by
  have hmm := @run_makeMap Try.prog
  have h1 := insert_str (P := Try.prog) (t := 117) (kt := 9) (et := 1) (by kernel_rfl) (by kernel_rfl) w #[] 0 sDie (.func (.func 70) #[.pointer (some ⟨g, 0, none⟩)] #[]) rfl
  have h2 := insert_str (P := Try.prog) (t := 117) (kt := 9) (et := 1) (by kernel_rfl) (by kernel_rfl) w #[fE sDie 70 (.pointer (some ⟨g, 0, none⟩)) 0] 1 sRep (.func (.func 71) #[.pointer (some ⟨g, 0, none⟩)] #[]) (by kernel_rfl)
  have h3 := look_die (.pointer (some ⟨g, 0, none⟩)) (w := w.alloc (eventObj (.pointer (some ⟨g, 0, none⟩)))) (b := w.heap.size) (by unfold eventObj; exact heap_alloc_new w _)
  have HW := Lib.hid (And.intro (h.all ((Below.refl _ w).alloc (Nat.le_refl _) (eventObj (.pointer (some ⟨g, 0, none⟩))))) (And.intro ((Below.refl B w).alloc h.lt (eventObj (.pointer (some ⟨g, 0, none⟩)))) ((Calm.refl w).alloc (eventObj (.pointer (some ⟨g, 0, none⟩))))))
  clear h
  have hmf : ∀ (fn : Fn) (first cap : Array Value) (w : World), (Instr.makeFunc fn first cap).run Try.prog w = .ok (.func fn first cap) w := fun _ _ _ _ => rfl
  simp only [fE, List.push_toArray, List.nil_append, List.cons_append] at h1 h2
  unfold eventObj at h3 HW
  simp only [fE] at h3 HW
  unfold sDie at h1 h2 h3 HW ⊢
  unfold sRep at h2 h3 HW
  go_enter Try.func63, Try.ntmps63
  go_wp2_with fail
  generalize w.alloc (.map #[{ key := .string { data := #[100, 105, 101] }, val := .func (.func 70) #[.pointer (some ⟨g, 0, none⟩)] #[], born := 0 }, { key := .string { data := #[114, 101, 112, 108, 97, 99, 101] }, val := .func (.func 71) #[.pointer (some ⟨g, 0, none⟩)] #[], born := 1 }] 2) = W at *
  refine (die_any W HW.out.1).mono ?_
  rintro e w2 ⟨rfl, hD, hB, hC⟩
  have Hfin := Lib.hid (And.intro hD (And.intro (HW.out.2.1.trans hB) (HW.out.2.2.trans hC)))
  clear hD hB hC h1 h2 h3
  go_wp2
  go_ret
  exact ⟨rfl, Hfin.out⟩

set_option maxHeartbeats 2000000 in
theorem event_rep {B g gs gb : Nat} {qv : Value} {D : Dsk} (w : World) (h : DiskIn B g gs gb qv D w) :
    Calls Try.prog 63 #[.pointer (some ⟨g, 0, none⟩), .string sRep] w fun e w' => e = .returned (.int .i64 0) ∧ ∃ gs2 gb2, DiskIn B g gs2 gb2 (.slice none 0 0) (Dsk.zero D.n) w' ∧ Below B w w' ∧ Calm w w' := by
  have hmm := @run_makeMap Try.prog
  have h1 := insert_str (P := Try.prog) (t := 117) (kt := 9) (et := 1) (by kernel_rfl) (by kernel_rfl) w #[] 0 sDie (.func (.func 70) #[.pointer (some ⟨g, 0, none⟩)] #[]) rfl
  have h2 := insert_str (P := Try.prog) (t := 117) (kt := 9) (et := 1) (by kernel_rfl) (by kernel_rfl) w #[fE sDie 70 (.pointer (some ⟨g, 0, none⟩)) 0] 1 sRep (.func (.func 71) #[.pointer (some ⟨g, 0, none⟩)] #[]) (by kernel_rfl)
  have h3 := look_rep (.pointer (some ⟨g, 0, none⟩)) (w := w.alloc (eventObj (.pointer (some ⟨g, 0, none⟩)))) (b := w.heap.size) (by unfold eventObj; exact heap_alloc_new w _)
  have HW := Lib.hid (And.intro (h.all ((Below.refl _ w).alloc (Nat.le_refl _) (eventObj (.pointer (some ⟨g, 0, none⟩))))) (And.intro ((Below.refl B w).alloc h.lt (eventObj (.pointer (some ⟨g, 0, none⟩)))) ((Calm.refl w).alloc (eventObj (.pointer (some ⟨g, 0, none⟩))))))
  clear h
  have hmf : ∀ (fn : Fn) (first cap : Array Value) (w : World), (Instr.makeFunc fn first cap).run Try.prog w = .ok (.func fn first cap) w := fun _ _ _ _ => rfl
  simp only [fE, List.push_toArray, List.nil_append, List.cons_append] at h1 h2
  unfold eventObj at h3 HW
  simp only [fE] at h3 HW
  unfold sDie at h1 h2 h3 HW
  unfold sRep at h2 h3 HW ⊢
  go_enter Try.func63, Try.ntmps63
  go_wp2_with fail
  generalize w.alloc (.map #[{ key := .string { data := #[100, 105, 101] }, val := .func (.func 70) #[.pointer (some ⟨g, 0, none⟩)] #[], born := 0 }, { key := .string { data := #[114, 101, 112, 108, 97, 99, 101] }, val := .func (.func 71) #[.pointer (some ⟨g, 0, none⟩)] #[], born := 1 }] 2) = W at *
  refine (replace_any W HW.out.1).mono ?_
  rintro e w2 ⟨rfl, gs2, gb2, hD, hB, hC⟩
  have Hfin := Lib.hid (And.intro hD (And.intro (HW.out.2.1.trans hB) (HW.out.2.2.trans hC)))
  clear hD hB hC h1 h2 h3
  go_wp2
  go_ret
  exact ⟨rfl, _, _, Hfin.out⟩

theorem event_nil (s : ByteArray) (w : World) : Calls Try.prog 63 #[.pointer none, .string s] w fun e w' => e = .returned (.int .i64 23) ∧ w = w' := by
  go_enter Try.func63, Try.ntmps63
  go_wp2
  go_ret
  exact ⟨rfl, rfl⟩

theorem Die_any {B g gs gb : Nat} {qv : Value} {D : Dsk} (w : World) (h : DiskIn B g gs gb qv D w) :
    Calls Try.prog 46 #[.pointer (some ⟨g, 0, none⟩)] w fun e w' => e = .returned (.int .i64 0) ∧ DiskIn B g gs gb (.slice none 0 0) D.die w' ∧ Below B w w' ∧ Calm w w' := by
  have Hz := Lib.hid (event_die w h)
  clear h
  unfold sDie at Hz
  go_enter Try.func46, Try.ntmps46
  go_wp2_with fail
  refine Hz.out.mono ?_
  rintro e w2 ⟨rfl, hx⟩
  have Hx := Lib.hid hx; clear hx
  go_wp2
  go_ret
  exact ⟨rfl, Hx.out⟩
theorem Die_nil (w : World) : Calls Try.prog 46 #[.pointer none] w fun e w' => e = .returned (.int .i64 23) ∧ w = w' := by
  go_enter Try.func46, Try.ntmps46
  go_wp2_with fail
  refine (event_nil _ w).mono ?_
  rintro e w2 ⟨rfl, rfl⟩
  go_wp2
  go_ret
  exact ⟨rfl, rfl⟩

theorem Replace_any {B g gs gb : Nat} {qv : Value} {D : Dsk} (w : World) (h : DiskIn B g gs gb qv D w) :
    Calls Try.prog 47 #[.pointer (some ⟨g, 0, none⟩)] w fun e w' => e = .returned (.int .i64 0) ∧ ∃ gs2 gb2, DiskIn B g gs2 gb2 (.slice none 0 0) (Dsk.zero D.n) w' ∧ Below B w w' ∧ Calm w w' := by
  have Hz := Lib.hid (event_rep w h)
  clear h
  unfold sRep at Hz
  go_enter Try.func47, Try.ntmps47
  go_wp2_with fail
  refine Hz.out.mono ?_
  rintro e w2 ⟨rfl, hx⟩
  have Hx := Lib.hid hx; clear hx
  go_wp2
  go_ret
  exact ⟨rfl, Hx.out⟩
theorem Replace_nil (w : World) : Calls Try.prog 47 #[.pointer none] w fun e w' => e = .returned (.int .i64 23) ∧ w = w' := by
  go_enter Try.func47, Try.ntmps47
  go_wp2_with fail
  refine (event_nil _ w).mono ?_
  rintro e w2 ⟨rfl, rfl⟩
  go_wp2
  go_ret
  exact ⟨rfl, rfl⟩

end Go.Proofs.Ytjhcaedfknhilaa

namespace Go.Proofs.Ytjhcaedfknhilaa
set_option linter.unusedVariables false
set_option linter.unusedSimpArgs false
open Go.RowKit
attribute [local go_sem ↓] Go.wp_at_zero Go.wp_at_succ

set_option maxHeartbeats 2000000 in
theorem Read_nil (a m : Int) (w : World) : Calls Try.prog 20 #[.pointer none, .int .i64 a, .int .i64 m] w fun e w' => e = .returned (.tuple #[.slice none 0 0, .int .i64 23]) ∧ Below w.heap.size w w' := by
  have ho1 := (row_new1 w w.heap.size (.slice none 0 0) 27 rfl).alloc (.cells #[.int .i64 0] 23)
  have ho2 := row_new1 (w.alloc (.cells #[.slice none 0 0] 27)) (w.heap.size + 1) (.int .i64 0) 23 (by simp)
  have x0 := ho1.cell (i := 0) (by omega)
  have f0 := ho1.frozen 0
  have x1 := (ho2.setOther ⟨w.heap.size, 0, none⟩ (.slice none 0 0) (by simp)).cell (i := 0) (by omega)
  have f1 := (ho2.setOther ⟨w.heap.size, 0, none⟩ (.slice none 0 0) (by simp)).frozen 0
  have Hcat := Lib.hid (catch_fail_b ⟨w.heap.size, 0, none⟩ ⟨w.heap.size + 1, 0, none⟩ 23 _ _ _ x0 f0 x1 f1)
  have y1 := Lib.hid (((ho2.setOther ⟨w.heap.size, 0, none⟩ (.slice none 0 0) (by simp)).set1 (.int .i64 23)).cell (i := 0) (by omega))
  clear x0 f0 x1 f1 ho1 ho2
  go_enter_defers Try.func20, Try.ntmps20
  go_wp2_with fail
  refine (want_not 23 _).mono ?_
  rintro e w1 ⟨rfl, rfl⟩
  go_wp2
  refine leaves_cons (f := 41) (args := #[.pointer (some ⟨w.heap.size, 0, none⟩), .pointer (some ⟨w.heap.size + 1, 0, none⟩)]) (by simp) (by simp [go_sem]) ?_
  refine Hcat.out.mono ?_
  rintro e u' w'' ⟨rfl, rfl, rfl⟩
  simp [Leaves, settle, results, Try.results20, go_sem, y1.out, failR]
  exact ((Below.refl _ w).alloc (Nat.le_refl _) _).alloc (by simp) _

/-- What Read leaves that fails. -/
def Read2 (B g gs gb : Nat) (qv : Value) (c : Int) (D : Dsk) (w : World) (e : Ending) (w' : World) : Prop := e = .returned (.tuple #[.slice none 0 0, .int .i64 c]) ∧ DiskIn B g gs gb qv D w' ∧ Below w.heap.size w w'
theorem read2_of {B g gs gb : Nat} {qv : Value} {c : Int} {D : Dsk} {w : World} (h : DiskIn B g gs gb qv D w) :
    Read2 B g gs gb qv c D w (.returned (.tuple #[.slice none 0 0, .int .i64 c])) ((w.alloc (.cells #[.slice none 0 0] 27)).alloc (.cells #[.int .i64 c] 23)) := by
  have hb : Below w.heap.size w ((w.alloc (.cells #[.slice none 0 0] 27)).alloc (.cells #[.int .i64 c] 23)) := ((Below.refl _ w).alloc (Nat.le_refl _) _).alloc (by simp) _
  exact ⟨rfl, h.all hb, hb⟩

set_option maxHeartbeats 4000000 in
theorem Read_arg {B g gs gb : Nat} {qv : Value} {D : Dsk} (a m : Int) (w : World) (h : DiskIn B g gs gb qv D w) (ha : ¬ (0 ≤ a ∧ 0 ≤ m ∧ a ≤ D.n ∧ m ≤ D.n - a)) :
    Calls Try.prog 20 #[.pointer (some ⟨g, 0, none⟩), .int .i64 a, .int .i64 m] w (Read2 B g gs gb qv 1 D w) := by
  have ho1 := (row_new1 w w.heap.size (.slice none 0 0) 27 rfl).alloc (.cells #[.int .i64 0] 23)
  have ho2 := row_new1 (w.alloc (.cells #[.slice none 0 0] 27)) (w.heap.size + 1) (.int .i64 0) 23 (by simp)
  have x0 := ho1.cell (i := 0) (by omega)
  have f0 := ho1.frozen 0
  have x1 := (ho2.setOther ⟨w.heap.size, 0, none⟩ (.slice none 0 0) (by simp)).cell (i := 0) (by omega)
  have f1 := (ho2.setOther ⟨w.heap.size, 0, none⟩ (.slice none 0 0) (by simp)).frozen 0
  have Hcat := Lib.hid (catch_fail_b ⟨w.heap.size, 0, none⟩ ⟨w.heap.size + 1, 0, none⟩ 1 _ _ _ x0 f0 x1 f1)
  have y1 := Lib.hid (((ho2.setOther ⟨w.heap.size, 0, none⟩ (.slice none 0 0) (by simp)).set1 (.int .i64 1)).cell (i := 0) (by omega))
  clear x0 f0 x1 f1 ho1 ho2
  obtain ⟨c0, c1, c2, c3, c4, c5⟩ := ((h.all ((Below.refl _ w).alloc (Nat.le_refl _) (.cells #[.slice none 0 0] 27))).all ((Below.refl _ _).alloc (Nat.le_refl _) (.cells #[.int .i64 0] 23))).cells
  have Hd := Lib.hid h
  have hsz := h.ok.size
  clear h
  have hdec : (decide (0 ≤ a) = false) ∨ (0 ≤ a ∧ decide (0 ≤ m) = false) ∨ (0 ≤ a ∧ 0 ≤ m ∧ decide (a ≤ D.n) = false) ∨ (0 ≤ a ∧ 0 ≤ m ∧ a ≤ D.n ∧ decide (m ≤ D.n - a) = false) := by
    by_cases h1 : 0 ≤ a
    · by_cases h2 : 0 ≤ m
      · by_cases h3 : a ≤ D.n
        · exact .inr (.inr (.inr ⟨h1, h2, h3, decide_eq_false (fun h4 => ha ⟨h1, h2, h3, h4⟩)⟩))
        · exact .inr (.inr (.inl ⟨h1, h2, decide_eq_false h3⟩))
      · exact .inr (.inl ⟨h1, decide_eq_false h2⟩)
    · exact .inl (decide_eq_false h1)
  clear ha
  go_enter_defers Try.func20, Try.ntmps20
  rcases hdec with h1 | ⟨h1, h2⟩ | ⟨h1, h2, h3⟩ | ⟨h1, h2, h3, h4⟩
  all_goals
    go_wp2_with fail
    refine (want_ok 23 _).mono ?_
    rintro e w1 ⟨rfl, rfl⟩
    go_wp2_with fail
    refine (want_not 1 _).mono ?_
    rintro e w1 ⟨rfl, rfl⟩
    go_wp2
    refine leaves_cons (f := 41) (args := #[.pointer (some ⟨w.heap.size, 0, none⟩), .pointer (some ⟨w.heap.size + 1, 0, none⟩)]) (by simp) (by simp [go_sem]) ?_
    refine Hcat.out.mono ?_
    rintro e u' w'' ⟨rfl, rfl, rfl⟩
    simp [Leaves, settle, results, Try.results20, go_sem, y1.out, failR]
    exact read2_of Hd.out

set_option maxHeartbeats 4000000 in
theorem Read_off {B g gs gb : Nat} {qv : Value} {D : Dsk} (a m : Int) (w : World) (h : DiskIn B g gs gb qv D w) (ha : 0 ≤ a ∧ 0 ≤ m ∧ a ≤ D.n ∧ m ≤ D.n - a) (hoff : D.off = true) :
    Calls Try.prog 20 #[.pointer (some ⟨g, 0, none⟩), .int .i64 a, .int .i64 m] w (Read2 B g gs gb qv 7 D w) := by
  have ho1 := (row_new1 w w.heap.size (.slice none 0 0) 27 rfl).alloc (.cells #[.int .i64 0] 23)
  have ho2 := row_new1 (w.alloc (.cells #[.slice none 0 0] 27)) (w.heap.size + 1) (.int .i64 0) 23 (by simp)
  have x0 := ho1.cell (i := 0) (by omega)
  have f0 := ho1.frozen 0
  have x1 := (ho2.setOther ⟨w.heap.size, 0, none⟩ (.slice none 0 0) (by simp)).cell (i := 0) (by omega)
  have f1 := (ho2.setOther ⟨w.heap.size, 0, none⟩ (.slice none 0 0) (by simp)).frozen 0
  have Hcat := Lib.hid (catch_fail_b ⟨w.heap.size, 0, none⟩ ⟨w.heap.size + 1, 0, none⟩ 7 _ _ _ x0 f0 x1 f1)
  have y1 := Lib.hid (((ho2.setOther ⟨w.heap.size, 0, none⟩ (.slice none 0 0) (by simp)).set1 (.int .i64 7)).cell (i := 0) (by omega))
  clear x0 f0 x1 f1 ho1 ho2
  obtain ⟨c0, c1, c2, c3, c4, c5⟩ := ((h.all ((Below.refl _ w).alloc (Nat.le_refl _) (.cells #[.slice none 0 0] 27))).all ((Below.refl _ _).alloc (Nat.le_refl _) (.cells #[.int .i64 0] 23))).cells
  have Hd := Lib.hid h
  have HW := Lib.hid ((h.all ((Below.refl _ w).alloc (Nat.le_refl _) (.cells #[.slice none 0 0] 27))).all ((Below.refl _ _).alloc (Nat.le_refl _) (.cells #[.int .i64 0] 23)))
  have hsz := h.ok.size
  have Hoff := Lib.hid hoff
  clear h hoff
  obtain ⟨h1, h2, h3, h4⟩ := ha
  have d3 : decide (a ≤ D.n) = true := decide_eq_true h3
  have d4 : decide (m ≤ D.n - a) = true := decide_eq_true h4
  go_enter_defers Try.func20, Try.ntmps20
  go_wp2_with fail
  refine (want_ok 23 _).mono ?_
  rintro e w1 ⟨rfl, rfl⟩
  go_wp2_with fail
  refine (want_ok 1 _).mono ?_
  rintro e w1 ⟨rfl, rfl⟩
  go_wp2_with fail
  refine (ready_not _ HW.out Hoff.out).mono ?_
  rintro e w1 ⟨rfl, rfl⟩
  go_wp2
  refine leaves_cons (f := 41) (args := #[.pointer (some ⟨w.heap.size, 0, none⟩), .pointer (some ⟨w.heap.size + 1, 0, none⟩)]) (by simp) (by simp [go_sem]) ?_
  refine Hcat.out.mono ?_
  rintro e u' w'' ⟨rfl, rfl, rfl⟩
  simp [Leaves, settle, results, Try.results20, go_sem, y1.out, failR]
  exact read2_of Hd.out

end Go.Proofs.Ytjhcaedfknhilaa

namespace Go.Proofs.Ytjhcaedfknhilaa
set_option linter.unusedVariables false
set_option linter.unusedSimpArgs false
open Go.RowKit
attribute [local go_sem ↓] Go.wp_at_zero Go.wp_at_succ

theorem Copy_nil (w : World) : Calls Try.prog 25 #[.pointer none] w fun e w' => e = .returned (.pointer none) ∧ w = w' := by
  go_enter Try.func25, Try.ntmps25
  go_wp2
  go_ret
  exact ⟨rfl, rfl⟩

/-- The device of no disk. -/
def devZ : Value := .agg #[.slice none 0 0, .slice none 0 0, .slice none 0 0, .bool false, .bool false, .int .i64 0]
set_option maxHeartbeats 2000000 in
theorem State_nil (w : World) : Calls Try.prog 11 #[.pointer none] w fun e w' => e = .returned (.tuple #[devZ, .int .i64 23]) ∧ Below w.heap.size w w' := by
  have hr := row_six w (.slice none 0 0) (.slice none 0 0) (.slice none 0 0) (.bool false) (.bool false) (.int .i64 0) 31
  have x0 := hr.cell (i := 0) (by omega)
  have x1 := hr.cell (i := 1) (by omega)
  have x2 := hr.cell (i := 2) (by omega)
  have x3 := hr.cell (i := 3) (by omega)
  have x4 := hr.cell (i := 4) (by omega)
  have x5 := hr.cell (i := 5) (by omega)
  clear hr
  go_enter Try.func11, Try.ntmps11
  go_wp2
  exact bodyPost_ret (v := .tuple #[devZ, .int .i64 23]) (by simp [results, Try.results11, go_sem, x0, x1, x2, x3, x4, x5, devZ, st6]) rfl ⟨rfl, (Below.refl _ w).alloc (Nat.le_refl _) _⟩

end Go.Proofs.Ytjhcaedfknhilaa

namespace Go.Proofs.Ytjhcaedfknhilaa
set_option linter.unusedVariables false
set_option linter.unusedSimpArgs false
open Go.RowKit
attribute [local go_sem ↓] Go.wp_at_zero Go.wp_at_succ
attribute [local go_sem] Oper.semAt_some
attribute [-go_sem] loadCellsFrom storeCells

theorem Values_any {x : Option Addr} {n c : Nat} (w : World) :
    Calls Try.prog 44 #[.slice x n c] w fun e w' => e = .returned (.func (.func 61) #[] #[.pointer (some ⟨w.heap.size, 0, none⟩)]) ∧ w.alloc (.cells #[.slice x n c] 74) = w' := by
  have hmf : ∀ (fn : Fn) (first cap : Array Value) (w : World), (Instr.makeFunc fn first cap).run Try.prog w = .ok (.func fn first cap) w := fun _ _ _ _ => rfl
  go_enter Try.func44, Try.ntmps44
  go_wp2
  go_ret
  exact ⟨rfl, rfl⟩
theorem Backward_any {x : Option Addr} {n c : Nat} (w : World) :
    Calls Try.prog 59 #[.slice x n c] w fun e w' => e = .returned (.func (.func 69) #[] #[.pointer (some ⟨w.heap.size, 0, none⟩)]) ∧ w.alloc (.cells #[.slice x n c] 74) = w' := by
  have hmf : ∀ (fn : Fn) (first cap : Array Value) (w : World), (Instr.makeFunc fn first cap).run Try.prog w = .ok (.func fn first cap) w := fun _ _ _ _ => rfl
  go_enter Try.func59, Try.ntmps59
  go_wp2
  go_ret
  exact ⟨rfl, rfl⟩
theorem kept_any {g : Addr} {x : Option Addr} {n c : Nat} (w : World) :
    Calls Try.prog 45 #[.pointer (some g), .slice x n c] w fun e w' => e = .returned (.func (.func 62) #[] #[.pointer (some ⟨w.heap.size + 1, 0, none⟩), .pointer (some ⟨w.heap.size, 0, none⟩)]) ∧ (w.alloc (.cells #[.pointer (some g)] 22)).alloc (.cells #[.slice x n c] 29) = w' := by
  have hmf : ∀ (fn : Fn) (first cap : Array Value) (w : World), (Instr.makeFunc fn first cap).run Try.prog w = .ok (.func fn first cap) w := fun _ _ _ _ => rfl
  go_enter Try.func45, Try.ntmps45
  go_wp2
  go_ret
  exact ⟨rfl, rfl⟩

theorem storeCells_one (a : Addr) (v : Value) (i : Nat) : storeCells a [v] i = store (a.add i) v := by
  simp [storeCells]

/-- An element of the queue, whole. -/
theorem under_put : ∃ fs, Try.prog.underlying 81 = some (.struct fs) := ⟨_, Try.underlying81⟩
theorem size_put : (Try.prog.info? 81).map (·.size) = some 65 := by kernel_rfl
theorem load_put {W : World} {g : Nat} {e : TypeId} {c n : Nat} {A : Nat → Nat} {F : Nat → Nat → Int} (h : RowAt W g e c (n * 65) (putV A F)) {i : Nat} (hi : i < n) :
    (Instr.loadAt 81 (.pointer (some ⟨g, i * 65, none⟩))).run Try.prog W = .ok (putA (A i) (F i)) W := by
  obtain ⟨h1, h2⟩ := putV_range h hi
  obtain ⟨fs, hu⟩ := under_put
  refine run_loadAt_mid W g (i * 65) _ (Value.int .i64 (A i) :: secL (F i)) _ ?_ hu rfl (by rw [List.length_cons, secL_len]; exact size_put)
  intro j v hj
  cases j with
  | zero => cases hj; exact h1
  | succ j =>
    rw [List.getElem?_cons_succ] at hj
    rw [show i * 65 + (j + 1) = i * 65 + 1 + j from by omega]
    exact h2 j v hj

theorem loadVar_run {P : Program} {w : World} {t : TypeId} {b o : Nat} {v : Value} (h : (Instr.loadAt t (.pointer (some ⟨b, o, none⟩))).run P w = .ok v w) : (loadVar t ⟨b, o, none⟩).run P w = .ok v w := by
  simpa only [Instr.loadAt, Instr.sureAddr, Sem.run_bind, Sem.run_pure, Result.andThen_ok] using h
theorem loadC_put {W : World} {g : Nat} {e : TypeId} {c n : Nat} {A : Nat → Nat} {F : Nat → Nat → Int} (h : RowAt W g e c (n * 65) (putV A F)) {i : Nat} (hi : i < n) :
    (loadCellsFrom ⟨g, i * 65, none⟩ 0 65 #[]).run Try.prog W = .ok (Value.int .i64 (A i) :: secL (F i)).toArray W := by
  obtain ⟨h1, h2⟩ := putV_range h hi
  have := run_loadCells_list (P := Try.prog) W ⟨g, i * 65, none⟩ (Value.int .i64 (A i) :: secL (F i)) (fun j v hv => by
    rw [Addr.add_mid]
    cases j with
    | zero => cases hv; exact h1
    | succ j =>
      rw [List.getElem?_cons_succ] at hv
      rw [show i * 65 + (j + 1) = i * 65 + 1 + j from by omega]
      exact h2 j v hv)
  rw [List.length_cons, secL_len] at this
  exact this

theorem info_put : (Try.prog.info? 81).map (·.size) = some 65 := size_put
theorem one_put (a : Nat) (f : Nat → Int) : ((Value.int .i64 a :: secL f).toArray).all (·.oneCell') = true := all_oneCell_toArray fun v hv => by
  rcases List.mem_cons.1 hv with rfl | hv
  · rfl
  · obtain ⟨j, _, rfl⟩ := List.mem_map.1 hv
    rfl
theorem put_size (a : Nat) (f : Nat → Int) : ((Value.int .i64 a :: secL f).toArray).size = 65 := by rw [List.size_toArray, List.length_cons, secL_len]
/-- A put stored into a box that was made last; and out of it again. -/
theorem storeC_put (w : World) (z : Array Value) (hz : z.size = 65) (a : Nat) (f : Nat → Int) :
    (storeCells ⟨w.heap.size, 0, none⟩ (Value.int .i64 a :: secL f) 0).run Try.prog (w.alloc (.cells z 81)) = .ok () (w.alloc (.cells (Value.int .i64 a :: secL f).toArray 81)) := by
  have := run_storeCells_new (P := Try.prog) w 81 z (Value.int .i64 a :: secL f).toArray (by rw [put_size]; exact size_put) (by rw [put_size, hz]) (one_put a f)
  simpa using this
theorem newC_put (w : World) (a : Nat) (f : Nat → Int) :
    (loadCellsFrom ⟨w.heap.size, 0, none⟩ 0 65 #[]).run Try.prog (w.alloc (.cells (Value.int .i64 a :: secL f).toArray 81)) = .ok (Value.int .i64 a :: secL f).toArray (w.alloc (.cells (Value.int .i64 a :: secL f).toArray 81)) :=
  run_loadCellsFrom_new w _ _ 65 (put_size a f)
theorem zero_put : Try.zeroCells81.size = 65 := by kernel_rfl

/-- What an iterator over the queue reads. -/
def QueRd (B0 b : Nat) (qv : Value) (q : Nat) (a : Nat → Nat) (f : Nat → Nat → Int) (W : World) : Prop := W.cell? ⟨b, 0, none⟩ = some qv ∧ Puts W B0 qv q a f

set_option maxRecDepth 8000 in
set_option maxHeartbeats 4000000 in
theorem values1_iter (N B0 b : Nat) (qv : Value) (q : Nat) (hq : q ≤ 65536) (a : Nat → Nat) (f : Nat → Nat → Int) :
    IterN Fence.wide N Try.prog 61 #[.pointer (some ⟨b, 0, none⟩)] (fun k => #[putA (a k) (f k)]) q (QueRd B0 b qv q a f) := by
  intro l J Jx W hRd hst hstx hY h0
  refine callsIn_of_wp Try.func61 rfl trivial ?_ rfl
  simp only [Try.ntmps61, List.size_toArray, List.length_cons, List.length_nil, Nat.reduceAdd, Nat.reduceSub, Array.replicate_succ, Array.replicate_zero, List.push_toArray, List.append_toArray, List.nil_append, List.cons_append]
  have HY := Lib.hid hY; clear hY
  have HR := Lib.hid hRd; clear hRd
  have Hst := Lib.hid hst
  clear hst hstx
  obtain ⟨z0, zq⟩ := HR.out 0 W h0
  obtain ⟨x, cap, rfl⟩ := zq.slice
  clear zq
  gi_wp2
  clear z0
  gi_loopw [7] (fun t wr => ∃ i : Nat, i ≤ q ∧ t = .int .i64 i ∧ J i wr) (fun t _ => q - (intOf t).toNat)
  case atStart => exact ⟨0, by omega, rfl, h0⟩
  case round =>
    obtain ⟨i, hi, rfl, hJ⟩ := hrel
    have HJ := Lib.hid hJ
    obtain ⟨z0, zq⟩ := HR.out _ wr hJ
    clear hJ
    by_cases hlt : i < q
    · rcases zq with ⟨_, hq0⟩ | ⟨g, cap', hv, hB, hrow, hcap⟩
      · omega
      cases hv
      have hl := loadC_put hrow hlt
      have hs := fun w => storeC_put w _ zero_put (a i) (f i)
      have hn := fun w => newC_put w (a i) (f i)
      have hlen := secL_len (f i)
      have hJ2 : J i (wr.alloc (.cells (Value.int .i64 (a i) :: secL (f i)).toArray 81)) := Hst.out _ _ _ HJ.out (World.grownBy_alloc _ _ none)
      obtain ⟨fn, tmps, assign, body, hy, hR⟩ := HY.out _ _ hJ2 hlt
      unfold putA at hy
      generalize secL (f i) = cs at *
      clear hrow z0 hJ2
      have hdlt : decide ((i : Int) < q) = true := decide_eq_true (by omega)
      gi_wp2
      refine ⟨fun h => by simp [Fence.wide] at h, hR.mono ?_⟩
      clear hl hs hn hlen hy hR
      rintro e W3 (⟨rfl, hJ3⟩ | ⟨rfl, hJx3⟩)
      · gi_wp2
        go_roundw
        case rel => exact ⟨i + 1, by omega, by go_num, hJ3⟩
        case measure => simp [intOf]; omega
      · gi_wp2
        refine bodyPost_ret (results_none rfl _ _ _) rfl ?_
        exact ⟨⟨_, rfl⟩, .inr ⟨_, hlt, hJx3⟩⟩
    · obtain rfl : i = q := by omega
      clear z0 zq
      gi_wp2
      go_end0
      exact ⟨⟨_, rfl⟩, .inl HJ.out⟩

set_option maxRecDepth 8000 in
set_option maxHeartbeats 4000000 in
theorem backward1_iter (N B0 b : Nat) (qv : Value) (q : Nat) (hq : q ≤ 65536) (a : Nat → Nat) (f : Nat → Nat → Int) :
    IterN Fence.wide N Try.prog 69 #[.pointer (some ⟨b, 0, none⟩)] (fun k => #[.int .i64 ((q - 1 - k : Nat) : Int), putA (a (q - 1 - k)) (f (q - 1 - k))]) q (QueRd B0 b qv q a f) := by
  intro l J Jx W hRd hst hstx hY h0
  refine callsIn_of_wp Try.func69 rfl trivial ?_ rfl
  simp only [Try.ntmps69, List.size_toArray, List.length_cons, List.length_nil, Nat.reduceAdd, Nat.reduceSub, Array.replicate_succ, Array.replicate_zero, List.push_toArray, List.append_toArray, List.nil_append, List.cons_append]
  have HY := Lib.hid hY; clear hY
  have HR := Lib.hid hRd; clear hRd
  clear hst hstx
  obtain ⟨z0, zq⟩ := HR.out 0 W h0
  obtain ⟨x, cap, rfl⟩ := zq.slice
  clear zq
  gi_wp2
  clear z0
  gi_loopw [3] (fun t wr => ∃ i : Nat, i ≤ q ∧ t = .int .i64 ((q : Int) - 1 - i) ∧ J i wr) (fun t _ => (intOf t + 1).toNat)
  case atStart => exact ⟨0, by omega, by go_num, h0⟩
  case round =>
    obtain ⟨i, hi, rfl, hJ⟩ := hrel
    have HJ := Lib.hid hJ
    obtain ⟨z0, zq⟩ := HR.out _ wr hJ
    by_cases hlt : i < q
    · rcases zq with ⟨_, hq0⟩ | ⟨g, cap', hv, hB, hrow, hcap⟩
      · omega
      cases hv
      have hl := loadC_put hrow (show q - 1 - i < q by omega)
      have hlen := secL_len (f (q - 1 - i))
      obtain ⟨fn, tmps, assign, body, hy, hR⟩ := HY.out _ _ hJ hlt
      obtain ⟨j, hj⟩ : ∃ j : Nat, q - 1 - i = j := ⟨_, rfl⟩
      rw [hj] at hy hl hlen
      have hji : (q : Int) - 1 - i = j := by omega
      rw [hji]
      unfold putA at hy
      generalize secL (f j) = cs at *
      clear hrow hJ
      have hjq : j < q := by omega
      gi_wp2
      refine ⟨fun h => by simp [Fence.wide] at h, hR.mono ?_⟩
      clear hl hlen hy hR
      rintro e W3 (⟨rfl, hJ3⟩ | ⟨rfl, hJx3⟩)
      · gi_wp2
        go_roundw
        case rel => exact ⟨i + 1, by omega, by simp; omega, hJ3⟩
        case measure => simp [intOf]
      · gi_wp2
        refine bodyPost_ret (results_none rfl _ _ _) rfl ?_
        exact ⟨⟨_, rfl⟩, .inr ⟨_, hlt, hJx3⟩⟩
    · obtain rfl : i = q := by omega
      clear z0 zq
      have hge : decide (0 ≤ (i : Int) - 1 - i) = false := decide_eq_false (by omega)
      gi_wp2
      go_end0
      exact ⟨⟨_, rfl⟩, .inl HJ.out⟩

/-- What the iterator of what a crash keeps reads. -/
def KeptRd (B0 kb db g : Nat) (kv qv : Value) (n : Nat) (kk : Nat → Nat) (q : Nat) (a : Nat → Nat) (f : Nat → Nat → Int) (W : World) : Prop :=
  W.cell? ⟨kb, 0, none⟩ = some kv ∧ W.cell? ⟨db, 0, none⟩ = some (.pointer (some ⟨g, 0, none⟩)) ∧ W.cell? ⟨g, 2, none⟩ = some qv ∧ IArg W kv n (fun i => kk i) ∧ Puts W B0 qv q a f

set_option maxRecDepth 8000 in
set_option maxHeartbeats 4000000 in
theorem kept1_iter (N B0 kb db g : Nat) (kv qv : Value) (n : Nat) (hn6 : n ≤ 65536) (kk : Nat → Nat) (q : Nat) (hk : ∀ i, i < n → kk i < q) (a : Nat → Nat) (f : Nat → Nat → Int) :
    IterN Fence.wide N Try.prog 62 #[.pointer (some ⟨kb, 0, none⟩), .pointer (some ⟨db, 0, none⟩)] (fun k => #[putA (a (kk k)) (f (kk k))]) n (KeptRd B0 kb db g kv qv n kk q a f) := by
  intro l J Jx W hRd hst hstx hY h0
  refine callsIn_of_wp Try.func62 rfl trivial ?_ rfl
  simp only [Try.ntmps62, List.size_toArray, List.length_cons, List.length_nil, Nat.reduceAdd, Nat.reduceSub, Array.replicate_succ, Array.replicate_zero, List.push_toArray, List.append_toArray, List.nil_append, List.cons_append]
  have HY := Lib.hid hY; clear hY
  have HR := Lib.hid hRd; clear hRd
  clear hst hstx
  obtain ⟨z0, z1, z2, zk, zq⟩ := HR.out 0 W h0
  obtain ⟨x, cap, rfl⟩ := zk.slice
  clear zq zk
  gi_wp2
  clear z0 z1 z2
  gi_loopw [8] (fun t wr => ∃ i : Nat, i ≤ n ∧ t = .int .i64 i ∧ J i wr) (fun t _ => n - (intOf t).toNat)
  case atStart => exact ⟨0, by omega, by go_num, h0⟩
  case round =>
    obtain ⟨i, hi, rfl, hJ⟩ := hrel
    have HJ := Lib.hid hJ
    obtain ⟨z0, z1, z2, zk, zq⟩ := HR.out _ wr hJ
    by_cases hlt : i < n
    · rcases zk with ⟨hn0, _⟩ | ⟨b, off, cap', hv, hn, hnc, hcm, hcells, _⟩
      · omega
      cases hv
      have hkq := hk i hlt
      rcases zq with ⟨_, hq0⟩ | ⟨gq, capq, rfl, hB, hrow, hcap⟩
      · omega
      have e0 : wr.cell? ⟨b, off + i, none⟩ = some (.int .i64 (kk i)) := hcells i hlt
      have hl := loadC_put hrow hkq
      have hlen := secL_len (f (kk i))
      obtain ⟨fn, tmps, assign, body, hy, hR⟩ := HY.out _ _ hJ hlt
      unfold putA at hy
      generalize secL (f (kk i)) = cs at *
      clear hrow hJ hcells
      generalize kk i = j at *
      have hdlt : decide ((i : Int) < n) = true := decide_eq_true (by omega)
      gi_wp2
      refine ⟨fun h => by simp [Fence.wide] at h, hR.mono ?_⟩
      clear hl hlen hy hR z0 z1 z2 e0
      rintro e W3 (⟨rfl, hJ3⟩ | ⟨rfl, hJx3⟩)
      · gi_wp2
        go_roundw
        case rel => exact ⟨i + 1, by omega, by go_num, hJ3⟩
        case measure => simp [intOf]; omega
      · gi_wp2
        refine bodyPost_ret (results_none rfl _ _ _) rfl ?_
        exact ⟨⟨_, rfl⟩, .inr ⟨_, hlt, hJx3⟩⟩
    · obtain rfl : i = n := by omega
      clear z0 z1 z2 zk zq
      gi_wp2
      go_end0
      exact ⟨⟨_, rfl⟩, .inl HJ.out⟩

end Go.Proofs.Ytjhcaedfknhilaa
