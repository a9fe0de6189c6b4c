/- Disk: event, Die, Replace. -/
import Derived.Test.YtjhcaedfknhilaaDiskJ
import Derived.MapFrom
namespace Go.Proofs.Ytjhcaedfknhilaa
open Go.RowKit
attribute [local go_sem ↓] Go.wp_at_zero Go.wp_at_succ
attribute [local go_sem] Oper.semAt_some

theorem insert_str {P : Program} {t kt et : TypeId} (ht : P.underlying t = some (.map kt et)) (hk : P.underlying kt = some .string) (w : World) (es : Array MapEntry) (c : Nat) (k : ByteArray) (v : Value)
    (hes : Instr.findNow .string (.string k) es.toList 0 = some none) :
    (Instr.mapUpdate t (.map (some w.heap.size)) (.string k) v).run P (w.alloc (.map es c)) = .ok () (w.alloc (.map (es.push { key := .string k, val := v, born := c }) (c + 1))) := by
  have hb : (w.alloc (.map es c)).heap[w.heap.size]? = some (.map es c) := by
    show (w.heap.push (.map es c))[w.heap.size]? = _
    simp
  have hkey : MapKept.IsKey .string (.string k) := by simp [MapKept.IsKey]
  simp [Instr.mapUpdate, run_underlying ht, MapKept.run_getObj_map hb, MapKept.run_checkKey hk hkey, MapKept.run_findKey hk hes, MapKept.run_setObj_map _ hb, Result.andThen]
  show ({ w with heap := (w.heap.push (.map es c)).setIfInBounds w.heap.size _ } : World) = { w with heap := w.heap.push _ }
  congr 1
  apply Array.ext'
  simp

def sDie : ByteArray := { data := #[100, 105, 101] }
def sRep : ByteArray := { data := #[114, 101, 112, 108, 97, 99, 101] }
def fE (k : ByteArray) (f : Nat) (p : Value) (c : Nat) : MapEntry := { key := .string k, val := .func (.func f) #[p] #[], born := c }
def eventObj (p : Value) : Obj := .map #[fE sDie 70 p 0, fE sRep 71 p 1] 2

theorem look_die (p : Value) {w : World} {b : Nat} (hb : w.heap[b]? = some (eventObj p)) :
    (Instr.lookup 117 (.map (some b)) (.string sDie) false).run Try.prog w = .ok (.func (.func 70) #[p] #[]) w := by
  have hkey : MapKept.IsKey .string (.string sDie) := by simp [MapKept.IsKey]
  have ht : Try.prog.underlying 117 = some (.map 9 1) := by kernel_rfl
  have hk : Try.prog.underlying 9 = some .string := by kernel_rfl
  have hf := MapKept.run_findKey (P := Try.prog) (w := w) hk (k := .string sDie) (l := [fE sDie 70 p 0, fE sRep 71 p 1]) (a := some (0, .func (.func 70) #[p] #[])) (by kernel_rfl)
  have hb' : w.heap[b]? = some (.map #[fE sDie 70 p 0, fE sRep 71 p 1] 2) := hb
  simp [Instr.lookup, run_underlying ht, MapKept.run_getObj_map hb', MapKept.run_checkKey hk hkey, hf, Result.andThen]

theorem look_rep (p : Value) {w : World} {b : Nat} (hb : w.heap[b]? = some (eventObj p)) :
    (Instr.lookup 117 (.map (some b)) (.string sRep) false).run Try.prog w = .ok (.func (.func 71) #[p] #[]) w := by
  have hkey : MapKept.IsKey .string (.string sRep) := by simp [MapKept.IsKey]
  have ht : Try.prog.underlying 117 = some (.map 9 1) := by kernel_rfl
  have hk : Try.prog.underlying 9 = some .string := by kernel_rfl
  have hf := MapKept.run_findKey (P := Try.prog) (w := w) hk (k := .string sRep) (l := [fE sDie 70 p 0, fE sRep 71 p 1]) (a := some (1, .func (.func 71) #[p] #[])) (by kernel_rfl)
  have hb' : w.heap[b]? = some (.map #[fE sDie 70 p 0, fE sRep 71 p 1] 2) := hb
  simp [Instr.lookup, run_underlying ht, MapKept.run_getObj_map hb', MapKept.run_checkKey hk hkey, hf, Result.andThen]

set_option maxHeartbeats 2000000 in
theorem event_die {B g gs gb : Nat} {qv : Value} {D : Dsk} (w : World) (h : DiskIn B g gs gb qv D w) :
    Calls Try.prog 63 #[.pointer (some ⟨g, 0, none⟩), .string sDie] w fun e w' => e = .returned (.int .i64 0) ∧ DiskIn B g gs gb (.slice none 0 0) D.die w' ∧ Below B w w' ∧ Calm w w' := by
  have hmm := @run_makeMap Try.prog
  have h1 := insert_str (P := Try.prog) (t := 117) (kt := 9) (et := 1) (by kernel_rfl) (by kernel_rfl) w #[] 0 sDie (.func (.func 70) #[.pointer (some ⟨g, 0, none⟩)] #[]) rfl
  have h2 := insert_str (P := Try.prog) (t := 117) (kt := 9) (et := 1) (by kernel_rfl) (by kernel_rfl) w #[fE sDie 70 (.pointer (some ⟨g, 0, none⟩)) 0] 1 sRep (.func (.func 71) #[.pointer (some ⟨g, 0, none⟩)] #[]) (by kernel_rfl)
  have h3 := look_die (.pointer (some ⟨g, 0, none⟩)) (w := w.alloc (eventObj (.pointer (some ⟨g, 0, none⟩)))) (b := w.heap.size) (by unfold eventObj; exact heap_alloc_new w _)
  have HW := Lib.hid (And.intro (h.all ((Below.refl _ w).alloc (Nat.le_refl _) (eventObj (.pointer (some ⟨g, 0, none⟩))))) (And.intro ((Below.refl B w).alloc h.lt (eventObj (.pointer (some ⟨g, 0, none⟩)))) ((Calm.refl w).alloc (eventObj (.pointer (some ⟨g, 0, none⟩))))))
  clear h
  have hmf : ∀ (fn : Fn) (first cap : Array Value) (w : World), (Instr.makeFunc fn first cap).run Try.prog w = .ok (.func fn first cap) w := fun _ _ _ _ => rfl
  simp only [fE, List.push_toArray, List.nil_append, List.cons_append] at h1 h2
  unfold eventObj at h3 HW
  simp only [fE] at h3 HW
  unfold sDie at h1 h2 h3 HW ⊢
  unfold sRep at h2 h3 HW
  go_enter Try.func63, Try.ntmps63
  go_wp2_with fail
  generalize w.alloc (.map #[{ key := .string { data := #[100, 105, 101] }, val := .func (.func 70) #[.pointer (some ⟨g, 0, none⟩)] #[], born := 0 }, { key := .string { data := #[114, 101, 112, 108, 97, 99, 101] }, val := .func (.func 71) #[.pointer (some ⟨g, 0, none⟩)] #[], born := 1 }] 2) = W at *
  refine (die_any W HW.out.1).mono ?_
  rintro e w2 ⟨rfl, hD, hB, hC⟩
  have Hfin := Lib.hid (And.intro hD (And.intro (HW.out.2.1.trans hB) (HW.out.2.2.trans hC)))
  clear hD hB hC h1 h2 h3
  go_wp2
  go_ret
  exact ⟨rfl, Hfin.out⟩

set_option maxHeartbeats 2000000 in
theorem event_rep {B g gs gb : Nat} {qv : Value} {D : Dsk} (w : World) (h : DiskIn B g gs gb qv D w) :
    Calls Try.prog 63 #[.pointer (some ⟨g, 0, none⟩), .string sRep] w fun e w' => e = .returned (.int .i64 0) ∧ ∃ gs2 gb2, DiskIn B g gs2 gb2 (.slice none 0 0) (Dsk.zero D.n) w' ∧ Below B w w' ∧ Calm w w' := by
  have hmm := @run_makeMap Try.prog
  have h1 := insert_str (P := Try.prog) (t := 117) (kt := 9) (et := 1) (by kernel_rfl) (by kernel_rfl) w #[] 0 sDie (.func (.func 70) #[.pointer (some ⟨g, 0, none⟩)] #[]) rfl
  have h2 := insert_str (P := Try.prog) (t := 117) (kt := 9) (et := 1) (by kernel_rfl) (by kernel_rfl) w #[fE sDie 70 (.pointer (some ⟨g, 0, none⟩)) 0] 1 sRep (.func (.func 71) #[.pointer (some ⟨g, 0, none⟩)] #[]) (by kernel_rfl)
  have h3 := look_rep (.pointer (some ⟨g, 0, none⟩)) (w := w.alloc (eventObj (.pointer (some ⟨g, 0, none⟩)))) (b := w.heap.size) (by unfold eventObj; exact heap_alloc_new w _)
  have HW := Lib.hid (And.intro (h.all ((Below.refl _ w).alloc (Nat.le_refl _) (eventObj (.pointer (some ⟨g, 0, none⟩))))) (And.intro ((Below.refl B w).alloc h.lt (eventObj (.pointer (some ⟨g, 0, none⟩)))) ((Calm.refl w).alloc (eventObj (.pointer (some ⟨g, 0, none⟩))))))
  clear h
  have hmf : ∀ (fn : Fn) (first cap : Array Value) (w : World), (Instr.makeFunc fn first cap).run Try.prog w = .ok (.func fn first cap) w := fun _ _ _ _ => rfl
  simp only [fE, List.push_toArray, List.nil_append, List.cons_append] at h1 h2
  unfold eventObj at h3 HW
  simp only [fE] at h3 HW
  unfold sDie at h1 h2 h3 HW
  unfold sRep at h2 h3 HW ⊢
  go_enter Try.func63, Try.ntmps63
  go_wp2_with fail
  generalize w.alloc (.map #[{ key := .string { data := #[100, 105, 101] }, val := .func (.func 70) #[.pointer (some ⟨g, 0, none⟩)] #[], born := 0 }, { key := .string { data := #[114, 101, 112, 108, 97, 99, 101] }, val := .func (.func 71) #[.pointer (some ⟨g, 0, none⟩)] #[], born := 1 }] 2) = W at *
  refine (replace_any W HW.out.1).mono ?_
  rintro e w2 ⟨rfl, gs2, gb2, hD, hB, hC⟩
  have Hfin := Lib.hid (And.intro hD (And.intro (HW.out.2.1.trans hB) (HW.out.2.2.trans hC)))
  clear hD hB hC h1 h2 h3
  go_wp2
  go_ret
  exact ⟨rfl, _, _, Hfin.out⟩

theorem event_nil (s : ByteArray) (w : World) : Calls Try.prog 63 #[.pointer none, .string s] w fun e w' => e = .returned (.int .i64 23) ∧ w = w' := by
  go_enter Try.func63, Try.ntmps63
  go_wp2
  go_ret
  exact ⟨rfl, rfl⟩

theorem Die_any {B g gs gb : Nat} {qv : Value} {D : Dsk} (w : World) (h : DiskIn B g gs gb qv D w) :
    Calls Try.prog 46 #[.pointer (some ⟨g, 0, none⟩)] w fun e w' => e = .returned (.int .i64 0) ∧ DiskIn B g gs gb (.slice none 0 0) D.die w' ∧ Below B w w' ∧ Calm w w' := by
  have Hz := Lib.hid (event_die w h)
  clear h
  unfold sDie at Hz
  go_enter Try.func46, Try.ntmps46
  go_wp2_with fail
  refine Hz.out.mono ?_
  rintro e w2 ⟨rfl, hx⟩
  have Hx := Lib.hid hx; clear hx
  go_wp2
  go_ret
  exact ⟨rfl, Hx.out⟩
theorem Die_nil (w : World) : Calls Try.prog 46 #[.pointer none] w fun e w' => e = .returned (.int .i64 23) ∧ w = w' := by
  go_enter Try.func46, Try.ntmps46
  go_wp2_with fail
  refine (event_nil _ w).mono ?_
  rintro e w2 ⟨rfl, rfl⟩
  go_wp2
  go_ret
  exact ⟨rfl, rfl⟩

theorem Replace_any {B g gs gb : Nat} {qv : Value} {D : Dsk} (w : World) (h : DiskIn B g gs gb qv D w) :
    Calls Try.prog 47 #[.pointer (some ⟨g, 0, none⟩)] w fun e w' => e = .returned (.int .i64 0) ∧ ∃ gs2 gb2, DiskIn B g gs2 gb2 (.slice none 0 0) (Dsk.zero D.n) w' ∧ Below B w w' ∧ Calm w w' := by
  have Hz := Lib.hid (event_rep w h)
  clear h
  unfold sRep at Hz
  go_enter Try.func47, Try.ntmps47
  go_wp2_with fail
  refine Hz.out.mono ?_
  rintro e w2 ⟨rfl, hx⟩
  have Hx := Lib.hid hx; clear hx
  go_wp2
  go_ret
  exact ⟨rfl, Hx.out⟩
theorem Replace_nil (w : World) : Calls Try.prog 47 #[.pointer none] w fun e w' => e = .returned (.int .i64 23) ∧ w = w' := by
  go_enter Try.func47, Try.ntmps47
  go_wp2_with fail
  refine (event_nil _ w).mono ?_
  rintro e w2 ⟨rfl, rfl⟩
  go_wp2
  go_ret
  exact ⟨rfl, rfl⟩

end Go.Proofs.Ytjhcaedfknhilaa
