/- Span: the kinds. -/
import Derived.Test.YtlbohmfhdchabaaRange
import Derived.MapFrom
namespace Go.Proofs.Ytlbohmfhdchabaa
open Go.RowKit
attribute [local go_sem] Oper.semAt_some

theorem insert_alloc {P : Program} {t kt et : TypeId} (ht : P.underlying t = some (.map kt et)) (hk : P.underlying kt = some (.int .i64)) (w : World) (es : Array MapEntry) (c : Nat) (k : Int) (v : Value)
    (hes : Instr.findNow (.int .i64) (.int .i64 k) es.toList 0 = some none) :
    (Instr.mapUpdate t (.map (some w.heap.size)) (.int .i64 k) v).run P (w.alloc (.map es c)) = .ok () (w.alloc (.map (es.push { key := .int .i64 k, val := v, born := c }) (c + 1))) := by
  have hb : (w.alloc (.map es c)).heap[w.heap.size]? = some (.map es c) := by
    show (w.heap.push (.map es c))[w.heap.size]? = _
    simp
  have hkey : MapKept.IsKey (.int .i64) (.int .i64 k) := by simp [MapKept.IsKey]
  simp [Instr.mapUpdate, run_underlying ht, MapKept.run_getObj_map hb, MapKept.run_checkKey hk hkey, MapKept.run_findKey hk hes, MapKept.run_setObj_map _ hb, Result.andThen]
  show ({ w with heap := (w.heap.push (.map es c)).setIfInBounds w.heap.size _ } : World) = { w with heap := w.heap.push _ }
  congr 1
  apply Array.ext'
  simp

def kE (k : Int) (t : TypeId) (c : Nat) : MapEntry := { key := .int .i64 k, val := .iface t (.agg #[]), born := c }
def kindsObj : Obj := .map #[kE 1 89 0, kE 2 90 1, kE 3 91 2, kE 4 92 3, kE 5 93 4] 5

set_option maxHeartbeats 2000000 in
theorem kinds_any (w : World) :
    Calls Try.prog 51 #[] w fun e w' => e = .returned (.map (some w.heap.size)) ∧ w.alloc kindsObj = w' := by
  have hmm := @run_makeMap Try.prog
  have hi := fun es c k v h => insert_alloc (P := Try.prog) (t := 82) rfl rfl w es c k v h
  have h1 := hi #[] 0 1 (.iface 89 (.agg #[])) rfl
  have h2 := hi #[kE 1 89 0] 1 2 (.iface 90 (.agg #[])) rfl
  have h3 := hi #[kE 1 89 0, kE 2 90 1] 2 3 (.iface 91 (.agg #[])) rfl
  have h4 := hi #[kE 1 89 0, kE 2 90 1, kE 3 91 2] 3 4 (.iface 92 (.agg #[])) rfl
  have h5 := hi #[kE 1 89 0, kE 2 90 1, kE 3 91 2, kE 4 92 3] 4 5 (.iface 93 (.agg #[])) rfl
  clear hi
  simp only [kE, List.push_toArray, List.nil_append, List.cons_append] at h1 h2 h3 h4 h5
  go_enter Try.func51, Try.ntmps51
  go_wp2
  go_ret
  exact ⟨rfl, rfl⟩

end Go.Proofs.Ytlbohmfhdchabaa
