/- Disk: an element of the queue is built. -/
import Derived.Test.YtjhcaedfknhilaaDiskU
import Derived.Great.BuildSlice
import Derived.Great.FillDense
namespace Go.Proofs.Ytjhcaedfknhilaa
open Go.RowKit

theorem built_put (a : Int) (f : Nat → Int) : Try.prog.built 81 [(0, .int .i64 a), (1, .agg (secL f).toArray)] = some (Value.int .i64 a :: secL f).toArray := by kernel_rfl
theorem run_build_put (a : Int) (f : Nat → Int) (w : World) : (Instr.build 81 #[(0, .int .i64 a), (1, .agg (secL f).toArray)]).run Try.prog w = .ok (.agg (Value.int .i64 a :: secL f).toArray) w :=
  run_build w _ _ _ (built_put a f)

/-- A slice literal of one element of k cells. -/
theorem run_bs_one {P : Program} (w : World) (t e : TypeId) (cs : Array Value) (k : Nat) (hu : P.underlying t = some (.slice e)) (hi : ∃ ie z, P.info? e = some ie ∧ ie.zero = some z ∧ ie.size = k) (hk : 0 < k) (hk2 : k ≤ 1000) (hc : cs.size = k) :
    (Instr.buildSlice t 1 #[(0, .agg cs)]).run P w = .ok (.slice (some ⟨w.heap.size, 0, none⟩) 1 1) (w.alloc (.cells cs e)) := by
  obtain ⟨ie, z, h1, h2, h3⟩ := hi
  subst h3
  refine run_buildSlice w t e 1 _ cs ie z hu h1 h2 (by omega) (by omega) ?_
  have := Great.fill_whole hk [.agg cs] ((Array.range (1 * ie.size)).map (z.cells[· % z.cells.size]!)) (fun v hv => by
    obtain rfl := List.mem_singleton.1 hv
    exact hc) (by simp)
  simpa [Value.cells] using this

theorem info_of_map {P : Program} {e : TypeId} {z : Value} {k b : Nat} (h : (P.info? e).map (fun i => (i.zero, i.size, i.bytes)) = some (some z, k, b)) : ∃ ie z, P.info? e = some ie ∧ ie.zero = some z ∧ ie.size = k := by
  obtain ⟨i, hi, h1, h2, _⟩ := info_parts h
  exact ⟨i, z, hi, h1, h2⟩
theorem info_putd : ∃ z, (Try.prog.info? 81).map (fun i => (i.zero, i.size, i.bytes)) = some (some z, 65, 72) ∧ z.cells.size = 65 := ⟨.agg (.int .i64 0 :: (List.replicate 64 (.int .u8 0))).toArray, by kernel_rfl, by kernel_rfl⟩

end Go.Proofs.Ytjhcaedfknhilaa
