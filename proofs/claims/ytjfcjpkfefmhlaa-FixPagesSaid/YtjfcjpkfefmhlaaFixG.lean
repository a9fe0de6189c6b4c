/- caught: the deferred closure that recovers; the two contracts. -/
import Derived.Test.YtjfcjpkfefmhlaaFixF
namespace Go.Proofs.Ytjfcjpkfefmhlaa
open Go.RowKit

/-- Behind a panic of package fix: it is recovered, and the result is true. -/
theorem catch_torn (p : Addr) (x : Bool) (w : World) (hc : w.cell? p = some (.bool x)) (hz : w.frozen? p = false) :
    CallsD Try.prog 62 #[.pointer (some p)] (.panicking tornPanic) w fun e u' w' =>
      e = .returned (.tuple #[]) ∧ u' = .panicking [{ v := .iface 84 (.agg #[]), recovered := true }] ∧ w' = w.setCell p (.bool true) := by
  refine callsD_of_wpS Try.func62 rfl fun c₀ cs hu => ?_
  apply wpS_seq
  apply wpS_region
  simp [wpOpsS, go_sem, recoverD, hu, tornPanic, Try.ntmps62, Exit.thenS]
  refine wpS_of_wp ?_
  have hta : (Instr.typeAssert (.iface 84 (.agg #[])) 20 84 true).run Try.prog w = .ok (.tuple #[.agg #[], .bool true]) w := by kernel_rfl
  go_wp2
  refine ⟨rfl, _, rfl, _, results_none rfl _ _ _, rfl, rfl, rfl⟩

/-- Behind a return: nothing to recover. -/
theorem catch_idle (p : Addr) (w : World) :
    CallsD Try.prog 62 #[.pointer (some p)] .returning w fun e u' w' => e = .returned (.tuple #[]) ∧ u' = .returning ∧ w' = w := by
  refine callsD_of_wpS Try.func62 rfl fun c₀ cs hu => ?_
  apply wpS_seq
  apply wpS_region
  simp [wpOpsS, go_sem, recoverD, hu, Try.ntmps62, Exit.thenS]
  refine wpS_of_wp ?_
  go_wp2
  refine ⟨rfl, .returning, ?_, _, results_none rfl _ _ _, rfl, rfl, rfl⟩
  rw [← hu]

/-- caught of a function that returns. -/
theorem caught_ok (cf : Nat) (cv : Array Value) (hent : ∀ args w, (callFunc cf args).run Try.prog w = .ok (.enter cf args) w) (w : World) (R : World → Prop)
    (hcf : Calls Try.prog cf cv (w.alloc (.cells #[.bool false] 4)) fun e w' => e = .returned (.tuple #[]) ∧ R w' ∧ RowAt w' w.heap.size 4 1 1 (fun _ => .bool false)) :
    Calls Try.prog 50 #[.func (.func cf) #[] cv] w fun e w' => e = .returned (.bool false) ∧ ∃ w2, R w2 ∧ w' = w2.setCell ⟨w.heap.size, 0, none⟩ (.bool false) := by
  have hmf : ∀ (fn : Fn) (first cap : Array Value) (w : World), (Instr.makeFunc fn first cap).run Try.prog w = .ok (.func fn first cap) w := fun _ _ _ _ => rfl
  go_enter_defers Try.func50, Try.ntmps50
  go_wp2_with fail
  refine hcf.mono ?_
  rintro e w2 ⟨rfl, hR, hrow⟩
  have hc := hrow.cell (i := 0) (by omega)
  have hf := hrow.frozen 0
  have hrow' := Lib.hid ((hrow.set 0 (.bool false)).cell (i := 0) (by omega))
  go_wp2
  refine leaves_cons (f := 62) (args := #[.pointer (some ⟨w.heap.size, 0, none⟩)]) (by simp) (by simp [go_sem]) ?_
  refine (catch_idle _ _).mono ?_
  rintro e u' w'' ⟨rfl, rfl, rfl⟩
  simp [Leaves, settle, results, Try.results50, go_sem]
  rw [hrow'.out]
  exact ⟨_, rfl, rfl, w2, hR, rfl⟩

/-- caught of a function that gives up. -/
theorem caught_torn (cf : Nat) (cv : Array Value) (hent : ∀ args w, (callFunc cf args).run Try.prog w = .ok (.enter cf args) w) (w : World) (R : World → Prop)
    (hcf : Calls Try.prog cf cv (w.alloc (.cells #[.bool false] 4)) fun e w' => e = .panicked tornPanic ∧ R w' ∧ RowAt w' w.heap.size 4 1 1 (fun _ => .bool false)) :
    Calls Try.prog 50 #[.func (.func cf) #[] cv] w fun e w' => e = .returned (.bool true) ∧ ∃ w2, R w2 ∧ w' = w2.setCell ⟨w.heap.size, 0, none⟩ (.bool true) := by
  have hmf : ∀ (fn : Fn) (first cap : Array Value) (w : World), (Instr.makeFunc fn first cap).run Try.prog w = .ok (.func fn first cap) w := fun _ _ _ _ => rfl
  go_enter_defers Try.func50, Try.ntmps50
  go_wp2_with fail
  refine hcf.mono ?_
  rintro e w2 ⟨rfl, hR, hrow⟩
  have hc := hrow.cell (i := 0) (by omega)
  have hf := hrow.frozen 0
  have hrow' := Lib.hid ((hrow.set 0 (.bool true)).cell (i := 0) (by omega))
  go_wp2
  refine leaves_cons (f := 62) (args := #[.pointer (some ⟨w.heap.size, 0, none⟩)]) (by simp) (by simp [go_sem]) ?_
  refine (catch_torn _ _ _ hc hf).mono ?_
  rintro e u' w'' ⟨rfl, rfl, rfl⟩
  simp [Leaves, settle, results, Try.results50, go_sem]
  rw [hrow'.out]
  exact ⟨_, rfl, rfl, w2, hR, rfl⟩

end Go.Proofs.Ytjfcjpkfefmhlaa
