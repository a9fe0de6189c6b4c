/- Disk: want, and caught, which recovers from its panic. -/
import Derived.Test.YtjhcaedfknhilaaRange
import Derived.Test.YtjhcaedfknhilaaBits
import Derived.Test.YtjhcaedfknhilaaProg
namespace Go.Proofs.Ytjhcaedfknhilaa
open Go.RowKit

theorem rep18 : Array.replicate 18 undef = #[undef, undef, undef, undef, undef, undef, undef, undef, undef, undef, undef, undef, undef, undef, undef, undef, undef, undef] := rfl

/-- The panic of want. -/
def failP (n : Int) : List PanicEntry := [{ v := .iface 104 (.int .i64 n), recovered := false }]
def failR (n : Int) : List PanicEntry := [{ v := .iface 104 (.int .i64 n), recovered := true }]

theorem want_ok (n : Int) (w : World) : Calls Try.prog 33 #[.bool true, .int .i64 n] w fun e w' => e = .returned (.tuple #[]) ∧ w = w' := by
  go_enter Try.func33, Try.ntmps33
  go_wp2
  go_end0
  exact ⟨rfl, rfl⟩
theorem want_not (n : Int) (w : World) : Calls Try.prog 33 #[.bool false, .int .i64 n] w fun e w' => e = .panicked (failP n) ∧ w = w' := by
  go_enter Try.func33, Try.ntmps33
  go_wp2
  exact ⟨rfl, rfl, rfl⟩

set_option maxHeartbeats 400000 in
/-- Behind a panic of want: it is recovered, and an error is set. -/
theorem catch_fail_d (p q : Addr) (n : Int) (w : World) (v u : Value) (hc : w.cell? p = some v) (hz : w.frozen? p = false) (hc2 : (w.setCell p (.pointer none)).cell? q = some u) (hz2 : (w.setCell p (.pointer none)).frozen? q = false) :
    CallsD Try.prog 32 #[.pointer (some p), .pointer (some q)] (.panicking (failP n)) w fun e u' w' =>
      e = .returned (.tuple #[]) ∧ u' = .panicking (failR n) ∧ w' = (w.setCell p (.pointer none)).setCell q (.int .i64 n) := by
  refine callsD_of_wpS Try.func32 rfl fun c₀ cs hu => ?_
  apply wpS_seq
  apply wpS_region
  simp [rep18, wpOpsS, go_sem, recoverD, hu, failP, Try.ntmps32, Exit.thenS]
  refine wpS_of_wp ?_
  have hta : ∀ w, (Instr.typeAssert (.iface 104 (.int .i64 n)) 20 104 true).run Try.prog w = .ok (.tuple #[.int .i64 n, .bool true]) w := fun w => by kernel_rfl
  go_wp2
  refine ⟨rfl, _, rfl, _, results_none rfl _ _ _, rfl, rfl, rfl⟩

set_option maxHeartbeats 400000 in
/-- Behind a return: nothing to recover. -/
theorem catch_idle_d (p q : Addr) (w : World) :
    CallsD Try.prog 32 #[.pointer (some p), .pointer (some q)] .returning w fun e u' w' => e = .returned (.tuple #[]) ∧ u' = .returning ∧ w' = w := by
  refine callsD_of_wpS Try.func32 rfl fun c₀ cs hu => ?_
  apply wpS_seq
  apply wpS_region
  simp [rep18, wpOpsS, go_sem, recoverD, hu, Try.ntmps32, Exit.thenS]
  refine wpS_of_wp ?_
  go_wp2
  refine ⟨rfl, .returning, ?_, _, results_none rfl _ _ _, rfl, rfl, rfl⟩
  rw [← hu]

set_option maxHeartbeats 400000 in
/-- Behind a panic of want: it is recovered, and an error is set. -/
theorem catch_fail_b (p q : Addr) (n : Int) (w : World) (v u : Value) (hc : w.cell? p = some v) (hz : w.frozen? p = false) (hc2 : (w.setCell p (.slice none 0 0)).cell? q = some u) (hz2 : (w.setCell p (.slice none 0 0)).frozen? q = false) :
    CallsD Try.prog 41 #[.pointer (some p), .pointer (some q)] (.panicking (failP n)) w fun e u' w' =>
      e = .returned (.tuple #[]) ∧ u' = .panicking (failR n) ∧ w' = (w.setCell p (.slice none 0 0)).setCell q (.int .i64 n) := by
  refine callsD_of_wpS Try.func41 rfl fun c₀ cs hu => ?_
  apply wpS_seq
  apply wpS_region
  simp [rep18, wpOpsS, go_sem, recoverD, hu, failP, Try.ntmps41, Exit.thenS]
  refine wpS_of_wp ?_
  have hta : ∀ w, (Instr.typeAssert (.iface 104 (.int .i64 n)) 20 104 true).run Try.prog w = .ok (.tuple #[.int .i64 n, .bool true]) w := fun w => by kernel_rfl
  go_wp2
  refine ⟨rfl, _, rfl, _, results_none rfl _ _ _, rfl, rfl, rfl⟩

set_option maxHeartbeats 400000 in
/-- Behind a return: nothing to recover. -/
theorem catch_idle_b (p q : Addr) (w : World) :
    CallsD Try.prog 41 #[.pointer (some p), .pointer (some q)] .returning w fun e u' w' => e = .returned (.tuple #[]) ∧ u' = .returning ∧ w' = w := by
  refine callsD_of_wpS Try.func41 rfl fun c₀ cs hu => ?_
  apply wpS_seq
  apply wpS_region
  simp [rep18, wpOpsS, go_sem, recoverD, hu, Try.ntmps41, Exit.thenS]
  refine wpS_of_wp ?_
  go_wp2
  refine ⟨rfl, .returning, ?_, _, results_none rfl _ _ _, rfl, rfl, rfl⟩
  rw [← hu]

set_option maxHeartbeats 400000 in
/-- Behind a panic of want: it is recovered, and an error is set. -/
theorem catch_fail_n (p q : Addr) (n : Int) (w : World) (u : Value) (hc2 : (w.alloc (.cells #[] 85)).cell? q = some u) (hz2 : (w.alloc (.cells #[] 85)).frozen? q = false) :
    CallsD Try.prog 38 #[.pointer (some p), .pointer (some q)] (.panicking (failP n)) w fun e u' w' =>
      e = .returned (.tuple #[]) ∧ u' = .panicking (failR n) ∧ w' = (w.alloc (.cells #[] 85)).setCell q (.int .i64 n) := by
  refine callsD_of_wpS Try.func38 rfl fun c₀ cs hu => ?_
  apply wpS_seq
  apply wpS_region
  simp [rep18, wpOpsS, go_sem, recoverD, hu, failP, Try.ntmps38, Exit.thenS]
  refine wpS_of_wp ?_
  have hta : ∀ w, (Instr.typeAssert (.iface 104 (.int .i64 n)) 20 104 true).run Try.prog w = .ok (.tuple #[.int .i64 n, .bool true]) w := fun w => by kernel_rfl
  go_wp2
  refine ⟨rfl, _, rfl, _, results_none rfl _ _ _, rfl, rfl, rfl⟩

set_option maxHeartbeats 400000 in
/-- Behind a return: nothing to recover. -/
theorem catch_idle_n (p q : Addr) (w : World) :
    CallsD Try.prog 38 #[.pointer (some p), .pointer (some q)] .returning w fun e u' w' => e = .returned (.tuple #[]) ∧ u' = .returning ∧ w' = w := by
  refine callsD_of_wpS Try.func38 rfl fun c₀ cs hu => ?_
  apply wpS_seq
  apply wpS_region
  simp [rep18, wpOpsS, go_sem, recoverD, hu, Try.ntmps38, Exit.thenS]
  refine wpS_of_wp ?_
  go_wp2
  refine ⟨rfl, .returning, ?_, _, results_none rfl _ _ _, rfl, rfl, rfl⟩
  rw [← hu]

end Go.Proofs.Ytjhcaedfknhilaa
