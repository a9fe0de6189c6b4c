/- Disk: State and Copy of no disk. -/
import Derived.Test.YtjhcaedfknhilaaDiskL
namespace Go.Proofs.Ytjhcaedfknhilaa
open Go.RowKit
attribute [local go_sem ↓] Go.wp_at_zero Go.wp_at_succ

theorem Copy_nil (w : World) : Calls Try.prog 25 #[.pointer none] w fun e w' => e = .returned (.pointer none) ∧ w = w' := by
  go_enter Try.func25, Try.ntmps25
  go_wp2
  go_ret
  exact ⟨rfl, rfl⟩

/-- The device of no disk. -/
def devZ : Value := .agg #[.slice none 0 0, .slice none 0 0, .slice none 0 0, .bool false, .bool false, .int .i64 0]
set_option maxHeartbeats 2000000 in
theorem State_nil (w : World) : Calls Try.prog 11 #[.pointer none] w fun e w' => e = .returned (.tuple #[devZ, .int .i64 23]) ∧ Below w.heap.size w w' := by
  have hr := row_six w (.slice none 0 0) (.slice none 0 0) (.slice none 0 0) (.bool false) (.bool false) (.int .i64 0) 31
  have x0 := hr.cell (i := 0) (by omega)
  have x1 := hr.cell (i := 1) (by omega)
  have x2 := hr.cell (i := 2) (by omega)
  have x3 := hr.cell (i := 3) (by omega)
  have x4 := hr.cell (i := 4) (by omega)
  have x5 := hr.cell (i := 5) (by omega)
  clear hr
  go_enter Try.func11, Try.ntmps11
  go_wp2
  exact bodyPost_ret (v := .tuple #[devZ, .int .i64 23]) (by simp [results, Try.results11, go_sem, x0, x1, x2, x3, x4, x5, devZ, st6]) rfl ⟨rfl, (Below.refl _ w).alloc (Nat.le_refl _) _⟩

end Go.Proofs.Ytjhcaedfknhilaa
