/- The reference: New and Same. -/
import Derived.Test.YtjhcaedfknhilaaSane
namespace Go.Proofs.Ytjhcaedfknhilaa
open Go.RowKit
attribute [local go_sem ↓] Go.wp_at_zero Go.wp_at_succ
attribute [-go_sem] loadCellsFrom storeCells
attribute [local go_sem] storeCells_one

theorem z0 : -9223372036854775808 ≤ (0 : Int) ∧ (0 : Int) ≤ 9223372036854775807 := by decide
theorem z1 : 0 ≤ (0 : Int) ∧ (0 : Int) < 256 := by decide
/-- A new device. -/
def newDev (n : Nat) : Dev := ⟨n * 64, fun _ => 0, 0, fun _ => 0, fun _ => 0, fun _ _ => 0, 0, fun _ => 0, false, false, 0⟩

set_option maxHeartbeats 2000000 in
theorem RefNew_any (B n : Nat) (hn : 1 ≤ n ∧ n ≤ 4096) (w : World) : Calls Try.prog 13 #[.int .i64 n] w fun e w' => ∃ dv qv bv, e = .returned (devV dv qv bv (newDev n)) ∧ DevAt B w' dv qv bv (newDev n) ∧ Below w.heap.size w w' := by
  have hr := row_six w (.slice none 0 0) (.slice none 0 0) (.slice none 0 0) (.bool false) (.bool false) (.int .i64 0) 31
  obtain ⟨w2, hm, hd, hb, hs⟩ := make_o (P := Try.prog) 27 5 _ _ Try.underlying27 info_u8d rfl (by decide) .i64 (n * 64) (by omega) (w.alloc (.cells #[.slice none 0 0, .slice none 0 0, .slice none 0 0, .bool false, .bool false, .int .i64 0] 31))
  rw [World.size_alloc] at hm hd hb
  have hm' : (Instr.makeSlice 27 (.int .i64 ((n : Int) * 64)) (.int .i64 ((n : Int) * 64))).run Try.prog (w.alloc (.cells #[.slice none 0 0, .slice none 0 0, .slice none 0 0, .bool false, .bool false, .int .i64 0] 31)) = .ok (.slice (some ⟨w.heap.size + 1, 0, none⟩) (n * 64) (n * 64)) w2 := by
    simpa using hm
  have hres := hr.all (by rw [World.size_alloc]; exact hb)
  have hs6 := storeC_six hres (six_one (a := .slice (some ⟨w.heap.size + 1, 0, none⟩) (n * 64) (n * 64)) (b := .slice none 0 0) (c := .slice none 0 0) (d := .bool false) (e := .bool false) (f := .int .i64 0) rfl rfl rfl rfl rfl rfl)
  have hfin := row_set6 hres (.slice (some ⟨w.heap.size + 1, 0, none⟩) (n * 64) (n * 64)) (.slice none 0 0) (.slice none 0 0) (.bool false) (.bool false) (.int .i64 0)
  have hrd := resDev hfin.1
  have hw : IntKind.i64.wrap ((n : Int) * 64) = (n : Int) * 64 := IntWalk.i64_in _ (by omega)
  have hbl : Below w.heap.size w (w2.setCells w.heap.size 0 [.slice (some ⟨w.heap.size + 1, 0, none⟩) (n * 64) (n * 64), .slice none 0 0, .slice none 0 0, .bool false, .bool false, .int .i64 0]) :=
    Wrote.below hfin.2 (((Below.refl _ w).alloc (Nat.le_refl _) _).trans (hb.mono (by omega))) (by have := hb.size; rw [World.size_alloc] at this; omega) (Nat.le_refl _)
  have hdat := hd.wrote hfin.2 (show w.heap.size + 1 ≠ w.heap.size by omega)
  have Hbl := Lib.hid (And.intro hbl hdat)
  clear hm hd hb hs hr hres hfin hbl hdat
  go_enter Try.func13, Try.ntmps13
  go_wp2_with fail
  refine bodyPost_ret (v := devV (.slice (some ⟨w.heap.size + 1, 0, none⟩) (n * 64) (n * 64)) (.slice none 0 0) (.slice none 0 0) (newDev n)) (by simp [results, Try.results13, asAddr, hrd, devV, newDev]) rfl ⟨_, _, _, rfl, ⟨?_, ⟨fun _ => z0, .inl ⟨rfl, _, _, rfl⟩⟩, ⟨fun _ => z0, .inl ⟨rfl, _, _, rfl⟩⟩, z0⟩, Hbl.out.1⟩
  exact barg_own (B' := 0) (.inr ⟨_, _, rfl, Nat.zero_le _, Hbl.out.2, by unfold maxLen; show n * 64 ≤ _; omega⟩) fun _ => z1

end Go.Proofs.Ytjhcaedfknhilaa
