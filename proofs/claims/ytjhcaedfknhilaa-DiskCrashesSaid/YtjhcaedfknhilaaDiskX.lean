/- Disk: slices.Clone at four types. -/
import Derived.Test.YtjhcaedfknhilaaDiskW
namespace Go.Proofs.Ytjhcaedfknhilaa
open Go.RowKit
attribute [local go_sem ↓] Go.wp_at_zero Go.wp_at_succ

theorem info_secd : ∃ z, (Try.prog.info? 79).map (fun i => (i.zero, i.size, i.bytes)) = some (some z, 64, 64) ∧ z.cells.size = 64 := ⟨.agg (List.replicate 64 (.int .u8 0)).toArray, by kernel_rfl, by kernel_rfl⟩
theorem info_u8k : ∃ z, (Try.prog.info? 5).map (fun i => (i.zero, i.size, i.bytes)) = some (some z, 1, 1) ∧ z.cells.size = 1 := ⟨.int .u8 0, by kernel_rfl, by kernel_rfl⟩
theorem info_boolk : ∃ z, (Try.prog.info? 4).map (fun i => (i.zero, i.size, i.bytes)) = some (some z, 1, 1) ∧ z.cells.size = 1 := ⟨.bool false, by kernel_rfl, by kernel_rfl⟩

theorem Clone_u8_nil (w : World) : Calls Try.prog 37 #[.slice none 0 0] w fun e w' => e = .returned (.slice none 0 0) ∧ w = w' := by
  go_enter Try.func37, Try.ntmps37
  have heq := fun (wx : World) => Lib.run_eql_slice_nil (P := Try.prog) wx 27 5 none 0 0 0 0 Try.underlying27
  go_wp2
  go_ret
  exact ⟨rfl, rfl⟩
def ClonedP_u8 (n : Nat) (f : Nat → Value) (w : World) (e : Ending) (w' : World) : Prop := ∃ v, e = .returned v ∧ OwnK w' w.heap.size 5 1 v n f ∧ Below w.heap.size w w'
set_option maxHeartbeats 1000000 in
theorem Clone_u8 (b off n c : Nat) (f : Nat → Value) (w : World) (hc : Cells w b off (n * 1) f) (h1 : ∀ i, i < n * 1 → (f i).oneCell' = true) (hn : n ≤ 1000000) :
    Calls Try.prog 37 #[.slice (some ⟨b, off, none⟩) n c] w (ClonedP_u8 n f w) := by
  obtain ⟨z, hz⟩ := info_u8k
  have Hz := Lib.hid hz
  have Hc := Lib.hid (hc.alloc (.cells #[] 5))
  have H1 := Lib.hid h1
  clear hz hc h1
  go_enter Try.func37, Try.ntmps37
  have heq := fun (wx : World) => Lib.run_eql_slice_nil (P := Try.prog) wx 27 5 (some ⟨b, off, none⟩) n c 0 0 Try.underlying27
  go_wp2_with (with_reducible refine stopB .append ?_)
  refine Hold.go ?_
  have hrow : OwnK (w.alloc (.cells #[] 5)) w.heap.size 5 1 (.slice (some ⟨w.heap.size, 0, none⟩) 0 0) 0 f :=
    .inr ⟨w.heap.size, 0, rfl, Nat.le_refl _, ⟨#[], heap_alloc_new w _, by simp, by simp, fun i hi => by omega⟩, Nat.le_refl _, by decide⟩
  refine wpList_append_k rfl _ _ 27 5 z 1 1 rfl Try.underlying27 Hz.out.1 Hz.out.2 (by decide) w.heap.size _ 0 f rfl hrow b off n c f rfl Hc.out H1.out (by omega) (by decide) (by simp) ?_
  intro v' w' hown hgr
  obtain ⟨av, cv, rfl⟩ := hown.slice
  have Hb := Lib.hid (hrow.below ((Below.refl _ w).alloc (Nat.le_refl _) (.cells #[] 5)) (by simp) (Nat.le_refl _) hgr)
  have hown2 := hown.congr (f' := f) (fun i hi => by rw [if_neg (by omega), Nat.zero_mul, Nat.sub_zero])
  rw [Nat.zero_add] at hown2
  have Ho := Lib.hid hown2
  have Hn := Lib.hid (show 0 + n = n from Nat.zero_add n)
  clear hrow hown hgr hown2
  rw [Hn.out]
  go_wp2
  go_ret
  exact ⟨_, rfl, Ho.out, Hb.out⟩

theorem Clone_sec_nil (w : World) : Calls Try.prog 48 #[.slice none 0 0] w fun e w' => e = .returned (.slice none 0 0) ∧ w = w' := by
  go_enter Try.func48, Try.ntmps48
  have heq := fun (wx : World) => Lib.run_eql_slice_nil (P := Try.prog) wx 69 79 none 0 0 0 0 Try.underlying69
  go_wp2
  go_ret
  exact ⟨rfl, rfl⟩
def ClonedP_sec (n : Nat) (f : Nat → Value) (w : World) (e : Ending) (w' : World) : Prop := ∃ v, e = .returned v ∧ OwnK w' w.heap.size 79 64 v n f ∧ Below w.heap.size w w'
set_option maxHeartbeats 1000000 in
theorem Clone_sec (b off n c : Nat) (f : Nat → Value) (w : World) (hc : Cells w b off (n * 64) f) (h1 : ∀ i, i < n * 64 → (f i).oneCell' = true) (hn : n ≤ 1000000) :
    Calls Try.prog 48 #[.slice (some ⟨b, off, none⟩) n c] w (ClonedP_sec n f w) := by
  obtain ⟨z, hz⟩ := info_secd
  have Hz := Lib.hid hz
  have Hc := Lib.hid (hc.alloc (.cells #[] 79))
  have H1 := Lib.hid h1
  clear hz hc h1
  go_enter Try.func48, Try.ntmps48
  have heq := fun (wx : World) => Lib.run_eql_slice_nil (P := Try.prog) wx 69 79 (some ⟨b, off, none⟩) n c 0 0 Try.underlying69
  go_wp2_with (with_reducible refine stopB .append ?_)
  refine Hold.go ?_
  have hrow : OwnK (w.alloc (.cells #[] 79)) w.heap.size 79 64 (.slice (some ⟨w.heap.size, 0, none⟩) 0 0) 0 f :=
    .inr ⟨w.heap.size, 0, rfl, Nat.le_refl _, ⟨#[], heap_alloc_new w _, by simp, by simp, fun i hi => by omega⟩, Nat.le_refl _, by decide⟩
  refine wpList_append_k rfl _ _ 69 79 z 64 64 rfl Try.underlying69 Hz.out.1 Hz.out.2 (by decide) w.heap.size _ 0 f rfl hrow b off n c f rfl Hc.out H1.out (by omega) (by decide) (by simp) ?_
  intro v' w' hown hgr
  obtain ⟨av, cv, rfl⟩ := hown.slice
  have Hb := Lib.hid (hrow.below ((Below.refl _ w).alloc (Nat.le_refl _) (.cells #[] 79)) (by simp) (Nat.le_refl _) hgr)
  have hown2 := hown.congr (f' := f) (fun i hi => by rw [if_neg (by omega), Nat.zero_mul, Nat.sub_zero])
  rw [Nat.zero_add] at hown2
  have Ho := Lib.hid hown2
  have Hn := Lib.hid (show 0 + n = n from Nat.zero_add n)
  clear hrow hown hgr hown2
  rw [Hn.out]
  go_wp2
  go_ret
  exact ⟨_, rfl, Ho.out, Hb.out⟩

theorem Clone_bool_nil (w : World) : Calls Try.prog 49 #[.slice none 0 0] w fun e w' => e = .returned (.slice none 0 0) ∧ w = w' := by
  go_enter Try.func49, Try.ntmps49
  have heq := fun (wx : World) => Lib.run_eql_slice_nil (P := Try.prog) wx 70 4 none 0 0 0 0 Try.underlying70
  go_wp2
  go_ret
  exact ⟨rfl, rfl⟩
def ClonedP_bool (n : Nat) (f : Nat → Value) (w : World) (e : Ending) (w' : World) : Prop := ∃ v, e = .returned v ∧ OwnK w' w.heap.size 4 1 v n f ∧ Below w.heap.size w w'
set_option maxHeartbeats 1000000 in
theorem Clone_bool (b off n c : Nat) (f : Nat → Value) (w : World) (hc : Cells w b off (n * 1) f) (h1 : ∀ i, i < n * 1 → (f i).oneCell' = true) (hn : n ≤ 1000000) :
    Calls Try.prog 49 #[.slice (some ⟨b, off, none⟩) n c] w (ClonedP_bool n f w) := by
  obtain ⟨z, hz⟩ := info_boolk
  have Hz := Lib.hid hz
  have Hc := Lib.hid (hc.alloc (.cells #[] 4))
  have H1 := Lib.hid h1
  clear hz hc h1
  go_enter Try.func49, Try.ntmps49
  have heq := fun (wx : World) => Lib.run_eql_slice_nil (P := Try.prog) wx 70 4 (some ⟨b, off, none⟩) n c 0 0 Try.underlying70
  go_wp2_with (with_reducible refine stopB .append ?_)
  refine Hold.go ?_
  have hrow : OwnK (w.alloc (.cells #[] 4)) w.heap.size 4 1 (.slice (some ⟨w.heap.size, 0, none⟩) 0 0) 0 f :=
    .inr ⟨w.heap.size, 0, rfl, Nat.le_refl _, ⟨#[], heap_alloc_new w _, by simp, by simp, fun i hi => by omega⟩, Nat.le_refl _, by decide⟩
  refine wpList_append_k rfl _ _ 70 4 z 1 1 rfl Try.underlying70 Hz.out.1 Hz.out.2 (by decide) w.heap.size _ 0 f rfl hrow b off n c f rfl Hc.out H1.out (by omega) (by decide) (by simp) ?_
  intro v' w' hown hgr
  obtain ⟨av, cv, rfl⟩ := hown.slice
  have Hb := Lib.hid (hrow.below ((Below.refl _ w).alloc (Nat.le_refl _) (.cells #[] 4)) (by simp) (Nat.le_refl _) hgr)
  have hown2 := hown.congr (f' := f) (fun i hi => by rw [if_neg (by omega), Nat.zero_mul, Nat.sub_zero])
  rw [Nat.zero_add] at hown2
  have Ho := Lib.hid hown2
  have Hn := Lib.hid (show 0 + n = n from Nat.zero_add n)
  clear hrow hown hgr hown2
  rw [Hn.out]
  go_wp2
  go_ret
  exact ⟨_, rfl, Ho.out, Hb.out⟩

theorem Clone_put_nil (w : World) : Calls Try.prog 50 #[.slice none 0 0] w fun e w' => e = .returned (.slice none 0 0) ∧ w = w' := by
  go_enter Try.func50, Try.ntmps50
  have heq := fun (wx : World) => Lib.run_eql_slice_nil (P := Try.prog) wx 74 81 none 0 0 0 0 Try.underlying74
  go_wp2
  go_ret
  exact ⟨rfl, rfl⟩
def ClonedP_put (n : Nat) (f : Nat → Value) (w : World) (e : Ending) (w' : World) : Prop := ∃ v, e = .returned v ∧ OwnK w' w.heap.size 81 65 v n f ∧ Below w.heap.size w w'
set_option maxHeartbeats 1000000 in
theorem Clone_put (b off n c : Nat) (f : Nat → Value) (w : World) (hc : Cells w b off (n * 65) f) (h1 : ∀ i, i < n * 65 → (f i).oneCell' = true) (hn : n ≤ 1000000) :
    Calls Try.prog 50 #[.slice (some ⟨b, off, none⟩) n c] w (ClonedP_put n f w) := by
  obtain ⟨z, hz⟩ := info_putd
  have Hz := Lib.hid hz
  have Hc := Lib.hid (hc.alloc (.cells #[] 81))
  have H1 := Lib.hid h1
  clear hz hc h1
  go_enter Try.func50, Try.ntmps50
  have heq := fun (wx : World) => Lib.run_eql_slice_nil (P := Try.prog) wx 74 81 (some ⟨b, off, none⟩) n c 0 0 Try.underlying74
  go_wp2_with (with_reducible refine stopB .append ?_)
  refine Hold.go ?_
  have hrow : OwnK (w.alloc (.cells #[] 81)) w.heap.size 81 65 (.slice (some ⟨w.heap.size, 0, none⟩) 0 0) 0 f :=
    .inr ⟨w.heap.size, 0, rfl, Nat.le_refl _, ⟨#[], heap_alloc_new w _, by simp, by simp, fun i hi => by omega⟩, Nat.le_refl _, by decide⟩
  refine wpList_append_k rfl _ _ 74 81 z 65 72 rfl Try.underlying74 Hz.out.1 Hz.out.2 (by decide) w.heap.size _ 0 f rfl hrow b off n c f rfl Hc.out H1.out (by omega) (by decide) (by simp) ?_
  intro v' w' hown hgr
  obtain ⟨av, cv, rfl⟩ := hown.slice
  have Hb := Lib.hid (hrow.below ((Below.refl _ w).alloc (Nat.le_refl _) (.cells #[] 81)) (by simp) (Nat.le_refl _) hgr)
  have hown2 := hown.congr (f' := f) (fun i hi => by rw [if_neg (by omega), Nat.zero_mul, Nat.sub_zero])
  rw [Nat.zero_add] at hown2
  have Ho := Lib.hid hown2
  have Hn := Lib.hid (show 0 + n = n from Nat.zero_add n)
  clear hrow hown hgr hown2
  rw [Hn.out]
  go_wp2
  go_ret
  exact ⟨_, rfl, Ho.out, Hb.out⟩

end Go.Proofs.Ytjhcaedfknhilaa
