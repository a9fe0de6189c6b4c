/- DiskNew. -/
import Derived.Test.YtjhcaedfknhilaaRefB
namespace Go.Proofs.Ytjhcaedfknhilaa
open Go.RowKit
attribute [local go_sem ↓] Go.wp_at_zero Go.wp_at_succ
attribute [-go_sem] loadCellsFrom storeCells
attribute [local go_sem] storeCells_one

theorem none_false (n : Nat) : ((List.range n).filter fun _ => false) = [] := List.filter_eq_nil_iff.2 fun _ _ => by simp
theorem newDev_same (n : Nat) : (Dsk.zero n).dev.Same (newDev n) where
  n := rfl
  data := fun _ _ => rfl
  q := rfl
  qa := fun i hi => absurd hi (Nat.not_lt_zero i)
  ql := fun i hi => absurd hi (Nat.not_lt_zero i)
  qb := fun i hi => absurd hi (Nat.not_lt_zero i)
  m := by
    show 0 = ((List.range n).filter fun _ => false).length
    rw [none_false]
    rfl
  bad := fun i hi => by
    have h9 : i < ((List.range n).filter fun _ => false).length := hi
    rw [none_false] at h9
    exact absurd h9 (Nat.not_lt_zero i)
  dead := rfl
  armed := rfl
  left := rfl

set_option maxHeartbeats 2000000 in
theorem DiskNew_any (n : Int) (hn : -9223372036854775808 ≤ n ∧ n ≤ 9223372036854775807) (w : World) : Calls Try.prog 3 #[.int .i64 n] w fun e w' => e = .returned (.bool true) ∧ Below w.heap.size w w' := by
  by_cases h : 1 ≤ n ∧ n ≤ 4096
  · obtain ⟨k, rfl⟩ : ∃ k : Nat, n = k := ⟨n.toNat, by omega⟩
    have hk : 1 ≤ k ∧ k ≤ 4096 := by omega
    go_enter Try.func3, Try.ntmps3
    go_wp2_with fail
    refine (New_ok k hk w).mono ?_
    rintro e w1 ⟨g, gs, gb, rfl, hd, hb⟩
    have HD1 := Lib.hid hd
    have HB1 := Lib.hid hb
    clear hd hb
    have d1 : decide ((k : Int) < 1) = false := decide_eq_false (by omega)
    have d2 : decide ((k : Int) > 4096) = false := decide_eq_false (by omega)
    go_wp2_with fail
    refine (State_any w1 HD1.out).mono ?_
    rintro e w2 ⟨dv, qv, bv, rfl, hd, hb⟩
    obtain ⟨dx, dc, rfl, -⟩ := hd.data.slice
    obtain ⟨qx, qc, rfl, -⟩ := hd.queue.slice
    obtain ⟨bx, bc, rfl, -⟩ := hd.bad.slice
    have hst := storeC_dev w2 #[.slice none 0 0, .slice none 0 0, .slice none 0 0, .bool false, .bool false, .int .i64 0] rfl _ _ _ _ _ _ (six_one (a := .slice dx (Dsk.zero k).dev.n dc) (b := .slice qx (Dsk.zero k).dev.q qc) (c := .slice bx (Dsk.zero k).dev.m bc) (d := .bool (Dsk.zero k).dev.dead) (e := .bool (Dsk.zero k).dev.armed) (f := .int .i64 (Dsk.zero k).dev.left) rfl rfl rfl rfl rfl rfl)
    have hr3 := row_six w2 (.slice dx (Dsk.zero k).dev.n dc) (.slice qx (Dsk.zero k).dev.q qc) (.slice bx (Dsk.zero k).dev.m bc) (.bool (Dsk.zero k).dev.dead) (.bool (Dsk.zero k).dev.armed) (.int .i64 (Dsk.zero k).dev.left) 31
    have HD2 := Lib.hid (hd.all ((Below.refl _ w2).alloc (Nat.le_refl _) (.cells #[.slice dx (Dsk.zero k).dev.n dc, .slice qx (Dsk.zero k).dev.q qc, .slice bx (Dsk.zero k).dev.m bc, .bool (Dsk.zero k).dev.dead, .bool (Dsk.zero k).dev.armed, .int .i64 (Dsk.zero k).dev.left] 31)))
    have HB3 := Lib.hid ((HB1.out.trans (hb.mono HB1.out.size)).alloc (Nat.le_trans HB1.out.size hb.size) (.cells #[.slice dx (Dsk.zero k).dev.n dc, .slice qx (Dsk.zero k).dev.q qc, .slice bx (Dsk.zero k).dev.m bc, .bool (Dsk.zero k).dev.dead, .bool (Dsk.zero k).dev.armed, .int .i64 (Dsk.zero k).dev.left] 31))
    clear hd hb HD1 HB1
    generalize hX : (Dsk.zero k).dev = X at *
    have HS := Lib.hid (show X.Same (newDev k) from hX ▸ newDev_same k)
    clear hX
    unfold devV
    go_upto_region 7 with fail
    clear hst
    generalize w2.alloc (.cells #[.slice dx X.n dc, .slice qx X.q qc, .slice bx X.m bc, .bool X.dead, .bool X.armed, .int .i64 X.left] 31) = w3 at *
    have HR3 := Lib.hid hr3
    clear hr3
    have hd3 : Below w3.heap.size w3 w3.drew := (Below.refl _ w3).drew
    go_region_held (fun w' => (loadCellsFrom ⟨w2.heap.size, 0, none⟩ 0 6 #[]).run Try.prog w' = .ok #[.slice dx X.n dc, .slice qx X.q qc, .slice bx X.m bc, .bool X.dead, .bool X.armed, .int .i64 X.left] w' ∧ Below w3.heap.size w3 w')
      (exact ⟨loadC_dev (HR3.out.all (by assumption)), by assumption⟩)
      (first | (go_at_call 10; refine (sane_any _).mono ?_; rintro e w4 ⟨rfl, hb⟩; have hb4 := hd3.trans (hb.mono hd3.size); clear hb) | (go_at_call 13; refine (RefNew_any 0 k hk _).mono ?_; rintro e w5 ⟨dv5, qv5, bv5, rfl, hdn, hb⟩; have hb5 := hb4.trans (hb.mono hb4.size); clear hb) | (go_at_call 12; refine (Same_yes _ (HD2.out.all hb5) hdn HS.out).mono ?_; rintro e w6 ⟨rfl, hb⟩; have hb6 := hb5.trans (hb.mono hb5.size); clear hb))
    go_wp2
    go_ret
    exact ⟨rfl, HB3.out.trans (hb6.mono HB3.out.size)⟩
  · have hdec : (decide (n < 1) = true) ∨ (decide (n < 1) = false ∧ decide (n > 4096) = true) := by
      by_cases h1 : n < 1
      · exact .inl (decide_eq_true h1)
      · exact .inr ⟨decide_eq_false h1, decide_eq_true (by omega)⟩
    go_enter Try.func3, Try.ntmps3
    go_wp2_with fail
    refine (New_bad n h w).mono ?_
    rintro e w1 ⟨rfl, hb⟩
    rcases hdec with d1 | ⟨d1, d2⟩
    all_goals
      go_wp2_with fail
      refine (sane_any _).mono ?_
      rintro e w2 ⟨rfl, hb2⟩
      go_wp2_with fail
      go_ret
      exact ⟨rfl, hb.trans (hb2.mono hb.size)⟩

end Go.Proofs.Ytjhcaedfknhilaa
