/- Span: sanity. -/
import Derived.Test.YtlbohmfhdchabaaSpnLA
import Derived.Test.YtlbohmfhdchabaaSpnLB
namespace Go.Proofs.Ytlbohmfhdchabaa
open Go.RowKit

def sL1 : Lay := ⟨5, 3, fun i => if i = 0 then 4 else if i = 1 then 4 else 5, 2⟩
def sL2 : Lay := ⟨3, 2, fun i => if i = 0 then 5 else 9, 2⟩
theorem sL1_right : sL1.Right :=
  ⟨by decide, by decide, by decide, fun i hi => by
    have hi : i < 3 := hi
    obtain rfl | rfl | rfl : i = 0 ∨ i = 1 ∨ i = 2 := by omega
    all_goals decide, fun _ => by decide⟩
theorem sL2_right : sL2.Right :=
  ⟨by decide, by decide, by decide, fun i hi => by
    have hi : i < 2 := hi
    obtain rfl | rfl : i = 0 ∨ i = 1 := by omega
    all_goals decide, fun _ => by decide⟩
theorem sL1_size : sL1.size = 8 := by decide
theorem sL2_size : sL2.size = 8 := by decide
theorem sL1_has : sL1.has (1, 3) = true := by decide
theorem sL1_page : sL1.page (1, 3) = (5, 3) := by decide
theorem sL1_regn : sL1.regn = 2 := by decide
theorem sL1_memM : sL1.memM 1 = 2 := by decide
theorem sL1_cnt : sL1.state (cntB (fun i => decide (i = 1)) 3) = 2 := by decide
theorem sL1_same : sameSp (sL1.num') (sL1.at 5) 2 (fun i => if i = 0 then (2, 3) else (1, 3)) = true := by decide
theorem sL2_same : sameSp (sL2.num') (sL2.at 6) 1 (fun _ => (1, 2)) = true := by decide
theorem sL1_row : sL1.rowN = 2 ∧ sL1.rowF 5 0 = 5 ∧ sL1.rowF 5 1 = 7 := by decide
theorem sL1_mem : nthSpot (1 * sL1.C) 2 3 = (1, 3) := by decide

theorem keep_san {w w' : World} {gr capr gm capm : Nat} (hq : RowAt w gr 3 capr 2 (intsV (sL1.rowF 5))) (hm : RowAt w gm 45 (capm * 2) (sL1.n * 2 * 2) (spotV (nthSpot (1 * sL1.C) 2))) (hb : Below w.heap.size w w') :
    w'.cell? ⟨gr, 0, none⟩ = some (.int .i64 5) ∧ w'.cell? ⟨gr, 1, none⟩ = some (.int .i64 7) ∧ w'.cell? ⟨gm, 6, none⟩ = some (.int .i64 1) ∧ w'.cell? ⟨gm, 7, none⟩ = some (.int .i64 3) ∧ Below w.heap.size w w' := by
  have q0 := (hq.all hb).cell (i := 0) (by omega)
  have q1 := (hq.all hb).cell (i := 1) (by omega)
  unfold intsV at q0 q1
  rw [sL1_row.2.1] at q0
  rw [sL1_row.2.2] at q1
  obtain ⟨m0, m1⟩ := cells_spot (hm.all hb).reads (i := 3) (by decide)
  rw [sL1_mem] at m0 m1
  exact ⟨q0, q1, m0, m1, hb⟩

set_option maxHeartbeats 8000000 in
theorem sanity_any (w : World) : Calls Try.prog 13 #[] w fun e w' => e = .returned (.bool true) ∧ Below w.heap.size w w' := by
  have hi1 : IArg (w.alloc (.cells #[.int .i64 4, .int .i64 4, .int .i64 5] 3)) (.slice (some ⟨w.heap.size, 0, none⟩) 3 3) sL1.n sL1.M :=
    .inr ⟨_, 0, 3, rfl, by decide, by decide, by decide, (RowAt.new w #[.int .i64 4, .int .i64 4, .int .i64 5] 3 (intsV sL1.M) 3 (by simp) (fun i hi => by rcases i with _ | _ | _ | i <;> first | rfl | omega)).reads, fun i hi => by
      have h := sL1_right.mem i hi; omega⟩
  have hB1 : Below w.heap.size w (w.alloc (.cells #[.int .i64 4, .int .i64 4, .int .i64 5] 3)) := (Below.refl _ w).alloc (Nat.le_refl _) _
  go_enter Try.func13, Try.ntmps13
  go_wp2_with fail
  generalize w.alloc (.cells #[.int .i64 4, .int .i64 4, .int .i64 5] 3) = w1 at *
  refine (lay_any 5 2 _ 3 3 sL1.M _).mono ?_
  rintro e w2 ⟨rfl, hb⟩
  have I2 := Lib.hid (hi1.all hb)
  have HB2 := Lib.hid (hB1.trans (hb.mono hB1.size)); clear hi1 hB1 hb
  unfold layV
  have hr := (row3 w2 (.int .i64 5) (.slice (some ⟨w.heap.size, 0, none⟩) 3 3) (.int .i64 2) 24)
  have hb3 : Below w2.heap.size w2 (w2.alloc (.cells #[.int .i64 5, .slice (some ⟨w.heap.size, 0, none⟩) 3 3, .int .i64 2] 24)) := (Below.refl _ w2).alloc (Nat.le_refl _) _
  obtain ⟨c0, c1, c2⟩ := row3_cells hr
  have R3 := Lib.hid hr; clear hr
  have I3 := Lib.hid (I2.out.all hb3)
  have HB3 := Lib.hid (HB2.out.trans (hb3.mono HB2.out.size)); clear HB2 I2 hb3
  go_wp2_with fail
  generalize w2.alloc (.cells #[.int .i64 5, .slice (some ⟨w.heap.size, 0, none⟩) 3 3, .int .i64 2] 24) = w3 at *
  refine (Size_any sL1 _ w3 I3.out).mono ?_
  rintro e w4 ⟨(⟨-, rfl⟩ | ⟨hn, -⟩), hb⟩
  rotate_left 1
  · exact absurd sL1_right hn
  rw [sL1_size]
  clear c0 c1 c2
  have hr := R3.out.all hb
  obtain ⟨c0, c1, c2⟩ := row3_cells hr
  have R4 := Lib.hid hr; clear hr
  have I4 := Lib.hid (I3.out.all hb)
  have HB4 := Lib.hid (HB3.out.trans (hb.mono HB3.out.size))
  clear hb R3 I3 HB3
  go_wp2_with fail
  refine (Place_any sL1 _ 5 w4 I4.out).mono ?_
  rintro e w5 ⟨(⟨-, -, -, v, rfl, hS⟩ | ⟨-, hn, -⟩ | ⟨hn, -⟩), hb⟩
  rotate_left 1
  · exact absurd (by rw [sL1_size]; decide) hn
  · exact absurd sL1_right hn
  obtain ⟨av, cv, rfl⟩ := hS.slice
  have A5 := Lib.hid hS.at; clear hS
  clear c0 c1 c2
  have hr := R4.out.all hb
  obtain ⟨c0, c1, c2⟩ := row3_cells hr
  have R5 := Lib.hid hr; clear hr
  have I5 := Lib.hid (I4.out.all hb)
  have HB5 := Lib.hid (HB4.out.trans (hb.mono HB4.out.size))
  clear hb R4 I4 HB4
  have hi2 : IArg (w5.alloc (.cells #[.int .i64 5, .int .i64 9] 3)) (.slice (some ⟨w5.heap.size, 0, none⟩) 2 2) sL2.n sL2.M :=
    .inr ⟨_, 0, 2, rfl, by decide, by decide, by decide, (RowAt.new w5 #[.int .i64 5, .int .i64 9] 3 (intsV sL2.M) 2 (by simp) (fun i hi => by rcases i with _ | _ | i <;> first | rfl | omega)).reads, fun i hi => by
      have h := sL2_right.mem i hi; omega⟩
  have hb6 : Below w5.heap.size w5 (w5.alloc (.cells #[.int .i64 5, .int .i64 9] 3)) := (Below.refl _ w5).alloc (Nat.le_refl _) _
  have I26 := Lib.hid hi2; clear hi2
  have Hb6 := Lib.hid hb6; clear hb6
  go_wp2_with fail
  generalize w5.alloc (.cells #[.int .i64 5, .int .i64 9] 3) = w6 at *
  refine (lay_any 3 2 _ 2 2 sL2.M _).mono ?_
  rintro e w7 ⟨rfl, hb7⟩
  unfold layV
  have I27 := Lib.hid (I26.out.all hb7)
  have hb := Hb6.out.trans (hb7.mono Hb6.out.size)
  clear I26 Hb6 hb7 c0 c1 c2
  have hr := R5.out.all hb
  obtain ⟨c0, c1, c2⟩ := row3_cells hr
  have R7 := Lib.hid hr; clear hr
  have I7 := Lib.hid (I5.out.all hb)
  have HB7 := Lib.hid (HB5.out.trans (hb.mono HB5.out.size))
  have A7 := Lib.hid (A5.out.all hb)
  clear hb R5 I5 HB5 A5
  go_wp2_with fail
  refine (Place_any sL2 _ 6 w7 I27.out).mono ?_
  rintro e w8 ⟨(⟨-, -, -, v, rfl, hS⟩ | ⟨-, hn, -⟩ | ⟨hn, -⟩), hb⟩
  rotate_left 1
  · exact absurd (by rw [sL2_size]; decide) hn
  · exact absurd sL2_right hn
  obtain ⟨a2, cap2, rfl⟩ := hS.slice
  have B8 := Lib.hid hS.at; clear hS I27
  clear c0 c1 c2
  have hr := R7.out.all hb
  obtain ⟨c0, c1, c2⟩ := row3_cells hr
  have R8 := Lib.hid hr; clear hr
  have I8 := Lib.hid (I7.out.all hb)
  have HB8 := Lib.hid (HB7.out.trans (hb.mono HB7.out.size))
  have A8 := Lib.hid (A7.out.all hb)
  clear hb R7 I7 HB7 A7
  go_wp2_with fail
  refine (Row_any sL1 _ 5 w8 I8.out).mono ?_
  rintro e w9 ⟨(⟨-, -, -, v, rfl, hS⟩ | ⟨-, hn, -⟩ | ⟨hn, -⟩), hb⟩
  rotate_left 1
  · exact absurd (by rw [sL1_size]; decide) hn
  · exact absurd sL1_right hn
  rw [sL1_row.1] at hS
  obtain ⟨gr, capr, rfl, -, hrow, -⟩ := hS.row (by omega)
  have Q9 := Lib.hid hrow; clear hS hrow
  clear c0 c1 c2
  have hr := R8.out.all hb
  obtain ⟨c0, c1, c2⟩ := row3_cells hr
  have R9 := Lib.hid hr; clear hr
  have I9 := Lib.hid (I8.out.all hb)
  have HB9 := Lib.hid (HB8.out.trans (hb.mono HB8.out.size))
  have A9 := Lib.hid (A8.out.all hb)
  have B9 := Lib.hid (B8.out.all hb)
  clear hb R8 I8 HB8 A8 B8
  go_upto_region 6 with fail
  have hd : Below w9.heap.size w9 w9.drew := (Below.refl _ w9).drew
  go_region_held (fun w' => w'.cell? ⟨w2.heap.size, 0, none⟩ = some (.int .i64 5) ∧ w'.cell? ⟨w2.heap.size, 1, none⟩ = some (.slice (some ⟨w.heap.size, 0, none⟩) 3 3) ∧ w'.cell? ⟨w2.heap.size, 2, none⟩ = some (.int .i64 2) ∧ Below w9.heap.size w9 w') (exact keep3 R9.out (by assumption))
    (first | (go_at_call 25; refine (spot_any 1 3 _).mono ?_; rintro e wz ⟨rfl, hbz⟩; replace hd := hd.trans (hbz.mono hd.size)) | (go_at_call 24; refine (Page_any sL1 _ (1, 3) _ (I9.out.all hd)).mono ?_; rintro e w10 ⟨hcase, hbz⟩; replace hcase := (hcase.resolve_right (fun h => h.elim (fun h => absurd h.2.1 (by rw [sL1_has]; decide)) (fun h => absurd sL1_right h.1))).2.2; subst hcase; rw [sL1_page]; replace hd := hd.trans (hbz.mono hd.size)))
  have hb := hd
  clear c0 c1 c2 hd
  have hr := R9.out.all hb
  obtain ⟨c0, c1, c2⟩ := row3_cells hr
  have R10 := Lib.hid hr; clear hr
  have I10 := Lib.hid (I9.out.all hb)
  have HB10 := Lib.hid (HB9.out.trans (hb.mono HB9.out.size))
  have A10 := Lib.hid (A9.out.all hb)
  have B10 := Lib.hid (B9.out.all hb)
  have Q10 := Lib.hid (Q9.out.all hb)
  clear hb R9 I9 HB9 A9 B9 Q9
  go_wp2_with fail
  refine (Members_any sL1 _ 1 w10 I10.out).mono ?_
  rintro e w11 ⟨(⟨-, -, -, v, rfl, hS⟩ | ⟨-, hn, -⟩ | ⟨hn, -⟩), hb⟩
  rotate_left 1
  · exact absurd (by rw [sL1_regn]; decide) hn
  · exact absurd sL1_right hn
  rw [sL1_memM] at hS
  obtain ⟨gm, capm, rfl, -, hmr, -, -⟩ := hS.row (by decide)
  have M11 := Lib.hid hmr; clear hS hmr
  clear c0 c1 c2
  have hr := R10.out.all hb
  obtain ⟨c0, c1, c2⟩ := row3_cells hr
  have R11 := Lib.hid hr; clear hr
  have I11 := Lib.hid (I10.out.all hb)
  have HB11 := Lib.hid (HB10.out.trans (hb.mono HB10.out.size))
  have A11 := Lib.hid (A10.out.all hb)
  have B11 := Lib.hid (B10.out.all hb)
  have Q11 := Lib.hid (Q10.out.all hb)
  clear hb R10 I10 HB10 A10 B10 Q10
  have hbv : BArg (w11.alloc (.cells #[.bool false, .bool true, .bool false] 4)) (.slice (some ⟨w11.heap.size, 0, none⟩) 3 3) 3 (fun i => decide (i = 1)) :=
    .inr ⟨_, 0, 3, rfl, by decide, (RowAt.new w11 #[.bool false, .bool true, .bool false] 4 (boolsV (fun i => decide (i = 1))) 3 (by simp) (fun i hi => by rcases i with _ | _ | _ | i <;> first | rfl | omega)).reads⟩
  have hb12 : Below w11.heap.size w11 (w11.alloc (.cells #[.bool false, .bool true, .bool false] 4)) := (Below.refl _ w11).alloc (Nat.le_refl _) _
  have I12 := Lib.hid (I11.out.all hb12)
  have BV := Lib.hid hbv; clear hbv
  have Hb12 := Lib.hid hb12; clear hb12
  go_wp2_with fail
  refine (State_any sL1 _ _ 3 _ _ I12.out BV.out (by decide)).mono ?_
  rintro e w13 ⟨(⟨-, -, rfl⟩ | ⟨hn, -⟩), hb13⟩
  rotate_left 1
  · exact absurd ⟨sL1_right, rfl⟩ hn
  rw [sL1_cnt]
  have hb := Hb12.out.trans (hb13.mono Hb12.out.size)
  clear Hb12 hb13 I12 BV c0 c1 c2
  have hr := R11.out.all hb
  obtain ⟨c0, c1, c2⟩ := row3_cells hr
  have R13 := Lib.hid hr; clear hr
  have I13 := Lib.hid (I11.out.all hb)
  have HB13 := Lib.hid (HB11.out.trans (hb.mono HB11.out.size))
  have A13 := Lib.hid (A11.out.all hb)
  have B13 := Lib.hid (B11.out.all hb)
  have Q13 := Lib.hid (Q11.out.all hb)
  have M13 := Lib.hid (M11.out.all hb)
  clear hb R11 I11 HB11 A11 B11 Q11 M11
  clear c0 c1 c2
  have q0 := Q13.out.cell (i := 0) (by omega)
  have q1 := Q13.out.cell (i := 1) (by omega)
  unfold intsV at q0 q1
  rw [sL1_row.2.1] at q0
  rw [sL1_row.2.2] at q1
  obtain ⟨m0, m1⟩ := cells_spot M13.out.reads (i := 3) (by decide)
  rw [sL1_mem] at m0 m1
  go_upto_region 11 with fail
  have hd : Below w13.heap.size w13 w13.drew := (Below.refl _ w13).drew
  have hcmp : ∀ w, (Op.equalIn 10000 45 (.agg #[.int .i64 1, .int .i64 3]) (.agg #[.int .i64 1, .int .i64 3])).run Try.prog w = .ok true w := fun w => equalIn_spot 1 3 1 3 w
  have hgd := guard_spot
  clear q0 q1 m0 m1
  have hs1 := sL1_same
  have hs2 := sL2_same
  have hn1 : sL1.num' ≤ 1000000 := by decide
  have hn2 : sL2.num' ≤ 1000000 := by decide
  generalize sL1.num' = n1 at *
  generalize sL2.num' = n2 at *
  generalize sL1.at 5 = f1 at *
  generalize sL2.at 6 = f2 at *
  have Hs1 := Lib.hid hs1; clear hs1
  have Hs2 := Lib.hid hs2; clear hs2
  go_region_held (fun w' => w'.cell? ⟨gr, 0, none⟩ = some (.int .i64 5) ∧ w'.cell? ⟨gr, 1, none⟩ = some (.int .i64 7) ∧ w'.cell? ⟨gm, 6, none⟩ = some (.int .i64 1) ∧ w'.cell? ⟨gm, 7, none⟩ = some (.int .i64 3) ∧ Below w13.heap.size w13 w') (first | exact keep_san Q13.out M13.out hd | exact keep_san Q13.out M13.out (below_alloc1 hd _))
    (first | (go_at_call 25; refine (spot_any _ _ _).mono ?_; rintro e wz ⟨rfl, hbz⟩; replace hd := hd.trans (hbz.mono hd.size)) | (have := done1; go_at_call 20; refine (Same_any _ _ n2 1 f2 (fun _ => (1, 2)) _ (B13.out.all (below_alloc1 hd _)) (spots1 _ 1 2).at hn2 (by decide)).mono ?_; rintro e wz ⟨rfl, hbz⟩; rw [Hs2.out]; replace hd := (below_alloc1 hd _).trans (hbz.mono (below_alloc1 hd _).size)) | (go_at_call 20; refine (Same_any _ _ n1 2 f1 (fun i => if i = 0 then (2, 3) else (1, 3)) _ (A13.out.all (below_alloc1 hd _)) (spots2 _ 2 3 1 3).at hn1 (by decide)).mono ?_; rintro e wz ⟨rfl, hbz⟩; rw [Hs1.out]; replace hd := (below_alloc1 hd _).trans (hbz.mono (below_alloc1 hd _).size); have done1 := True.intro))
  all_goals
    go_wp2
    go_ret
    exact ⟨rfl, HB13.out.trans (hd.mono HB13.out.size)⟩

end Go.Proofs.Ytlbohmfhdchabaa
