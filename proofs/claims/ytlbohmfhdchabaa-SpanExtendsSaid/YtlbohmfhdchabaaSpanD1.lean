/- Span: of, layouts of one kind (plain). -/
import Derived.Test.YtlbohmfhdchabaaSpanC
namespace Go.Proofs.Ytlbohmfhdchabaa
open Go.RowKit

set_option maxHeartbeats 2000000 in
theorem of_plain (n : Nat) (M : Nat → Int) (C : Int) (sl : Value) (w : World) (hs : IArg w sl n M) (hC : 1 ≤ C ∧ C ≤ 64) :
    Calls Try.prog 42 #[layV ⟨1, n, M, C⟩ sl] w (OfR ⟨1, n, M, C⟩ sl w) := by
  have hR0 : (Lay.mk 1 n M C).lo = 1 ∧ (Lay.mk 1 n M C).hi = 1 := ⟨rfl, rfl⟩
  have hnum : (Lay.mk 1 n M C).Right → (1 : Int) ≤ n ∧ (n : Int) ≤ 1 := fun h => h.num
  have Hnum := Lib.hid hnum; clear hnum hR0
  have hs0 := Lib.hid hs; clear hs
  obtain ⟨a, cap, rfl⟩ := hs0.out.slice
  unfold layV
  go_enter Try.func42, Try.ntmps42
  go_wp2_with fail
  have r0 := row3 w (.int .i64 1) (.slice a n cap) (.int .i64 C) 24
  have hB : Below w.heap.size w (w.alloc (.cells #[.int .i64 1, .slice a n cap, .int .i64 C] 24)) := (Below.refl _ w).alloc (Nat.le_refl _) _
  generalize hW : w.alloc (.cells #[.int .i64 1, .slice a n cap, .int .i64 C] 24) = W at *
  clear hW
  have c0 := r0.cell (i := 0) (by omega)
  simp only [st3, if_pos] at c0
  have hd : Below W.heap.size W W.drew := (Below.refl _ W).drew
  have hm := fun (w : World) (b : Nat) (h : w.heap[b]? = some kindsObj) => lookup_hit h 1 (by omega)
  simp only [kindT, Int.reduceEq, if_true, if_false] at hm
  have Hm := Lib.hid hm; clear hm
  go_region_held (fun w' => w'.cell? ⟨w.heap.size, 0, none⟩ = some (.int .i64 1) ∧ Below W.heap.size W w') (exact ⟨(r0.all (by assumption)).cell (i := 0) (by omega), by assumption⟩) (first | (go_at_call 51; refine (kinds_p _).mono ?_; rintro e w4 ⟨b, rfl, hb4, hB4⟩; have hl := Hm.out _ b hb4; replace hd := hd.trans hB4))
  have r4 := r0.all hd
  have c1 := r4.cell (i := 2) (by omega)
  have c2 := r4.cell (i := 1) (by omega)
  simp only [st3] at c1 c2
  go_wp2_with fail
  refine (bounds1_any _).mono ?_
  rintro e w5 ⟨rfl, hB5⟩
  have hd5 := hd.trans (hB5.mono hd.size)
  have r5 := r0.all hd5
  have c3 := r5.cell (i := 0) (by omega)
  have c4 := r5.cell (i := 1) (by omega)
  have c5 := r5.cell (i := 2) (by omega)
  simp only [st3] at c3 c4 c5
  by_cases hn : (1 : Int) ≤ n ∧ (n : Int) ≤ 1
  · obtain ⟨hn1, hn2⟩ := hn
    rcases hs0.out with ⟨h0, _⟩ | ⟨b1, off, cap1, heq, h0, hcap, hmax, hcells, hrange⟩
    · omega
    simp only [Value.slice.injEq, true_and] at heq
    obtain ⟨rfl, rfl⟩ := heq
    have Hrange := Lib.hid hrange; clear hrange
    have Hcells := Lib.hid (hcells.all (hB.trans (hd5.mono hB.size))); clear hcells
    rcases hany : anyB (fun i => (decide (M i < 1) || decide (4096 < M i))) n with _ | _
    · have hmem : ∀ i, i < n → 1 ≤ M i ∧ M i ≤ 4096 := fun i hi => by
        have := anyB_false.1 hany i hi
        simp only [Bool.or_eq_false_iff, decide_eq_false_iff_not] at this
        omega
      have Hmem := Lib.hid hmem; clear hmem
      go_wp2_with fail
      refine (containsInts_any _ _ _ _ _ _ (by omega) Hcells.out).mono ?_
      rintro e w' ⟨rfl, rfl⟩
      rw [hany]
      go_wp2_with fail
      have hd6 : Below w5.heap.size w5 w5.drew := (Below.refl _ w5).drew
      go_region_held (fun w' => w'.cell? ⟨w.heap.size, 0, none⟩ = some (.int .i64 1) ∧ w'.cell? ⟨w.heap.size, 1, none⟩ = some (.slice (some ⟨b1, off, none⟩) n cap) ∧ w'.cell? ⟨w.heap.size, 2, none⟩ = some (.int .i64 C) ∧ Below w5.heap.size w5 w') (first | exact keep3 r5 hd6 | exact keep3 r5 (below_alloc1 hd6 _)) (first | (go_at_call 54; refine (minInts_any _ _ _ _ _ _ (by omega) (by omega) (Hcells.out.all hd6)).mono ?_; rintro e w7 ⟨rfl, rfl⟩))
      have hm1 : 1 ≤ minI M (n - 1) ∧ minI M (n - 1) ≤ 4096 := ⟨minI_ge _ _ _ (fun i hi => (Hmem.out i (by omega)).1), Int.le_trans (minI_le _ _ 0 (by omega)) (Hmem.out 0 (by omega)).2⟩
      have hkd : (Lay.mk 1 n M C).k = minI M (n - 1) - Int.tmod (minI M (n - 1)) C := by
        show minI M (n - 1) - minI M (n - 1) % C = _
        rw [Int.tmod_eq_emod_of_nonneg (by omega)]
      have Hkd := Lib.hid hkd; clear hkd
      have hmd : (Lay.mk 1 n M C).m = minI M (n - 1) := rfl
      have Hmd := Lib.hid hmd; clear hmd
      have hmod : 0 ≤ Int.tmod (minI M (n - 1)) C ∧ Int.tmod (minI M (n - 1)) C ≤ minI M (n - 1) := by
        rw [Int.tmod_eq_emod_of_nonneg (by omega)]
        have h1 := Int.emod_nonneg (minI M (n - 1)) (b := C) (by omega)
        have h2 := Int.mul_nonneg (Int.ediv_nonneg (a := minI M (n - 1)) (b := C) (by omega) (by omega)) (show 0 ≤ C by omega)
        have h3 := Int.ediv_mul_add_emod (minI M (n - 1)) C
        omega
      generalize minI M (n - 1) = m at *
      have g8 := (RowAt.new w5 #[.int .i64 1, .slice (some ⟨b1, off, none⟩) n cap, .int .i64 C, .int .i64 n, .int .i64 m, .int .i64 0, .iface 89 (.agg #[])] 70 (geo0 1 (.slice (some ⟨b1, off, none⟩) n cap) C n m 0 89) 7 (by simp) (fun i hi => by rcases i with _ | _ | _ | _ | _ | _ | _ | i <;> first | rfl | omega)).drewN 1
      have r8 := (r5.alloc (.cells #[.int .i64 1, .slice (some ⟨b1, off, none⟩) n cap, .int .i64 C, .int .i64 n, .int .i64 m, .int .i64 0, .iface 89 (.agg #[])] 70)).drewN 1
      have hB8 : Below w5.heap.size w5 (w5.alloc (.cells #[.int .i64 1, .slice (some ⟨b1, off, none⟩) n cap, .int .i64 C, .int .i64 n, .int .i64 m, .int .i64 0, .iface 89 (.agg #[])] 70)).drew := ((Below.refl _ w5).alloc (Nat.le_refl _) _).drew
      have g8' : RowAt (w5.alloc (.cells #[.int .i64 1, .slice (some ⟨b1, off, none⟩) n cap, .int .i64 C, .int .i64 n, .int .i64 m, .int .i64 0, .iface 89 (.agg #[])] 70)).drew w5.heap.size 70 7 7 (geo0 1 (.slice (some ⟨b1, off, none⟩) n cap) C n m 0 89) := g8
      have r8' : RowAt (w5.alloc (.cells #[.int .i64 1, .slice (some ⟨b1, off, none⟩) n cap, .int .i64 C, .int .i64 n, .int .i64 m, .int .i64 0, .iface 89 (.agg #[])] 70)).drew w.heap.size 24 3 3 (st3 (.int .i64 1) (.slice (some ⟨b1, off, none⟩) n cap) (.int .i64 C)) := r8
      clear g8 r8
      generalize hW8 : (w5.alloc (.cells #[.int .i64 1, .slice (some ⟨b1, off, none⟩) n cap, .int .i64 C, .int .i64 n, .int .i64 m, .int .i64 0, .iface 89 (.agg #[])] 70)).drew = W8 at *
      have hlt5 : w.heap.size < w5.heap.size := r5.lt
      have r9 := ((r8'.drewN 1).setOther ⟨w5.heap.size, 5, none⟩ (.int .i64 (IntKind.i64.wrap (m - Int.tmod m C))) (by show w5.heap.size ≠ w.heap.size; omega))
      have g9 := (g8'.drewN 1).geoSet (IntKind.i64.wrap (m - Int.tmod m C))
      have hB9 : Below w5.heap.size w5 ((W8.drewN 1).setCell ⟨w5.heap.size, 5, none⟩ (.int .i64 (IntKind.i64.wrap (m - Int.tmod m C)))) := (hB8.trans (below_drewN _ W8 1)).setCell (Nat.le_refl _) _
      have ⟨k1, k2, k3, k4⟩ := keepG g8'
      have hC0 : C ≠ 0 := by omega
      clear hW8 r5 r8' c3 c4 c5 r4 c1 c2
      go_upto_region 8 with fail
      go_region_held (fun w' => w'.cell? ⟨w5.heap.size, 2, none⟩ = some (.int .i64 C) ∧ w'.cell? ⟨w5.heap.size, 4, none⟩ = some (.int .i64 m)) (first | exact ⟨(keepG (g8'.drewN 1)).1, (keepG (g8'.drewN 1)).2.1⟩ | exact ⟨(keepG g9).1, (keepG g9).2.1⟩) (fail)
      have ht9 : (W8.setCell ⟨w5.heap.size, 5, none⟩ (.int .i64 (IntKind.i64.wrap (m - Int.tmod m C)))).drew = (W8.drewN 1).setCell ⟨w5.heap.size, 5, none⟩ (.int .i64 (IntKind.i64.wrap (m - Int.tmod m C))) := rfl
      rw [ht9]
      clear ht9
      generalize (W8.drewN 1).setCell ⟨w5.heap.size, 5, none⟩ (.int .i64 (IntKind.i64.wrap (m - Int.tmod m C))) = W9 at *
      rw [IntWalk.i64_in _ (by omega), ← Hkd.out] at g9
      clear hmod k1 k2 k3 k4 g8'
      have hgeo : RowAt W9 w5.heap.size 70 7 7 (geoV ⟨1, n, M, C⟩ (.slice (some ⟨b1, off, none⟩) n cap)) := by
        have := g9
        rw [← Hmd.out] at this
        exact this
      have hBB : Below w.heap.size w W9 := hB.trans ((hd5.trans (hB9.mono hd5.size)).mono hB.size)
      have hgw : w.heap.size ≤ w5.heap.size := Nat.le_of_lt hlt5
      have q5 : W9.cell? ⟨w5.heap.size, 5, none⟩ = some (.int .i64 (Lay.mk 1 n M C).k) := g9.cell (i := 5) (by omega)
      have q0 : W9.cell? ⟨w.heap.size, 0, none⟩ = some (.int .i64 1) := r9.cell (i := 0) (by omega)
      have hcmp : ((Lay.mk 1 n M C).k == 0) = true ∨ ((Lay.mk 1 n M C).k == 0) = false := by cases ((Lay.mk 1 n M C).k == 0) <;> simp
      generalize (Lay.mk 1 n M C).k = kk at *
      have hR : (Lay.mk 1 n M C).Right := ⟨⟨by show (1 : Int) ≤ 1; omega, by show (1 : Int) ≤ 5; omega⟩, hC, ⟨hn1, hn2⟩, fun i hi => Hmem.out i hi, fun h => by have h : (1 : Int) = 3 ∨ (1 : Int) = 5 := h; omega⟩
      have HR := Lib.hid hR; clear hR
      clear Hkd Hmd
      rcases hcmp with hcmp | hcmp
      all_goals
        go_wp2
        go_ret
        exact ⟨hBB, .inl ⟨HR.out, _, rfl, hgw, hgeo⟩⟩
    · have hbad : ¬ (Lay.mk 1 n M C).Right := fun h => by
        obtain ⟨i, hi, hb⟩ := anyB_true.1 hany
        have := h.mem i hi
        simp only [Bool.or_eq_true, decide_eq_true_eq] at hb
        simp only at this
        omega
      have Hbad := Lib.hid hbad; clear hbad
      go_wp2_with fail
      refine (containsInts_any _ _ _ _ _ _ (by omega) Hcells.out).mono ?_
      rintro e w' ⟨rfl, rfl⟩
      rw [hany]
      go_wp2
      go_ret
      exact ⟨hB.trans (hd5.mono hB.size), .inr ⟨Hbad.out, rfl⟩⟩
  · have hn' : (n : Int) < 1 ∨ (1 : Int) ≤ n ∧ (1 : Int) < n := by omega
    have Hbad := Lib.hid (fun h => hn (Hnum.out h)); clear hn
    rcases hn' with hn1 | ⟨hn1, hn2⟩
    all_goals
      go_wp2
      go_ret
      exact ⟨hB.trans (hd5.mono hB.size), .inr ⟨Hbad.out, rfl⟩⟩

end Go.Proofs.Ytlbohmfhdchabaa
