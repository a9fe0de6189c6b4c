/- Span: the reference's Least and Size. -/
import Derived.Test.YtlbohmfhdchabaaSpanP
namespace Go.Proofs.Ytlbohmfhdchabaa
open Go.RowKit

set_option maxHeartbeats 1000000 in
theorem rLeast_any (L : Lay) (sl : Value) (w : World) (hs : IArg w sl L.n L.M) (h0 : 0 < L.n) (hn : L.n ≤ 1000) :
    Calls Try.prog 44 #[layV L sl] w fun e w' => e = .returned (.int .i64 L.m) ∧ Below w.heap.size w w' := by
  obtain ⟨hW, hr, hB⟩ := lay_setup hs
  obtain ⟨c0, c1, c2⟩ := row3_cells hr
  obtain ⟨a, cap, rfl⟩ := hs.slice
  obtain ⟨b, off, cap1, heq, hcells⟩ : ∃ b off cap1, Value.slice a L.n cap = .slice (some ⟨b, off, none⟩) L.n cap1 ∧ Cells (w.alloc (.cells #[.int .i64 L.K, .slice a L.n cap, .int .i64 L.C] 24)) b off L.n (intsV L.M) := by
    rcases hW with ⟨h0, _⟩ | ⟨b, off, cap1, heq, h0, hcap, hmax, hcells, hrange⟩
    · omega
    · exact ⟨b, off, cap1, heq, hcells⟩
  simp only [Value.slice.injEq, true_and] at heq
  obtain ⟨rfl, rfl⟩ := heq
  have hc0 := hcells 0 h0
  simp only [intsV, Nat.add_zero] at hc0
  have HC := Lib.hid hcells; clear hcells hs hr
  have hm : L.m = minI L.M (L.n - 1) := rfl
  rw [hm]; clear hm
  unfold layV
  go_enter Try.func44, Try.ntmps44
  go_wp2_with fail
  go_loop [4, 3] (fun t u => ∃ k : Nat, k < L.n ∧ t = .int .i64 (k + 1 : Nat) ∧ u = .int .i64 (minI L.M k)) (fun t _ => L.n - (intOf t).toNat)
  case atStart => exact ⟨0, by omega, rfl, rfl⟩
  case round =>
    obtain ⟨k, hk, rfl, rfl⟩ := hrel
    by_cases hlt : k + 1 < L.n
    · have hcell := HC.out (k + 1) hlt
      unfold intsV at hcell
      go_wp2_with fail
      go_round
      case rel => exact ⟨k + 1, by omega, by go_num, by
        simp only [Value.int.injEq, true_and, minI]
        split <;> omega⟩
      case measure => simp [intOf]; omega
    · have hk1 : k = L.n - 1 := by omega
      have hx : L.n ≤ k + 1 := by omega
      have Hk1 := Lib.hid hk1; clear hk1
      go_wp2_with fail
      go_ret
      refine ⟨?_, hB⟩
      rw [← Hk1.out]
      rfl

theorem Lay.Right.kdiv {L : Lay} (h : L.Right) : IntKind.i64.wrap (Int.tdiv L.m L.C) = L.m / L.C ∧ IntKind.i64.wrap (L.m / L.C * L.C) = L.k := by
  have hm := h.mle
  have hC := h.chunk
  have hk := h.kle
  exact ⟨IntWalk.i64_quo _ _ (by omega), by rw [← hk.2.2]; exact IntWalk.i64_in _ (by omega)⟩

set_option maxHeartbeats 4000000 in
theorem rSize_any (L : Lay) (sl : Value) (w : World) (hs : IArg w sl L.n L.M) (hR : L.Right) :
    Calls Try.prog 19 #[layV L sl] w fun e w' => e = .returned (.int .i64 L.size) ∧ Below w.heap.size w w' := by
  obtain ⟨hW, hr, hB⟩ := lay_setup hs
  have hn := hR.nle
  have hkd := hR.kdiv
  have hm := hR.mle
  have hkl := hR.kle
  have hC := hR.chunk
  obtain ⟨a, cap, rfl⟩ := hs.slice
  have HW := Lib.hid hW; clear hW hs
  have HR := Lib.hid hR; clear hR
  obtain ⟨c0, c1, c2⟩ := row3_cells hr
  unfold layV
  go_enter Try.func19, Try.ntmps19
  go_upto_region 2 with fail
  generalize w.alloc (.cells #[.int .i64 L.K, .slice a L.n cap, .int .i64 L.C] 24) = W at *
  have hd : Below W.heap.size W W.drew := (Below.refl _ W).drew
  go_region_held (fun w' => w'.cell? ⟨w.heap.size, 0, none⟩ = some (.int .i64 L.K) ∧ w'.cell? ⟨w.heap.size, 1, none⟩ = some (.slice a L.n cap) ∧ w'.cell? ⟨w.heap.size, 2, none⟩ = some (.int .i64 L.C) ∧ Below W.heap.size W w') (exact keep3 hr (by assumption))
    (first | (go_at_call 44; refine (rLeast_any L _ _ (HW.out.all hd) (by omega) (by omega)).mono ?_; rintro e w1 ⟨rfl, hb⟩; replace hd := hd.trans (hb.mono hd.size)))
  have hkk : L.m / L.C * L.C = L.k := hkl.2.2.symm
  rw [hkk]
  have hr1 := hr.all hd
  have HW1 := Lib.hid (HW.out.all hd)
  have hB1 := hB.trans (hd.mono hB.size)
  obtain ⟨k0, k1, k2⟩ := row3_cells hr1
  have hkl2 : 0 ≤ L.k ∧ L.k ≤ L.m := ⟨hkl.1, hkl.2.1⟩
  clear hkd hkk hkl c0 c1 c2 hr hd hB HW
  have hmk := mul_bound (a := L.n) (b := L.k) (x := 6) (y := 4096) (by omega) (by omega)
  have hmk1 := mul_bound (a := (L.n : Int) - 1) (b := L.k) (x := 6) (y := 4096) (by omega) (by omega)
  have hkind := HR.out.kind
  obtain hK | hK | hK | hK | hK : L.K = 2 ∨ L.K = 1 ∨ L.K = 3 ∨ L.K = 4 ∨ L.K = 5 := by omega
  · have hs : L.size = sumI L.M L.n := by unfold Lay.size; rw [hK]; rfl
    have b2 : (L.K == 2) = true := by rw [hK]; rfl
    have b3 : (L.K == 3) = false := by rw [hK]; rfl
    have b5 : (L.K == 5) = false := by rw [hK]; rfl
    have Hs := Lib.hid hs; clear hs hK hkind
    have Hsb := Lib.hid (fun k (hk : k ≤ L.n) => sumI_bound L.M 1 4096 k (fun i hi => HR.out.mem i (by omega)))
    obtain ⟨b, off, cap1, heq, hcells⟩ : ∃ b off cap1, Value.slice a L.n cap = .slice (some ⟨b, off, none⟩) L.n cap1 ∧ Cells w1 b off L.n (intsV L.M) := by
      rcases HW1.out with ⟨h0, _⟩ | ⟨b, off, cap1, heq, h0, hcap, hmax, hcells, hrange⟩
      · omega
      · exact ⟨b, off, cap1, heq, hcells⟩
    simp only [Value.slice.injEq, true_and] at heq
    obtain ⟨rfl, rfl⟩ := heq
    have HC := Lib.hid hcells; clear hcells
    go_wp2_with fail
    go_loop [6, 5] (fun t u => ∃ k : Nat, k ≤ L.n ∧ t = .int .i64 k ∧ u = .int .i64 (sumI L.M k)) (fun t _ => L.n - (intOf t).toNat)
    case atStart => exact ⟨0, by omega, rfl, rfl⟩
    case round =>
      obtain ⟨k, hk, rfl, rfl⟩ := hrel
      by_cases hlt : k < L.n
      · have hcell := HC.out k hlt
        have hb1 := Hsb.out (k + 1) (by omega)
        simp only [intsV, sumI] at hcell hb1
        go_wp2_with fail
        go_round
        case rel => exact ⟨k + 1, by omega, by go_num, rfl⟩
        case measure => simp [intOf]; omega
      · obtain rfl : k = L.n := by omega
        go_wp2
        go_ret
        exact ⟨by rw [Hs.out]; rfl, hB1⟩
  · have hs : L.size = L.m := by unfold Lay.size; rw [hK]; rfl
    have b2 : (L.K == 2) = false := by rw [hK]; rfl
    have b3 : (L.K == 3) = false := by rw [hK]; rfl
    have b5 : (L.K == 5) = false := by rw [hK]; rfl
    have Hs := Lib.hid hs; clear hs
    have hl := rLeast_any L (.slice a L.n cap) w1 HW1.out (by omega) (by omega)
    unfold layV at hl
    have Hl := Lib.hid hl; clear hl hK hkind
    go_wp2_with fail
    refine Hl.out.mono ?_
    rintro e w2 ⟨rfl, hb⟩
    go_wp2
    go_ret
    exact ⟨by rw [Hs.out]; rfl, hB1.trans (hb.mono hB1.size)⟩
  · have hs : L.size = L.n * L.k := by unfold Lay.size; rw [hK]; rfl
    have b2 : (L.K == 2) = false := by rw [hK]; rfl
    have b3 : (L.K == 3) = true := by rw [hK]; rfl
    have b5 : (L.K == 5) = false := by rw [hK]; rfl
    have Hs := Lib.hid hs; clear hs hK hkind
    go_wp2
    go_ret
    exact ⟨by rw [Hs.out]; rfl, hB1⟩
  · have hs : L.size = L.m := by unfold Lay.size; rw [hK]; rfl
    have b2 : (L.K == 2) = false := by rw [hK]; rfl
    have b3 : (L.K == 3) = false := by rw [hK]; rfl
    have b5 : (L.K == 5) = false := by rw [hK]; rfl
    have Hs := Lib.hid hs; clear hs
    have hl := rLeast_any L (.slice a L.n cap) w1 HW1.out (by omega) (by omega)
    unfold layV at hl
    have Hl := Lib.hid hl; clear hl hK hkind
    go_wp2_with fail
    refine Hl.out.mono ?_
    rintro e w2 ⟨rfl, hb⟩
    go_wp2
    go_ret
    exact ⟨by rw [Hs.out]; rfl, hB1.trans (hb.mono hB1.size)⟩
  · have hs : L.size = (L.n - 1) * L.k := by unfold Lay.size; rw [hK]; rfl
    have b2 : (L.K == 2) = false := by rw [hK]; rfl
    have b3 : (L.K == 3) = false := by rw [hK]; rfl
    have b5 : (L.K == 5) = true := by rw [hK]; rfl
    have Hs := Lib.hid hs; clear hs hK hkind
    go_wp2
    go_ret
    exact ⟨by rw [Hs.out]; rfl, hB1⟩

end Go.Proofs.Ytlbohmfhdchabaa
