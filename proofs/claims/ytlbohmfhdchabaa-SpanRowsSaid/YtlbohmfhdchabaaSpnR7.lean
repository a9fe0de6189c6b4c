/- Span: the reference's Region, Regions, Members. -/
import Derived.Test.YtlbohmfhdchabaaSpnBox
import Derived.Test.YtlbohmfhdchabaaSpnLN
import Derived.Test.YtlbohmfhdchabaaSpnR1
import Derived.Test.YtlbohmfhdchabaaSpanN
import Derived.Deep.DrawnRows
namespace Go.Proofs.Ytlbohmfhdchabaa
open Go.RowKit
attribute [local go_sem ↓] Go.wp_at_zero Go.wp_at_succ

theorem Lay.Right.size_pos' {L : Lay} (h : L.Right) : 1 ≤ L.size := by
  have hk := h.kind
  have hn := h.nle
  have hm := h.mle
  have hkl := h.kle
  have hs := (sumI_bound L.M 1 4096 L.n (fun i hi => h.mem i hi)).1
  unfold Lay.size
  by_cases h1 : L.K = 1
  · rw [if_pos h1]; omega
  by_cases h2 : L.K = 2
  · rw [if_neg h1, if_pos h2]; omega
  by_cases h3 : L.K = 3
  · rw [if_neg h1, if_neg h2, if_pos h3]
    have hw := h.whole (.inl h3)
    have := Int.mul_le_mul (show (1 : Int) ≤ L.n by omega) (show (1 : Int) ≤ L.k by omega) (by omega) (by omega)
    omega
  by_cases h4 : L.K = 4
  · rw [if_neg h1, if_neg h2, if_neg h3, if_pos h4]; omega
  · rw [if_neg h1, if_neg h2, if_neg h3, if_neg h4]
    have h5 : L.K = 5 := by omega
    have hw := h.whole (.inr h5)
    have hn3 : (3 : Int) ≤ L.n := by have := h.num.1; unfold Lay.lo at this; rw [h5] at this; exact this
    have := Int.mul_le_mul (show (1 : Int) ≤ (L.n : Int) - 1 by omega) (show (1 : Int) ≤ L.k by omega) (by omega) (by omega)
    omega

theorem regn_bounds {L : Lay} (h : L.Right) : 0 ≤ L.regn ∧ L.regn ≤ 5000 := by
  have h1 := h.regs
  have h2 := h.chunk
  have h3 := Int.ediv_nonneg (a := L.regs + L.C - 1) (b := L.C) (by omega) (by omega)
  have h4 := Int.ediv_le_self L.C (a := L.regs + L.C - 1) (by omega)
  unfold Lay.regn
  omega
theorem mem_len {L : Lay} (h : L.Right) {r : Int} (hr : 0 ≤ r ∧ r < L.regn) : L.memM r ≤ 64 ∧ L.n * L.memM r ≤ 384 := by
  have hC := h.chunk
  have hn := h.nle
  have hm := mem_ref h hr
  have hrC : (r + 1) * L.C = r * L.C + L.C := by rw [Int.add_mul, Int.one_mul]
  have h1 : L.memM r ≤ 64 := by unfold Lay.memM; omega
  exact ⟨h1, Nat.le_trans (Nat.mul_le_mul hn.2 h1) (by decide)⟩

set_option maxHeartbeats 2000000 in
theorem rRegion_any (L : Lay) (sl : Value) (p : Int) (w : World) (hs : IArg w sl L.n L.M) (hR : L.Right) (hp : 0 ≤ p ∧ p < L.size) :
    Calls Try.prog 31 #[layV L sl, .int .i64 p] w fun e w' => e = .returned (.int .i64 (L.rreg p)) ∧ Below w.heap.size w w' := by
  obtain ⟨hW, hr, hB⟩ := lay_setup hs
  obtain ⟨c0, c1, c2⟩ := row3_cells hr
  obtain ⟨a, cap, rfl⟩ := hs.slice
  have hC := hR.chunk
  have hn := hR.nle
  have hsz := hR.sizes
  have hC0 : ¬ L.C = 0 := by omega
  have HB := Lib.hid hB; clear hB hW hr hs
  have hp2 : 0 ≤ p ∧ p ≤ 1000000 := by omega
  unfold layV
  go_enter Try.func31, Try.ntmps31
  by_cases h4 : L.K = 4
  · have b4 : (L.K == 4) = true := by rw [beq_iff_eq]; exact h4
    have hv : L.rreg p = p / L.C := by unfold Lay.rreg; rw [if_pos h4]
    have Hv := Lib.hid hv; clear hv h4
    have hq : IntKind.i64.wrap (Int.tdiv p L.C) = p / L.C := IntWalk.i64_quo _ _ (by omega)
    go_wp2
    go_ret
    exact ⟨by rw [Hv.out]; simp [hq], HB.out⟩
  · have b4 : (L.K == 4) = false := by rw [beq_eq_false_iff_ne]; exact h4
    by_cases h5 : L.K = 5
    · have b5 : (L.K == 5) = true := by rw [beq_iff_eq]; exact h5
      have hn3 : (3 : Int) ≤ L.n := by have := hR.num.1; unfold Lay.lo at this; rw [h5] at this; exact this
      have hv : L.rreg p = p / (L.C * (L.n - 1)) := by unfold Lay.rreg; rw [if_neg h4, if_pos h5]
      have Hv := Lib.hid hv; clear hv h4 h5
      have hm1 := mul_bound (a := L.C) (b := (L.n : Int) - 1) (x := 64) (y := 6) (by omega) (by omega)
      have hm2 : 1 ≤ L.C * ((L.n : Int) - 1) := by
        have := Int.mul_le_mul (show (1 : Int) ≤ L.C by omega) (show (1 : Int) ≤ (L.n : Int) - 1 by omega) (by omega) (by omega)
        omega
      have hm3 : ¬ L.C * ((L.n : Int) - 1) = 0 := by omega
      have hq : IntKind.i64.wrap (Int.tdiv p (L.C * (L.n - 1))) = p / (L.C * (L.n - 1)) := IntWalk.i64_quo _ _ (by omega)
      go_wp2
      go_ret
      exact ⟨by rw [Hv.out]; simp [hq], HB.out⟩
    · have b5 : (L.K == 5) = false := by rw [beq_eq_false_iff_ne]; exact h5
      have hv : L.rreg p = 0 := by unfold Lay.rreg; rw [if_neg h4, if_neg h5]
      have Hv := Lib.hid hv; clear hv h4 h5
      go_wp2
      go_ret
      exact ⟨by rw [Hv.out]; rfl, HB.out⟩

theorem rreg_bound {L : Lay} (h : L.Right) {p : Int} (hp : 0 ≤ p ∧ p < L.size) : 0 ≤ L.rreg p ∧ L.rreg p ≤ 1000000 := by
  have hsz := h.sizes
  have hC := h.chunk
  have hn := h.nle
  unfold Lay.rreg
  split
  · have h1 := Int.ediv_nonneg (a := p) (b := L.C) hp.1 (by omega)
    have h2 := Int.ediv_le_self L.C (a := p) hp.1
    omega
  · split
    · have h0 : 0 ≤ L.C * ((L.n : Int) - 1) := Int.mul_nonneg (by omega) (by omega)
      have h1 := Int.ediv_nonneg (a := p) (b := L.C * (L.n - 1)) hp.1 h0
      have h2 := Int.ediv_le_self (L.C * ((L.n : Int) - 1)) (a := p) hp.1
      omega
    · omega

set_option maxHeartbeats 2000000 in
theorem rRegions_any (L : Lay) (sl : Value) (w : World) (hs : IArg w sl L.n L.M) (hR : L.Right) :
    Calls Try.prog 30 #[layV L sl] w fun e w' => e = .returned (.int .i64 L.rregn) ∧ Below w.heap.size w w' := by
  obtain ⟨hW, hr, hB⟩ := lay_setup hs
  obtain ⟨c0, c1, c2⟩ := row3_cells hr
  obtain ⟨a, cap, rfl⟩ := hs.slice
  have HL := Lib.hid (show LayAt w L a cap _ from ⟨hr, hW, hB⟩)
  have HR := Lib.hid hR
  have hsz := hR.sizes
  have hsp := hR.size_pos'
  have Hpr := Lib.hid (show 0 ≤ L.size - 1 ∧ L.size - 1 < L.size from ⟨by omega, by omega⟩)
  have hrb := rreg_bound hR Hpr.out
  clear hW hs hr hB hR
  unfold layV
  go_enter Try.func30, Try.ntmps30
  by_cases hK : L.K = 4 ∨ L.K = 5
  · have hv : L.rregn = L.rreg (L.size - 1) + 1 := by unfold Lay.rregn; rw [if_pos hK]
    have Hv := Lib.hid hv; clear hv
    have Hs1 := Lib.hid (fun W (hW : IArg W (.slice a L.n cap) L.n L.M) => rSize_any L _ W hW HR.out)
    have Hs2 := Lib.hid (fun W (hW : IArg W (.slice a L.n cap) L.n L.M) => rRegion_any L _ (L.size - 1) W hW HR.out Hpr.out)
    unfold layV at Hs1 Hs2
    have hK2 : ((L.K != 4) = false) ∨ ((L.K != 4) = true ∧ (L.K != 5) = false) := by
      by_cases h4 : L.K = 4
      · left; rw [bne_eq_false_iff_eq]; exact h4
      · right
        refine ⟨by rw [bne_iff_ne]; exact h4, ?_⟩
        rw [bne_eq_false_iff_eq]
        omega
    clear hK
    rcases hK2 with k4 | ⟨k4, k5⟩
    all_goals
      go_upto_region 3 with fail
      have hsub : IntKind.i64.wrap (L.size - 1) = L.size - 1 := IntWalk.i64_in _ (by omega)
      have hadd : IntKind.i64.wrap (L.rreg (L.size - 1) + 1) = L.rreg (L.size - 1) + 1 := IntWalk.i64_in _ (by omega)
      generalize w.alloc (.cells #[.int .i64 L.K, .slice a L.n cap, .int .i64 L.C] 24) = W at *
      have hd : Below W.heap.size W W.drew := (Below.refl _ W).drew
      go_region_held (fun w' => w'.cell? ⟨w.heap.size, 0, none⟩ = some (.int .i64 L.K) ∧ w'.cell? ⟨w.heap.size, 1, none⟩ = some (.slice a L.n cap) ∧ w'.cell? ⟨w.heap.size, 2, none⟩ = some (.int .i64 L.C) ∧ Below W.heap.size W w') (exact keep3 HL.out.row (by assumption))
        (first | (go_at_call 19; ((with_reducible refine (Hs1.out _ (HL.out.arg.all hd)).mono ?_); rintro e w6 ⟨rfl, hB6⟩); replace hd := hd.trans (hB6.mono hd.size)) | (go_at_call 31; ((with_reducible refine (Hs2.out _ (HL.out.arg.all hd)).mono ?_); rintro e w7 ⟨rfl, hB7⟩); replace hd := hd.trans (hB7.mono hd.size)))
      go_wp2
      go_ret
      exact ⟨by rw [Hv.out]; simp, HL.out.bel.trans (hd.mono HL.out.bel.size)⟩
  · have hv : L.rregn = 0 := by unfold Lay.rregn; rw [if_neg hK]
    have Hv := Lib.hid hv; clear hv
    have k4 : (L.K != 4) = true := by rw [bne_iff_ne]; omega
    have k5 : (L.K != 5) = true := by rw [bne_iff_ne]; omega
    clear hK
    go_wp2
    go_ret
    exact ⟨by rw [Hv.out]; rfl, HL.out.bel⟩

end Go.Proofs.Ytlbohmfhdchabaa
