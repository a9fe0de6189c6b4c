/- Span: the methods size. -/
import Derived.Test.YtlbohmfhdchabaaSpanE
namespace Go.Proofs.Ytlbohmfhdchabaa
open Go.RowKit

theorem Geo.cells {w : World} {g : Nat} {L : Lay} {sl : Value} (h : Geo w g L sl) :
    w.cell? ⟨g, 0, none⟩ = some (.int .i64 L.K) ∧ w.cell? ⟨g, 1, none⟩ = some sl ∧ w.cell? ⟨g, 2, none⟩ = some (.int .i64 L.C) ∧ w.cell? ⟨g, 3, none⟩ = some (.int .i64 L.n) ∧
    w.cell? ⟨g, 4, none⟩ = some (.int .i64 L.m) ∧ w.cell? ⟨g, 5, none⟩ = some (.int .i64 L.k) ∧ w.cell? ⟨g, 6, none⟩ = some (.iface (kindT L.K) (.agg #[])) :=
  ⟨h.row.cell (i := 0) (by omega), h.row.cell (i := 1) (by omega), h.row.cell (i := 2) (by omega), h.row.cell (i := 3) (by omega), h.row.cell (i := 4) (by omega), h.row.cell (i := 5) (by omega), h.row.cell (i := 6) (by omega)⟩

/-- The members as a slice that is not empty. -/
theorem Geo.mem {w : World} {g : Nat} {L : Lay} {sl : Value} (h : Geo w g L sl) : ∃ b off cap, sl = .slice (some ⟨b, off, none⟩) L.n cap ∧ Cells w b off L.n (intsV L.M) := by
  have := h.right.nle
  rcases h.arg with ⟨h0, _⟩ | ⟨b, off, cap, h1, h2, h3, h4, h5, h6⟩
  · omega
  · exact ⟨b, off, cap, h1, h5⟩

def SizeR (L : Lay) (w : World) (e : Ending) (w' : World) : Prop := e = .returned (.int .i64 L.size) ∧ Below w.heap.size w w'

set_option maxHeartbeats 1000000 in
theorem size_plain (L : Lay) (sl : Value) (g : Nat) (w : World) (hg : Geo w g L sl) (hK : L.K = 1) :
    Calls Try.prog 76 #[.agg #[], .pointer (some ⟨g, 0, none⟩)] w (SizeR L w) := by
  have hs : L.size = L.m := by unfold Lay.size; rw [if_pos hK]
  obtain ⟨-, -, -, -, c4, -, -⟩ := (hg.all ((Below.refl _ w).alloc (Nat.le_refl _) (.cells #[] 89))).cells
  clear hg hK
  unfold SizeR; rw [hs]; clear hs
  go_enter Try.func76, Try.ntmps76
  go_wp2
  go_ret
  exact ⟨rfl, (Below.refl _ w).alloc (Nat.le_refl _) _⟩

set_option maxHeartbeats 1000000 in
theorem size_mirror (L : Lay) (sl : Value) (g : Nat) (w : World) (hg : Geo w g L sl) (hK : L.K = 4) :
    Calls Try.prog 88 #[.agg #[], .pointer (some ⟨g, 0, none⟩)] w (SizeR L w) := by
  have hs : L.size = L.m := by unfold Lay.size; rw [hK]; rfl
  obtain ⟨-, -, -, -, c4, -, -⟩ := (hg.all ((Below.refl _ w).alloc (Nat.le_refl _) (.cells #[] 92))).cells
  clear hg hK
  unfold SizeR; rw [hs]; clear hs
  go_enter Try.func88, Try.ntmps88
  go_wp2
  go_ret
  exact ⟨rfl, (Below.refl _ w).alloc (Nat.le_refl _) _⟩

theorem mul_bound {a b x y : Int} (ha : 0 ≤ a ∧ a ≤ x) (hb : 0 ≤ b ∧ b ≤ y) : 0 ≤ a * b ∧ a * b ≤ x * y :=
  ⟨Int.mul_nonneg ha.1 hb.1, Int.mul_le_mul ha.2 hb.2 hb.1 (by omega)⟩

set_option maxHeartbeats 1000000 in
theorem size_stripe (L : Lay) (sl : Value) (g : Nat) (w : World) (hg : Geo w g L sl) (hK : L.K = 3) :
    Calls Try.prog 84 #[.agg #[], .pointer (some ⟨g, 0, none⟩)] w (SizeR L w) := by
  have hs : L.size = L.n * L.k := by unfold Lay.size; rw [hK]; rfl
  obtain ⟨-, -, -, c3, -, c5, -⟩ := (hg.all ((Below.refl _ w).alloc (Nat.le_refl _) (.cells #[] 91))).cells
  have hn := hg.right.nle
  have hk := hg.right.kle
  have hm := hg.right.mle
  have hb := mul_bound (a := L.n) (b := L.k) (x := 6) (y := 4096) (by omega) (by omega)
  clear hg hK hn hk hm
  unfold SizeR; rw [hs]; clear hs
  go_enter Try.func84, Try.ntmps84
  go_wp2_with fail
  go_quiet (fail)
  go_wp2
  go_ret
  exact ⟨rfl, ((Below.refl _ w).alloc (Nat.le_refl _) _).trans (below_drewN _ _ _)⟩

set_option maxHeartbeats 1000000 in
theorem size_parity (L : Lay) (sl : Value) (g : Nat) (w : World) (hg : Geo w g L sl) (hK : L.K = 5) :
    Calls Try.prog 92 #[.agg #[], .pointer (some ⟨g, 0, none⟩)] w (SizeR L w) := by
  have hs : L.size = (L.n - 1) * L.k := by unfold Lay.size; rw [hK]; rfl
  obtain ⟨-, -, -, c3, -, c5, -⟩ := (hg.all ((Below.refl _ w).alloc (Nat.le_refl _) (.cells #[] 93))).cells
  have hn := hg.right.nle
  have hk := hg.right.kle
  have hm := hg.right.mle
  have hb := mul_bound (a := (L.n : Int) - 1) (b := L.k) (x := 6) (y := 4096) (by omega) (by omega)
  clear hg hK hk hm
  unfold SizeR; rw [hs]; clear hs
  go_enter Try.func92, Try.ntmps92
  go_wp2_with fail
  go_quiet (fail)
  go_wp2
  go_ret
  exact ⟨rfl, ((Below.refl _ w).alloc (Nat.le_refl _) _).trans (below_drewN _ _ _)⟩

set_option maxHeartbeats 1000000 in
theorem size_concat (L : Lay) (sl : Value) (g : Nat) (w : World) (hg : Geo w g L sl) (hK : L.K = 2) :
    Calls Try.prog 80 #[.agg #[], .pointer (some ⟨g, 0, none⟩)] w (SizeR L w) := by
  have hs : L.size = sumI L.M L.n := by unfold Lay.size; rw [hK]; rfl
  have hg2 := hg.all ((Below.refl _ w).alloc (Nat.le_refl _) (.cells #[] 90))
  obtain ⟨-, c1, -, -, -, -, -⟩ := hg2.cells
  obtain ⟨b, off, cap, rfl, hc⟩ := hg2.mem
  have hn := hg.right.nle
  have hm := hg.right.mem
  have Hm := Lib.hid (fun k (hk : k ≤ L.n) => sumI_bound L.M 1 4096 k (fun i hi => hm i (by omega))); clear hm
  have Hc := Lib.hid hc; clear hc
  clear hg hg2 hK
  unfold SizeR; rw [hs]; clear hs
  obtain ⟨K, n, M, C⟩ := L
  simp only at *
  go_enter Try.func80, Try.ntmps80
  go_wp2_with fail
  go_loop [14, 5] (fun t u => ∃ k : Nat, k ≤ n ∧ t = .int .i64 k ∧ u = .int .i64 (sumI M k)) (fun t _ => n - (intOf t).toNat)
  case atStart => exact ⟨0, by omega, rfl, rfl⟩
  case round =>
    obtain ⟨k, hk, rfl, rfl⟩ := hrel
    by_cases hlt : k < n
    · have hcell := Hc.out k hlt
      have hb := Hm.out (k + 1) (by omega)
      simp only [intsV, sumI] at hcell hb
      go_wp2_with fail
      go_round
      case rel => exact ⟨k + 1, by omega, by go_num, rfl⟩
      case measure => simp [intOf]; omega
    · obtain rfl : k = n := by omega
      go_wp2_with fail
      go_ret
      exact ⟨rfl, (Below.refl _ w).alloc (Nat.le_refl _) _⟩

/-- size, whatever the kind. -/
theorem size_any (L : Lay) (sl : Value) (g : Nat) (w : World) (hg : Geo w g L sl) : Calls Try.prog (sizeN L.K) #[.agg #[], .pointer (some ⟨g, 0, none⟩)] w (SizeR L w) := by
  have h := hg.right.kind
  obtain h | h | h | h | h : L.K = 1 ∨ L.K = 2 ∨ L.K = 3 ∨ L.K = 4 ∨ L.K = 5 := by omega
  · have := size_plain L sl g w hg h; rw [h]; exact this
  · have := size_concat L sl g w hg h; rw [h]; exact this
  · have := size_stripe L sl g w hg h; rw [h]; exact this
  · have := size_mirror L sl g w hg h; rw [h]; exact this
  · have := size_parity L sl g w hg h; rw [h]; exact this

set_option maxHeartbeats 1000000 in
theorem in_any (L : Lay) (sl : Value) (g : Nat) (p : Int) (w : World) (hg : Geo w g L sl) :
    Calls Try.prog 43 #[.pointer (some ⟨g, 0, none⟩), .int .i64 p] w fun e w' => e = .returned (.bool (decide (0 ≤ p) && decide (p < L.size))) ∧ Below w.heap.size w w' := by
  obtain ⟨-, -, -, -, -, -, c6⟩ := hg.cells
  have hme := method_size hg.right.kind
  have hen := enter_size hg.right.kind
  have hg' := Lib.hid hg; clear hg
  rcases h0 : decide (0 ≤ p) with _ | _
  · have h1 : ¬ 0 ≤ p := of_decide_eq_false h0
    go_enter Try.func43, Try.ntmps43
    go_wp2
    go_ret
    exact ⟨rfl, Below.refl _ _⟩
  · have h1 : 0 ≤ p := of_decide_eq_true h0
    go_enter Try.func43, Try.ntmps43
    go_wp2_with fail
    refine (size_any L sl g w hg'.out).mono ?_
    rintro e w' ⟨rfl, hb⟩
    go_wp2
    go_ret
    exact ⟨by simp, hb⟩

end Go.Proofs.Ytlbohmfhdchabaa
