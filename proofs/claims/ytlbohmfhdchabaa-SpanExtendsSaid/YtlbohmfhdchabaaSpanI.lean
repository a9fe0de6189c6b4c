/- Span: has, regions, Check, Size, Place, Page, Regions, Region. -/
import Derived.Test.YtlbohmfhdchabaaSpanH
namespace Go.Proofs.Ytlbohmfhdchabaa
open Go.RowKit

theorem lay_setup {w : World} {L : Lay} {sl : Value} (hs : IArg w sl L.n L.M) :
    IArg (w.alloc (.cells #[.int .i64 L.K, sl, .int .i64 L.C] 24)) sl L.n L.M ∧
    RowAt (w.alloc (.cells #[.int .i64 L.K, sl, .int .i64 L.C] 24)) w.heap.size 24 3 3 (st3 (.int .i64 L.K) sl (.int .i64 L.C)) ∧
    Below w.heap.size w (w.alloc (.cells #[.int .i64 L.K, sl, .int .i64 L.C] 24)) :=
  ⟨hs.all ((Below.refl _ w).alloc (Nat.le_refl _) _), row3 w _ _ _ _, (Below.refl _ w).alloc (Nat.le_refl _) _⟩

theorem row3_cells {w : World} {g : Nat} {e : TypeId} {a b c : Value} (h : RowAt w g e 3 3 (st3 a b c)) :
    w.cell? ⟨g, 0, none⟩ = some a ∧ w.cell? ⟨g, 1, none⟩ = some b ∧ w.cell? ⟨g, 2, none⟩ = some c :=
  ⟨h.cell (i := 0) (by omega), h.cell (i := 1) (by omega), h.cell (i := 2) (by omega)⟩

set_option maxHeartbeats 1000000 in
theorem Check_any (L : Lay) (sl : Value) (w : World) (hs : IArg w sl L.n L.M) :
    Calls Try.prog 18 #[layV L sl] w fun e w' => ((L.Right ∧ e = .returned (.int .i64 0)) ∨ (¬ L.Right ∧ e = .returned (.int .i64 1))) ∧ Below w.heap.size w w' := by
  obtain ⟨hW, hr, hB⟩ := lay_setup hs
  obtain ⟨c0, c1, c2⟩ := row3_cells hr
  obtain ⟨a, cap, rfl⟩ := hs.slice
  have HW := Lib.hid hW; clear hW hs
  unfold layV
  go_enter Try.func18, Try.ntmps18
  go_wp2_with fail
  generalize w.alloc (.cells #[.int .i64 L.K, .slice a L.n cap, .int .i64 L.C] 24) = W at *
  refine (of_any L _ W HW.out).mono ?_
  rintro e w4 ⟨hB4, (⟨hR, g, rfl, hge, hrow⟩ | ⟨hnR, rfl⟩)⟩
  · have HR := Lib.hid hR; clear hR
    go_wp2
    go_ret
    exact ⟨.inl ⟨HR.out, rfl⟩, hB.trans (hB4.mono hB.size)⟩
  · have HR := Lib.hid hnR; clear hnR
    go_wp2
    go_ret
    exact ⟨.inr ⟨HR.out, rfl⟩, hB.trans (hB4.mono hB.size)⟩

set_option maxHeartbeats 1000000 in
theorem Size_any (L : Lay) (sl : Value) (w : World) (hs : IArg w sl L.n L.M) :
    Calls Try.prog 15 #[layV L sl] w fun e w' => ((L.Right ∧ e = .returned (.tuple #[.int .i64 L.size, .int .i64 0])) ∨ (¬ L.Right ∧ e = .returned (.tuple #[.int .i64 0, .int .i64 1]))) ∧ Below w.heap.size w w' := by
  obtain ⟨hW, hr, hB⟩ := lay_setup hs
  obtain ⟨c0, c1, c2⟩ := row3_cells hr
  obtain ⟨a, cap, rfl⟩ := hs.slice
  have HW := Lib.hid hW; clear hW hs
  unfold layV
  go_enter Try.func15, Try.ntmps15
  go_wp2_with fail
  generalize w.alloc (.cells #[.int .i64 L.K, .slice a L.n cap, .int .i64 L.C] 24) = W at *
  refine (of_any L _ W HW.out).mono ?_
  rintro e w4 ⟨hB4, (⟨hR, g, rfl, hge, hrow⟩ | ⟨hnR, rfl⟩)⟩
  · have hg : Geo w4 g L (.slice a L.n cap) := ⟨hR, hrow, HW.out.all hB4⟩
    have Hg := Lib.hid hg
    have hme := method_size hR.kind
    have hen := enter_size hR.kind
    obtain ⟨-, -, -, -, -, -, c6⟩ := hg.cells
    clear hg hR hrow
    go_wp2_with fail
    refine (size_any L _ g w4 Hg.out).mono ?_
    rintro e w5 ⟨rfl, hB5⟩
    go_wp2
    refine bodyPost_ret (v := .tuple #[.int .i64 L.size, .int .i64 0]) (by simp [results, Try.results15, go_sem]) rfl ⟨.inl ⟨Hg.out.right, rfl⟩, hB.trans ((hB4.trans (hB5.mono hB4.size)).mono hB.size)⟩
  · have HR := Lib.hid hnR; clear hnR
    go_wp2
    refine bodyPost_ret (v := .tuple #[.int .i64 0, .int .i64 1]) (by simp [results, Try.results15, go_sem]) rfl ⟨.inr ⟨HR.out, rfl⟩, hB.trans (hB4.mono hB.size)⟩

def PlaceP (L : Lay) (p : Int) (w : World) (e : Ending) (w' : World) : Prop :=
  ((L.Right ∧ 0 ≤ p ∧ p < L.size ∧ ∃ v, e = .returned (.tuple #[v, .int .i64 0]) ∧ Spots w' w.heap.size v L.num' (L.at p)) ∨
   (L.Right ∧ ¬ (0 ≤ p ∧ p < L.size) ∧ e = .returned (.tuple #[.slice none 0 0, .int .i64 24])) ∨ (¬ L.Right ∧ e = .returned (.tuple #[.slice none 0 0, .int .i64 1]))) ∧ Below w.heap.size w w'

theorem in_dec {p s : Int} : (decide (0 ≤ p) && decide (p < s)) = true ∨ (decide (0 ≤ p) && decide (p < s)) = false := by
  cases (decide (0 ≤ p) && decide (p < s)) <;> simp
theorem in_true {p s : Int} (h : (decide (0 ≤ p) && decide (p < s)) = true) : 0 ≤ p ∧ p < s := by simpa using h
theorem in_false {p s : Int} (h : (decide (0 ≤ p) && decide (p < s)) = false) : ¬ (0 ≤ p ∧ p < s) := fun hh => by simp [hh.1, hh.2] at h

set_option maxHeartbeats 2000000 in
theorem Place_any (L : Lay) (sl : Value) (p : Int) (w : World) (hs : IArg w sl L.n L.M) : Calls Try.prog 16 #[layV L sl, .int .i64 p] w (PlaceP L p w) := by
  obtain ⟨hW, hr, hB⟩ := lay_setup hs
  obtain ⟨c0, c1, c2⟩ := row3_cells hr
  obtain ⟨a, cap, rfl⟩ := hs.slice
  have HW := Lib.hid hW; clear hW hs
  unfold layV
  go_enter Try.func16, Try.ntmps16
  go_wp2_with fail
  generalize w.alloc (.cells #[.int .i64 L.K, .slice a L.n cap, .int .i64 L.C] 24) = W at *
  refine (of_any L _ W HW.out).mono ?_
  rintro e w4 ⟨hB4, (⟨hR, g, rfl, hge, hrow⟩ | ⟨hnR, rfl⟩)⟩
  · have hg : Geo w4 g L (.slice a L.n cap) := ⟨hR, hrow, HW.out.all hB4⟩
    have Hg := Lib.hid hg
    have hme := method_place hR.kind
    have hen := enter_place hR.kind
    clear hg hR hrow
    go_wp2_with fail
    refine (in_any L _ g p w4 Hg.out).mono ?_
    rintro e w5 ⟨rfl, hB5⟩
    have hg5 := Hg.out.all hB5
    have hB' := hB.trans ((hB4.trans (hB5.mono hB4.size)).mono hB.size)
    obtain ⟨-, -, -, -, -, -, c6⟩ := hg5.cells
    have Hg5 := Lib.hid hg5; clear hg5 Hg
    rcases in_dec (p := p) (s := L.size) with h | h
    · rw [h]
      have Hp := Lib.hid (in_true h); clear h
      go_wp2_with fail
      refine (place_any L _ g p w5 Hg5.out Hp.out).mono ?_
      rintro e w6 ⟨v, rfl, hS, hB6⟩
      have HS := Lib.hid (hS.mono hB'.size)
      obtain ⟨a', c', rfl⟩ := hS.slice
      clear hS
      go_wp2
      exact bodyPost_ret (v := .tuple #[.slice a' L.num' c', .int .i64 0]) (by simp [results, Try.results16, go_sem]) rfl ⟨.inl ⟨Hg5.out.right, Hp.out.1, Hp.out.2, _, rfl, HS.out⟩, hB'.trans (hB6.mono hB'.size)⟩
    · rw [h]
      have Hp := Lib.hid (in_false h); clear h
      go_wp2
      exact bodyPost_ret (v := .tuple #[.slice none 0 0, .int .i64 24]) (by simp [results, Try.results16, go_sem]) rfl ⟨.inr (.inl ⟨Hg5.out.right, Hp.out, rfl⟩), hB'⟩
  · have HR := Lib.hid hnR; clear hnR
    go_wp2
    exact bodyPost_ret (v := .tuple #[.slice none 0 0, .int .i64 1]) (by simp [results, Try.results16, go_sem]) rfl ⟨.inr (.inr ⟨HR.out, rfl⟩), hB.trans (hB4.mono hB.size)⟩

set_option maxHeartbeats 1000000 in
theorem regions_any (L : Lay) (sl : Value) (g : Nat) (w : World) (hg : Geo w g L sl) :
    Calls Try.prog 46 #[.pointer (some ⟨g, 0, none⟩)] w fun e w' => e = .returned (.int .i64 L.regs) ∧ w = w' := by
  obtain ⟨c0, -, -, -, c4, c5, -⟩ := hg.cells
  clear hg
  by_cases h4 : L.K = 4
  · have hr : L.regs = L.m := by unfold Lay.regs; rw [if_pos h4]
    rw [hr]
    rw [h4] at c0
    clear hr h4
    go_enter Try.func46, Try.ntmps46
    go_wp2
    go_ret
    exact ⟨rfl, rfl⟩
  · by_cases h5 : L.K = 5
    · have hr : L.regs = L.k := by unfold Lay.regs; rw [if_neg h4, if_pos h5]
      rw [hr]
      rw [h5] at c0
      clear hr h4 h5
      go_enter Try.func46, Try.ntmps46
      go_wp2
      go_ret
      exact ⟨rfl, rfl⟩
    · have hr : L.regs = 0 := by unfold Lay.regs; rw [if_neg h4, if_neg h5]
      rw [hr]
      have h4' : (L.K == 4) = false := by rw [beq_eq_false_iff_ne]; exact h4
      have h5' : (L.K == 5) = false := by rw [beq_eq_false_iff_ne]; exact h5
      clear hr h4 h5
      go_enter Try.func46, Try.ntmps46
      go_wp2
      go_ret
      exact ⟨rfl, rfl⟩

theorem Lay.Right.regs {L : Lay} (h : L.Right) : 0 ≤ L.regs ∧ L.regs ≤ 4096 := by
  have h1 := h.mle
  have h2 := h.kle
  unfold Lay.regs
  repeat' split
  all_goals omega

set_option maxHeartbeats 1000000 in
theorem has_any (L : Lay) (sl : Value) (g : Nat) (s : Int × Int) (w : World) (hg : Geo w g L sl) :
    Calls Try.prog 45 #[.pointer (some ⟨g, 0, none⟩), spotA s] w fun e w' => e = .returned (.bool (L.has s)) ∧ Below w.heap.size w w' := by
  obtain ⟨a, b⟩ := s
  have hB : Below w.heap.size w (w.alloc (.cells #[.int .i64 a, .int .i64 b] 45)) := (Below.refl _ w).alloc (Nat.le_refl _) _
  have hr := row2 w (.int .i64 a) (.int .i64 b) 45
  have b0 : (w.alloc (.cells #[.int .i64 a, .int .i64 b] 45)).cell? ⟨w.heap.size, 0, none⟩ = some (.int .i64 a) := hr.cell (i := 0) (by omega)
  have b1 : (w.alloc (.cells #[.int .i64 a, .int .i64 b] 45)).cell? ⟨w.heap.size, 1, none⟩ = some (.int .i64 b) := hr.cell (i := 1) (by omega)
  have hg2 := hg.all hB
  obtain ⟨-, c1, -, c3, -, -, -⟩ := hg2.cells
  obtain ⟨b', off, cap, rfl, hc⟩ := hg2.mem
  have hn := hg.right.nle
  have Hc := Lib.hid hc; clear hc
  have hv : L.has (a, b) = (decide (0 ≤ a) && (decide (a < L.n) && (decide (0 ≤ b) && decide (b < L.M a.toNat)))) := rfl
  rw [hv]; clear hv
  clear hg hg2 hr
  unfold spotA
  go_enter Try.func45, Try.ntmps45
  rcases h1 : decide (0 ≤ a) with _ | _
  · have h1' : ¬ 0 ≤ a := of_decide_eq_false h1
    go_wp2_with fail
    go_quiet (fail)
    go_wp2
    go_ret
    exact ⟨rfl, hB.trans (below_drewN _ _ _)⟩
  have h1' : 0 ≤ a := of_decide_eq_true h1
  rcases h2 : decide (a < L.n) with _ | _
  · have h2' : ¬ a < L.n := of_decide_eq_false h2
    go_wp2_with fail
    go_quiet (fail)
    go_wp2
    go_ret
    exact ⟨rfl, hB.trans (below_drewN _ _ _)⟩
  have h2' : a < L.n := of_decide_eq_true h2
  rcases h3 : decide (0 ≤ b) with _ | _
  · have h3' : ¬ 0 ≤ b := of_decide_eq_false h3
    go_wp2_with fail
    go_quiet (fail)
    go_wp2
    go_ret
    exact ⟨rfl, hB.trans (below_drewN _ _ _)⟩
  have h3' : 0 ≤ b := of_decide_eq_true h3
  have hcell := Hc.out a.toNat (by omega)
  unfold intsV at hcell
  go_wp2_with fail
  go_quiet (fail)
  go_wp2
  go_ret
  exact ⟨by simp, hB.trans (below_drewN _ _ _)⟩

end Go.Proofs.Ytlbohmfhdchabaa
