/- The reference: Sectors, In; few. -/
import Derived.Test.YtjhcaedfknhilaaRefB
namespace Go.Proofs.Ytjhcaedfknhilaa
open Go.RowKit
attribute [local go_sem ↓] Go.wp_at_zero Go.wp_at_succ

set_option maxHeartbeats 1000000 in
theorem Sectors_any {B : Nat} {dv qv bv : Value} {X : Dev} (w : World) (h : DevAt B w dv qv bv X) :
    Calls Try.prog 30 #[devV dv qv bv X] w fun e w' => e = .returned (.int .i64 (X.n / 64 : Nat)) ∧ Below w.heap.size w w' := by
  obtain ⟨dx, dc, rfl, hd⟩ := h.data.slice
  obtain ⟨qx, qc, rfl, -⟩ := h.queue.slice
  obtain ⟨bx, bc, rfl, -⟩ := h.bad.slice
  unfold maxLen at hd
  have hr := row_six w (.slice dx X.n dc) (.slice qx X.q qc) (.slice bx X.m bc) (.bool X.dead) (.bool X.armed) (.int .i64 X.left) 31
  obtain ⟨a0, -⟩ := cells6 hr
  have HB := Lib.hid ((Below.refl _ w).alloc (Nat.le_refl _) (.cells #[.slice dx X.n dc, .slice qx X.q qc, .slice bx X.m bc, .bool X.dead, .bool X.armed, .int .i64 X.left] 31))
  clear hr h
  unfold devV
  go_enter Try.func30, Try.ntmps30
  go_wp2_with fail
  go_ret
  exact ⟨by first | rfl | (congr 2; omega), HB.out⟩

set_option maxHeartbeats 1000000 in
theorem In_any {B : Nat} {v : Value} {n : Nat} {f : Nat → Int} (x : Int) (w : World) (h : NArg B w v n f) :
    Calls Try.prog 31 #[v, .int .i64 x] w fun e w' => (∃ b, e = .returned (.bool b) ∧ (b = true ↔ ∃ i, i < n ∧ f i = x)) ∧ w = w' := by
  obtain ⟨vx, vc, rfl, hm⟩ := h.slice
  unfold maxLen at hm
  have H := Lib.hid h
  clear h
  go_enter Try.func31, Try.ntmps31
  go_wp2_with fail
  go_loopw [5] (fun t wr => ∃ i : Nat, i ≤ n ∧ t = .int .i64 i ∧ w = wr ∧ ∀ j, j < i → f j ≠ x) (fun t _ => n - (intOf t).toNat)
  case atStart => exact ⟨0, by omega, by go_num, by first | rfl | trivial, fun j hj => absurd hj (Nat.not_lt_zero j)⟩
  case round =>
    obtain ⟨i, hi, rfl, rfl, hok⟩ := hrel
    by_cases hlt : i < n
    · have hdlt : decide ((i : Int) < n) = true := decide_eq_true (by omega)
      obtain ⟨b, off, c, e1, d0⟩ := H.out.elem hlt
      cases e1
      have Hok := Lib.hid hok
      clear hok
      by_cases h1 : f i = x
      · have g1 : (f i == x) = true := beq_iff_eq.2 h1
        go_wp2_with fail
        go_ret
        exact ⟨⟨_, rfl, fun _ => ⟨i, hlt, h1⟩, fun _ => rfl⟩, rfl⟩
      · have g1 : (f i == x) = false := beq_eq_false_iff_ne.2 h1
        go_wp2_with fail
        go_roundw
        case rel => exact ⟨i + 1, by omega, by go_num, by trivial, fun j hj => by
          by_cases hji : j = i
          · rw [hji]; exact h1
          · exact Hok.out j (by omega)⟩
        case measure => simp [intOf]; omega
    · obtain rfl : n = i := by omega
      have hdlt : decide ((n : Int) < n) = false := decide_eq_false (by omega)
      have Hok := Lib.hid hok
      clear hok
      go_wp2_with fail
      go_ret
      exact ⟨⟨_, rfl, fun h => (by cases h), fun ⟨i, hi, hx⟩ => absurd hx (Hok.out i hi)⟩, rfl⟩

/-- Devices that are small. -/
def fewP (X : Dev) : Prop := X.n ≤ 4096 ∧ X.q ≤ 200 ∧ X.m ≤ 200 ∧ ∀ i, i < X.q → X.ql i ≤ 1000

set_option maxRecDepth 100000 in
set_option maxHeartbeats 4000000 in
theorem few_any {B : Nat} {dv qv bv : Value} {X : Dev} (w : World) (h : DevAt B w dv qv bv X) :
    Calls Try.prog 14 #[devV dv qv bv X] w fun e w' => (∃ b, e = .returned (.bool b) ∧ (b = true ↔ fewP X)) ∧ Below w.heap.size w w' := by
  obtain ⟨dx, dc, rfl, hd⟩ := h.data.slice
  obtain ⟨qx, qc, rfl, hq⟩ := h.queue.slice
  obtain ⟨bx, bc, rfl, hm⟩ := h.bad.slice
  unfold maxLen at hd hq hm
  have hr := row_six w (.slice dx X.n dc) (.slice qx X.q qc) (.slice bx X.m bc) (.bool X.dead) (.bool X.armed) (.int .i64 X.left) 31
  have hbl := (Below.refl _ w).alloc (Nat.le_refl w.heap.size) (.cells #[.slice dx X.n dc, .slice qx X.q qc, .slice bx X.m bc, .bool X.dead, .bool X.armed, .int .i64 X.left] 31)
  have HD := Lib.hid (h.all hbl)
  have HB := Lib.hid hbl
  obtain ⟨a0, a1, a2, a3, a4, a5⟩ := cells6 hr
  clear h hbl hr
  unfold devV
  go_enter Try.func14, Try.ntmps14
  go_upto_region 1 with fail
  generalize w.alloc (.cells #[.slice dx X.n dc, .slice qx X.q qc, .slice bx X.m bc, .bool X.dead, .bool X.armed, .int .i64 X.left] 31) = W at *
  by_cases h1 : X.n ≤ 4096
  · have g1 : decide ((X.n : Int) > 4096) = false := decide_eq_false (by omega)
    by_cases h2 : X.q ≤ 200
    · have g2 : decide ((X.q : Int) > 200) = false := decide_eq_false (by omega)
      by_cases h3 : X.m ≤ 200
      · have g3 : decide ((X.m : Int) > 200) = false := decide_eq_false (by omega)
        go_wp2_with fail
        go_loopw [3] (fun t wr => ∃ i : Nat, i ≤ X.q ∧ t = .int .i64 i ∧ W = wr ∧ ∀ j, j < i → X.ql j ≤ 1000) (fun t _ => X.q - (intOf t).toNat)
        case atStart => exact ⟨0, by omega, by go_num, by first | rfl | trivial, fun j hj => absurd hj (Nat.not_lt_zero j)⟩
        case round =>
          obtain ⟨i, hi, rfl, rfl, hok⟩ := hrel
          by_cases hlt : i < X.q
          · have hdlt : decide ((i : Int) < X.q) = true := decide_eq_true (by omega)
            obtain ⟨b, off, c, u, e1, d0, d1, hb⟩ := HD.out.queue.elem hlt
            cases e1
            obtain ⟨ux, uc, rfl, -⟩ := hb.slice
            have Hok := Lib.hid hok
            clear hok hb
            by_cases h4 : X.ql i ≤ 1000
            · have g4 : decide ((X.ql i : Int) > 1000) = false := decide_eq_false (by omega)
              go_wp2_with fail
              go_roundw
              case rel => exact ⟨i + 1, by omega, by go_num, by trivial, fun j hj => by
                by_cases hji : j = i
                · rw [hji]; exact h4
                · exact Hok.out j (by omega)⟩
              case measure => simp [intOf]; omega
            · have g4 : decide ((X.ql i : Int) > 1000) = true := decide_eq_true (by omega)
              go_wp2_with fail
              go_ret
              exact ⟨⟨_, rfl, fun h => (by cases h), fun h => absurd (h.2.2.2 i hlt) h4⟩, HB.out⟩
          · obtain rfl : X.q = i := by omega
            have hdlt : decide ((X.q : Int) < X.q) = false := decide_eq_false (by omega)
            have Hok := Lib.hid hok
            clear hok
            go_wp2_with fail
            go_ret
            exact ⟨⟨_, rfl, fun _ => ⟨h1, h2, h3, Hok.out⟩, fun _ => rfl⟩, HB.out⟩
      · have g3 : decide ((X.m : Int) > 200) = true := decide_eq_true (by omega)
        go_wp2_with fail
        go_ret
        exact ⟨⟨_, rfl, fun h => (by cases h), fun h => absurd h.2.2.1 h3⟩, HB.out⟩
    · have g2 : decide ((X.q : Int) > 200) = true := decide_eq_true (by omega)
      go_wp2_with fail
      go_ret
      exact ⟨⟨_, rfl, fun h => (by cases h), fun h => absurd h.2.1 h2⟩, HB.out⟩
  · have g1 : decide ((X.n : Int) > 4096) = true := decide_eq_true (by omega)
    go_wp2_with fail
    go_ret
    exact ⟨⟨_, rfl, fun h => (by cases h), fun h => absurd h.1 h1⟩, HB.out⟩

end Go.Proofs.Ytjhcaedfknhilaa
