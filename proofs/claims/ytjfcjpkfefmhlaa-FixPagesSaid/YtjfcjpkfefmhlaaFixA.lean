/- Walks of package fix and of what it takes from slices: the leaves. -/
import Derived.Test.YtjfcjpkfefmhlaaBase
import Derived.Laws.CopyOwn
namespace Go.Proofs.Ytjfcjpkfefmhlaa
open Go.RowKit

set_option maxHeartbeats 400000 in
theorem number_any (b off cap : Nat) (x y : Int) (w : World) (hx : 0 ≤ x ∧ x < 256) (hy : 0 ≤ y ∧ y < 256)
    (h0 : w.cell? ⟨b, off, none⟩ = some (.int .u8 x)) (h1 : w.cell? ⟨b, off + 1, none⟩ = some (.int .u8 y)) (n : Nat) (hn : 2 ≤ n) :
    Calls Try.prog 59 #[.slice (some ⟨b, off, none⟩) n cap] w fun e w' => e = .returned (.int .i64 (x + 256 * y)) ∧ ∃ k, w' = w.drewN k := by
  go_enter Try.func59, Try.ntmps59
  go_wp2
  go_quiet (fail)
  go_wp2
  go_ret
  exact ⟨rfl, _, rfl⟩

set_option maxHeartbeats 400000 in
theorem put_any (b off cap k : Nat) (hk : 2 ≤ k) (x y n : Int) (w : World) (hn : 0 ≤ n ∧ n < 65536)
    (h0 : w.cell? ⟨b, off, none⟩ = some (.int .u8 x)) (h1 : w.cell? ⟨b, off + 1, none⟩ = some (.int .u8 y)) (hf0 : w.frozen? ⟨b, off, none⟩ = false) (hf1 : w.frozen? ⟨b, off + 1, none⟩ = false) :
    Calls Try.prog 48 #[.slice (some ⟨b, off, none⟩) k cap, .int .i64 n] w fun e w' => e = .returned (.tuple #[]) ∧ (w.setCell ⟨b, off, none⟩ (.int .u8 (n % 256))).setCell ⟨b, off + 1, none⟩ (.int .u8 (n / 256)) = w' := by
  go_enter Try.func48, Try.ntmps48
  go_wp2
  go_end0
  exact ⟨rfl, rfl⟩

set_option maxHeartbeats 400000 in
theorem marked_any (m : Int) (w : World) :
    Calls Try.prog 44 #[.int .i64 m] w fun e w' => e = .returned (.bool (decide (1 ≤ m ∧ m ≤ 65535))) ∧ w = w' := by
  rw [Bool.decide_and]
  by_cases h1 : 1 ≤ m
  all_goals
    go_enter Try.func44, Try.ntmps44
    go_wp2
    go_ret
    exact ⟨by first | (simp [h1]; done) | (simp; omega), rfl⟩

def newerF (u v : Int) : Bool := decide (0 < (if u - v < 0 then u - v + 65535 else u - v) ∧ (if u - v < 0 then u - v + 65535 else u - v) < 32768)
theorem newerF_neg {u v : Int} (h : u - v < 0) (h1 : 0 < u - v + 65535) : newerF u v = decide (u - v + 65535 < 32768) := by
  simp [newerF, if_pos h, h1]
theorem newerF_pos {u v : Int} (h : ¬ u - v < 0) (h1 : 0 < u - v) : newerF u v = decide (u - v < 32768) := by
  simp only [newerF, if_neg h, h1, true_and]
theorem newerF_zero {u v : Int} (h : ¬ u - v < 0) (h1 : ¬ 0 < u - v) : newerF u v = false := by
  simp only [newerF, if_neg h, h1, false_and, decide_false]

set_option maxHeartbeats 400000 in
theorem newer_any (u v : Int) (w : World) (hu : 1 ≤ u ∧ u ≤ 65535) (hv : 1 ≤ v ∧ v ≤ 65535) :
    Calls Try.prog 40 #[.int .i64 u, .int .i64 v] w fun e w' => e = .returned (.bool (newerF u v)) ∧ w = w' := by
  by_cases h0 : u - v < 0
  · rw [newerF_neg h0 (by omega)]
    go_enter Try.func40, Try.ntmps40
    go_wp2
    go_ret
    exact ⟨rfl, rfl⟩
  · by_cases h1 : 0 < u - v
    · rw [newerF_pos h0 h1]
      go_enter Try.func40, Try.ntmps40
      go_wp2
      go_ret
      exact ⟨rfl, rfl⟩
    · rw [newerF_zero h0 h1]
      go_enter Try.func40, Try.ntmps40
      go_wp2
      go_ret
      exact ⟨rfl, rfl⟩

set_option maxHeartbeats 400000 in
theorem Next_any (m : Int) (w : World) :
    Calls Try.prog 23 #[.int .i64 m] w fun e w' =>
      e = .returned (if 1 ≤ m ∧ m ≤ 65535 then .tuple #[.int .i64 (m % 65535 + 1), .int .i64 0] else .tuple #[.int .i64 0, .int .i64 1]) ∧ w = w' := by
  by_cases h : 1 ≤ m ∧ m ≤ 65535
  · have hd : decide (1 ≤ m ∧ m ≤ 65535) = true := by simpa using h
    rw [if_pos h]
    go_enter Try.func23, Try.ntmps23
    go_wp2_with (go_at_call 44; refine (marked_any _ _).mono ?_; rintro e w' ⟨rfl, rfl⟩)
    go_ret2
    exact ⟨rfl, rfl⟩
  · have hd : decide (1 ≤ m ∧ m ≤ 65535) = false := by simpa using h
    rw [if_neg h]
    go_enter Try.func23, Try.ntmps23
    go_wp2_with (go_at_call 44; refine (marked_any _ _).mono ?_; rintro e w' ⟨rfl, rfl⟩)
    go_ret2
    exact ⟨rfl, rfl⟩

end Go.Proofs.Ytjfcjpkfefmhlaa
