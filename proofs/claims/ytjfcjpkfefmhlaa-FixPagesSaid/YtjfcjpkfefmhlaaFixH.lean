/- Guard. -/
import Derived.Test.YtjfcjpkfefmhlaaFixG
namespace Go.Proofs.Ytjfcjpkfefmhlaa
open Go.RowKit
attribute [local go_sem] Oper.semAt_some

/-- The image behind k rounds of Guard. -/
def guardK (m : Int) (f : Nat → Int) (k : Nat) (i : Nat) : Int :=
  if i = 0 then m % 256 else if i = 1 then m / 256
  else if i < 2 + 2 * k then f (64 * ((i - 2) / 2) + 62 + (i - 2) % 2)
  else if i / 64 < k ∧ i % 64 = 62 then m % 256 else if i / 64 < k ∧ i % 64 = 63 then m / 256 else f i

/-- The image of a page. -/
def guardF (m : Int) (f : Nat → Int) : Nat → Int := guardK m f 8

theorem guardK_tail0 (m : Int) (f : Nat → Int) (k : Nat) (hk : k < 8) : guardK m f k (64 * k + 62) = f (64 * k + 62) := by
  unfold guardK
  rw [if_neg (by omega), if_neg (by omega), if_neg (by omega), if_neg (by omega), if_neg (by omega)]

theorem guardK_tail1 (m : Int) (f : Nat → Int) (k : Nat) (hk : k < 8) : guardK m f k (64 * k + 63) = f (64 * k + 63) := by
  unfold guardK
  rw [if_neg (by omega), if_neg (by omega), if_neg (by omega), if_neg (by omega), if_neg (by omega)]

/-- One round, as the cells are written. -/
theorem guardK_succ (m : Int) (f : Nat → Int) (k i : Nat) (hk : k < 8) :
    (if i = 64 * k + 63 then m / 256 else if i = 64 * k + 62 then m % 256 else if 2 + 2 * k ≤ i ∧ i < 2 + 2 * k + 2 then guardK m f k (64 * k + 62 + (i - (2 + 2 * k))) else guardK m f k i) = guardK m f (k + 1) i := by
  by_cases h1 : i = 64 * k + 63
  · subst h1
    rw [if_pos rfl]; unfold guardK
    rw [if_neg (by omega), if_neg (by omega), if_neg (by omega), if_neg (by omega), if_pos (by omega)]
  rw [if_neg h1]
  by_cases h2 : i = 64 * k + 62
  · subst h2
    rw [if_pos rfl]; unfold guardK
    rw [if_neg (by omega), if_neg (by omega), if_neg (by omega), if_pos (by omega)]
  rw [if_neg h2]
  by_cases h3 : 2 + 2 * k ≤ i ∧ i < 2 + 2 * k + 2
  · rw [if_pos h3]
    have h4 : i = 2 + 2 * k ∨ i = 2 + 2 * k + 1 := by omega
    rcases h4 with rfl | rfl
    · rw [show 64 * k + 62 + (2 + 2 * k - (2 + 2 * k)) = 64 * k + 62 from by omega, guardK_tail0 m f k hk]
      unfold guardK
      rw [if_neg (by omega), if_neg (by omega), if_pos (by omega)]
      congr 1; omega
    · rw [show 64 * k + 62 + (2 + 2 * k + 1 - (2 + 2 * k)) = 64 * k + 63 from by omega, guardK_tail1 m f k hk]
      unfold guardK
      rw [if_neg (by omega), if_neg (by omega), if_pos (by omega)]
      congr 1; omega
  rw [if_neg h3]
  unfold guardK
  by_cases h5 : i = 0
  · rw [if_pos h5, if_pos h5]
  rw [if_neg h5, if_neg h5]
  by_cases h6 : i = 1
  · rw [if_pos h6, if_pos h6]
  rw [if_neg h6, if_neg h6]
  by_cases h7 : i < 2 + 2 * k
  · rw [if_pos h7, if_pos (by omega)]
  rw [if_neg h7, if_neg (show ¬ i < 2 + 2 * (k + 1) by omega)]
  by_cases h8 : i / 64 < k ∧ i % 64 = 62
  · rw [if_pos h8, if_pos (show i / 64 < k + 1 ∧ i % 64 = 62 by omega)]
  rw [if_neg h8, if_neg (show ¬ (i / 64 < k + 1 ∧ i % 64 = 62) by omega)]
  by_cases h9 : i / 64 < k ∧ i % 64 = 63
  · rw [if_pos h9, if_pos (show i / 64 < k + 1 ∧ i % 64 = 63 by omega)]
  rw [if_neg h9, if_neg (show ¬ (i / 64 < k + 1 ∧ i % 64 = 63) by omega)]

def GuardBad (w : World) (c : Int) (e : Ending) (w' : World) : Prop := e = .returned (.tuple #[.slice none 0 0, .int .i64 c]) ∧ Below w.heap.size w w'

def GuardOk (w : World) (m : Int) (f : Nat → Int) (e : Ending) (w' : World) : Prop :=
  ∃ g cap, e = .returned (.tuple #[.slice (some ⟨g, 0, none⟩) 512 cap, .int .i64 0]) ∧ w.heap.size ≤ g ∧ RowAt w' g 5 cap 512 (bytesV (guardF m f)) ∧ cap ≤ maxLen ∧ Below w.heap.size w w'

theorem right_one (a : Option Addr) (n cap : Nat) (w : World) :
    Calls Try.prog 37 #[.slice (some ⟨w.heap.size, 0, none⟩) 1 1] (w.alloc (.cells #[.slice a n cap] 22)) fun e w' => e = .returned (.bool ((n : Int) == 512)) ∧ w.alloc (.cells #[.slice a n cap] 22) = w' := by
  have h := right_any w.heap.size 0 1 1 (fun _ => a) (fun _ => n) (fun _ => cap) (w.alloc (.cells #[.slice a n cap] 22)) (by omega) (RowAt.new w #[.slice a n cap] 22 _ 1 (by simp) (one_cell rfl)).reads
  refine h.mono ?_
  rintro e w' ⟨rfl, rfl⟩
  refine ⟨?_, rfl⟩
  simp [anyB, bne]

set_option maxHeartbeats 1000000 in
theorem guard_len (a : Option Addr) (n cap : Nat) (hn : n ≠ 512) (m : Int) (w : World) :
    Calls Try.prog 18 #[.slice a n cap, .int .i64 m] w (GuardBad w 1) := by
  have hb : ((n : Int) == 512) = false := by rw [beq_eq_false_iff_ne]; omega
  go_enter Try.func18, Try.ntmps18
  go_wp2_with fail
  rw [← World.size_alloc w (.cells #[.int .i64 m] 3)]
  refine (right_one a n cap (w.alloc (.cells #[.int .i64 m] 3))).mono ?_
  rintro e w' ⟨rfl, rfl⟩
  go_wp2
  go_ret2
  exact ⟨rfl, ((Below.refl _ w).alloc (Nat.le_refl _) _).alloc (by simp) _⟩

set_option maxHeartbeats 1000000 in
theorem guard_mark (a : Option Addr) (cap : Nat) (m : Int) (hm : ¬ (1 ≤ m ∧ m ≤ 65535)) (w : World) :
    Calls Try.prog 18 #[.slice a 512 cap, .int .i64 m] w (GuardBad w 1) := by
  have hb : decide (1 ≤ m ∧ m ≤ 65535) = false := by simpa using hm
  clear hm
  go_enter Try.func18, Try.ntmps18
  go_wp2_with fail
  rw [← World.size_alloc w (.cells #[.int .i64 m] 3)]
  refine (right_one a 512 cap (w.alloc (.cells #[.int .i64 m] 3))).mono ?_
  rintro e w' ⟨rfl, rfl⟩
  have hc : ((w.alloc (.cells #[.int .i64 m] 3)).alloc (.cells #[.slice a 512 cap] 22)).cell? ⟨w.heap.size, 0, none⟩ = some (.int .i64 m) := ((RowAt.new w #[.int .i64 m] 3 (fun _ => .int .i64 m) 1 (by simp) (one_cell rfl)).alloc _).cell (by omega)
  go_wp2_with (go_at_call 44; refine (marked_any _ _).mono ?_; rintro e w' ⟨rfl, rfl⟩)
  go_ret2
  exact ⟨rfl, ((Below.refl _ w).alloc (Nat.le_refl _) _).alloc (by simp) _⟩

set_option maxHeartbeats 1000000 in
theorem guard_form (b off cap : Nat) (hcap : 512 ≤ cap) (m : Int) (hm : 1 ≤ m ∧ m ≤ 65535) (f : Nat → Int) (hf : anyB (fun i => f i != 0) 18 = true) (w : World) (hc : Cells w b off 512 (bytesV f)) :
    Calls Try.prog 18 #[.slice (some ⟨b, off, none⟩) 512 cap, .int .i64 m] w (GuardBad w 4) := by
  have hb : decide (1 ≤ m ∧ m ≤ 65535) = true := by simpa using hm
  have hc2 := ((hc.take (show 18 ≤ 512 by omega)).alloc (.cells #[.int .i64 m] 3)).alloc (.cells #[.slice (some ⟨b, off, none⟩) 512 cap] 22)
  have hcl := Lib.hid hc2; clear hc2 hc
  have Hf := Lib.hid hf; clear hf
  clear hm
  go_enter Try.func18, Try.ntmps18
  go_wp2_with fail
  rw [← World.size_alloc w (.cells #[.int .i64 m] 3)]
  refine (right_one _ 512 cap (w.alloc (.cells #[.int .i64 m] 3))).mono ?_
  rintro e w' ⟨rfl, rfl⟩
  have hc : ((w.alloc (.cells #[.int .i64 m] 3)).alloc (.cells #[.slice (some ⟨b, off, none⟩) 512 cap] 22)).cell? ⟨w.heap.size, 0, none⟩ = some (.int .i64 m) := ((RowAt.new w #[.int .i64 m] 3 (fun _ => .int .i64 m) 1 (by simp) (one_cell rfl)).alloc _).cell (by omega)
  go_wp2_with (go_at_call 44; refine (marked_any _ _).mono ?_; rintro e w' ⟨rfl, rfl⟩)
  refine (containsBytes_any _ _ _ 18 f _ (by omega) hcl.out).mono ?_
  rintro e w' ⟨rfl, rfl⟩
  rw [Hf.out]
  go_wp2
  go_ret2
  exact ⟨rfl, ((Below.refl _ w).alloc (Nat.le_refl _) _).alloc (by simp) _⟩

end Go.Proofs.Ytjfcjpkfefmhlaa
