/- Blend. -/
import Derived.Test.YtjfcjpkfefmhlaaFixK
import Derived.Test.YtjfcjpkfefmhlaaBits
namespace Go.Proofs.Ytjfcjpkfefmhlaa
open Go.RowKit

set_option maxHeartbeats 400000 in
theorem blend1_any (s : Nat) (hs : s < 8) (m : Int) (hm : 0 ≤ m ∧ m ≤ 255) (p : Addr) (w : World) (hc : w.cell? p = some (.int .i64 m)) :
    Calls Try.prog 53 (#[.int .i64 (s : Int)] ++ #[.pointer (some p)]) w fun e w' => e = .returned (.bool (bitI m s)) ∧ ∃ n, w' = w.drewN n := by
  have h : bitI m s = (bits .and .i64 (m / 2 ^ s) 1 == 1) := by unfold bitI; rw [and1_i64]
  rw [h]
  clear h
  show Calls _ _ #[.int .i64 (s : Int), .pointer (some p)] w _
  go_enter Try.func53, Try.ntmps53
  go_wp2
  go_ret
  exact ⟨rfl, 0, rfl⟩

/-- right of two pages. -/
theorem right_two (a1 a2 : Option Addr) (n1 c1 n2 c2 : Nat) (w : World) :
    Calls Try.prog 37 #[.slice (some ⟨w.heap.size, 0, none⟩) 2 2] (w.alloc (.cells #[.slice a1 n1 c1, .slice a2 n2 c2] 22)) fun e w' =>
      e = .returned (.bool ((n1 : Int) == 512 && (n2 : Int) == 512)) ∧ w.alloc (.cells #[.slice a1 n1 c1, .slice a2 n2 c2] 22) = w' := by
  have h := right_any w.heap.size 0 2 2 (fun i => if i = 0 then a1 else a2) (fun i => if i = 0 then n1 else n2) (fun i => if i = 0 then c1 else c2) (w.alloc (.cells #[.slice a1 n1 c1, .slice a2 n2 c2] 22)) (by omega)
    (RowAt.new w #[.slice a1 n1 c1, .slice a2 n2 c2] 22 _ 2 (by simp) (fun i hi => by
      have : i = 0 ∨ i = 1 := by omega
      rcases this with rfl | rfl <;> rfl)).reads
  refine h.mono ?_
  rintro e w' ⟨rfl, rfl⟩
  refine ⟨?_, rfl⟩
  simp [anyB, bne]

def blendArgs (n1 n2 : Nat) (m : Int) : Prop := n1 = 512 ∧ n2 = 512 ∧ 0 ≤ m ∧ m ≤ 255

set_option maxHeartbeats 1000000 in
theorem blend_bad (a1 a2 : Option Addr) (n1 c1 n2 c2 : Nat) (m : Int) (h : ¬ blendArgs n1 n2 m) (w : World) :
    Calls Try.prog 21 #[.slice a1 n1 c1, .slice a2 n2 c2, .int .i64 m] w (GuardBad w 1) := by
  unfold blendArgs at h
  rcases hb : ((n1 : Int) == 512 && (n2 : Int) == 512) with _ | _
  · clear h
    go_enter Try.func21, Try.ntmps21
    go_wp2_with fail
    rw [← World.size_alloc w (.cells #[.int .i64 m] 3)]
    refine (right_two a1 a2 n1 c1 n2 c2 (w.alloc (.cells #[.int .i64 m] 3))).mono ?_
    rintro e w' ⟨rfl, rfl⟩
    rw [hb]
    go_wp2
    go_ret2
    exact ⟨rfl, ((Below.refl _ w).alloc (Nat.le_refl _) _).alloc (by simp) _⟩
  · have hm : ¬ (0 ≤ m ∧ m ≤ 255) := by
      intro hm
      simp only [Bool.and_eq_true, beq_iff_eq] at hb
      exact h ⟨by omega, by omega, hm⟩
    clear h
    have hc : ((w.alloc (.cells #[.int .i64 m] 3)).alloc (.cells #[.slice a1 n1 c1, .slice a2 n2 c2] 22)).cell? ⟨w.heap.size, 0, none⟩ = some (.int .i64 m) := ((RowAt.new w #[.int .i64 m] 3 (fun _ => .int .i64 m) 1 (by simp) (one_cell rfl)).alloc _).cell (by omega)
    by_cases h0 : m < 0
    all_goals
      go_enter Try.func21, Try.ntmps21
      go_wp2_with fail
      rw [← World.size_alloc w (.cells #[.int .i64 m] 3)]
      refine (right_two a1 a2 n1 c1 n2 c2 (w.alloc (.cells #[.int .i64 m] 3))).mono ?_
      rintro e w' ⟨rfl, rfl⟩
      rw [hb]
      go_wp2
      go_ret2
      exact ⟨rfl, ((Below.refl _ w).alloc (Nat.le_refl _) _).alloc (by simp) _⟩

def BlendOk (w : World) (f : Nat → Int) (e : Ending) (w' : World) : Prop :=
  ∃ g cap, e = .returned (.tuple #[.slice (some ⟨g, 0, none⟩) 512 cap, .int .i64 0]) ∧ w.heap.size ≤ g ∧ RowAt w' g 5 cap 512 (bytesV f) ∧ cap ≤ maxLen ∧ Below w.heap.size w w'

set_option maxHeartbeats 1000000 in
theorem blend_ok (b off cap b2 off2 cap2 : Nat) (hcap2 : 512 ≤ cap2) (fa fb : Nat → Int) (m : Int) (hm0 : 0 ≤ m) (hm1 : m ≤ 255) (w : World)
    (ha : Cells w b off 512 (bytesV fa)) (hb : Cells w b2 off2 512 (bytesV fb)) :
    Calls Try.prog 21 #[.slice (some ⟨b, off, none⟩) 512 cap, .slice (some ⟨b2, off2, none⟩) 512 cap2, .int .i64 m] w (BlendOk w (blendF (bitI m) fa fb)) := by
  have hmf : ∀ (fn : Fn) (first cap : Array Value) (w : World), (Instr.makeFunc fn first cap).run Try.prog w = .ok (.func fn first cap) w := fun _ _ _ _ => rfl
  have rm := (RowAt.new w #[.int .i64 m] 3 (fun _ => .int .i64 m) 1 (by simp) (one_cell rfl)).alloc (.cells #[.slice (some ⟨b, off, none⟩) 512 cap, .slice (some ⟨b2, off2, none⟩) 512 cap2] 22)
  have hc := rm.cell (i := 0) (by omega)
  have hbl := blended_any b off cap b2 off2 cap2 hcap2 fa fb 53 #[.pointer (some ⟨w.heap.size, 0, none⟩)] (enters_of Try.func53 (by kernel_rfl) rfl) (bitI m)
    ((w.alloc (.cells #[.int .i64 m] 3)).alloc (.cells #[.slice (some ⟨b, off, none⟩) 512 cap, .slice (some ⟨b2, off2, none⟩) 512 cap2] 22)) ((ha.alloc _).alloc _) ((hb.alloc _).alloc _)
    (fun s hs W hW => blend1_any s hs m ⟨hm0, hm1⟩ ⟨w.heap.size, 0, none⟩ W ((rm.below hW (by simp; omega)).cell (by omega)))
  have Hbl := Lib.hid hbl; clear hbl
  clear ha hb rm
  go_enter Try.func21, Try.ntmps21
  go_wp2_with fail
  rw [← World.size_alloc w (.cells #[.int .i64 m] 3)]
  refine (right_two _ _ 512 cap 512 cap2 (w.alloc (.cells #[.int .i64 m] 3))).mono ?_
  rintro e w' ⟨rfl, rfl⟩
  go_wp2_with (go_at_call 41; refine Hbl.out.mono ?_; rintro e w' ⟨g, cp, rfl, hg, hrow, hmx, hbel⟩)
  go_ret2
  simp only [World.size_alloc] at hg hbel
  exact ⟨g, cp, rfl, by omega, hrow, hmx, (((Below.refl _ w).alloc (Nat.le_refl _) _).alloc (by simp) _).trans (hbel.mono (by omega))⟩

end Go.Proofs.Ytjfcjpkfefmhlaa
