/- Walks of package slices at the instances that package fix uses: IndexFunc, ContainsFunc, Clone. -/
import Derived.Test.YtjfcjpkfefmhlaaFixA
namespace Go.Proofs.Ytjfcjpkfefmhlaa
open Go.RowKit

set_option maxHeartbeats 400000 in
theorem right1_any (a : Option Addr) (n cap : Nat) (w : World) :
    Calls Try.prog 58 #[.slice a n cap] w fun e w' => e = .returned (.bool ((n : Int) != 512)) ∧ w = w' := by
  go_enter Try.func58, Try.ntmps58
  go_wp2
  go_ret
  exact ⟨rfl, rfl⟩

set_option maxHeartbeats 400000 in
theorem guard1_any (c : Int) (w : World) :
    Calls Try.prog 46 #[.int .u8 c] w fun e w' => e = .returned (.bool (c != 0)) ∧ w = w' := by
  go_enter Try.func46, Try.ntmps46
  go_wp2
  go_ret
  exact ⟨rfl, rfl⟩

theorem ret_i64 {a b : Int} (h : a = b) : Ending.returned (.int .i64 a) = .returned (.int .i64 b) := by rw [h]

/-- The first of 0 .. n-1 that p is true of, otherwise -1. -/
def firstB (p : Nat → Bool) (n : Nat) : Int := match (List.range n).find? p with | some i => i | none => -1

theorem firstB_hit {p : Nat → Bool} {n k : Nat} (hk : k < n) (hp : p k = true) (h : ∀ i, i < k → p i = false) : firstB p n = k := by
  unfold firstB
  have : (List.range n).find? p = some k := by
    rw [List.find?_range_eq_some]
    exact ⟨hp, by simpa using hk, fun j hj => by simp [h j hj]⟩
  rw [this]

theorem firstB_miss {p : Nat → Bool} {n : Nat} (h : ∀ i, i < n → p i = false) : firstB p n = -1 := by
  unfold firstB
  have : (List.range n).find? p = none := by
    rw [List.find?_eq_none]
    intro x hx; simp [h x (by simpa using hx)]
  rw [this]

theorem firstB_any (p : Nat → Bool) (n : Nat) : decide (0 ≤ firstB p n) = anyB p n := by
  by_cases h : ∀ i, i < n → p i = false
  · rw [firstB_miss h, anyB_false.2 h]; rfl
  · have h2 : anyB p n = true := by
      rcases hb : anyB p n with _ | _
      · exact absurd (anyB_false.1 hb) h
      · rfl
    rw [h2]
    unfold firstB
    split
    · simp
    · rename_i hn
      rw [List.find?_eq_none] at hn
      exact absurd (fun i hi => by have := hn i (by simpa using hi); simpa using this) h

set_option maxHeartbeats 400000 in
theorem indexPages_any (b off cap n : Nat) (A : Nat → Option Addr) (L C : Nat → Nat) (w : World) (hn : n ≤ 1000)
    (hc : Cells w b off n (fun i => .slice (A i) (L i) (C i))) :
    Calls Try.prog 63 #[.slice (some ⟨b, off, none⟩) n cap, .func (.func 58) #[] #[]] w fun e w' =>
      e = .returned (.int .i64 (firstB (fun i => (L i : Int) != 512) n)) ∧ w = w' := by
  go_enter Try.func63, Try.ntmps63
  go_wp2_with fail
  go_loop [8] (fun t => ∃ k : Nat, k ≤ n ∧ t = .int .i64 k ∧ (∀ i, i < k → ((L i : Int) != 512) = false)) (fun t => n - (intOf t).toNat)
  case atStart => exact ⟨0, by omega, rfl, fun i hi => absurd hi (by omega)⟩
  case round =>
    obtain ⟨k, hk, rfl, hq⟩ := hrel
    have Hq := Lib.hid hq; clear hq
    by_cases hlt : k < n
    · have hcell := hc k hlt
      rcases hb : ((L k : Int) != 512) with _ | _
      · go_wp2_with (go_at_call 58; refine (right1_any _ _ _ _).mono ?_; rintro e w' ⟨rfl, rfl⟩)
        go_round
        case rel => exact ⟨k + 1, by omega, by go_num, fun i hi => if h : i = k then by rw [h]; exact hb else Hq.out i (by omega)⟩
        case measure => simp [intOf]; omega
      · go_wp2_with (go_at_call 58; refine (right1_any _ _ _ _).mono ?_; rintro e w' ⟨rfl, rfl⟩)
        go_ret
        exact ⟨ret_i64 (firstB_hit hlt hb Hq.out).symm, rfl⟩
    · go_wp2_with fail
      go_ret
      exact ⟨ret_i64 (firstB_miss (fun i hi => Hq.out i (by omega))).symm, rfl⟩

set_option maxHeartbeats 400000 in
theorem indexBytes_any (b off cap n : Nat) (f : Nat → Int) (w : World) (hn : n ≤ 1000)
    (hc : Cells w b off n (fun i => .int .u8 (f i))) :
    Calls Try.prog 60 #[.slice (some ⟨b, off, none⟩) n cap, .func (.func 46) #[] #[]] w fun e w' =>
      e = .returned (.int .i64 (firstB (fun i => f i != 0) n)) ∧ w = w' := by
  go_enter Try.func60, Try.ntmps60
  go_wp2_with fail
  go_loop [8] (fun t => ∃ k : Nat, k ≤ n ∧ t = .int .i64 k ∧ (∀ i, i < k → (f i != 0) = false)) (fun t => n - (intOf t).toNat)
  case atStart => exact ⟨0, by omega, rfl, fun i hi => absurd hi (by omega)⟩
  case round =>
    obtain ⟨k, hk, rfl, hq⟩ := hrel
    have Hq := Lib.hid hq; clear hq
    by_cases hlt : k < n
    · have hcell := hc k hlt
      rcases hb : (f k != 0) with _ | _
      · go_wp2_with (go_at_call 46; refine (guard1_any _ _).mono ?_; rintro e w' ⟨rfl, rfl⟩)
        go_round
        case rel => exact ⟨k + 1, by omega, by go_num, fun i hi => if h : i = k then by rw [h]; exact hb else Hq.out i (by omega)⟩
        case measure => simp [intOf]; omega
      · go_wp2_with (go_at_call 46; refine (guard1_any _ _).mono ?_; rintro e w' ⟨rfl, rfl⟩)
        go_ret
        exact ⟨ret_i64 (firstB_hit hlt hb Hq.out).symm, rfl⟩
    · go_wp2_with fail
      go_ret
      exact ⟨ret_i64 (firstB_miss (fun i hi => Hq.out i (by omega))).symm, rfl⟩

set_option maxHeartbeats 400000 in
theorem containsPages_any (b off cap n : Nat) (A : Nat → Option Addr) (L C : Nat → Nat) (w : World) (hn : n ≤ 1000)
    (hc : Cells w b off n (fun i => .slice (A i) (L i) (C i))) :
    Calls Try.prog 57 #[.slice (some ⟨b, off, none⟩) n cap, .func (.func 58) #[] #[]] w fun e w' =>
      e = .returned (.bool (anyB (fun i => (L i : Int) != 512) n)) ∧ w = w' := by
  rw [← firstB_any]
  go_enter Try.func57, Try.ntmps57
  go_wp2_with (go_at_call 63; refine (indexPages_any _ _ _ _ _ _ _ _ hn hc).mono ?_; rintro e w' ⟨rfl, rfl⟩)
  go_ret
  exact ⟨rfl, rfl⟩

set_option maxHeartbeats 400000 in
theorem containsBytes_any (b off cap n : Nat) (f : Nat → Int) (w : World) (hn : n ≤ 1000)
    (hc : Cells w b off n (fun i => .int .u8 (f i))) :
    Calls Try.prog 45 #[.slice (some ⟨b, off, none⟩) n cap, .func (.func 46) #[] #[]] w fun e w' =>
      e = .returned (.bool (anyB (fun i => f i != 0) n)) ∧ w = w' := by
  rw [← firstB_any]
  go_enter Try.func45, Try.ntmps45
  go_wp2_with (go_at_call 60; refine (indexBytes_any _ _ _ _ _ _ hn hc).mono ?_; rintro e w' ⟨rfl, rfl⟩)
  go_ret
  exact ⟨rfl, rfl⟩

set_option maxHeartbeats 400000 in
/-- right of some pages. -/
theorem right_any (b off cap n : Nat) (A : Nat → Option Addr) (L C : Nat → Nat) (w : World) (hn : n ≤ 1000)
    (hc : Cells w b off n (fun i => .slice (A i) (L i) (C i))) :
    Calls Try.prog 37 #[.slice (some ⟨b, off, none⟩) n cap] w fun e w' =>
      e = .returned (.bool (!anyB (fun i => (L i : Int) != 512) n)) ∧ w = w' := by
  go_enter Try.func37, Try.ntmps37
  go_wp2_with (go_at_call 57; refine (containsPages_any _ _ _ _ _ _ _ _ hn hc).mono ?_; rintro e w' ⟨rfl, rfl⟩)
  go_ret
  exact ⟨rfl, rfl⟩

end Go.Proofs.Ytjfcjpkfefmhlaa
