/- Span: lookups in the map of kinds, bounds, the least of a list, ContainsFunc. -/
import Derived.Test.YtlbohmfhdchabaaSpanA
import Derived.Test.YtlbohmfhdchabaaSpec
import Derived.MapKept
namespace Go.Proofs.Ytlbohmfhdchabaa
open Go.RowKit

/-- The first of 0 .. n-1 that p is true of, otherwise -1. -/
def firstB (p : Nat → Bool) (n : Nat) : Int := match (List.range n).find? p with | some i => i | none => -1

theorem firstB_hit {p : Nat → Bool} {n k : Nat} (hk : k < n) (hp : p k = true) (h : ∀ i, i < k → p i = false) : firstB p n = k := by
  unfold firstB
  have : (List.range n).find? p = some k := by
    rw [List.find?_range_eq_some]
    exact ⟨hp, by simpa using hk, fun j hj => by simp [h j hj]⟩
  rw [this]

theorem firstB_miss {p : Nat → Bool} {n : Nat} (h : ∀ i, i < n → p i = false) : firstB p n = -1 := by
  unfold firstB
  have : (List.range n).find? p = none := by
    rw [List.find?_eq_none]
    intro x hx; simp [h x (by simpa using hx)]
  rw [this]

theorem firstB_any (p : Nat → Bool) (n : Nat) : decide (0 ≤ firstB p n) = anyB p n := by
  by_cases h : ∀ i, i < n → p i = false
  · rw [firstB_miss h, anyB_false.2 h]; rfl
  · have h2 : anyB p n = true := by
      rcases hb : anyB p n with _ | _
      · exact absurd (anyB_false.1 hb) h
      · rfl
    rw [h2]
    unfold firstB
    split
    · simp
    · rename_i hn
      rw [List.find?_eq_none] at hn
      exact absurd (fun i hi => by have := hn i (by simpa using hi); simpa using this) h

/-- What the map of kinds has. -/
def kindT (k : Int) : TypeId := if k = 1 then 89 else if k = 2 then 90 else if k = 3 then 91 else if k = 4 then 92 else 93

theorem lookup_hit {w : World} {b : Nat} (hb : w.heap[b]? = some kindsObj) (k : Int) (h : 1 ≤ k ∧ k ≤ 5) :
    (Instr.lookup 82 (.map (some b)) (.int .i64 k) true).run Try.prog w = .ok (.tuple #[.iface (kindT k) (.agg #[]), .bool true]) w := by
  have hkey : MapKept.IsKey (.int .i64) (.int .i64 k) := by simp [MapKept.IsKey]
  have ht : Try.prog.underlying 82 = some (.map 3 68) := rfl
  have hk : Try.prog.underlying 3 = some (.int .i64) := rfl
  have hf : ∃ i e, (Instr.findKey 3 (.int .i64 k) [kE 1 89 0, kE 2 90 1, kE 3 91 2, kE 4 92 3, kE 5 93 4]).run Try.prog w = .ok (some (i, e)) w ∧ e = .iface (kindT k) (.agg #[]) := by
    obtain h1 | h1 | h1 | h1 | h1 : k = 1 ∨ k = 2 ∨ k = 3 ∨ k = 4 ∨ k = 5 := by omega
    all_goals subst h1
    · exact ⟨_, _, MapKept.run_findKey hk (a := some (0, .iface 89 (.agg #[]))) rfl, rfl⟩
    · exact ⟨_, _, MapKept.run_findKey hk (a := some (1, .iface 90 (.agg #[]))) rfl, rfl⟩
    · exact ⟨_, _, MapKept.run_findKey hk (a := some (2, .iface 91 (.agg #[]))) rfl, rfl⟩
    · exact ⟨_, _, MapKept.run_findKey hk (a := some (3, .iface 92 (.agg #[]))) rfl, rfl⟩
    · exact ⟨_, _, MapKept.run_findKey hk (a := some (4, .iface 93 (.agg #[]))) rfl, rfl⟩
  obtain ⟨i, e, hf, he⟩ := hf
  have hb' : w.heap[b]? = some (.map #[kE 1 89 0, kE 2 90 1, kE 3 91 2, kE 4 92 3, kE 5 93 4] 5) := hb
  simp [Instr.lookup, run_underlying ht, MapKept.run_getObj_map hb', MapKept.run_checkKey hk hkey, hf, he, Result.andThen]

theorem lookup_miss {w : World} {b : Nat} (hb : w.heap[b]? = some kindsObj) (k : Int) (h : ¬(1 ≤ k ∧ k ≤ 5)) :
    (Instr.lookup 82 (.map (some b)) (.int .i64 k) true).run Try.prog w = .ok (.tuple #[.nilIface, .bool false]) w := by
  have hkey : MapKept.IsKey (.int .i64) (.int .i64 k) := by simp [MapKept.IsKey]
  have ht : Try.prog.underlying 82 = some (.map 3 68) := rfl
  have hk : Try.prog.underlying 3 = some (.int .i64) := rfl
  have hz : (zeroValue 68).run Try.prog w = .ok .nilIface w := by kernel_rfl
  have hf : (Instr.findKey 3 (.int .i64 k) [kE 1 89 0, kE 2 90 1, kE 3 91 2, kE 4 92 3, kE 5 93 4]).run Try.prog w = .ok none w := by
    refine MapKept.run_findKey hk ?_
    have h1 : (k == 1) = false := by rw [beq_eq_false_iff_ne]; omega
    have h2 : (k == 2) = false := by rw [beq_eq_false_iff_ne]; omega
    have h3 : (k == 3) = false := by rw [beq_eq_false_iff_ne]; omega
    have h4 : (k == 4) = false := by rw [beq_eq_false_iff_ne]; omega
    have h5 : (k == 5) = false := by rw [beq_eq_false_iff_ne]; omega
    simp [Instr.findNow, kE, Instr.sameNow, h1, h2, h3, h4, h5]
  have hb' : w.heap[b]? = some (.map #[kE 1 89 0, kE 2 90 1, kE 3 91 2, kE 4 92 3, kE 5 93 4] 5) := hb
  simp [Instr.lookup, run_underlying ht, MapKept.run_getObj_map hb', MapKept.run_checkKey hk hkey, hf, hz, Result.andThen]

set_option maxHeartbeats 400000 in
theorem of1_any (c : Int) (w : World) :
    Calls Try.prog 53 #[.int .i64 c] w fun e w' => e = .returned (.bool (decide (c < 1) || decide (4096 < c))) ∧ w = w' := by
  go_enter Try.func53, Try.ntmps53
  rcases h1 : decide (c < 1) with _ | _ <;> rcases h2 : decide (4096 < c) with _ | _
  all_goals
    simp only [decide_eq_true_eq, decide_eq_false_iff_not] at h1 h2
    go_wp2
    go_ret
    exact ⟨by simp <;> omega, rfl⟩

set_option maxHeartbeats 400000 in
theorem indexInts_any (b off cap n : Nat) (f : Nat → Int) (w : World) (hn : n ≤ 1000) (hc : Cells w b off n (intsV f)) :
    Calls Try.prog 57 #[.slice (some ⟨b, off, none⟩) n cap, .func (.func 53) #[] #[]] w fun e w' =>
      e = .returned (.int .i64 (firstB (fun i => (decide (f i < 1) || decide (4096 < f i))) n)) ∧ w = w' := by
  go_enter Try.func57, Try.ntmps57
  go_wp2_with fail
  go_loop [8] (fun t => ∃ k : Nat, k ≤ n ∧ t = .int .i64 k ∧ (∀ i, i < k → (decide (f i < 1) || decide (4096 < f i)) = false)) (fun t => n - (intOf t).toNat)
  case atStart => exact ⟨0, by omega, rfl, fun i hi => absurd hi (by omega)⟩
  case round =>
    obtain ⟨k, hk, rfl, hq⟩ := hrel
    have Hq := Lib.hid hq; clear hq
    by_cases hlt : k < n
    · have hcell := hc k hlt
      unfold intsV at hcell
      rcases hb : (decide (f k < 1) || decide (4096 < f k)) with _ | _
      · go_wp2_with (go_at_call 53; refine (of1_any _ _).mono ?_; rintro e w' ⟨rfl, rfl⟩)
        go_round
        case rel => exact ⟨k + 1, by omega, by go_num, fun i hi => if h : i = k then by rw [h]; exact hb else Hq.out i (by omega)⟩
        case measure => simp [intOf]; omega
      · go_wp2_with (go_at_call 53; refine (of1_any _ _).mono ?_; rintro e w' ⟨rfl, rfl⟩)
        go_ret
        exact ⟨ret_i64 (firstB_hit hlt hb Hq.out).symm, rfl⟩
    · go_wp2_with fail
      go_ret
      exact ⟨ret_i64 (firstB_miss (fun i hi => Hq.out i (by omega))).symm, rfl⟩

set_option maxHeartbeats 400000 in
theorem containsInts_any (b off cap n : Nat) (f : Nat → Int) (w : World) (hn : n ≤ 1000) (hc : Cells w b off n (intsV f)) :
    Calls Try.prog 52 #[.slice (some ⟨b, off, none⟩) n cap, .func (.func 53) #[] #[]] w fun e w' =>
      e = .returned (.bool (anyB (fun i => (decide (f i < 1) || decide (4096 < f i))) n)) ∧ w = w' := by
  rw [← firstB_any]
  go_enter Try.func52, Try.ntmps52
  go_wp2_with (go_at_call 57; refine (indexInts_any _ _ _ _ _ _ hn hc).mono ?_; rintro e w' ⟨rfl, rfl⟩)
  go_ret
  exact ⟨rfl, rfl⟩

set_option maxHeartbeats 400000 in
theorem minInts_any (b off cap n : Nat) (f : Nat → Int) (w : World) (hn : n ≤ 1000) (h0 : 0 < n) (hc : Cells w b off n (intsV f)) :
    Calls Try.prog 54 #[.slice (some ⟨b, off, none⟩) n cap] w fun e w' => e = .returned (.int .i64 (minI f (n - 1))) ∧ w = w' := by
  go_enter Try.func54, Try.ntmps54
  have hc0 := hc 0 h0
  simp only [intsV, Nat.add_zero] at hc0
  go_wp2_with fail
  go_loop [4, 3] (fun t u => ∃ k : Nat, k < n ∧ t = .int .i64 (k + 1 : Nat) ∧ u = .int .i64 (minI f k)) (fun t _ => n - (intOf t).toNat)
  case atStart => exact ⟨0, by omega, rfl, rfl⟩
  case round =>
    obtain ⟨k, hk, rfl, rfl⟩ := hrel
    by_cases hlt : k + 1 < n
    · have hcell := hc (k + 1) hlt
      unfold intsV at hcell
      go_wp2_with fail
      go_round
      case rel => exact ⟨k + 1, by omega, by go_num, by
        simp only [Value.int.injEq, true_and, minI]
        split <;> omega⟩
      case measure => simp [intOf]; omega
    · obtain rfl : k = n - 1 := by omega
      go_wp2_with fail
      go_ret
      exact ⟨rfl, rfl⟩

set_option maxHeartbeats 400000 in
theorem bounds1_any (w : World) : Calls Try.prog 73 #[.agg #[]] w fun e w' => e = .returned (.tuple #[.int .i64 1, .int .i64 1]) ∧ Below w.heap.size w w' := by
  go_enter Try.func73, Try.ntmps73
  go_wp2
  refine bodyPost_ret (v := .tuple #[.int .i64 1, .int .i64 1]) (by simp [results, Try.results73, go_sem]) rfl ⟨rfl, (Below.refl _ w).alloc (Nat.le_refl _) _⟩
set_option maxHeartbeats 400000 in
theorem bounds2_any (w : World) : Calls Try.prog 77 #[.agg #[]] w fun e w' => e = .returned (.tuple #[.int .i64 1, .int .i64 6]) ∧ Below w.heap.size w w' := by
  go_enter Try.func77, Try.ntmps77
  go_wp2
  refine bodyPost_ret (v := .tuple #[.int .i64 1, .int .i64 6]) (by simp [results, Try.results77, go_sem]) rfl ⟨rfl, (Below.refl _ w).alloc (Nat.le_refl _) _⟩
set_option maxHeartbeats 400000 in
theorem bounds3_any (w : World) : Calls Try.prog 81 #[.agg #[]] w fun e w' => e = .returned (.tuple #[.int .i64 2, .int .i64 6]) ∧ Below w.heap.size w w' := by
  go_enter Try.func81, Try.ntmps81
  go_wp2
  refine bodyPost_ret (v := .tuple #[.int .i64 2, .int .i64 6]) (by simp [results, Try.results81, go_sem]) rfl ⟨rfl, (Below.refl _ w).alloc (Nat.le_refl _) _⟩
set_option maxHeartbeats 400000 in
theorem bounds4_any (w : World) : Calls Try.prog 85 #[.agg #[]] w fun e w' => e = .returned (.tuple #[.int .i64 2, .int .i64 6]) ∧ Below w.heap.size w w' := by
  go_enter Try.func85, Try.ntmps85
  go_wp2
  refine bodyPost_ret (v := .tuple #[.int .i64 2, .int .i64 6]) (by simp [results, Try.results85, go_sem]) rfl ⟨rfl, (Below.refl _ w).alloc (Nat.le_refl _) _⟩
set_option maxHeartbeats 400000 in
theorem bounds5_any (w : World) : Calls Try.prog 89 #[.agg #[]] w fun e w' => e = .returned (.tuple #[.int .i64 3, .int .i64 6]) ∧ Below w.heap.size w w' := by
  go_enter Try.func89, Try.ntmps89
  go_wp2
  refine bodyPost_ret (v := .tuple #[.int .i64 3, .int .i64 6]) (by simp [results, Try.results89, go_sem]) rfl ⟨rfl, (Below.refl _ w).alloc (Nat.le_refl _) _⟩

end Go.Proofs.Ytlbohmfhdchabaa
