/- Span: the reference's Check, few. -/
import Derived.Test.YtlbohmfhdchabaaSpanP
namespace Go.Proofs.Ytlbohmfhdchabaa
open Go.RowKit

def ChkR (L : Lay) (w : World) (e : Ending) (w' : World) : Prop := ((L.Right ∧ e = .returned (.int .i64 0)) ∨ (¬ L.Right ∧ e = .returned (.int .i64 1))) ∧ Below w.heap.size w w'

theorem k_pos {L : Lay} (hn : 0 < L.n) (hC : 1 ≤ L.C) (h : ∀ i, i < L.n → L.C ≤ L.M i) : L.k ≠ 0 := by
  have h1 : L.C ≤ L.m := minI_ge _ _ _ (fun i hi => h i (by omega))
  have h2 := Int.ediv_mul_add_emod L.m L.C
  have h3 : 1 ≤ L.m / L.C := by
    have := Int.ediv_le_ediv (show 0 < L.C by omega) h1
    rwa [Int.ediv_self (by omega)] at this
  have h4 : 1 * L.C ≤ L.m / L.C * L.C := Int.mul_le_mul_of_nonneg_right h3 (by omega)
  unfold Lay.k
  omega
theorem k_zero {L : Lay} {i : Nat} (hi : i < L.n) (h0 : 0 ≤ L.m) (h : L.M i < L.C) : L.k = 0 := by
  have h1 : L.m ≤ L.M i := Lay.m_le hi
  unfold Lay.k
  rw [Int.emod_eq_of_lt h0 (by omega)]
  omega

set_option maxHeartbeats 2000000 in
theorem rCheck1 (n : Nat) (M : Nat → Int) (C : Int) (sl : Value) (w : World) (hs : IArg w sl n M) (hn20 : n ≤ 1000) :
    Calls Try.prog 14 #[layV ⟨1, n, M, C⟩ sl] w (ChkR ⟨1, n, M, C⟩ w) := by
  have hdef : (Lay.mk 1 n M C).Right → ((1 : Int) ≤ n ∧ (n : Int) ≤ 1) ∧ (1 ≤ C ∧ C ≤ 64) ∧ (∀ i, i < n → 1 ≤ M i ∧ M i ≤ 4096) := fun h => ⟨h.num, h.chunk, h.mem⟩
  have Hdef := Lib.hid hdef; clear hdef
  have hmk : ((1 : Int) ≤ n ∧ (n : Int) ≤ 1) → (1 ≤ C ∧ C ≤ 64) → (∀ i, i < n → 1 ≤ M i ∧ M i ≤ 4096 ) → (Lay.mk 1 n M C).Right := fun h1 h2 h3 =>
    ⟨⟨by show (1 : Int) ≤ 1; omega, by show (1 : Int) ≤ 5; omega⟩, h2, h1, fun i hi => h3 i hi, fun h => by have h : (1 : Int) = 3 ∨ (1 : Int) = 5 := h; omega⟩
  have Hmk := Lib.hid hmk; clear hmk
  obtain ⟨hW, hr, hB⟩ := lay_setup (L := ⟨1, n, M, C⟩) hs
  obtain ⟨c0, c1, c2⟩ := row3_cells hr
  obtain ⟨a, cap, rfl⟩ := hs.slice
  have HW := Lib.hid hW; clear hW hs hr
  unfold layV
  go_enter Try.func14, Try.ntmps14
  by_cases hok : ((1 : Int) ≤ n ∧ (n : Int) ≤ 1) ∧ 1 ≤ C ∧ C ≤ 64
  · obtain ⟨⟨h1, h2⟩, h3, h4⟩ := hok
    go_wp2_with fail
    generalize w.alloc (.cells #[.int .i64 1, .slice a n cap, .int .i64 C] 24) = W at *
    go_loop [6] (fun t => ∃ k : Nat, k ≤ n ∧ t = .int .i64 k ∧ ∀ i, i < k → 1 ≤ M i ∧ M i ≤ 4096 ) (fun t => n - (intOf t).toNat)
    case atStart => exact ⟨0, by omega, rfl, fun i hi => absurd hi (by omega)⟩
    case round =>
      obtain ⟨k, hk, rfl, hq⟩ := hrel
      have Hq := Lib.hid hq; clear hq
      by_cases hlt : k < n
      · rcases HW.out with ⟨h0, _⟩ | ⟨b, off, cap1, heq, h0, hcap, hmax, hcells, hrange⟩
        · exact absurd h0 (by show ¬ n = 0; omega)
        simp only [Value.slice.injEq, true_and] at heq
        obtain ⟨rfl, rfl⟩ := heq
        have hcell : W.cell? ⟨b, off + k, none⟩ = some (.int .i64 (M k)) := hcells k hlt
        clear hcells hrange
        by_cases hg : 1 ≤ M k ∧ M k ≤ 4096 
        · have Hg := Lib.hid hg
          obtain ⟨g1, g2⟩ := hg
          go_wp2_with fail
          go_round
          case rel => exact ⟨k + 1, by omega, by go_num, fun i hi => if h : i = k then by rw [h]; exact Hg.out else Hq.out i (by omega)⟩
          case measure => simp [intOf]; omega
        · have hnr : ¬ (Lay.mk 1 n M C).Right := fun h => hg ((Hdef.out h).2.2 k hlt)
          have Hnr := Lib.hid hnr; clear hnr
          have hg' : M k < 1 ∨ (1 ≤ M k ∧ 4096 < M k) := by omega
          clear hg
          rcases hg' with hg1 | ⟨hg1, hg2⟩
          all_goals
            go_wp2
            go_ret
            exact ⟨.inr ⟨Hnr.out, rfl⟩, hB⟩
      · obtain rfl : k = n := by omega
        have Hr := Lib.hid (Hmk.out ⟨h1, h2⟩ ⟨h3, h4⟩ Hq.out)
        go_wp2
        go_ret
        exact ⟨.inl ⟨Hr.out, rfl⟩, hB⟩
  · have hnr : ¬ (Lay.mk 1 n M C).Right := fun h => hok ⟨(Hdef.out h).1, (Hdef.out h).2.1⟩
    have Hnr := Lib.hid hnr; clear hnr
    have hbad : (n : Int) < 1 ∨ ((1 : Int) ≤ n ∧ (1 : Int) < n) ∨ (((1 : Int) ≤ n ∧ (n : Int) ≤ 1) ∧ C < 1) ∨ (((1 : Int) ≤ n ∧ (n : Int) ≤ 1) ∧ 1 ≤ C ∧ 64 < C) := by omega
    clear hok
    rcases hbad with h1 | ⟨h1, h2⟩ | ⟨⟨h1, h2⟩, h3⟩ | ⟨⟨h1, h2⟩, h3, h4⟩
    all_goals
      go_wp2
      go_ret
      exact ⟨.inr ⟨Hnr.out, rfl⟩, hB⟩

set_option maxHeartbeats 2000000 in
theorem rCheck2 (n : Nat) (M : Nat → Int) (C : Int) (sl : Value) (w : World) (hs : IArg w sl n M) (hn20 : n ≤ 1000) :
    Calls Try.prog 14 #[layV ⟨2, n, M, C⟩ sl] w (ChkR ⟨2, n, M, C⟩ w) := by
  have hdef : (Lay.mk 2 n M C).Right → ((1 : Int) ≤ n ∧ (n : Int) ≤ 6) ∧ (1 ≤ C ∧ C ≤ 64) ∧ (∀ i, i < n → 1 ≤ M i ∧ M i ≤ 4096) := fun h => ⟨h.num, h.chunk, h.mem⟩
  have Hdef := Lib.hid hdef; clear hdef
  have hmk : ((1 : Int) ≤ n ∧ (n : Int) ≤ 6) → (1 ≤ C ∧ C ≤ 64) → (∀ i, i < n → 1 ≤ M i ∧ M i ≤ 4096 ) → (Lay.mk 2 n M C).Right := fun h1 h2 h3 =>
    ⟨⟨by show (1 : Int) ≤ 2; omega, by show (2 : Int) ≤ 5; omega⟩, h2, h1, fun i hi => h3 i hi, fun h => by have h : (2 : Int) = 3 ∨ (2 : Int) = 5 := h; omega⟩
  have Hmk := Lib.hid hmk; clear hmk
  obtain ⟨hW, hr, hB⟩ := lay_setup (L := ⟨2, n, M, C⟩) hs
  obtain ⟨c0, c1, c2⟩ := row3_cells hr
  obtain ⟨a, cap, rfl⟩ := hs.slice
  have HW := Lib.hid hW; clear hW hs hr
  unfold layV
  go_enter Try.func14, Try.ntmps14
  by_cases hok : ((1 : Int) ≤ n ∧ (n : Int) ≤ 6) ∧ 1 ≤ C ∧ C ≤ 64
  · obtain ⟨⟨h1, h2⟩, h3, h4⟩ := hok
    go_wp2_with fail
    generalize w.alloc (.cells #[.int .i64 2, .slice a n cap, .int .i64 C] 24) = W at *
    go_loop [6] (fun t => ∃ k : Nat, k ≤ n ∧ t = .int .i64 k ∧ ∀ i, i < k → 1 ≤ M i ∧ M i ≤ 4096 ) (fun t => n - (intOf t).toNat)
    case atStart => exact ⟨0, by omega, rfl, fun i hi => absurd hi (by omega)⟩
    case round =>
      obtain ⟨k, hk, rfl, hq⟩ := hrel
      have Hq := Lib.hid hq; clear hq
      by_cases hlt : k < n
      · rcases HW.out with ⟨h0, _⟩ | ⟨b, off, cap1, heq, h0, hcap, hmax, hcells, hrange⟩
        · exact absurd h0 (by show ¬ n = 0; omega)
        simp only [Value.slice.injEq, true_and] at heq
        obtain ⟨rfl, rfl⟩ := heq
        have hcell : W.cell? ⟨b, off + k, none⟩ = some (.int .i64 (M k)) := hcells k hlt
        clear hcells hrange
        by_cases hg : 1 ≤ M k ∧ M k ≤ 4096 
        · have Hg := Lib.hid hg
          obtain ⟨g1, g2⟩ := hg
          go_wp2_with fail
          go_round
          case rel => exact ⟨k + 1, by omega, by go_num, fun i hi => if h : i = k then by rw [h]; exact Hg.out else Hq.out i (by omega)⟩
          case measure => simp [intOf]; omega
        · have hnr : ¬ (Lay.mk 2 n M C).Right := fun h => hg ((Hdef.out h).2.2 k hlt)
          have Hnr := Lib.hid hnr; clear hnr
          have hg' : M k < 1 ∨ (1 ≤ M k ∧ 4096 < M k) := by omega
          clear hg
          rcases hg' with hg1 | ⟨hg1, hg2⟩
          all_goals
            go_wp2
            go_ret
            exact ⟨.inr ⟨Hnr.out, rfl⟩, hB⟩
      · obtain rfl : k = n := by omega
        have Hr := Lib.hid (Hmk.out ⟨h1, h2⟩ ⟨h3, h4⟩ Hq.out)
        go_wp2
        go_ret
        exact ⟨.inl ⟨Hr.out, rfl⟩, hB⟩
  · have hnr : ¬ (Lay.mk 2 n M C).Right := fun h => hok ⟨(Hdef.out h).1, (Hdef.out h).2.1⟩
    have Hnr := Lib.hid hnr; clear hnr
    have hbad : (n : Int) < 1 ∨ ((1 : Int) ≤ n ∧ (6 : Int) < n) ∨ (((1 : Int) ≤ n ∧ (n : Int) ≤ 6) ∧ C < 1) ∨ (((1 : Int) ≤ n ∧ (n : Int) ≤ 6) ∧ 1 ≤ C ∧ 64 < C) := by omega
    clear hok
    rcases hbad with h1 | ⟨h1, h2⟩ | ⟨⟨h1, h2⟩, h3⟩ | ⟨⟨h1, h2⟩, h3, h4⟩
    all_goals
      go_wp2
      go_ret
      exact ⟨.inr ⟨Hnr.out, rfl⟩, hB⟩

set_option maxHeartbeats 2000000 in
theorem rCheck3 (n : Nat) (M : Nat → Int) (C : Int) (sl : Value) (w : World) (hs : IArg w sl n M) (hn20 : n ≤ 1000) :
    Calls Try.prog 14 #[layV ⟨3, n, M, C⟩ sl] w (ChkR ⟨3, n, M, C⟩ w) := by
  have hdef : (Lay.mk 3 n M C).Right → ((2 : Int) ≤ n ∧ (n : Int) ≤ 6) ∧ (1 ≤ C ∧ C ≤ 64) ∧ (∀ i, i < n → 1 ≤ M i ∧ M i ≤ 4096) := fun h => ⟨h.num, h.chunk, h.mem⟩
  have Hdef := Lib.hid hdef; clear hdef
  have hmk : ((2 : Int) ≤ n ∧ (n : Int) ≤ 6) → (1 ≤ C ∧ C ≤ 64) → (∀ i, i < n → 1 ≤ M i ∧ M i ≤ 4096 ∧ C ≤ M i) → (Lay.mk 3 n M C).Right := fun h1 h2 h3 =>
    ⟨⟨by show (1 : Int) ≤ 3; omega, by show (3 : Int) ≤ 5; omega⟩, h2, h1, fun i hi => ⟨(h3 i hi).1, (h3 i hi).2.1⟩, fun _ => k_pos (L := ⟨3, n, M, C⟩) (by show 0 < n; omega) h2.1 (fun i hi => (h3 i hi).2.2)⟩
  have Hmk := Lib.hid hmk; clear hmk
  obtain ⟨hW, hr, hB⟩ := lay_setup (L := ⟨3, n, M, C⟩) hs
  obtain ⟨c0, c1, c2⟩ := row3_cells hr
  obtain ⟨a, cap, rfl⟩ := hs.slice
  have HW := Lib.hid hW; clear hW hs hr
  unfold layV
  go_enter Try.func14, Try.ntmps14
  by_cases hok : ((2 : Int) ≤ n ∧ (n : Int) ≤ 6) ∧ 1 ≤ C ∧ C ≤ 64
  · obtain ⟨⟨h1, h2⟩, h3, h4⟩ := hok
    go_wp2_with fail
    generalize w.alloc (.cells #[.int .i64 3, .slice a n cap, .int .i64 C] 24) = W at *
    go_loop [6] (fun t => ∃ k : Nat, k ≤ n ∧ t = .int .i64 k ∧ ∀ i, i < k → 1 ≤ M i ∧ M i ≤ 4096 ∧ C ≤ M i) (fun t => n - (intOf t).toNat)
    case atStart => exact ⟨0, by omega, rfl, fun i hi => absurd hi (by omega)⟩
    case round =>
      obtain ⟨k, hk, rfl, hq⟩ := hrel
      have Hq := Lib.hid hq; clear hq
      by_cases hlt : k < n
      · rcases HW.out with ⟨h0, _⟩ | ⟨b, off, cap1, heq, h0, hcap, hmax, hcells, hrange⟩
        · exact absurd h0 (by show ¬ n = 0; omega)
        simp only [Value.slice.injEq, true_and] at heq
        obtain ⟨rfl, rfl⟩ := heq
        have hcell : W.cell? ⟨b, off + k, none⟩ = some (.int .i64 (M k)) := hcells k hlt
        clear hcells hrange
        by_cases hg : 1 ≤ M k ∧ M k ≤ 4096 ∧ C ≤ M k
        · have Hg := Lib.hid hg
          obtain ⟨g1, g2, g3⟩ := hg
          go_wp2_with fail
          go_round
          case rel => exact ⟨k + 1, by omega, by go_num, fun i hi => if h : i = k then by rw [h]; exact Hg.out else Hq.out i (by omega)⟩
          case measure => simp [intOf]; omega
        · have hnr : ¬ (Lay.mk 3 n M C).Right := fun h => by
            have h5 := (Hdef.out h).2.2 k hlt
            exact h.whole (.inl rfl) (k_zero (L := ⟨3, n, M, C⟩) hlt (by have := h.mle; omega) (by show M k < C; omega))
          have Hnr := Lib.hid hnr; clear hnr
          have hg' : M k < 1 ∨ (1 ≤ M k ∧ 4096 < M k) ∨ (1 ≤ M k ∧ M k ≤ 4096 ∧ M k < C) := by omega
          clear hg
          rcases hg' with hg1 | ⟨hg1, hg2⟩ | ⟨hg1, hg2, hg3⟩
          all_goals
            go_wp2
            go_ret
            exact ⟨.inr ⟨Hnr.out, rfl⟩, hB⟩
      · obtain rfl : k = n := by omega
        have Hr := Lib.hid (Hmk.out ⟨h1, h2⟩ ⟨h3, h4⟩ Hq.out)
        go_wp2
        go_ret
        exact ⟨.inl ⟨Hr.out, rfl⟩, hB⟩
  · have hnr : ¬ (Lay.mk 3 n M C).Right := fun h => hok ⟨(Hdef.out h).1, (Hdef.out h).2.1⟩
    have Hnr := Lib.hid hnr; clear hnr
    have hbad : (n : Int) < 2 ∨ ((2 : Int) ≤ n ∧ (6 : Int) < n) ∨ (((2 : Int) ≤ n ∧ (n : Int) ≤ 6) ∧ C < 1) ∨ (((2 : Int) ≤ n ∧ (n : Int) ≤ 6) ∧ 1 ≤ C ∧ 64 < C) := by omega
    clear hok
    rcases hbad with h1 | ⟨h1, h2⟩ | ⟨⟨h1, h2⟩, h3⟩ | ⟨⟨h1, h2⟩, h3, h4⟩
    all_goals
      go_wp2
      go_ret
      exact ⟨.inr ⟨Hnr.out, rfl⟩, hB⟩

set_option maxHeartbeats 2000000 in
theorem rCheck4 (n : Nat) (M : Nat → Int) (C : Int) (sl : Value) (w : World) (hs : IArg w sl n M) (hn20 : n ≤ 1000) :
    Calls Try.prog 14 #[layV ⟨4, n, M, C⟩ sl] w (ChkR ⟨4, n, M, C⟩ w) := by
  have hdef : (Lay.mk 4 n M C).Right → ((2 : Int) ≤ n ∧ (n : Int) ≤ 6) ∧ (1 ≤ C ∧ C ≤ 64) ∧ (∀ i, i < n → 1 ≤ M i ∧ M i ≤ 4096) := fun h => ⟨h.num, h.chunk, h.mem⟩
  have Hdef := Lib.hid hdef; clear hdef
  have hmk : ((2 : Int) ≤ n ∧ (n : Int) ≤ 6) → (1 ≤ C ∧ C ≤ 64) → (∀ i, i < n → 1 ≤ M i ∧ M i ≤ 4096 ) → (Lay.mk 4 n M C).Right := fun h1 h2 h3 =>
    ⟨⟨by show (1 : Int) ≤ 4; omega, by show (4 : Int) ≤ 5; omega⟩, h2, h1, fun i hi => h3 i hi, fun h => by have h : (4 : Int) = 3 ∨ (4 : Int) = 5 := h; omega⟩
  have Hmk := Lib.hid hmk; clear hmk
  obtain ⟨hW, hr, hB⟩ := lay_setup (L := ⟨4, n, M, C⟩) hs
  obtain ⟨c0, c1, c2⟩ := row3_cells hr
  obtain ⟨a, cap, rfl⟩ := hs.slice
  have HW := Lib.hid hW; clear hW hs hr
  unfold layV
  go_enter Try.func14, Try.ntmps14
  by_cases hok : ((2 : Int) ≤ n ∧ (n : Int) ≤ 6) ∧ 1 ≤ C ∧ C ≤ 64
  · obtain ⟨⟨h1, h2⟩, h3, h4⟩ := hok
    go_wp2_with fail
    generalize w.alloc (.cells #[.int .i64 4, .slice a n cap, .int .i64 C] 24) = W at *
    go_loop [6] (fun t => ∃ k : Nat, k ≤ n ∧ t = .int .i64 k ∧ ∀ i, i < k → 1 ≤ M i ∧ M i ≤ 4096 ) (fun t => n - (intOf t).toNat)
    case atStart => exact ⟨0, by omega, rfl, fun i hi => absurd hi (by omega)⟩
    case round =>
      obtain ⟨k, hk, rfl, hq⟩ := hrel
      have Hq := Lib.hid hq; clear hq
      by_cases hlt : k < n
      · rcases HW.out with ⟨h0, _⟩ | ⟨b, off, cap1, heq, h0, hcap, hmax, hcells, hrange⟩
        · exact absurd h0 (by show ¬ n = 0; omega)
        simp only [Value.slice.injEq, true_and] at heq
        obtain ⟨rfl, rfl⟩ := heq
        have hcell : W.cell? ⟨b, off + k, none⟩ = some (.int .i64 (M k)) := hcells k hlt
        clear hcells hrange
        by_cases hg : 1 ≤ M k ∧ M k ≤ 4096 
        · have Hg := Lib.hid hg
          obtain ⟨g1, g2⟩ := hg
          go_wp2_with fail
          go_round
          case rel => exact ⟨k + 1, by omega, by go_num, fun i hi => if h : i = k then by rw [h]; exact Hg.out else Hq.out i (by omega)⟩
          case measure => simp [intOf]; omega
        · have hnr : ¬ (Lay.mk 4 n M C).Right := fun h => hg ((Hdef.out h).2.2 k hlt)
          have Hnr := Lib.hid hnr; clear hnr
          have hg' : M k < 1 ∨ (1 ≤ M k ∧ 4096 < M k) := by omega
          clear hg
          rcases hg' with hg1 | ⟨hg1, hg2⟩
          all_goals
            go_wp2
            go_ret
            exact ⟨.inr ⟨Hnr.out, rfl⟩, hB⟩
      · obtain rfl : k = n := by omega
        have Hr := Lib.hid (Hmk.out ⟨h1, h2⟩ ⟨h3, h4⟩ Hq.out)
        go_wp2
        go_ret
        exact ⟨.inl ⟨Hr.out, rfl⟩, hB⟩
  · have hnr : ¬ (Lay.mk 4 n M C).Right := fun h => hok ⟨(Hdef.out h).1, (Hdef.out h).2.1⟩
    have Hnr := Lib.hid hnr; clear hnr
    have hbad : (n : Int) < 2 ∨ ((2 : Int) ≤ n ∧ (6 : Int) < n) ∨ (((2 : Int) ≤ n ∧ (n : Int) ≤ 6) ∧ C < 1) ∨ (((2 : Int) ≤ n ∧ (n : Int) ≤ 6) ∧ 1 ≤ C ∧ 64 < C) := by omega
    clear hok
    rcases hbad with h1 | ⟨h1, h2⟩ | ⟨⟨h1, h2⟩, h3⟩ | ⟨⟨h1, h2⟩, h3, h4⟩
    all_goals
      go_wp2
      go_ret
      exact ⟨.inr ⟨Hnr.out, rfl⟩, hB⟩

set_option maxHeartbeats 2000000 in
theorem rCheck5 (n : Nat) (M : Nat → Int) (C : Int) (sl : Value) (w : World) (hs : IArg w sl n M) (hn20 : n ≤ 1000) :
    Calls Try.prog 14 #[layV ⟨5, n, M, C⟩ sl] w (ChkR ⟨5, n, M, C⟩ w) := by
  have hdef : (Lay.mk 5 n M C).Right → ((3 : Int) ≤ n ∧ (n : Int) ≤ 6) ∧ (1 ≤ C ∧ C ≤ 64) ∧ (∀ i, i < n → 1 ≤ M i ∧ M i ≤ 4096) := fun h => ⟨h.num, h.chunk, h.mem⟩
  have Hdef := Lib.hid hdef; clear hdef
  have hmk : ((3 : Int) ≤ n ∧ (n : Int) ≤ 6) → (1 ≤ C ∧ C ≤ 64) → (∀ i, i < n → 1 ≤ M i ∧ M i ≤ 4096 ∧ C ≤ M i) → (Lay.mk 5 n M C).Right := fun h1 h2 h3 =>
    ⟨⟨by show (1 : Int) ≤ 5; omega, by show (5 : Int) ≤ 5; omega⟩, h2, h1, fun i hi => ⟨(h3 i hi).1, (h3 i hi).2.1⟩, fun _ => k_pos (L := ⟨5, n, M, C⟩) (by show 0 < n; omega) h2.1 (fun i hi => (h3 i hi).2.2)⟩
  have Hmk := Lib.hid hmk; clear hmk
  obtain ⟨hW, hr, hB⟩ := lay_setup (L := ⟨5, n, M, C⟩) hs
  obtain ⟨c0, c1, c2⟩ := row3_cells hr
  obtain ⟨a, cap, rfl⟩ := hs.slice
  have HW := Lib.hid hW; clear hW hs hr
  unfold layV
  go_enter Try.func14, Try.ntmps14
  by_cases hok : ((3 : Int) ≤ n ∧ (n : Int) ≤ 6) ∧ 1 ≤ C ∧ C ≤ 64
  · obtain ⟨⟨h1, h2⟩, h3, h4⟩ := hok
    go_wp2_with fail
    generalize w.alloc (.cells #[.int .i64 5, .slice a n cap, .int .i64 C] 24) = W at *
    go_loop [6] (fun t => ∃ k : Nat, k ≤ n ∧ t = .int .i64 k ∧ ∀ i, i < k → 1 ≤ M i ∧ M i ≤ 4096 ∧ C ≤ M i) (fun t => n - (intOf t).toNat)
    case atStart => exact ⟨0, by omega, rfl, fun i hi => absurd hi (by omega)⟩
    case round =>
      obtain ⟨k, hk, rfl, hq⟩ := hrel
      have Hq := Lib.hid hq; clear hq
      by_cases hlt : k < n
      · rcases HW.out with ⟨h0, _⟩ | ⟨b, off, cap1, heq, h0, hcap, hmax, hcells, hrange⟩
        · exact absurd h0 (by show ¬ n = 0; omega)
        simp only [Value.slice.injEq, true_and] at heq
        obtain ⟨rfl, rfl⟩ := heq
        have hcell : W.cell? ⟨b, off + k, none⟩ = some (.int .i64 (M k)) := hcells k hlt
        clear hcells hrange
        by_cases hg : 1 ≤ M k ∧ M k ≤ 4096 ∧ C ≤ M k
        · have Hg := Lib.hid hg
          obtain ⟨g1, g2, g3⟩ := hg
          go_wp2_with fail
          go_round
          case rel => exact ⟨k + 1, by omega, by go_num, fun i hi => if h : i = k then by rw [h]; exact Hg.out else Hq.out i (by omega)⟩
          case measure => simp [intOf]; omega
        · have hnr : ¬ (Lay.mk 5 n M C).Right := fun h => by
            have h5 := (Hdef.out h).2.2 k hlt
            exact h.whole (.inr rfl) (k_zero (L := ⟨5, n, M, C⟩) hlt (by have := h.mle; omega) (by show M k < C; omega))
          have Hnr := Lib.hid hnr; clear hnr
          have hg' : M k < 1 ∨ (1 ≤ M k ∧ 4096 < M k) ∨ (1 ≤ M k ∧ M k ≤ 4096 ∧ M k < C) := by omega
          clear hg
          rcases hg' with hg1 | ⟨hg1, hg2⟩ | ⟨hg1, hg2, hg3⟩
          all_goals
            go_wp2
            go_ret
            exact ⟨.inr ⟨Hnr.out, rfl⟩, hB⟩
      · obtain rfl : k = n := by omega
        have Hr := Lib.hid (Hmk.out ⟨h1, h2⟩ ⟨h3, h4⟩ Hq.out)
        go_wp2
        go_ret
        exact ⟨.inl ⟨Hr.out, rfl⟩, hB⟩
  · have hnr : ¬ (Lay.mk 5 n M C).Right := fun h => hok ⟨(Hdef.out h).1, (Hdef.out h).2.1⟩
    have Hnr := Lib.hid hnr; clear hnr
    have hbad : (n : Int) < 3 ∨ ((3 : Int) ≤ n ∧ (6 : Int) < n) ∨ (((3 : Int) ≤ n ∧ (n : Int) ≤ 6) ∧ C < 1) ∨ (((3 : Int) ≤ n ∧ (n : Int) ≤ 6) ∧ 1 ≤ C ∧ 64 < C) := by omega
    clear hok
    rcases hbad with h1 | ⟨h1, h2⟩ | ⟨⟨h1, h2⟩, h3⟩ | ⟨⟨h1, h2⟩, h3, h4⟩
    all_goals
      go_wp2
      go_ret
      exact ⟨.inr ⟨Hnr.out, rfl⟩, hB⟩

set_option maxHeartbeats 1000000 in
theorem rCheck_kind (K : Int) (n : Nat) (M : Nat → Int) (C : Int) (sl : Value) (w : World) (hs : IArg w sl n M) (hK : ¬(1 ≤ K ∧ K ≤ 5)) :
    Calls Try.prog 14 #[layV ⟨K, n, M, C⟩ sl] w (ChkR ⟨K, n, M, C⟩ w) := by
  have hnr : ¬ (Lay.mk K n M C).Right := fun h => hK h.kind
  have Hnr := Lib.hid hnr; clear hnr
  obtain ⟨hW, hr, hB⟩ := lay_setup (L := ⟨K, n, M, C⟩) hs
  obtain ⟨c0, c1, c2⟩ := row3_cells hr
  obtain ⟨a, cap, rfl⟩ := hs.slice
  have k1 : (K == 1) = false := by rw [beq_eq_false_iff_ne]; omega
  have k2 : (K == 2) = false := by rw [beq_eq_false_iff_ne]; omega
  have k3 : (K == 3) = false := by rw [beq_eq_false_iff_ne]; omega
  have k4 : (K == 4) = false := by rw [beq_eq_false_iff_ne]; omega
  have k5 : (K == 5) = false := by rw [beq_eq_false_iff_ne]; omega
  clear hW hs hr hK
  unfold layV
  go_enter Try.func14, Try.ntmps14
  go_wp2
  go_ret
  exact ⟨.inr ⟨Hnr.out, rfl⟩, hB⟩

theorem rCheck_any (L : Lay) (sl : Value) (w : World) (hs : IArg w sl L.n L.M) (hn : L.n ≤ 1000) : Calls Try.prog 14 #[layV L sl] w (ChkR L w) := by
  obtain ⟨K, n, M, C⟩ := L
  by_cases hK : 1 ≤ K ∧ K ≤ 5
  · obtain rfl | rfl | rfl | rfl | rfl : K = 1 ∨ K = 2 ∨ K = 3 ∨ K = 4 ∨ K = 5 := by omega
    · exact rCheck1 n M C sl w hs hn
    · exact rCheck2 n M C sl w hs hn
    · exact rCheck3 n M C sl w hs hn
    · exact rCheck4 n M C sl w hs hn
    · exact rCheck5 n M C sl w hs hn
  · exact rCheck_kind K n M C sl w hs hK

/-- Has a layout few pages, or is it not valid? -/
def Lay.Few (L : Lay) : Prop := L.n ≤ 20 ∧ (L.Right → ∀ i, i < L.n → L.M i ≤ 120)

set_option maxHeartbeats 2000000 in
theorem few_any (L : Lay) (sl : Value) (w : World) (hs : IArg w sl L.n L.M) :
    Calls Try.prog 12 #[layV L sl] w fun e w' => ((L.Few ∧ e = .returned (.bool true)) ∨ (¬ L.Few ∧ e = .returned (.bool false))) ∧ Below w.heap.size w w' := by
  obtain ⟨hW, hr, hB⟩ := lay_setup hs
  obtain ⟨c0, c1, c2⟩ := row3_cells hr
  obtain ⟨a, cap, rfl⟩ := hs.slice
  have HW := Lib.hid hW; clear hW hs
  unfold layV
  go_enter Try.func12, Try.ntmps12
  by_cases h20 : L.n ≤ 20
  · go_wp2_with fail
    generalize w.alloc (.cells #[.int .i64 L.K, .slice a L.n cap, .int .i64 L.C] 24) = W at *
    refine (rCheck_any L _ W HW.out (by omega)).mono ?_
    rintro e w4 ⟨(⟨hR, rfl⟩ | ⟨hnR, rfl⟩), hB4⟩
    · have HR := Lib.hid hR; clear hR
      obtain ⟨d0, d1, d2⟩ := row3_cells (hr.all hB4)
      have HW4 := Lib.hid (HW.out.all hB4)
      have hB4' := hB.trans (hB4.mono hB.size)
      clear c0 c1 c2
      go_wp2_with fail
      go_loop [3] (fun t => ∃ k : Nat, k ≤ L.n ∧ t = .int .i64 k ∧ ∀ i, i < k → L.M i ≤ 120) (fun t => L.n - (intOf t).toNat)
      case atStart => exact ⟨0, by omega, rfl, fun i hi => absurd hi (by omega)⟩
      case round =>
        obtain ⟨k, hk, rfl, hq⟩ := hrel
        have Hq := Lib.hid hq; clear hq
        by_cases hlt : k < L.n
        · rcases HW4.out with ⟨h0, _⟩ | ⟨b, off, cap1, heq, h0, hcap, hmax, hcells, hrange⟩
          · omega
          simp only [Value.slice.injEq, true_and] at heq
          obtain ⟨rfl, rfl⟩ := heq
          have hcell : w4.cell? ⟨b, off + k, none⟩ = some (.int .i64 (L.M k)) := hcells k hlt
          clear hcells hrange
          by_cases hg : L.M k ≤ 120
          · go_wp2_with fail
            go_round
            case rel => exact ⟨k + 1, by omega, by go_num, fun i hi => if h : i = k then by rw [h]; exact hg else Hq.out i (by omega)⟩
            case measure => simp [intOf]; omega
          · have Hnf := Lib.hid (show ¬ L.Few from fun h => hg (h.2 HR.out k hlt))
            go_wp2
            go_ret
            exact ⟨.inr ⟨Hnf.out, rfl⟩, hB4'⟩
        · obtain rfl : k = L.n := by omega
          have Hf := Lib.hid (show L.Few from ⟨h20, fun _ => Hq.out⟩)
          go_wp2
          go_ret
          exact ⟨.inl ⟨Hf.out, rfl⟩, hB4'⟩
    · have Hf := Lib.hid (show L.Few from ⟨h20, fun h => absurd h hnR⟩); clear hnR
      go_wp2
      go_ret
      exact ⟨.inl ⟨Hf.out, rfl⟩, hB.trans (hB4.mono hB.size)⟩
  · have Hnf := Lib.hid (show ¬ L.Few from fun h => h20 h.1)
    go_wp2
    go_ret
    exact ⟨.inr ⟨Hnf.out, rfl⟩, hB⟩

end Go.Proofs.Ytlbohmfhdchabaa
