/- FixMarks. -/
import Derived.Test.YtjfcjpkfefmhlaaLawB
namespace Go.Proofs.Ytjfcjpkfefmhlaa
open Go.RowKit
attribute [local go_sem] Oper.semAt_some

theorem newerF_self (m : Int) : newerF m m = false := newerF_zero (by omega) (by omega)
theorem newerF_flip (m n : Int) (hm : 1 ≤ m ∧ m ≤ 65535) (hn : 1 ≤ n ∧ n ≤ 65535) (h : m ≠ n) : newerF n m = !newerF m n := by
  by_cases h1 : m - n < 0
  · rw [newerF_neg h1 (by omega), newerF_pos (by omega) (by omega), ← decide_not]
    exact decide_eq_decide.2 (by omega)
  · rw [newerF_neg (by omega) (by omega), newerF_pos (u := m) (by omega) (by omega), ← decide_not]
    exact decide_eq_decide.2 (by omega)
theorem newerF_next (m : Int) (hm : 1 ≤ m ∧ m ≤ 65535) : newerF (m % 65535 + 1) m = true := by
  by_cases h : m = 65535
  · subst h; decide
  · have h2 : m % 65535 = m := by omega
    rw [h2, newerF_pos (by omega) (by omega), decide_eq_true_eq]
    omega

set_option maxHeartbeats 4000000 in
theorem fixMarks_walk (u v : Int) (w : World) (hu : (Lit.int .i64 u).wf = true) (hv : (Lit.int .i64 v).wf = true) :
    Calls Try.prog 6 #[.int .i64 u, .int .i64 v] w fun e w' => e = .returned (.bool true) ∧ Below w.heap.size w w' := by
  have Hu := Lib.hid hu; clear hu
  have Hv := Lib.hid hv; clear hv
  go_enter Try.func6, Try.ntmps6
  go_wp2_with fail
  refine (lawmarked_any _ _ Hu.out).mono ?_
  rintro e w' ⟨rfl, rfl⟩
  have hm : 1 ≤ u % 65535 + 1 ∧ u % 65535 + 1 ≤ 65535 := by omega
  generalize u % 65535 + 1 = m at *
  go_wp2_with fail
  refine (lawmarked_any _ _ Hv.out).mono ?_
  rintro e w' ⟨rfl, rfl⟩
  have hn : 1 ≤ v % 65535 + 1 ∧ v % 65535 + 1 ≤ 65535 := by omega
  generalize v % 65535 + 1 = n at *
  go_wp2_with fail
  refine (Newer_any _ _ _).mono ?_
  rintro e w' ⟨rfl, rfl⟩
  rw [if_pos ⟨hm, hn⟩]
  go_wp2_with fail
  refine (Newer_any _ _ _).mono ?_
  rintro e w' ⟨rfl, rfl⟩
  rw [if_pos ⟨hn, hm⟩]
  have hk : newerF (m % 65535 + 1) m = true := newerF_next m hm
  have hkm : 1 ≤ m % 65535 + 1 ∧ m % 65535 + 1 ≤ 65535 := by omega
  have hkn : 1 ≤ n % 65535 + 1 ∧ n % 65535 + 1 ≤ 65535 := by omega
  have hne : ((m % 65535 + 1 != m)) = true := by rw [bne_iff_ne]; omega
  have hne' : ((m % 65535 + 1 == m)) = false := by rw [beq_eq_false_iff_ne]; omega
  have N1 := Lib.hid (fun (W : World) => Next_any m W)
  have N2 := Lib.hid (fun (W : World) => Next_any n W)
  have N3 := Lib.hid (fun (W : World) => Newer_any (m % 65535 + 1) m W)
  by_cases h : m = n
  · subst h
    rw [newerF_self]
    clear hn hkn N2
    generalize hkk : m % 65535 + 1 = k at *
    have Hkk := Lib.hid hkk; clear hkk
    go_wp2_with fail
    refine (N1.out _).mono ?_
    rintro e w' ⟨rfl, rfl⟩
    rw [if_pos hm]
    go_wp2_with fail
    refine (N3.out _).mono ?_
    rintro e w' ⟨rfl, rfl⟩
    rw [if_pos ⟨hkm, hm⟩, hk]
    go_wp2_with fail
    refine (N1.out _).mono ?_
    rintro e w' ⟨rfl, rfl⟩
    rw [if_pos hm]
    go_wp2_with fail
    refine (sanity_any _).mono ?_
    rintro e w' ⟨rfl, hb⟩
    go_wp2_with fail
    go_ret
    exact ⟨rfl, hb⟩
  · rw [newerF_flip m n hm hn h]
    have hb1 : (m != n) = true := by rw [bne_iff_ne]; exact h
    have hb2 : (m == n) = false := by rw [beq_eq_false_iff_ne]; exact h
    have hb3 : (m % 65535 + 1 == n % 65535 + 1) = false := by rw [beq_eq_false_iff_ne]; omega
    generalize hkk : m % 65535 + 1 = k at *
    have Hkk := Lib.hid hkk; clear hkk
    generalize hkl : n % 65535 + 1 = l at *
    have Hkl := Lib.hid hkl; clear hkl
    rcases newerF m n with _ | _
    all_goals
      simp only [Bool.not_true, Bool.not_false]
      go_wp2_with fail
      refine (N1.out _).mono ?_
      rintro e w' ⟨rfl, rfl⟩
      rw [if_pos hm]
      go_wp2_with fail
      refine (N3.out _).mono ?_
      rintro e w' ⟨rfl, rfl⟩
      rw [if_pos ⟨hkm, hm⟩, hk]
      go_wp2_with fail
      refine (N2.out _).mono ?_
      rintro e w' ⟨rfl, rfl⟩
      rw [if_pos hn]
      go_wp2_with fail
      refine (sanity_any _).mono ?_
      rintro e w' ⟨rfl, hb⟩
      go_wp2_with fail
      go_ret
      exact ⟨rfl, hb⟩

end Go.Proofs.Ytjfcjpkfefmhlaa
