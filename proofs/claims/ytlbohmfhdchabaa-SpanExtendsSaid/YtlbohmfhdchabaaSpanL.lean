/- Span: the iterator over spots. -/
import Derived.Test.YtlbohmfhdchabaaSpanK
namespace Go.Proofs.Ytlbohmfhdchabaa
open Go.RowKit
attribute [local go_sem] Oper.semAt_some

set_option maxHeartbeats 400000 in
theorem spots_any (g : Value) (a b : Int) (w : World) (gp : Addr) (hgp : g = .pointer (some gp)) :
    Calls Try.prog 48 #[g, .int .i64 a, .int .i64 b] w fun e w' => e = .returned (.func (.func 56) #[] #[.pointer (some ⟨w.heap.size, 0, none⟩), .pointer (some ⟨w.heap.size + 1, 0, none⟩), .pointer (some ⟨w.heap.size + 2, 0, none⟩)]) ∧
      ((w.alloc (.cells #[g] 65)).alloc (.cells #[.int .i64 a] 3)).alloc (.cells #[.int .i64 b] 3) = w' := by
  subst hgp
  have hmf : ∀ (fn : Fn) (first cap : Array Value) (w : World), (Instr.makeFunc fn first cap).run Try.prog w = .ok (.func fn first cap) w := fun _ _ _ _ => rfl
  go_enter Try.func48, Try.ntmps48
  go_wp2
  go_ret
  exact ⟨rfl, rfl⟩

/-- The k-th spot of the pages from a on, m of each member. -/
def nthSpot (a : Int) (m : Nat) (k : Nat) : Int × Int := (((k / m : Nat) : Int), a + ((k % m : Nat) : Int))
def spotArgs (a : Int) (m : Nat) (k : Nat) : Array Value := #[spotA (nthSpot a m k)]

theorem nthSpot_at (a : Int) {m i j : Nat} (hj : j < m) : nthSpot a m (i * m + j) = ((i : Int), a + (j : Int)) := by
  unfold nthSpot
  have h1 : (i * m + j) / m = i := by
    rw [Nat.add_comm, Nat.add_mul_div_right _ _ (by omega), Nat.div_eq_of_lt hj]; omega
  have h2 : (i * m + j) % m = j := by
    rw [Nat.add_comm, Nat.add_mul_mod_self_right, Nat.mod_eq_of_lt hj]
  rw [h1, h2]

/-- What the iterator reads. -/
def SpotsRd (B g n : Nat) (a b : Int) (W : World) : Prop :=
  W.cell? ⟨B, 0, none⟩ = some (.pointer (some ⟨g, 0, none⟩)) ∧ W.cell? ⟨B + 1, 0, none⟩ = some (.int .i64 a) ∧ W.cell? ⟨B + 2, 0, none⟩ = some (.int .i64 b) ∧ W.cell? ⟨g, 3, none⟩ = some (.int .i64 n)

set_option maxHeartbeats 4000000 in
theorem spots1_iter (N B g n : Nat) (a b : Int) (m : Nat) (hm : m = (b - a).toNat) (hn : n ≤ 6) (hab : 0 ≤ a ∧ a ≤ 1000000 ∧ b ≤ 1000000) :
    IterN Fence.wide N Try.prog 56 #[.pointer (some ⟨B, 0, none⟩), .pointer (some ⟨B + 1, 0, none⟩), .pointer (some ⟨B + 2, 0, none⟩)] (spotArgs a m) (n * m) (SpotsRd B g n a b) := by
  intro l J Jx W hRd hst hstx hY h0
  refine callsIn_of_wp Try.func56 rfl trivial ?_ rfl
  simp only [Try.ntmps56, List.size_toArray, List.length_cons, List.length_nil, Nat.reduceAdd, Nat.reduceSub, Array.replicate_succ, Array.replicate_zero, List.push_toArray, List.append_toArray, List.nil_append, List.cons_append]
  have HY := Lib.hid hY; clear hY
  have HR := Lib.hid hRd; clear hRd
  clear hst hstx
  obtain ⟨z0, z1, z2, z3⟩ := HR.out 0 W h0
  gi_wp2
  clear z0 z1 z2 z3
  gi_loopw [11] (fun t wr => ∃ i : Nat, i ≤ n ∧ t = .int .i64 i ∧ J (i * m) wr) (fun t _ => n - (intOf t).toNat)
  case atStart => exact ⟨0, by omega, rfl, by rw [Nat.zero_mul]; exact h0⟩
  case round =>
    obtain ⟨i, hi, rfl, hJ⟩ := hrel
    have HJ := Lib.hid hJ
    by_cases hlt : i < n
    · obtain ⟨z0, z1, z2, z3⟩ := HR.out _ wr hJ
      clear hJ
      gi_wp2
      clear z0 z1 z2 z3
      gi_loopw [6] (fun t wr => ∃ j : Nat, j ≤ m ∧ t = .int .i64 (a + j) ∧ J (i * m + j) wr) (fun t _ => (b - intOf t).toNat)
      case atStart => exact ⟨0, by omega, by simp, HJ.out⟩
      case round =>
        obtain ⟨j, hj, rfl, hJ2⟩ := hrel
        obtain ⟨z0, z1, z2, z3⟩ := HR.out _ wr hJ2
        have HJ2 := Lib.hid hJ2
        by_cases hlt2 : a + j < b
        · have hjm : j < m := by omega
          have hkn : i * m + j < n * m := by
            have : (i + 1) * m ≤ n * m := Nat.mul_le_mul_right m hlt
            rw [Nat.add_mul, Nat.one_mul] at this
            omega
          obtain ⟨fn, tmps, assign, body, hy, hR⟩ := HY.out _ wr hJ2 hkn
          unfold spotArgs at hy
          rw [nthSpot_at a hjm] at hy
          unfold spotA at hy
          clear hJ2
          gi_wp2
          refine ⟨fun h => by simp [Fence.wide] at h, hR.mono ?_⟩
          rintro e W3 (⟨rfl, hJ3⟩ | ⟨rfl, hJx3⟩)
          · gi_wp2
            go_roundw
            case rel => exact ⟨j + 1, by omega, by go_num, hJ3⟩
            case measure => simp [intOf]; omega
          · gi_wp2
            refine bodyPost_ret (results_none rfl _ _ _) rfl ?_
            exact ⟨⟨_, rfl⟩, .inr ⟨_, hkn, hJx3⟩⟩
        · obtain rfl : j = m := by omega
          clear hJ2
          gi_wp2
          go_roundw
          case rel => exact ⟨i + 1, by omega, by go_num, by rw [Nat.add_mul, Nat.one_mul]; exact HJ2.out⟩
          case measure => simp [intOf]; omega
    · obtain rfl : i = n := by omega
      clear hJ
      gi_wp2
      go_end0
      exact ⟨⟨_, rfl⟩, .inl HJ.out⟩

end Go.Proofs.Ytlbohmfhdchabaa
