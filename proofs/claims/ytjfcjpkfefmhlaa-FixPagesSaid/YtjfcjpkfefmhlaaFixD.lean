/- tails, its iterator, marks. -/
import Derived.Test.YtjfcjpkfefmhlaaFixC
import Derived.Test.YtjfcjpkfefmhlaaRange
namespace Go.Proofs.Ytjfcjpkfefmhlaa
open Go.RowKit
attribute [local go_sem] Oper.semAt_some

set_option maxHeartbeats 400000 in
theorem tails_any (a : Option Addr) (n cap : Nat) (w : World) :
    Calls Try.prog 49 #[.slice a n cap] w fun e w' => e = .returned (.func (.func 61) #[] #[.pointer (some ⟨w.heap.size, 0, none⟩)]) ∧ w.alloc (.cells #[.slice a n cap] 22) = w' := by
  have hmf : ∀ (fn : Fn) (first cap : Array Value) (w : World), (Instr.makeFunc fn first cap).run Try.prog w = .ok (.func fn first cap) w := fun _ _ _ _ => rfl
  go_enter Try.func49, Try.ntmps49
  go_wp2
  go_ret
  exact ⟨rfl, rfl⟩

/-- What tails hands over. -/
def tailArgs (b off cap : Nat) (k : Nat) : Array Value := #[.int .i64 k, .slice (some ⟨b, off + (64 * k + 62), none⟩) 2 (cap - (64 * k + 62))]

set_option maxHeartbeats 1000000 in
theorem tails1_iter (n b off cap Bn : Nat) (hcap : 512 ≤ cap) (hm : cap ≤ maxLen) :
    IterN Fence.wide n Try.prog 61 #[.pointer (some ⟨Bn, 0, none⟩)] (tailArgs b off cap) 8 (fun W => W.cell? ⟨Bn, 0, none⟩ = some (.slice (some ⟨b, off, none⟩) 512 cap)) := by
  intro l J Jx W hRd hst hstx hY h0
  unfold maxLen at hm
  refine callsIn_of_wp Try.func61 rfl trivial ?_ rfl
  simp only [Try.ntmps61, List.size_toArray, List.length_cons, List.length_nil, Nat.reduceAdd, Nat.reduceSub, Array.replicate_succ, Array.replicate_zero, List.push_toArray, List.append_toArray, List.nil_append, List.cons_append]
  have HY := Lib.hid hY; clear hY
  have HR := Lib.hid hRd; clear hRd
  clear hst hstx
  gi_wp2
  gi_loopw [5] (fun t wr => ∃ k : Nat, k ≤ 8 ∧ t = .int .i64 k ∧ J k wr) (fun t _ => 8 - (intOf t).toNat)
  case atStart => exact ⟨0, by omega, rfl, h0⟩
  case round =>
    obtain ⟨k, hk, rfl, hJ⟩ := hrel
    by_cases hlt : k < 8
    · have hbox := HR.out k wr hJ
      obtain ⟨fn, tmps, assign, body, hy, hR⟩ := HY.out k wr hJ hlt
      unfold tailArgs at hy
      have e1 : 64 * (k + 1) - 2 = 64 * k + 62 := by omega
      have e2 : 64 * (k + 1) - (64 * k + 62) = 2 := by omega
      have hy' : (Instr.yield l #[.int .i64 k, .slice (some ⟨b, off + (64 * (k + 1) - 2), none⟩) (64 * (k + 1) - (64 * (k + 1) - 2)) (cap - (64 * (k + 1) - 2))]).run Try.prog wr = .ok (.round l fn tmps assign body) wr := by
        rw [e1, e2]; exact hy
      clear e1 e2 hy
      gi_wp2
      refine ⟨fun h => by simp [Fence.wide] at h, hR.mono ?_⟩
      rintro e W3 (⟨rfl, hJ3⟩ | ⟨rfl, hJx3⟩)
      · gi_wp2
        go_roundw
        case rel => exact ⟨k + 1, by omega, by go_num, hJ3⟩
        case measure => simp [intOf]; omega
      · gi_wp2
        refine bodyPost_ret (results_none rfl _ _ _) rfl ?_
        exact ⟨⟨_, rfl⟩, .inr ⟨k, hlt, hJx3⟩⟩
    · obtain rfl : k = 8 := by omega
      gi_wp2
      go_end0
      exact ⟨⟨_, rfl⟩, .inl hJ⟩

/-- The mark of sector s of the bytes f. -/
def markI (f : Nat → Int) (s : Nat) : Int :=
  if s = 0 ∧ f 0 + 256 * f 1 ≠ f 62 + 256 * f 63 then 0 else f (64 * s + 62) + 256 * f (64 * s + 63)

end Go.Proofs.Ytjfcjpkfefmhlaa
