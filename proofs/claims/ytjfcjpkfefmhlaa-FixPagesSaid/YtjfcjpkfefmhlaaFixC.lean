/- Clone of bytes. -/
import Derived.Test.YtjfcjpkfefmhlaaFixB
import Derived.Test.YtjfcjpkfefmhlaaOps
namespace Go.Proofs.Ytjfcjpkfefmhlaa
open Go.RowKit

theorem info_u8 : (Try.prog.info? 5).map (fun i => (i.zero, i.size, i.bytes)) = some (some (.int .u8 0), 1, 1) := by kernel_rfl
theorem size_u8 : (Try.prog.info? 5).map (·.size) = some 1 := by kernel_rfl
theorem size_int : (Try.prog.info? 3).map (·.size) = some 1 := by kernel_rfl
theorem info_int : (Try.prog.info? 3).map (fun i => (i.zero, i.size, i.bytes)) = some (some (.int .i64 0), 1, 8) := by kernel_rfl

/-- What Clone leaves. -/
def Cloned (w : World) (n : Nat) (f : Nat → Value) (e : Ending) (w' : World) : Prop :=
  ∃ g cap, e = .returned (.slice (some ⟨g, 0, none⟩) n cap) ∧ w.heap.size ≤ g ∧ RowAt w' g 5 cap n f ∧ cap ≤ maxLen ∧ Below w.heap.size w w'

set_option maxHeartbeats 400000 in
theorem clone_any (b off cap n : Nat) (f : Nat → Value) (w : World) (h0 : 0 < n) (hn : n ≤ 100000) (hc : Cells w b off n f) (h1 : ∀ i, i < n → (f i).oneCell' = true) :
    Calls Try.prog 47 #[.slice (some ⟨b, off, none⟩) n cap] w (Cloned w n f) := by
  have hc' : Cells (w.alloc (.cells #[] 5)) b off n f := hc.all ((Below.refl _ _).alloc (Nat.le_refl _) _)
  have hcl := Lib.hid hc; clear hc
  have hcl' := Lib.hid hc'; clear hc'
  have hl1 := Lib.hid h1; clear h1
  go_enter Try.func47, Try.ntmps47
  have heq := fun (wx : World) => Lib.run_eql_slice_nil (P := Try.prog) wx 22 5 (some ⟨b, off, none⟩) n cap 0 0 Try.underlying22
  go_wp2_with (at_builtin; refine Hold.stop ?_)
  refine Hold.go ?_
  refine wpList_append_o rfl _ _ 22 5 _ _ rfl Try.underlying22 info_u8 rfl w.heap.size _ 0 (fun _ => undef) rfl (.inr ⟨_, 0, rfl, Nat.le_refl _, RowAt.new w #[] _ _ 0 (Nat.le_refl _) (fun i hi => absurd hi (by omega)), by simp [maxLen]⟩) b off n cap f rfl hcl'.out hl1.out (by omega) (by decide) (by simp) ?_
  intro v' w1 hown hgr _ _
  obtain ⟨g, cap', rfl, hB, hrow, hm⟩ := hown.row (by omega)
  rw [Nat.zero_add] at hrow ⊢
  have hb : Below w.heap.size w w1 := ((Below.refl _ w).alloc (Nat.le_refl _) _).grown hgr (by simp) (fun k hk => by simp [Value.ownBlock, Act.eval] at hk; omega)
  go_wp2
  go_ret
  exact ⟨g, cap', rfl, hB, hrow.congr (fun i hi => by simp), hm, hb⟩

end Go.Proofs.Ytjfcjpkfefmhlaa
