/- blended, Blend, Newer. -/
import Derived.Test.YtjfcjpkfefmhlaaFixJ
import Derived.StillTailTactics
namespace Go.Proofs.Ytjfcjpkfefmhlaa
open Go.RowKit

set_option maxHeartbeats 1000000 in
theorem Newer_any (u v : Int) (w : World) :
    Calls Try.prog 22 #[.int .i64 u, .int .i64 v] w fun e w' =>
      e = .returned (if (1 ≤ u ∧ u ≤ 65535) ∧ (1 ≤ v ∧ v ≤ 65535) then .tuple #[.bool (newerF u v), .int .i64 0] else .tuple #[.bool false, .int .i64 1]) ∧ w = w' := by
  by_cases hu : 1 ≤ u ∧ u ≤ 65535
  · have hd : decide (1 ≤ u ∧ u ≤ 65535) = true := by simpa using hu
    by_cases hv : 1 ≤ v ∧ v ≤ 65535
    · have hd2 : decide (1 ≤ v ∧ v ≤ 65535) = true := by simpa using hv
      rw [if_pos ⟨hu, hv⟩]
      have hnw := newer_any u v w hu hv
      have Hnw := Lib.hid hnw; clear hnw
      clear hu hv
      go_enter Try.func22, Try.ntmps22
      go_wp2_with (first | (go_at_call 44; refine (marked_any _ _).mono ?_; rintro e w' ⟨rfl, rfl⟩) | (go_at_call 40; refine Hnw.out.mono ?_; rintro e w' ⟨rfl, rfl⟩))
      go_ret2
      exact ⟨rfl, rfl⟩
    · have hd2 : decide (1 ≤ v ∧ v ≤ 65535) = false := by simpa using hv
      rw [if_neg (fun h => hv h.2)]
      clear hu hv
      go_enter Try.func22, Try.ntmps22
      go_wp2_with (go_at_call 44; refine (marked_any _ _).mono ?_; rintro e w' ⟨rfl, rfl⟩)
      go_ret2
      exact ⟨rfl, rfl⟩
  · have hd : decide (1 ≤ u ∧ u ≤ 65535) = false := by simpa using hu
    rw [if_neg (fun h => hu h.1)]
    clear hu
    go_enter Try.func22, Try.ntmps22
    go_wp2_with (go_at_call 44; refine (marked_any _ _).mono ?_; rintro e w' ⟨rfl, rfl⟩)
    go_ret2
    exact ⟨rfl, rfl⟩

theorem step_val {P : Program} {ops : Array Oper} {o : Oper} {a : Act} {w w' : World} {v : Value} {K : Act → World → Prop} {Q : Exit → Act → World → Prop} {E : Prop} (hg : o.guard = none)
    (hrun : (execOp a.eval o).run P w = .ok (.value v) w') (h : K (a.put o.dst v) w') : if Region.wanted o (yielded ops a.tmps) = true then Oper.wp P o a w K Q else E := by
  have hw : Region.wanted o (yielded ops a.tmps) = true := by simp [Region.wanted, hg]
  rw [if_pos hw]
  unfold Oper.wp
  rw [hrun]
  exact h

theorem step_copy_o {P : Program} {ops : Array Oper} {o : Oper} {a : Act} {w : World} {K : Act → World → Prop} {Q : Exit → Act → World → Prop} {E : Prop} (hgd : o.guard = none) (d s : Operand) (dT sT e : TypeId)
    (hop : o.op = .call { callee := .builtin .copy, args := #[d, s], argTypes := #[dT, sT] }) (ht : P.underlying dT = some (.slice e)) (hsz : (P.info? e).map (·.size) = some 1)
    (g off dLen dCap cap n : Nat) (f : Nat → Value) (hd : a.eval d = .slice (some ⟨g, off, none⟩) dLen dCap) (hrow : RowAt w g e cap n f)
    (b so sLen sCap : Nat) (h : Nat → Value) (hs : a.eval s = .slice (some ⟨b, so, none⟩) sLen sCap) (hc : Cells w b so sLen h) (h1 : ∀ i, i < sLen → (h i).oneCell' = true)
    (k : Nat) (hk : k = Nat.min sLen dLen) (hfit : off + k ≤ n)
    (hK : ∀ w', RowAt w' g e cap n (fun i => if off ≤ i ∧ i < off + k then h (i - off) else f i) → Wrote w w' g → K (a.put o.dst (.int .i64 k)) w') : if Region.wanted o (yielded ops a.tmps) = true then Oper.wp P o a w K Q else E := by
  obtain ⟨w', hr, h2, h3⟩ := copy_o d s dT sT e hop ht hsz g off dLen dCap cap n f hd hrow b so sLen sCap h hs hc h1 k hk hfit
  exact step_val hgd hr (hK w' h2 h3)

/-- The bytes behind k rounds of blended. -/
def blendK (p : Nat → Bool) (fa fb : Nat → Int) (k i : Nat) : Int := if i / 64 < k ∧ p (i / 64) = true then fb i else fa i
def blendF (p : Nat → Bool) (fa fb : Nat → Int) (i : Nat) : Int := if p (i / 64) = true then fb i else fa i

theorem blendK_skip (p : Nat → Bool) (fa fb : Nat → Int) (k i : Nat) (h : p k = false) : blendK p fa fb k i = blendK p fa fb (k + 1) i := by
  unfold blendK
  by_cases h1 : i / 64 = k
  · rw [h1, h]; simp
  · by_cases h2 : i / 64 < k ∧ p (i / 64) = true
    · rw [if_pos h2, if_pos ⟨by omega, h2.2⟩]
    · rw [if_neg h2, if_neg (fun h => h2 ⟨by omega, h.2⟩)]

theorem blendK_take (p : Nat → Bool) (fa fb : Nat → Int) (k i : Nat) (h : p k = true) :
    (if 64 * k ≤ i ∧ i < 64 * k + 64 then bytesV fb (64 * k + (i - 64 * k)) else bytesV (blendK p fa fb k) i) = bytesV (blendK p fa fb (k + 1)) i := by
  unfold bytesV blendK
  by_cases h1 : 64 * k ≤ i ∧ i < 64 * k + 64
  · have : i / 64 = k := by omega
    rw [if_pos h1, this, if_pos ⟨by omega, h⟩, show 64 * k + (i - 64 * k) = i from by omega]
  · rw [if_neg h1]
    by_cases h2 : i / 64 < k ∧ p (i / 64) = true
    · rw [if_pos h2, if_pos ⟨by omega, h2.2⟩]
    · rw [if_neg h2, if_neg (fun h => h2 ⟨by omega, h.2⟩)]

def BlendedOk (w : World) (f : Nat → Int) (e : Ending) (w' : World) : Prop :=
  ∃ g cap, e = .returned (.slice (some ⟨g, 0, none⟩) 512 cap) ∧ w.heap.size ≤ g ∧ RowAt w' g 5 cap 512 (bytesV f) ∧ cap ≤ maxLen ∧ Below w.heap.size w w'

set_option maxHeartbeats 1000000 in
theorem blended_any (b off cap b2 off2 cap2 : Nat) (hcap2 : 512 ≤ cap2) (fa fb : Nat → Int) (cf : Nat) (cv : Array Value) (hent : ∀ args w, (callFunc cf args).run Try.prog w = .ok (.enter cf args) w) (p : Nat → Bool) (w : World)
    (ha : Cells w b off 512 (bytesV fa)) (hb : Cells w b2 off2 512 (bytesV fb))
    (hcl : ∀ s, s < 8 → ∀ W, Below w.heap.size w W → Calls Try.prog cf (#[.int .i64 (s : Int)] ++ cv) W fun e w' => e = .returned (.bool (p s)) ∧ ∃ n, w' = W.drewN n) :
    Calls Try.prog 41 #[.slice (some ⟨b, off, none⟩) 512 cap, .slice (some ⟨b2, off2, none⟩) 512 cap2, .func (.func cf) #[] cv] w (BlendedOk w (blendF p fa fb)) := by
  have Hcl := Lib.hid hcl; clear hcl
  have Ha := Lib.hid ha; clear ha
  have Hb := Lib.hid hb; clear hb
  have hb2 : b2 < w.heap.size := Hb.out.lt (by omega)
  go_enter Try.func41, Try.ntmps41
  go_wp2_with (go_at_call 47; refine (clone_any _ _ _ 512 (bytesV fa) _ (by omega) (by omega) Ha.out (fun _ _ => rfl)).mono ?_; rintro e w1 ⟨g, cp, rfl, hg, hrow, hmx, hbel⟩)
  have hcp : 512 ≤ cp := hrow.le
  go_loopw [11] (fun t wr => ∃ k : Nat, k ≤ 8 ∧ t = .int .i64 k ∧ RowAt wr g 5 cp 512 (bytesV (blendK p fa fb k)) ∧ Below w.heap.size w wr) (fun t _ => 8 - (intOf t).toNat)
  case atStart => exact ⟨0, by omega, rfl, hrow.congr (fun i hi => by unfold bytesV blendK; rw [if_neg (by omega)]), hbel⟩
  case round =>
    obtain ⟨k, hk, rfl, hr, hbl⟩ := hrel
    have HR := Lib.hid hr; clear hr
    by_cases hlt : k < 8
    · go_wp2_with fail
      refine (Hcl.out k hlt _ hbl).mono ?_
      rintro e w2 ⟨rfl, nq, rfl⟩
      rcases hp : p k with _ | _
      · go_wp2
        go_roundw
        case rel => exact ⟨k + 1, by omega, by go_num, (HR.out.drewN nq).congr (fun i hi => by unfold bytesV; rw [blendK_skip _ _ _ _ _ hp]), hbl.trans (below_drewN _ _ _)⟩
        case measure => simp [intOf]; omega
      · go_wp2_with fail
        have i1 : (0 : Int) ≤ 64 * (k : Int) := by omega
        have i2 : 64 * (k : Int) ≤ 512 := by omega
        have i3 : 64 * (k : Int) ≤ 64 * ((k : Int) + 1) := by omega
        have i4 : 64 * ((k : Int) + 1) ≤ (cap2 : Int) := by omega
        have i5 : ¬ (cp = 64 * k) := by omega
        have i6 : (0 : Int) ≤ 64 * ((k : Int) + 1) := by omega
        have i7 : (k : Int) ≤ (k : Int) + 1 := by omega
        have i8 : ¬ (cap2 = 64 * k) := by omega
        have w1 : IntKind.i64.wrap (64 * (k : Int)) = 64 * (k : Int) := IntWalk.i64_in _ (by omega)
        have w2 : IntKind.i64.wrap ((k : Int) + 1) = (k : Int) + 1 := IntWalk.i64_in _ (by omega)
        have w3 : IntKind.i64.wrap (64 * ((k : Int) + 1)) = 64 * ((k : Int) + 1) := IntWalk.i64_in _ (by omega)
        have t1 : (64 * (k : Int)).toNat = 64 * k := by omega
        have t2 : (64 * ((k : Int) + 1)).toNat = 64 * (k + 1) := by omega
        have t3 : 64 * (k + 1) - 64 * k = 64 := by omega
        have m1 : (64 : Nat) = Nat.min 64 (512 - 64 * k) := by simp [Nat.min_def]; omega
        have f1 : 64 * k + 64 ≤ 512 := by omega
        have hcb := (Hb.out.all hbl).drop (64 * k) 64 (by omega)
        have Hcb := Lib.hid hcb; clear hcb
        have M1 := Lib.hid m1; clear m1
        go_still_tail 11, (by kernel_rfl)
        clear w1 w2 w3 t1 t2 t3
        refine wpList_copy_o rfl _ _ 22 22 5 rfl Try.underlying22 size_u8 g (64 * k) (512 - 64 * k) (cp - 64 * k) cp 512 (bytesV (blendK p fa fb k)) rfl ?q1 b2 (off2 + 64 * k) 64 (cap2 - 64 * k) (fun i => bytesV fb (64 * k + i)) rfl ?q2 (fun _ _ => rfl) 64 M1.out f1 ?_
        case q1 => exact HR.out.heap rfl
        case q2 => exact Hcb.out.heap rfl
        intro w3 hr3 hw3
        have hr4 := hr3.congr (fun i hi => blendK_take p fa fb k i hp)
        have hb4 : Below w.heap.size w w3 := hw3.below (hbl.trans (below_drewN _ _ (nq + 1))) (by show w.heap.size ≤ wr.heap.size; exact hbl.size) hg
        clear hr3 hw3
        have H4 := Lib.hid hr4; clear hr4
        go_wp2
        go_roundw
        case rel => exact ⟨k + 1, by omega, by go_num, H4.out, hb4⟩
        case measure => simp [intOf]; omega
    · obtain rfl : k = 8 := by omega
      go_wp2_with fail
      go_ret
      exact ⟨g, cp, rfl, hg, HR.out.congr (fun i hi => by unfold bytesV blendK blendF; simp [show i / 64 < 8 from by omega]), hmx, hbl⟩

end Go.Proofs.Ytjfcjpkfefmhlaa
