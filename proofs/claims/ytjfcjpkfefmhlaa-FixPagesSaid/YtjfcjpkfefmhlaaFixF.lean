/- whole, which panics; caught, which recovers. -/
import Derived.Test.YtjfcjpkfefmhlaaFixE
namespace Go.Proofs.Ytjfcjpkfefmhlaa
open Go.RowKit

/-- Are the bytes whole? -/
def wholeB (f : Nat → Int) : Bool := !anyB (fun s => markI f s == 0 || markI f s != markI f 0) 8

theorem wholeB_true {f : Nat → Int} (h : wholeB f = true) : ∀ s, s < 8 → (markI f s == 0 || markI f s != markI f 0) = false := by
  unfold wholeB at h
  rw [Bool.not_eq_true'] at h
  exact anyB_false.1 h

theorem wholeB_false {f : Nat → Int} {s : Nat} (hs : s < 8) (h : (markI f s == 0 || markI f s != markI f 0) = true) : wholeB f = false := by
  unfold wholeB
  rw [Bool.not_eq_false']
  exact anyB_true.2 ⟨s, hs, h⟩

theorem wholeB_iff {f : Nat → Int} : wholeB f = true ↔ ∀ s, s < 8 → markI f s ≠ 0 ∧ markI f s = markI f 0 := by
  constructor
  · intro h s hs
    have := wholeB_true h s hs
    simpa using this
  · intro h
    unfold wholeB
    rw [Bool.not_eq_true', anyB_false]
    intro s hs
    have h0 := (h 0 (by omega)).1
    have := h s hs
    simp [this, h0]

/-- The panic of package fix. -/
def tornPanic : List PanicEntry := [{ v := .iface 84 (.agg #[]), recovered := false }]

def WholePost (w : World) (f : Nat → Int) (e : Ending) (w' : World) : Prop :=
  (if wholeB f = true then e = .returned (.int .i64 (markI f 0)) else e = .panicked tornPanic) ∧ Below w.heap.size w w'

theorem markI_bound {f : Nat → Int} (hf : ∀ i, i < 512 → 0 ≤ f i ∧ f i < 256) (s : Nat) (hs : s < 8) : 0 ≤ markI f s ∧ markI f s < 65536 := by
  unfold markI
  have h1 := hf (64 * s + 62) (by omega)
  have h2 := hf (64 * s + 63) (by omega)
  split <;> omega

set_option maxHeartbeats 1000000 in
theorem whole_any (b off cap : Nat) (hcap : 512 ≤ cap) (hm : cap ≤ maxLen) (f : Nat → Int) (hf : ∀ i, i < 512 → 0 ≤ f i ∧ f i < 256) (w : World) (hc : Cells w b off 512 (bytesV f)) :
    Calls Try.prog 52 #[.slice (some ⟨b, off, none⟩) 512 cap] w (WholePost w f) := by
  have hmk := marks_any b off cap hcap hm f hf w hc
  have hfb := Lib.hid hf; clear hf
  have hcl := Lib.hid hc; clear hc
  have Hmk := Lib.hid hmk; clear hmk
  go_enter Try.func52, Try.ntmps52
  go_wp2_with (go_at_call 38; refine Hmk.out.mono ?_; rintro e w' ⟨g, cp, rfl, hg, hrow, hmx, hbel⟩)
  have Hrow := Lib.hid hrow; clear hrow
  have m0 := Hrow.out.cell (i := 0) (by omega)
  unfold intsV at m0
  go_wp2_with fail
  go_loop [10] (fun t => ∃ k : Nat, k ≤ 8 ∧ t = .int .i64 k ∧ (∀ i, i < k → (markI f i == 0 || markI f i != markI f 0) = false)) (fun t => 8 - (intOf t).toNat)
  case atStart => exact ⟨0, by omega, rfl, fun i hi => absurd hi (by omega)⟩
  case round =>
    obtain ⟨k, hk, rfl, hq⟩ := hrel
    have Hq := Lib.hid hq; clear hq
    by_cases hlt : k < 8
    · have mk := Hrow.out.cell (i := k) hlt
      unfold intsV at mk
      rcases h1 : (markI f k == 0) with _ | _
      · rcases h2 : (markI f k != markI f 0) with _ | _
        · have h3 := Lib.hid h2
          go_wp2
          go_round
          case rel => exact ⟨k + 1, by omega, by go_num, fun i hi => if h : i = k then by rw [h, h1, h3.out]; rfl else Hq.out i (by omega)⟩
          case measure => simp [intOf]; omega
        · have hw := wholeB_false hlt (by rw [h1, h2]; rfl)
          have Hw := Lib.hid hw; clear hw
          go_wp2
          refine ⟨rfl, ?_, hbel⟩
          rw [if_neg (by rw [Hw.out]; simp)]
          rfl
      · have hw := wholeB_false hlt (by rw [h1]; rfl)
        have Hw := Lib.hid hw; clear hw
        go_wp2
        refine ⟨rfl, ?_, hbel⟩
        rw [if_neg (by rw [Hw.out]; simp)]
        rfl
    · have hw : wholeB f = true := by
        unfold wholeB
        rw [Bool.not_eq_true', anyB_false]
        exact fun s hs => Hq.out s (by omega)
      have Hw := Lib.hid hw; clear hw
      go_wp2
      go_ret
      refine ⟨?_, hbel⟩
      rw [if_pos Hw.out]
      rfl

end Go.Proofs.Ytjfcjpkfefmhlaa
