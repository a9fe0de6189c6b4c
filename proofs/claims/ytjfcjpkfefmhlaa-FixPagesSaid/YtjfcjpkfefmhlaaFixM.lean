/- Merge. -/
import Derived.Test.YtjfcjpkfefmhlaaFixL
namespace Go.Proofs.Ytjfcjpkfefmhlaa
open Go.RowKit

theorem ret_bool {a b : Bool} (h : a = b) : Ending.returned (.bool a) = .returned (.bool b) := by rw [h]

/-- Does one of two copies have the mark u, at each sector? -/
def coversB (x y : Nat → Int) (u : Int) : Bool := u != 0 && !anyB (fun s => x s != u && y s != u) 8
def betterB (x y : Nat → Int) (best u : Int) : Bool := coversB x y u && (best == 0 || newerF u best)
def bestOf (x y : Nat → Int) : Int :=
  if betterB x y (if betterB x y 0 (x 0) then x 0 else 0) (y 0) then y 0 else if betterB x y 0 (x 0) then x 0 else 0

theorem coversB_iff {x y : Nat → Int} {u : Int} : coversB x y u = true ↔ u ≠ 0 ∧ ∀ s, s < 8 → x s = u ∨ y s = u := by
  unfold coversB
  rw [Bool.and_eq_true, bne_iff_ne, Bool.not_eq_true', anyB_false]
  constructor
  · rintro ⟨h1, h2⟩
    refine ⟨h1, fun s hs => ?_⟩
    have := h2 s hs
    by_cases hx : x s = u
    · exact .inl hx
    · refine .inr ?_
      simpa [hx] using this
  · rintro ⟨h1, h2⟩
    refine ⟨h1, fun s hs => ?_⟩
    rcases h2 s hs with h | h <;> simp [h]

theorem coversB_false {x y : Nat → Int} {u : Int} {s : Nat} (hs : s < 8) (hx : x s ≠ u) (hy : y s ≠ u) : coversB x y u = false := by
  rw [← Bool.not_eq_true, coversB_iff]
  rintro ⟨_, h⟩
  rcases h s hs with h | h
  · exact hx h
  · exact hy h

set_option maxHeartbeats 1000000 in
theorem better_any (u best : Int) (hu : 0 ≤ u ∧ u ≤ 65535) (hbt : 0 ≤ best ∧ best ≤ 65535) (x y : Nat → Int) (px py pb : Addr) (gx cx gy cy : Nat) (w : World)
    (h1 : w.cell? px = some (.slice (some ⟨gx, 0, none⟩) 8 cx)) (h2 : w.cell? py = some (.slice (some ⟨gy, 0, none⟩) 8 cy)) (h3 : w.cell? pb = some (.int .i64 best))
    (hx : Cells w gx 0 8 (intsV x)) (hy : Cells w gy 0 8 (intsV y)) :
    Calls Try.prog 39 #[.int .i64 u, .pointer (some px), .pointer (some py), .pointer (some pb)] w fun e w' => e = .returned (.bool (betterB x y best u)) ∧ w = w' := by
  have Hx := Lib.hid hx; clear hx
  have Hy := Lib.hid hy; clear hy
  go_enter Try.func39, Try.ntmps39
  go_wp2_with fail
  go_loop [7] (fun t => ∃ k : Nat, k ≤ 8 ∧ t = .int .i64 k ∧ (0 < k → u ≠ 0) ∧ (∀ s, s < k → x s = u ∨ y s = u)) (fun t => 8 - (intOf t).toNat)
  case atStart => exact ⟨0, by omega, rfl, fun h => absurd h (by omega), fun i hi => absurd hi (by omega)⟩
  case round =>
    obtain ⟨k, hk, rfl, hn, hq⟩ := hrel
    have Hq := Lib.hid hq; clear hq
    have Hn := Lib.hid hn; clear hn
    by_cases hlt : k < 8
    · have xk := Hx.out k hlt
      have yk := Hy.out k hlt
      unfold intsV at xk yk
      rw [Nat.zero_add] at xk yk
      rcases hu0 : (u == 0) with _ | _
      · have hu1 : u ≠ 0 := by rw [beq_eq_false_iff_ne] at hu0; exact hu0
        have Hu1 := Lib.hid hu1; clear hu1
        rcases hxu : (x k != u) with _ | _
        · have hxe : x k = u := by rw [bne_eq_false_iff_eq] at hxu; exact hxu
          have Hxe := Lib.hid hxe; clear hxe
          go_wp2
          go_round
          case rel => exact ⟨k + 1, by omega, by go_num, fun _ => Hu1.out, fun s hs => if h : s = k then by rw [h]; exact .inl Hxe.out else Hq.out s (by omega)⟩
          case measure => simp [intOf]; omega
        · rcases hyu : (y k != u) with _ | _
          · have hye : y k = u := by rw [bne_eq_false_iff_eq] at hyu; exact hyu
            have Hye := Lib.hid hye; clear hye
            go_wp2
            go_round
            case rel => exact ⟨k + 1, by omega, by go_num, fun _ => Hu1.out, fun s hs => if h : s = k then by rw [h]; exact .inr Hye.out else Hq.out s (by omega)⟩
            case measure => simp [intOf]; omega
          · have hres : betterB x y best u = false := by
              unfold betterB
              rw [coversB_false hlt (by rw [bne_iff_ne] at hxu; exact hxu) (by rw [bne_iff_ne] at hyu; exact hyu)]
              rfl
            have Hres := Lib.hid hres; clear hres
            go_wp2
            go_ret
            exact ⟨ret_bool Hres.out.symm, rfl⟩
      · have hres : betterB x y best u = false := by
          unfold betterB coversB
          rw [beq_iff_eq] at hu0
          simp [hu0]
        have Hres := Lib.hid hres; clear hres
        go_wp2
        go_ret
        exact ⟨ret_bool Hres.out.symm, rfl⟩
    · obtain rfl : k = 8 := by omega
      have hcov : coversB x y u = true := coversB_iff.2 ⟨Hn.out (by omega), Hq.out⟩
      have hu1 : 1 ≤ u := by have := Hn.out (by omega); omega
      rcases hb0 : (best == 0) with _ | _
      · have hres : betterB x y best u = newerF u best := by unfold betterB; rw [hcov, hb0]; rfl
        have hb1 : 1 ≤ best := by rw [beq_eq_false_iff_ne] at hb0; omega
        have hnw := newer_any u best w ⟨hu1, hu.2⟩ ⟨hb1, hbt.2⟩
        have Hnw := Lib.hid hnw; clear hnw
        have Hres := Lib.hid hres
        clear hres hcov
        go_wp2_with (go_at_call 40; refine Hnw.out.mono ?_; rintro e w' ⟨rfl, rfl⟩)
        go_ret
        exact ⟨ret_bool Hres.out.symm, rfl⟩
      · have hres : betterB x y best u = true := by unfold betterB; rw [hcov, hb0]; rfl
        have Hres := Lib.hid hres
        clear hres hcov
        go_wp2_with fail
        go_ret
        exact ⟨ret_bool Hres.out.symm, rfl⟩

set_option maxHeartbeats 400000 in
theorem merge2_any (s : Nat) (hs : s < 8) (best : Int) (x : Nat → Int) (px pb : Addr) (gx cx : Nat) (w : World)
    (h1 : w.cell? px = some (.slice (some ⟨gx, 0, none⟩) 8 cx)) (h3 : w.cell? pb = some (.int .i64 best)) (hx : Cells w gx 0 8 (intsV x)) :
    Calls Try.prog 42 (#[.int .i64 (s : Int)] ++ #[.pointer (some px), .pointer (some pb)]) w fun e w' => e = .returned (.bool (x s != best)) ∧ ∃ n, w' = w.drewN n := by
  show Calls _ _ #[.int .i64 (s : Int), .pointer (some px), .pointer (some pb)] w _
  have xs := hx s hs
  unfold intsV at xs
  rw [Nat.zero_add] at xs
  have i0 : (0 : Int) ≤ (s : Int) := by omega
  have i1 : (s : Int) < 8 := by omega
  clear hx
  go_enter Try.func42, Try.ntmps42
  go_wp2
  go_quiet (fail)
  go_wp2
  go_ret
  exact ⟨rfl, _, rfl⟩

end Go.Proofs.Ytjfcjpkfefmhlaa
