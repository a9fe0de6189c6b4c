/- The specification's functions: Right, at, Marks, covers, Newer. -/
import Derived.Test.YtjfcjpkfefmhlaaLawI
namespace Go.Proofs.Ytjfcjpkfefmhlaa
open Go.RowKit
attribute [local go_sem] Oper.semAt_some

set_option maxHeartbeats 400000 in
theorem rRight_any (a : Option Addr) (n cap : Nat) (w : World) :
    Calls Try.prog 29 #[.slice a n cap] w fun e w' => e = .returned (.bool ((n : Int) == 512)) ∧ w = w' := by
  go_enter Try.func29, Try.ntmps29
  go_wp2
  go_ret
  exact ⟨rfl, rfl⟩

set_option maxHeartbeats 400000 in
theorem rat_any (b off cap k : Nat) (i : Int) (hi : i = (k : Int)) (x y : Int) (w : World) (hk : k + 1 < 512) (hx : 0 ≤ x ∧ x < 256) (hy : 0 ≤ y ∧ y < 256)
    (h0 : w.cell? ⟨b, off + k, none⟩ = some (.int .u8 x)) (h1 : w.cell? ⟨b, off + (k + 1), none⟩ = some (.int .u8 y)) :
    Calls Try.prog 56 #[.slice (some ⟨b, off, none⟩) 512 cap, .int .i64 i] w fun e w' => e = .returned (.int .i64 (x + 256 * y)) ∧ ∃ k, w' = w.drewN k := by
  subst hi
  go_enter Try.func56, Try.ntmps56
  go_wp2
  go_quiet (fail)
  go_wp2
  go_ret
  exact ⟨rfl, _, rfl⟩

set_option maxHeartbeats 1000000 in
theorem rNewer_any (u v : Int) (w : World) (hu : 1 ≤ u ∧ u ≤ 65535) (hv : 1 ≤ v ∧ v ≤ 65535) :
    Calls Try.prog 34 #[.int .i64 u, .int .i64 v] w fun e w' => e = .returned (.bool (newerF u v)) ∧ w = w' := by
  have hn : newerF u v = (u != v && decide ((u - v) % 65535 < 32768)) := by
    by_cases h0 : u = v
    · subst h0; rw [newerF_self]; simp
    · have hb : (u != v) = true := by rw [bne_iff_ne]; exact h0
      rw [hb, Bool.true_and]
      by_cases h1 : u - v < 0
      · rw [newerF_neg h1 (by omega)]
        exact decide_eq_decide.2 (by omega)
      · rw [newerF_pos h1 (by omega)]
        exact decide_eq_decide.2 (by omega)
  rw [hn]
  clear hn
  by_cases h0 : u = v
  · have hb : (u != v) = false := by simp [h0]
    rw [hb]
    go_enter Try.func34, Try.ntmps34
    go_wp2
    go_ret
    exact ⟨rfl, rfl⟩
  · have hb : (u != v) = true := by rw [bne_iff_ne]; exact h0
    rw [hb]
    go_enter Try.func34, Try.ntmps34
    go_wp2
    go_ret
    exact ⟨by simp, rfl⟩

/-- What holds between two rounds of Marks. -/
def RMarksI (w : World) (f : Nat → Int) (k : Nat) (v : Value) (wr : World) : Prop :=
  Own wr w.heap.size 3 v k (intsV (markI f)) ∧ Below w.heap.size w wr ∧ (∃ n c a, v = .slice a n c)

theorem rmarks_step {w wr w3 : World} {f : Nat → Int} {k : Nat} {v v' : Value} {m : Int} (h : RMarksI w f k v wr) (hm : m = markI f k)
    (hown' : Own w3 w.heap.size 3 v' (k + 1) (fun i => if i < k then intsV (markI f) i else .int .i64 m)) (hgr : (wr.alloc (.cells #[.int .i64 m] 3)).grownBy w3 v.ownBlock) :
    RMarksI w f (k + 1) v' w3 := by
  obtain ⟨ho, hb, _⟩ := h
  refine ⟨hown'.congr fun i hi => ?_, (hb.alloc hb.size _).grown hgr (by simp; have := hb.size; omega) (fun k e => (ho.isCells k e).1), ?_⟩
  · by_cases hik : i < k
    · rw [if_pos hik]
    · obtain rfl : i = k := by omega
      rw [if_neg hik, hm]; rfl
  · obtain ⟨g', c', rfl, _⟩ := hown'.row (by omega)
    exact ⟨_, _, _, rfl⟩

theorem RMarksI.drewN {w wr : World} {f : Nat → Int} {k : Nat} {v : Value} (h : RMarksI w f k v wr) (n : Nat) : RMarksI w f k v (wr.drewN n) :=
  ⟨h.1.drewN n, h.2.1.trans (below_drewN _ _ _), h.2.2⟩

def RMarksOk (w : World) (f : Nat → Int) (e : Ending) (w' : World) : Prop :=
  ∃ g cap, e = .returned (.slice (some ⟨g, 0, none⟩) 8 cap) ∧ w.heap.size ≤ g ∧ RowAt w' g 3 cap 8 (intsV (markI f)) ∧ Below w.heap.size w w'

set_option maxHeartbeats 2000000 in
theorem rMarks_any (b off cap : Nat) (hcap : 512 ≤ cap) (hm : cap ≤ maxLen) (f : Nat → Int) (hf : ∀ i, i < 512 → 0 ≤ f i ∧ f i < 256) (w : World) (hc : Cells w b off 512 (bytesV f)) :
    Calls Try.prog 30 #[.slice (some ⟨b, off, none⟩) 512 cap] w (RMarksOk w f) := by
  have Hc := Lib.hid hc; clear hc
  have Hf := Lib.hid hf; clear hf
  go_enter Try.func30, Try.ntmps30
  go_wp2_with fail
  go_loopw [3, 4] (fun v t wr => ∃ k : Nat, k ≤ 8 ∧ t = .int .i64 k ∧ RMarksI w f k v wr) (fun _ t _ => 8 - (intOf t).toNat)
  case atStart => exact ⟨0, by omega, rfl, Own.nil _ _ _ _, Below.refl _ _, _, _, _, rfl⟩
  case round =>
    obtain ⟨k, hk, rfl, hi⟩ := hrel
    by_cases hlt : k < 8
    · have hcw := Hc.out.all hi.2.1
      have c1 := hcw (64 * k + 62) (by omega)
      have c2 := hcw (64 * k + 63) (by omega)
      have b1 := Hf.out (64 * k + 62) (by omega)
      have b2 := Hf.out (64 * k + 63) (by omega)
      obtain ⟨n0, c0, a0, rfl⟩ := hi.2.2
      have A1 := Lib.hid (rat_any b off cap (64 * k + 62) (64 * (k : Int) + 62) (by omega) _ _ wr (by omega) b1 b2 c1 c2)
      have c3 := hcw 0 (by omega)
      have c4 := hcw 1 (by omega)
      have b3 := Hf.out 0 (by omega)
      have b4 := Hf.out 1 (by omega)
      have A2 : Hid (∀ q, Calls Try.prog 56 #[.slice (some ⟨b, off, none⟩) 512 cap, .int .i64 0] (wr.drewN q) fun e w' => e = .returned (.int .i64 (f 0 + 256 * f 1)) ∧ ∃ k, w' = (wr.drewN q).drewN k) :=
        Lib.hid (fun q => rat_any b off cap 0 0 (by omega) _ _ _ (by omega) b3 b4 c3 c4)
      have hi2 := fun q => hi.drewN q
      have HI2 := Lib.hid hi2
      have y1 : 0 ≤ f (64 * k + 62) + 256 * f (64 * k + 63) := by omega
      have y2 : f (64 * k + 62) + 256 * f (64 * k + 63) < 65536 := by omega
      have y3 : 0 ≤ f 0 + 256 * f 1 := by omega
      have y4 : f 0 + 256 * f 1 < 65536 := by omega
      have hmk : markI f k = if k = 0 ∧ f 0 + 256 * f 1 ≠ f (64 * k + 62) + 256 * f (64 * k + 63) then 0 else f (64 * k + 62) + 256 * f (64 * k + 63) := by
        unfold markI
        by_cases h : k = 0
        · subst h; rfl
        · simp [h]
      clear hcw c1 c2 c3 c4 hi hi2 b1 b2 b3 b4
      generalize f (64 * k + 62) + 256 * f (64 * k + 63) = Y at *
      generalize f 0 + 256 * f 1 = Z at *
      have Hmk := Lib.hid hmk; clear hmk
      go_wp2_with fail
      refine A1.out.mono ?_
      rintro e w1 ⟨rfl, q, rfl⟩
      by_cases hk0 : k = 0
      · have hk1 : ((k : Int) == 0) = true := by rw [hk0]; rfl
        go_wp2_with fail
        refine (A2.out q).mono ?_
        rintro e w1 ⟨rfl, q2, rfl⟩
        have hi2 := HI2.out (q + q2)
        have hwq : (wr.drewN q).drewN q2 = wr.drewN (q + q2) := by simp [World.drewN, Nat.add_assoc]
        rw [hwq]
        clear hwq
        by_cases hZ : Z = Y
        · have hZ1 : (Z != Y) = false := by simp [hZ]
          have hM : Y = markI f k := by rw [Hmk.out, if_neg (by simp [hZ])]
          have HM := Lib.hid hM; clear hM hZ
          have Hi2 := Lib.hid hi2; clear hi2
          generalize wr.drewN (q + q2) = wr2 at *
          go_wp2_with (with_reducible refine stopB .append ?_)
          refine Hold.go ?_
          refine wpList_append_o rfl _ _ 24 3 _ _ rfl Try.underlying24 info_int rfl w.heap.size _ k (intsV (markI f)) rfl (Hi2.out.1.alloc _) wr2.heap.size 0 1 1 (fun _ => .int .i64 Y) rfl (RowAt.new wr2 #[.int .i64 Y] 3 _ 1 (by simp) (one_cell rfl)).reads (fun _ _ => rfl) (by omega) (by decide) (by have := Hi2.out.2.1.size; simp; omega) ?_
          intro v' w3 hown' hgr _ _
          have hst := rmarks_step Hi2.out HM.out hown' hgr
          have Hst := Lib.hid hst; clear hst hown' hgr
          have ⟨n1, c1, a1, hv'⟩ := Hst.out.2.2
          subst hv'
          go_wp2
          go_roundw
          case rel => exact ⟨k + 1, by omega, by go_num, Hst.out⟩
          case measure => simp [intOf]; omega
        · have hZ1 : (Z != Y) = true := by rw [bne_iff_ne]; exact hZ
          have hM : 0 = markI f k := by rw [Hmk.out, if_pos ⟨hk0, hZ⟩]
          have HM := Lib.hid hM; clear hM hZ
          have Hi2 := Lib.hid hi2; clear hi2
          generalize wr.drewN (q + q2) = wr2 at *
          go_wp2_with (with_reducible refine stopB .append ?_)
          refine Hold.go ?_
          refine wpList_append_o rfl _ _ 24 3 _ _ rfl Try.underlying24 info_int rfl w.heap.size _ k (intsV (markI f)) rfl (Hi2.out.1.alloc _) wr2.heap.size 0 1 1 (fun _ => .int .i64 0) rfl (RowAt.new wr2 #[.int .i64 0] 3 _ 1 (by simp) (one_cell rfl)).reads (fun _ _ => rfl) (by omega) (by decide) (by have := Hi2.out.2.1.size; simp; omega) ?_
          intro v' w3 hown' hgr _ _
          have hst := rmarks_step Hi2.out HM.out hown' hgr
          have Hst := Lib.hid hst; clear hst hown' hgr
          have ⟨n1, c1, a1, hv'⟩ := Hst.out.2.2
          subst hv'
          go_wp2
          go_roundw
          case rel => exact ⟨k + 1, by omega, by go_num, Hst.out⟩
          case measure => simp [intOf]; omega
      · have hk1 : ((k : Int) == 0) = false := by rw [beq_eq_false_iff_ne]; omega
        have hM : Y = markI f k := by rw [Hmk.out, if_neg (by simp [hk0])]
        have HM := Lib.hid hM; clear hM
        have Hi2 := Lib.hid (HI2.out q)
        clear HI2 A2 hk0
        generalize wr.drewN q = wr2 at *
        go_wp2_with (with_reducible refine stopB .append ?_)
        refine Hold.go ?_
        refine wpList_append_o rfl _ _ 24 3 _ _ rfl Try.underlying24 info_int rfl w.heap.size _ k (intsV (markI f)) rfl (Hi2.out.1.alloc _) wr2.heap.size 0 1 1 (fun _ => .int .i64 Y) rfl (RowAt.new wr2 #[.int .i64 Y] 3 _ 1 (by simp) (one_cell rfl)).reads (fun _ _ => rfl) (by omega) (by decide) (by have := Hi2.out.2.1.size; simp; omega) ?_
        intro v' w3 hown' hgr _ _
        have hst := rmarks_step Hi2.out HM.out hown' hgr
        have Hst := Lib.hid hst; clear hst hown' hgr
        have ⟨n1, c1, a1, hv'⟩ := Hst.out.2.2
        subst hv'
        go_wp2
        go_roundw
        case rel => exact ⟨k + 1, by omega, by go_num, Hst.out⟩
        case measure => simp [intOf]; omega
    · obtain rfl : k = 8 := by omega
      obtain ⟨ho, hb, _⟩ := hi
      obtain ⟨g, c, rfl, hg, hrow, _⟩ := ho.row (by omega)
      have Hrow := Lib.hid hrow; clear hrow
      have Hb := Lib.hid hb; clear hb
      go_wp2
      go_ret
      exact ⟨g, c, rfl, hg, Hrow.out, Hb.out⟩

end Go.Proofs.Ytjfcjpkfefmhlaa
