/- The specification's Guard. -/
import Derived.Test.YtjfcjpkfefmhlaaLawL
namespace Go.Proofs.Ytjfcjpkfefmhlaa
open Go.RowKit
attribute [local go_sem] Oper.semAt_some

def RGuardPost (w : World) (m : Int) (f : Nat → Int) (e : Ending) (w' : World) : Prop :=
  if anyB (fun i => f i != 0) 18 = true then RawBad w 4 e w' else RawOk w (guardF m f) e w'

/-- What holds between two rounds of Guard's second loop. -/
structure RGI (g cp : Nat) (w : World) (f : Nat → Int) (wr : World) : Prop where
  res : RowAt wr w.heap.size 55 2 2 (st2 (.slice none 0 0) (.int .i64 0))
  row : RowAt wr g 5 cp 512 (bytesV f)
  below : Below w.heap.size w wr

theorem RGI.drewN {g cp : Nat} {w : World} {f : Nat → Int} {wr : World} (h : RGI g cp w f wr) (n : Nat) : RGI g cp w f (wr.drewN n) := ⟨h.res.drewN n, h.row.drewN n, h.below.trans (below_drewN _ _ _)⟩

def putF2 (f : Nat → Int) (i : Nat) (x y : Int) (j : Nat) : Int := if j = i + 1 then y else if j = i then x else f j

theorem RGI.put {g cp : Nat} {w : World} {f : Nat → Int} {wr : World} (h : RGI g cp w f wr) (hg : w.heap.size < g) (i : Nat) (x y : Int) :
    RGI g cp w (putF2 f i x y) ((wr.setCell ⟨g, i, none⟩ (.int .u8 x)).setCell ⟨g, i + 1, none⟩ (.int .u8 y)) :=
  ⟨(h.res.setOther _ _ (by simp; omega)).setOther _ _ (by simp; omega), ((h.row.set i _).set (i + 1) _).congr (fun j _ => by
    unfold bytesV putF2
    split
    · rfl
    · split <;> rfl), (h.below.setCell (by simp; omega) _).setCell (by simp; omega) _⟩

theorem RGI.cong {g cp : Nat} {w : World} {f f' : Nat → Int} {wr : World} (h : RGI g cp w f wr) (hf : ∀ i, i < 512 → f i = f' i) : RGI g cp w f' wr :=
  ⟨h.res, h.row.congr fun i hi => by unfold bytesV; rw [hf i hi], h.below⟩

/-- put, as the invariant takes it. -/
theorem rput_inv {g cp : Nat} {w : World} {f : Nat → Int} {wr : World} (h : RGI g cp w f wr) (hg : w.heap.size < g) (i : Nat) (I : Int) (hI : I = (i : Int)) (hi : i + 1 < 512) (n : Int) (hn : 0 ≤ n ∧ n < 65536) :
    Calls Try.prog 55 #[.slice (some ⟨g, 0, none⟩) 512 cp, .int .i64 I, .int .i64 n] wr fun e w' => e = .returned (.tuple #[]) ∧ RGI g cp w (putF2 f i (n % 256) (n / 256)) w' := by
  refine (rput_any g cp i I hI hi _ _ n wr hn (h.row.cell (by omega)) (h.row.cell (by omega)) (h.row.frozen i) (h.row.frozen (i + 1))).mono ?_
  rintro e w' ⟨rfl, rfl⟩
  exact ⟨rfl, h.put hg i _ _⟩

theorem guard_step (m : Int) (f : Nat → Int) (hf : ∀ i, i < 512 → 0 ≤ f i ∧ f i < 256) (k : Nat) (hk : k < 8) (i : Nat) (hi : i < 512) :
    putF2 (putF2 (guardK m f k) (2 + 2 * k) ((f (64 * k + 62) + 256 * f (64 * k + 63)) % 256) ((f (64 * k + 62) + 256 * f (64 * k + 63)) / 256)) (64 * k + 62) (m % 256) (m / 256) i = guardK m f (k + 1) i := by
  rw [← guardK_succ m f k i hk]
  have h62 := hf (64 * k + 62) (by omega)
  have h63 := hf (64 * k + 63) (by omega)
  unfold putF2
  by_cases h1 : i = 64 * k + 63
  · rw [if_pos h1, if_pos h1]
  · rw [if_neg h1, if_neg h1]
    by_cases h2 : i = 64 * k + 62
    · rw [if_pos h2, if_pos h2]
    · rw [if_neg h2, if_neg h2]
      by_cases h3 : i = 2 + 2 * k + 1
      · rw [if_pos h3, if_pos (by omega), show 64 * k + 62 + (i - (2 + 2 * k)) = 64 * k + 63 from by omega, guardK_tail1 m f k hk]
        omega
      · rw [if_neg h3]
        by_cases h4 : i = 2 + 2 * k
        · rw [if_pos h4, if_pos (by omega), show 64 * k + 62 + (i - (2 + 2 * k)) = 64 * k + 62 from by omega, guardK_tail0 m f k hk]
          omega
        · rw [if_neg h4, if_neg (by omega)]

theorem guard_first (m : Int) (f : Nat → Int) (i : Nat) : putF2 f 0 (m % 256) (m / 256) i = guardK m f 0 i := by
  unfold putF2 guardK
  by_cases h0 : i = 0
  · subst h0; simp
  · by_cases h1 : i = 1
    · subst h1; simp
    · rw [if_neg (by omega), if_neg h0, if_neg h0, if_neg h1, if_neg (by omega), if_neg (by omega), if_neg (by omega)]

set_option maxRecDepth 8000 in
set_option maxHeartbeats 4000000 in
theorem rGuard_main (b off cap : Nat) (hcap : 512 ≤ cap) (m : Int) (hm : 1 ≤ m ∧ m ≤ 65535) (f : Nat → Int) (hf : ∀ i, i < 512 → 0 ≤ f i ∧ f i < 256) (w : World) (hc : Cells w b off 512 (bytesV f)) :
    Calls Try.prog 26 #[.slice (some ⟨b, off, none⟩) 512 cap, .int .i64 m] w (RGuardPost w m f) := by
  have Hc := Lib.hid hc; clear hc
  have Hf := Lib.hid hf; clear hf
  go_enter Try.func26, Try.ntmps26
  go_wp2_with fail
  refine (rRight_any _ _ _ _).mono ?_
  rintro e w' ⟨rfl, rfl⟩
  have r0 := row2 w (.slice none 0 0) (.int .i64 0) 55
  have hb : Below w.heap.size w (w.alloc (.cells #[.slice none 0 0, .int .i64 0] 55)) := (Below.refl _ w).alloc (Nat.le_refl _) _
  have hs1 : (w.alloc (.cells #[.slice none 0 0, .int .i64 0] 55)).heap.size = w.heap.size + 1 := by simp
  have R1 := Lib.hid r0; clear r0
  have B1 := Lib.hid hb; clear hb
  have S1 := Lib.hid hs1; clear hs1
  generalize w.alloc (.cells #[.slice none 0 0, .int .i64 0] 55) = w1 at *
  rw [show (((512 : Nat) : Int) == 512) = true from rfl]
  go_wp2_with fail
  refine (rMark_any _ _).mono ?_
  rintro e w' ⟨rfl, rfl⟩
  rw [show decide (1 ≤ m ∧ m ≤ 65535) = true from by simpa using hm]
  go_wp2_with fail
  go_loop [5] (fun t => ∃ k : Nat, k ≤ 18 ∧ t = .int .i64 k ∧ ∀ i, i < k → (f i != 0) = false) (fun t => 18 - (intOf t).toNat)
  case atStart => exact ⟨0, by omega, rfl, fun i hi => absurd hi (by omega)⟩
  case round =>
    obtain ⟨k, hk, rfl, hq⟩ := hrel
    have Hq := Lib.hid hq; clear hq
    by_cases hlt : k < 18
    · have ck := Hc.out.all B1.out k (by omega)
      unfold bytesV at ck
      rcases hb0 : (f k != 0) with _ | _
      · have Hb0 := Lib.hid hb0
        go_wp2
        go_round
        case rel => exact ⟨k + 1, by omega, by go_num, fun i hi => if h : i = k then by rw [h]; exact Hb0.out else Hq.out i (by omega)⟩
        case measure => simp [intOf]; omega
      · have hany : anyB (fun i => f i != 0) 18 = true := anyB_true.2 ⟨k, hlt, hb0⟩
        have Hany := Lib.hid hany; clear hany
        have q0 := R1.out.cell (i := 0) (by omega)
        have q1 := R1.out.cell (i := 1) (by omega)
        have z0 := R1.out.frozen 0
        have z1 := R1.out.frozen 1
        have rr := R1.out.st2 (.slice none 0 0) (.int .i64 4)
        have E0 := Lib.hid (rr.cell (i := 0) (by omega))
        have E1 := Lib.hid (rr.cell (i := 1) (by omega))
        have HB2 := Lib.hid ((B1.out.setCell (p := ⟨w.heap.size, 0, none⟩) (Nat.le_refl _) (.slice none 0 0)).setCell (p := ⟨w.heap.size, 1, none⟩) (Nat.le_refl _) (.int .i64 4))
        clear rr
        go_wp2_with fail
        have e0 := E0.out
        have e1 := E1.out
        refine bodyPost_ret (v := .agg #[.slice none 0 0, .int .i64 4]) ?_ rfl (by unfold RGuardPost; rw [if_pos Hany.out]; exact ⟨rfl, HB2.out⟩)
        simp [results, Try.results26, go_sem, e0, e1, st2]
    · obtain rfl : k = 18 := by omega
      have hany : ¬ anyB (fun i => f i != 0) 18 = true := by rw [anyB_false.2 Hq.out]; simp
      have Hany := Lib.hid hany; clear hany
      go_wp2_with (at_builtin; refine Hold.stop ?_)
      refine Hold.go ?_
      refine wpList_append_o rfl _ _ 22 5 _ _ rfl Try.underlying22 info_u8 rfl w1.heap.size _ 0 (fun _ => undef) rfl (.inr ⟨_, 0, rfl, Nat.le_refl _, RowAt.new w1 #[] _ _ 0 (Nat.le_refl _) (fun i hi => absurd hi (by omega)), by simp [maxLen]⟩) b off 512 cap (bytesV f) rfl ((Hc.out.all B1.out).alloc _) (fun _ _ => rfl) (by omega) (by decide) (by simp) ?_
      intro v' w4 hown hgr _ _
      obtain ⟨g, cp, rfl, hgB, hrow, hmx⟩ := hown.row (by omega)
      rw [Nat.zero_add] at hrow ⊢
      have hb : Below w1.heap.size w1 w4 := ((Below.refl _ w1).alloc (Nat.le_refl _) _).grown hgr (by simp) (fun k hk => by simp [Value.ownBlock, Act.eval] at hk; omega)
      have hgw : w.heap.size < g := by have := S1.out; omega
      have hI : RGI g cp w f w4 := ⟨R1.out.all hb, hrow.congr (fun i _ => by simp), B1.out.trans (hb.mono B1.out.size)⟩
      have HI := Lib.hid hI
      have Hmx := Lib.hid hmx
      have hcp := hrow.le
      clear hI hmx hrow hown hgr hb R1 B1 S1 hgB
      have PI := Lib.hid (rput_inv HI.out hgw 0 0 (by omega) (by omega) m (by omega))
      go_wp2_with fail
      refine PI.out.mono ?_
      rintro e w5 ⟨rfl, hi⟩
      have HI2 := Lib.hid (hi.cong (fun i _ => guard_first m f i)); clear hi PI HI
      go_wp2_with fail
      go_loopw [7] (fun t wr => ∃ k : Nat, k ≤ 8 ∧ t = .int .i64 k ∧ RGI g cp w (guardK m f k) wr) (fun t _ => 8 - (intOf t).toNat)
      case atStart => exact ⟨0, by omega, rfl, HI2.out⟩
      case round =>
        obtain ⟨k, hk, rfl, hi⟩ := hrel
        by_cases hlt : k < 8
        · have hcw := Hc.out.all hi.below
          have b1 := Hf.out (64 * k + 62) (by omega)
          have b2 := Hf.out (64 * k + 63) (by omega)
          have A1 := Lib.hid (rat_any b off cap (64 * k + 62) (64 * (k : Int) + 62) (by omega) _ _ wr (by omega) b1 b2 (hcw _ (by omega)) (hcw _ (by omega)))
          have Gs := Lib.hid (fun i hi => guard_step m f Hf.out k hlt i hi)
          have hz : 0 ≤ f (64 * k + 62) + 256 * f (64 * k + 63) ∧ f (64 * k + 62) + 256 * f (64 * k + 63) < 65536 := by omega
          have Hz := Lib.hid hz; clear hz
          generalize f (64 * k + 62) + 256 * f (64 * k + 63) = z at *
          have Hi := Lib.hid hi
          clear hcw b1 b2 hi
          go_wp2_with fail
          refine A1.out.mono ?_
          rintro e w6 ⟨rfl, q, rfl⟩
          go_wp2_with fail
          refine (rput_inv (Hi.out.drewN q) hgw (2 + 2 * k) (2 + 2 * (k : Int)) (by omega) (by omega) z Hz.out).mono ?_
          rintro e w6 ⟨rfl, hi2⟩
          have Hi2 := Lib.hid hi2; clear hi2 Hi A1
          go_wp2_with fail
          refine (rput_inv Hi2.out hgw (64 * k + 62) (64 * (k : Int) + 62) (by omega) (by omega) m (by omega)).mono ?_
          rintro e w7 ⟨rfl, hi3⟩
          have Hi3 := Lib.hid (hi3.cong (fun i hi => Gs.out i hi)); clear hi3 Hi2
          go_wp2
          go_roundw
          case rel => exact ⟨k + 1, by omega, by go_num, Hi3.out⟩
          case measure => simp [intOf]; omega
        · obtain rfl : k = 8 := by omega
          have q0 := hi.res.cell (i := 0) (by omega)
          have q1 := hi.res.cell (i := 1) (by omega)
          have z0 := hi.res.frozen 0
          have z1 := hi.res.frozen 1
          have rr := hi.res.st2 (.slice (some ⟨g, 0, none⟩) 512 cp) (.int .i64 0)
          have E0 := Lib.hid (rr.cell (i := 0) (by omega))
          have E1 := Lib.hid (rr.cell (i := 1) (by omega))
          have HB2 := Lib.hid ((hi.below.setCell (p := ⟨w.heap.size, 0, none⟩) (Nat.le_refl _) (.slice (some ⟨g, 0, none⟩) 512 cp)).setCell (p := ⟨w.heap.size, 1, none⟩) (Nat.le_refl _) (.int .i64 0))
          have HR2 := Lib.hid ((hi.row.setOther ⟨w.heap.size, 0, none⟩ (.slice (some ⟨g, 0, none⟩) 512 cp) (by simp; omega)).setOther ⟨w.heap.size, 1, none⟩ (.int .i64 0) (by simp; omega))
          clear rr hi
          go_wp2_with fail
          have e0 := E0.out
          have e1 := E1.out
          refine bodyPost_ret (v := .agg #[.slice (some ⟨g, 0, none⟩) 512 cp, .int .i64 0]) ?_ rfl (by unfold RGuardPost; rw [if_neg Hany.out]; exact ⟨g, cp, rfl, by omega, HR2.out, Hmx.out, HB2.out⟩)
          simp [results, Try.results26, go_sem, e0, e1, st2]

end Go.Proofs.Ytjfcjpkfefmhlaa
