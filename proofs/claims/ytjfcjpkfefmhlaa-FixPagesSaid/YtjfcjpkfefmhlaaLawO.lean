/- The specification's Open. -/
import Derived.Test.YtjfcjpkfefmhlaaLawN
namespace Go.Proofs.Ytjfcjpkfefmhlaa
open Go.RowKit
attribute [local go_sem] Oper.semAt_some

theorem mark0_whole (f : Nat → Int) (hw : wholeB f = true) : f 0 + 256 * f 1 = markI f 0 := by
  have h1 := (wholeB_iff.1 hw 0 (by omega)).1
  unfold markI at h1 ⊢
  by_cases h0 : f 0 + 256 * f 1 = f 62 + 256 * f 63
  · rw [if_neg (by simp [h0])]
    exact h0
  · rw [if_pos ⟨rfl, h0⟩] at h1
    exact absurd rfl h1

theorem tornL_pos (f : Nat → Int) (h : wholeB f = false) : 0 < (tornL f 8).length := by
  apply Nat.pos_of_ne_zero
  intro h0
  have hnil : tornL f 8 = [] := List.eq_nil_of_length_eq_zero h0
  unfold tornL at hnil
  rw [List.map_eq_nil_iff, List.filter_eq_nil_iff] at hnil
  have : wholeB f = true := by
    rw [wholeB_iff]
    intro s hs
    have h1 := hnil s (by simpa using hs)
    have h2 := hnil 0 (by simp)
    unfold tornP at h1 h2
    simp at h1 h2
    exact ⟨by rw [h1.1]; exact h2, h1.1⟩
  rw [this] at h
  cases h

def ROpenBad (w : World) (c : Int) (e : Ending) (w' : World) : Prop := e = .returned (.agg #[.slice none 0 0, .int .i64 0, .int .i64 c]) ∧ Below w.heap.size w w'
def ROpenOk (w : World) (f : Nat → Int) (e : Ending) (w' : World) : Prop :=
  ∃ g cap, e = .returned (.agg #[.slice (some ⟨g, 0, none⟩) 512 cap, .int .i64 (markI f 0), .int .i64 0]) ∧ w.heap.size ≤ g ∧ RowAt w' g 5 cap 512 (bytesV (openF f)) ∧ cap ≤ maxLen ∧ Below w.heap.size w w'

/-- What holds between two rounds of Open. -/
structure ROI (g cp : Nat) (w : World) (f : Nat → Int) (wr : World) : Prop where
  res : RowAt wr w.heap.size 58 3 3 (st3 (.slice none 0 0) (.int .i64 0) (.int .i64 0))
  row : RowAt wr g 5 cp 512 (bytesV f)
  below : Below w.heap.size w wr

theorem ROI.drewN {g cp : Nat} {w : World} {f : Nat → Int} {wr : World} (h : ROI g cp w f wr) (n : Nat) : ROI g cp w f (wr.drewN n) := ⟨h.res.drewN n, h.row.drewN n, h.below.trans (below_drewN _ _ _)⟩
theorem ROI.put {g cp : Nat} {w : World} {f : Nat → Int} {wr : World} (h : ROI g cp w f wr) (hg : w.heap.size < g) (i : Nat) (x y : Int) :
    ROI g cp w (putF2 f i x y) ((wr.setCell ⟨g, i, none⟩ (.int .u8 x)).setCell ⟨g, i + 1, none⟩ (.int .u8 y)) :=
  ⟨(h.res.setOther _ _ (by simp; omega)).setOther _ _ (by simp; omega), ((h.row.set i _).set (i + 1) _).congr (fun j _ => by
    unfold bytesV putF2
    split
    · rfl
    · split <;> rfl), (h.below.setCell (by simp; omega) _).setCell (by simp; omega) _⟩
theorem ROI.cong {g cp : Nat} {w : World} {f f' : Nat → Int} {wr : World} (h : ROI g cp w f wr) (hf : ∀ i, i < 512 → f i = f' i) : ROI g cp w f' wr :=
  ⟨h.res, h.row.congr fun i hi => by unfold bytesV; rw [hf i hi], h.below⟩
theorem rput_invO {g cp : Nat} {w : World} {f : Nat → Int} {wr : World} (h : ROI g cp w f wr) (hg : w.heap.size < g) (i : Nat) (I : Int) (hI : I = (i : Int)) (hi : i + 1 < 512) (n : Int) (hn : 0 ≤ n ∧ n < 65536) :
    Calls Try.prog 55 #[.slice (some ⟨g, 0, none⟩) 512 cp, .int .i64 I, .int .i64 n] wr fun e w' => e = .returned (.tuple #[]) ∧ ROI g cp w (putF2 f i (n % 256) (n / 256)) w' := by
  refine (rput_any g cp i I hI hi _ _ n wr hn (h.row.cell (by omega)) (h.row.cell (by omega)) (h.row.frozen i) (h.row.frozen (i + 1))).mono ?_
  rintro e w' ⟨rfl, rfl⟩
  exact ⟨rfl, h.put hg i _ _⟩

theorem open_step (f : Nat → Int) (hf : ∀ i, i < 512 → 0 ≤ f i ∧ f i < 256) (k : Nat) (hk : k < 8) (i : Nat) :
    putF2 (openK f k) (64 * k + 62) ((f (2 + 2 * k) + 256 * f (2 + 2 * k + 1)) % 256) ((f (2 + 2 * k) + 256 * f (2 + 2 * k + 1)) / 256) i = openK f (k + 1) i := by
  have h0 := hf (2 + 2 * k) (by omega)
  have h1 := hf (2 + 2 * k + 1) (by omega)
  unfold putF2 openK
  by_cases h2 : i = 64 * k + 62 + 1
  · rw [if_pos h2, if_pos (by omega), show 2 + 2 * (i / 64) + (i % 64 - 62) = 2 + 2 * k + 1 from by omega]
    omega
  · rw [if_neg h2]
    by_cases h3 : i = 64 * k + 62
    · rw [if_pos h3, if_pos (by omega), show 2 + 2 * (i / 64) + (i % 64 - 62) = 2 + 2 * k from by omega]
      omega
    · rw [if_neg h3]
      by_cases h4 : i / 64 < k ∧ 62 ≤ i % 64
      · rw [if_pos h4, if_pos (by omega)]
      · rw [if_neg h4, if_neg (by omega)]

def zeroK (f : Nat → Int) (k i : Nat) : Int := if i < k then 0 else f i
theorem zeroK_succ (f : Nat → Int) (k i : Nat) : (if i = k then 0 else zeroK f k i) = zeroK f (k + 1) i := by
  unfold zeroK
  by_cases h : i = k
  · rw [if_pos h, if_pos (by omega)]
  · rw [if_neg h]
    by_cases h2 : i < k
    · rw [if_pos h2, if_pos (by omega)]
    · rw [if_neg h2, if_neg (by omega)]

set_option maxHeartbeats 2000000 in
theorem rOpen_len (a : Option Addr) (n c : Nat) (h : n ≠ 512) (w : World) :
    Calls Try.prog 27 #[.slice a n c] w (ROpenBad w 1) := by
  go_enter Try.func27, Try.ntmps27
  go_wp2_with fail
  refine (rRight_any _ _ _ _).mono ?_
  rintro e w' ⟨rfl, rfl⟩
  have r0 := row3 w (.slice none 0 0) (.int .i64 0) (.int .i64 0) 58
  have q0 := r0.cell (i := 0) (by omega)
  have q1 := r0.cell (i := 1) (by omega)
  have q2 := r0.cell (i := 2) (by omega)
  have z0 := r0.frozen 0
  have z1 := r0.frozen 1
  have z2 := r0.frozen 2
  have hb : Below w.heap.size w (w.alloc (.cells #[.slice none 0 0, .int .i64 0, .int .i64 0] 58)) := (Below.refl _ w).alloc (Nat.le_refl _) _
  have R0 := Lib.hid r0; clear r0
  have HB := Lib.hid hb; clear hb
  generalize w.alloc (.cells #[.slice none 0 0, .int .i64 0, .int .i64 0] 58) = w1 at *
  have rr := R0.out.st3 (.slice none 0 0) (.int .i64 0) (.int .i64 1)
  have E0 := Lib.hid (rr.cell (i := 0) (by omega))
  have E1 := Lib.hid (rr.cell (i := 1) (by omega))
  have E2 := Lib.hid (rr.cell (i := 2) (by omega))
  have HB2 := Lib.hid (((HB.out.setCell (p := ⟨w.heap.size, 0, none⟩) (Nat.le_refl _) (.slice none 0 0)).setCell (p := ⟨w.heap.size, 1, none⟩) (Nat.le_refl _) (.int .i64 0)).setCell (p := ⟨w.heap.size, 2, none⟩) (Nat.le_refl _) (.int .i64 1))
  clear rr
  have hb1 : ((n : Int) == 512) = false := by rw [beq_eq_false_iff_ne]; omega
  rw [hb1]
  go_wp2_with fail
  have e0 := E0.out
  have e1 := E1.out
  have e2 := E2.out
  refine bodyPost_ret (v := .agg #[.slice none 0 0, .int .i64 0, .int .i64 1]) ?_ rfl ⟨rfl, HB2.out⟩
  simp [results, Try.results27, go_sem, e0, e1, e2, st3]

def ROpenPost (w : World) (f : Nat → Int) (e : Ending) (w' : World) : Prop := if wholeB f = true then ROpenOk w f e w' else ROpenBad w 8 e w'

set_option maxRecDepth 8000 in
set_option maxHeartbeats 4000000 in
theorem rOpen_main (b off cap : Nat) (hcap : 512 ≤ cap) (hm : cap ≤ maxLen) (f : Nat → Int) (hf : ∀ i, i < 512 → 0 ≤ f i ∧ f i < 256) (w : World) (hc : Cells w b off 512 (bytesV f)) :
    Calls Try.prog 27 #[.slice (some ⟨b, off, none⟩) 512 cap] w (ROpenPost w f) := by
  have Hc := Lib.hid hc; clear hc
  have Hf := Lib.hid hf; clear hf
  go_enter Try.func27, Try.ntmps27
  go_wp2_with fail
  refine (rRight_any _ _ _ _).mono ?_
  rintro e w' ⟨rfl, rfl⟩
  have r0 := row3 w (.slice none 0 0) (.int .i64 0) (.int .i64 0) 58
  have hb : Below w.heap.size w (w.alloc (.cells #[.slice none 0 0, .int .i64 0, .int .i64 0] 58)) := (Below.refl _ w).alloc (Nat.le_refl _) _
  have hs1 : (w.alloc (.cells #[.slice none 0 0, .int .i64 0, .int .i64 0] 58)).heap.size = w.heap.size + 1 := by simp
  have R1 := Lib.hid r0; clear r0
  have B1 := Lib.hid hb; clear hb
  have S1 := Lib.hid hs1; clear hs1
  generalize w.alloc (.cells #[.slice none 0 0, .int .i64 0, .int .i64 0] 58) = w1 at *
  rw [show (((512 : Nat) : Int) == 512) = true from rfl]
  go_wp2_with fail
  refine (rTorn_any b off cap hcap hm f Hf.out _ (Hc.out.all B1.out)).mono ?_
  rintro e w2 ⟨v, rfl, ho, hb⟩
  obtain ⟨av, cv, rfl⟩ := (IntsAt.own ho).slice
  have hsz : w1.heap.size ≤ w2.heap.size := hb.size
  have R2 := Lib.hid (R1.out.all hb)
  have B2 := Lib.hid (B1.out.trans (hb.mono B1.out.size))
  clear hb ho R1 B1
  rcases hw : wholeB f with _ | _
  · have hp := tornL_pos f hw
    generalize (tornL f 8).length = nT at *
    have q0 := R2.out.cell (i := 0) (by omega)
    have q1 := R2.out.cell (i := 1) (by omega)
    have q2 := R2.out.cell (i := 2) (by omega)
    have z0 := R2.out.frozen 0
    have z1 := R2.out.frozen 1
    have z2 := R2.out.frozen 2
    have rr := R2.out.st3 (.slice none 0 0) (.int .i64 0) (.int .i64 8)
    have E0 := Lib.hid (rr.cell (i := 0) (by omega))
    have E1 := Lib.hid (rr.cell (i := 1) (by omega))
    have E2 := Lib.hid (rr.cell (i := 2) (by omega))
    have HB2 := Lib.hid (((B2.out.setCell (p := ⟨w.heap.size, 0, none⟩) (Nat.le_refl _) (.slice none 0 0)).setCell (p := ⟨w.heap.size, 1, none⟩) (Nat.le_refl _) (.int .i64 0)).setCell (p := ⟨w.heap.size, 2, none⟩) (Nat.le_refl _) (.int .i64 8))
    have Hw := Lib.hid hw
    clear rr hw
    go_wp2_with fail
    have e0 := E0.out
    have e1 := E1.out
    have e2 := E2.out
    refine bodyPost_ret (v := .agg #[.slice none 0 0, .int .i64 0, .int .i64 8]) ?_ rfl (by unfold ROpenPost; rw [if_neg (by rw [Hw.out]; simp)]; exact ⟨rfl, HB2.out⟩)
    simp [results, Try.results27, go_sem, e0, e1, e2, st3]
  · have hlen : (tornL f 8).length = 0 := by rw [tornL_whole f hw 8 (Nat.le_refl _)]; rfl
    rw [hlen]
    clear hlen
    have hmk := mark0_whole f hw
    have Hmk := Lib.hid hmk; clear hmk
    have Hw := Lib.hid hw; clear hw
    have mb := markI_le Hf.out
    go_wp2_with (at_builtin; refine Hold.stop ?_)
    refine Hold.go ?_
    refine wpList_append_o rfl _ _ 22 5 _ _ rfl Try.underlying22 info_u8 rfl w2.heap.size _ 0 (fun _ => undef) rfl (.inr ⟨_, 0, rfl, Nat.le_refl _, RowAt.new w2 #[] _ _ 0 (Nat.le_refl _) (fun i hi => absurd hi (by omega)), by simp [maxLen]⟩) b off 512 cap (bytesV f) rfl ((Hc.out.all B2.out).alloc _) (fun _ _ => rfl) (by omega) (by decide) (by simp) ?_
    intro v' w4 hown hgr _ _
    obtain ⟨g, cp, rfl, hgB, hrow, hmx⟩ := hown.row (by omega)
    rw [Nat.zero_add] at hrow ⊢
    have hb : Below w2.heap.size w2 w4 := ((Below.refl _ w2).alloc (Nat.le_refl _) _).grown hgr (by simp) (fun k hk => by simp [Value.ownBlock, Act.eval] at hk; omega)
    have hgw : w.heap.size < g := by have := S1.out; omega
    have hI : ROI g cp w (openK f 0) w4 := ⟨R2.out.all hb, hrow.congr (fun i _ => by unfold bytesV openK; rw [if_neg (by omega : ¬ (i / 64 < 0 ∧ 62 ≤ i % 64))]; simp), B2.out.trans (hb.mono B2.out.size)⟩
    have HI := Lib.hid hI
    have Hmx := Lib.hid hmx
    have hcp := hrow.le
    clear hI hmx hrow hown hgr hb R2 B2 S1 hgB
    go_wp2_with fail
    go_loopw [4] (fun t wr => ∃ k : Nat, k ≤ 8 ∧ t = .int .i64 k ∧ ROI g cp w (openK f k) wr) (fun t _ => 8 - (intOf t).toNat)
    case atStart => exact ⟨0, by omega, rfl, HI.out⟩
    case round =>
      obtain ⟨k, hk, rfl, hi⟩ := hrel
      by_cases hlt : k < 8
      · have hcw := Hc.out.all hi.below
        have b1 := Hf.out (2 + 2 * k) (by omega)
        have b2 := Hf.out (2 + 2 * k + 1) (by omega)
        have A1 := Lib.hid (rat_any b off cap (2 + 2 * k) (2 + 2 * (k : Int)) (by omega) _ _ wr (by omega) b1 b2 (hcw _ (by omega)) (hcw _ (by omega)))
        have Gs := Lib.hid (fun i => open_step f Hf.out k hlt i)
        have hz : 0 ≤ f (2 + 2 * k) + 256 * f (2 + 2 * k + 1) ∧ f (2 + 2 * k) + 256 * f (2 + 2 * k + 1) < 65536 := by omega
        have Hz := Lib.hid hz; clear hz
        generalize f (2 + 2 * k) + 256 * f (2 + 2 * k + 1) = z at *
        have Hi := Lib.hid hi
        clear hcw b1 b2 hi
        go_wp2_with fail
        refine A1.out.mono ?_
        rintro e w6 ⟨rfl, q, rfl⟩
        go_wp2_with fail
        refine (rput_invO (Hi.out.drewN q) hgw (64 * k + 62) (64 * (k : Int) + 62) (by omega) (by omega) z Hz.out).mono ?_
        rintro e w6 ⟨rfl, hi2⟩
        have Hi3 := Lib.hid (hi2.cong (fun i _ => Gs.out i)); clear hi2 Hi A1
        go_wp2
        go_roundw
        case rel => exact ⟨k + 1, by omega, by go_num, Hi3.out⟩
        case measure => simp [intOf]; omega
      · obtain rfl : k = 8 := by omega
        have hi2 : ROI g cp w (zeroK (openK f 8) 0) wr := hi.cong (fun i _ => by unfold zeroK; rw [if_neg (by omega)])
        have Hi2 := Lib.hid hi2
        clear hi2 hi HI
        go_wp2_with fail
        go_loopw [5] (fun t wr => ∃ k : Nat, k ≤ 18 ∧ t = .int .i64 k ∧ ROI g cp w (zeroK (openK f 8) k) wr) (fun t _ => 18 - (intOf t).toNat)
        case atStart => exact ⟨0, by omega, rfl, Hi2.out⟩
        case round =>
          obtain ⟨k, hk, rfl, hi⟩ := hrel
          by_cases hlt : k < 18
          · have ⟨u, hu⟩ := hi.row.ex (i := k) (by omega)
            have zz := hi.row.frozen k
            have hi3 : ROI g cp w (zeroK (openK f 8) (k + 1)) (wr.setCell ⟨g, k, none⟩ (.int .u8 0)) := ⟨hi.res.setOther _ _ (by simp; omega), (hi.row.set k _).congr (fun i _ => by
              unfold bytesV
              rw [← zeroK_succ]
              split <;> rfl), hi.below.setCell (by simp; omega) _⟩
            have Hi3 := Lib.hid hi3; clear hi3 hi
            go_wp2
            go_roundw
            case rel => exact ⟨k + 1, by omega, by go_num, Hi3.out⟩
            case measure => simp [intOf]; omega
          · obtain rfl : k = 18 := by omega
            have hcw := Hc.out.all hi.below
            have b1 := Hf.out 0 (by omega)
            have b2 := Hf.out 1 (by omega)
            have A1 := Lib.hid (rat_any b off cap 0 0 (by omega) _ _ wr (by omega) b1 b2 (hcw _ (by omega)) (hcw _ (by omega)))
            rw [Hmk.out] at A1
            have Hi := Lib.hid hi
            clear hcw b1 b2 hi
            go_wp2_with fail
            refine A1.out.mono ?_
            rintro e w6 ⟨rfl, q, rfl⟩
            have hi := Hi.out.drewN q
            generalize wr.drewN q = w7 at *
            generalize hMM : markI f 0 = M at *
            have HMM := Lib.hid hMM; clear hMM
            have q0 := hi.res.cell (i := 0) (by omega)
            have q1 := hi.res.cell (i := 1) (by omega)
            have q2 := hi.res.cell (i := 2) (by omega)
            have z0 := hi.res.frozen 0
            have z1 := hi.res.frozen 1
            have z2 := hi.res.frozen 2
            have rr := hi.res.st3 (.slice (some ⟨g, 0, none⟩) 512 cp) (.int .i64 M) (.int .i64 0)
            have E0 := Lib.hid (rr.cell (i := 0) (by omega))
            have E1 := Lib.hid (rr.cell (i := 1) (by omega))
            have E2 := Lib.hid (rr.cell (i := 2) (by omega))
            have HB2 := Lib.hid (((hi.below.setCell (p := ⟨w.heap.size, 0, none⟩) (Nat.le_refl _) (.slice (some ⟨g, 0, none⟩) 512 cp)).setCell (p := ⟨w.heap.size, 1, none⟩) (Nat.le_refl _) (.int .i64 M)).setCell (p := ⟨w.heap.size, 2, none⟩) (Nat.le_refl _) (.int .i64 0))
            have HR2 := Lib.hid (((hi.row.setOther ⟨w.heap.size, 0, none⟩ (.slice (some ⟨g, 0, none⟩) 512 cp) (by simp; omega)).setOther ⟨w.heap.size, 1, none⟩ (.int .i64 M) (by simp; omega)).setOther ⟨w.heap.size, 2, none⟩ (.int .i64 0) (by simp; omega))
            clear rr hi Hi A1
            go_wp2_with fail
            have e0 := E0.out
            have e1 := E1.out
            have e2 := E2.out
            refine bodyPost_ret (v := .agg #[.slice (some ⟨g, 0, none⟩) 512 cp, .int .i64 M, .int .i64 0]) ?_ rfl ?_
            · simp [results, Try.results27, go_sem, e0, e1, e2, st3]
            · unfold ROpenPost
              rw [if_pos Hw.out]
              exact ⟨g, cp, by rw [HMM.out], by omega, HR2.out.congr (fun i _ => rfl), Hmx.out, HB2.out⟩

end Go.Proofs.Ytjfcjpkfefmhlaa
