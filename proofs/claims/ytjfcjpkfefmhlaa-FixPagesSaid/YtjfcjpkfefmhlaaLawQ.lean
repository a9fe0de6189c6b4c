/- The specification's Mend. -/
import Derived.Test.YtjfcjpkfefmhlaaLawO
namespace Go.Proofs.Ytjfcjpkfefmhlaa
open Go.RowKit
attribute [local go_sem] Oper.semAt_some

set_option maxHeartbeats 4000000 in
theorem rMend_bad (a1 a2 : Option Addr) (n c m c2 : Nat) (s : Int) (h : ¬ mendArgs n m s) (w : World) :
    Calls Try.prog 36 #[.slice a1 n c, .int .i64 s, .slice a2 m c2] w (RawBad w 1) := by
  unfold mendArgs at h
  go_enter Try.func36, Try.ntmps36
  go_wp2_with fail
  refine (rRight_any _ _ _ _).mono ?_
  rintro e w' ⟨rfl, rfl⟩
  have r0 := row2 w (.slice none 0 0) (.int .i64 0) 55
  have q0 := r0.cell (i := 0) (by omega)
  have q1 := r0.cell (i := 1) (by omega)
  have z0 := r0.frozen 0
  have z1 := r0.frozen 1
  have hb : Below w.heap.size w (w.alloc (.cells #[.slice none 0 0, .int .i64 0] 55)) := (Below.refl _ w).alloc (Nat.le_refl _) _
  have R0 := Lib.hid r0; clear r0
  have HB := Lib.hid hb; clear hb
  generalize w.alloc (.cells #[.slice none 0 0, .int .i64 0] 55) = w1 at *
  have rr := R0.out.st2 (.slice none 0 0) (.int .i64 1)
  have E0 := Lib.hid (rr.cell (i := 0) (by omega))
  have E1 := Lib.hid (rr.cell (i := 1) (by omega))
  have HB2 := Lib.hid ((HB.out.setCell (p := ⟨w.heap.size, 0, none⟩) (Nat.le_refl _) (.slice none 0 0)).setCell (p := ⟨w.heap.size, 1, none⟩) (Nat.le_refl _) (.int .i64 1))
  clear rr
  by_cases h1 : n = 512
  · have hb1 : ((n : Int) == 512) = true := by rw [h1]; rfl
    rw [hb1]
    by_cases h2 : s < 0
    · clear h
      go_wp2_with fail
      have e0 := E0.out
      have e1 := E1.out
      refine bodyPost_ret (v := .agg #[.slice none 0 0, .int .i64 1]) ?_ rfl ⟨rfl, HB2.out⟩
      simp [results, Try.results36, go_sem, e0, e1, st2]
    · by_cases h3 : 7 < s
      · clear h
        go_wp2_with fail
        have e0 := E0.out
        have e1 := E1.out
        refine bodyPost_ret (v := .agg #[.slice none 0 0, .int .i64 1]) ?_ rfl ⟨rfl, HB2.out⟩
        simp [results, Try.results36, go_sem, e0, e1, st2]
      · have hb4 : ((m : Int) != 64) = true := by
          rw [bne_iff_ne]
          intro hm
          exact h ⟨h1, by omega, by omega⟩
        clear h
        go_wp2_with fail
        have e0 := E0.out
        have e1 := E1.out
        refine bodyPost_ret (v := .agg #[.slice none 0 0, .int .i64 1]) ?_ rfl ⟨rfl, HB2.out⟩
        simp [results, Try.results36, go_sem, e0, e1, st2]
  · have hb1 : ((n : Int) == 512) = false := by rw [beq_eq_false_iff_ne]; omega
    rw [hb1]
    clear h
    go_wp2_with fail
    have e0 := E0.out
    have e1 := E1.out
    refine bodyPost_ret (v := .agg #[.slice none 0 0, .int .i64 1]) ?_ rfl ⟨rfl, HB2.out⟩
    simp [results, Try.results36, go_sem, e0, e1, st2]

theorem mendF_bound {f h : Nat → Int} {s : Nat} (hf : ∀ i, i < 512 → 0 ≤ f i ∧ f i < 256) (hh : ∀ i, i < 64 → 0 ≤ h i ∧ h i < 256) : ∀ i, i < 512 → 0 ≤ mendF f h s i ∧ mendF f h s i < 256 := by
  intro i hi
  unfold mendF
  split
  · exact hh _ (by omega)
  · exact hf i hi

def RMendPost (w : World) (f : Nat → Int) (e : Ending) (w' : World) : Prop := if wholeB f = true then RawOk w f e w' else RawBad w 8 e w'

set_option maxRecDepth 8000 in
set_option maxHeartbeats 4000000 in
theorem rMend_main (b off cap b2 off2 cap2 : Nat) (hcap2 : 64 ≤ cap2) (s : Nat) (hs : s < 8) (f h : Nat → Int) (hf : ∀ i, i < 512 → 0 ≤ f i ∧ f i < 256) (hh : ∀ i, i < 64 → 0 ≤ h i ∧ h i < 256) (w : World)
    (ha : Cells w b off 512 (bytesV f)) (hb : Cells w b2 off2 64 (bytesV h)) :
    Calls Try.prog 36 #[.slice (some ⟨b, off, none⟩) 512 cap, .int .i64 (s : Int), .slice (some ⟨b2, off2, none⟩) 64 cap2] w (RMendPost w (mendF f h s)) := by
  have Ha := Lib.hid ha; clear ha
  have Hb := Lib.hid hb; clear hb
  have Hmf := Lib.hid (mendF_bound (s := s) hf hh); clear hf hh
  have hb2w := Hb.out.lt (by omega)
  go_enter Try.func36, Try.ntmps36
  go_wp2_with fail
  refine (rRight_any _ _ _ _).mono ?_
  rintro e w' ⟨rfl, rfl⟩
  have r0 := row2 w (.slice none 0 0) (.int .i64 0) 55
  have hb : Below w.heap.size w (w.alloc (.cells #[.slice none 0 0, .int .i64 0] 55)) := (Below.refl _ w).alloc (Nat.le_refl _) _
  have hs1 : (w.alloc (.cells #[.slice none 0 0, .int .i64 0] 55)).heap.size = w.heap.size + 1 := by simp
  have R1 := Lib.hid r0; clear r0
  have B1 := Lib.hid hb; clear hb
  have S1 := Lib.hid hs1; clear hs1
  generalize w.alloc (.cells #[.slice none 0 0, .int .i64 0] 55) = w1 at *
  rw [show (((512 : Nat) : Int) == 512) = true from rfl]
  go_wp2_with (at_builtin; refine Hold.stop ?_)
  refine Hold.go ?_
  refine wpList_append_o rfl _ _ 22 5 _ _ rfl Try.underlying22 info_u8 rfl w1.heap.size _ 0 (fun _ => undef) rfl (.inr ⟨_, 0, rfl, Nat.le_refl _, RowAt.new w1 #[] _ _ 0 (Nat.le_refl _) (fun i hi => absurd hi (by omega)), by simp [maxLen]⟩) b off 512 cap (bytesV f) rfl ((Ha.out.all B1.out).alloc _) (fun _ _ => rfl) (by omega) (by decide) (by simp) ?_
  intro v' w4 hown hgr _ _
  obtain ⟨g, cp, rfl, hgB, hrow, hmx⟩ := hown.row (by omega)
  rw [Nat.zero_add] at hrow ⊢
  have hb : Below w1.heap.size w1 w4 := ((Below.refl _ w1).alloc (Nat.le_refl _) _).grown hgr (by simp) (fun k hk => by simp [Value.ownBlock, Act.eval] at hk; omega)
  have hgw : w.heap.size < g := by have := S1.out; omega
  have R4 := Lib.hid (R1.out.all hb)
  have G4 := Lib.hid (hrow.congr (f' := bytesV f) (fun i _ => by simp))
  have B4 := Lib.hid (B1.out.trans (hb.mono B1.out.size))
  have Hmx := Lib.hid hmx
  have hcp := hrow.le
  clear hmx hrow hown hgr hb R1 B1 S1 hgB
  go_wp2_with (with_reducible refine stopB .copy ?_)
  refine Hold.go ?_
  have m1 : (64 : Nat) = Nat.min 64 (512 - 64 * s) := by simp [Nat.min_def]; omega
  refine wpList_copy_o rfl _ _ 22 22 5 rfl Try.underlying22 size_u8 g (64 * s) (512 - 64 * s) (cp - 64 * s) cp 512 (bytesV f) ?q0 G4.out b2 off2 64 cap2 (bytesV h) rfl (Hb.out.all B4.out) (fun _ _ => rfl) 64 m1 (by omega) ?_
  case q0 => rfl
  intro w5 hr5 hw5
  have hm5 : RowAt w5 g 5 cp 512 (bytesV (mendF f h s)) := hr5.congr (fun i _ => by
    unfold bytesV mendF
    split <;> rfl)
  have G5 := Lib.hid hm5
  have R5 := Lib.hid (R4.out.wrote hw5 (by omega))
  have B5 := Lib.hid (hw5.below B4.out B4.out.size (by omega))
  clear hr5 hw5 hm5 R4 G4 B4 m1
  generalize mendF f h s = F at *
  go_wp2_with fail
  refine (rTorn_any g 0 cp hcp Hmx.out F Hmf.out _ G5.out.reads).mono ?_
  rintro e w6 ⟨v, rfl, ho, hb⟩
  obtain ⟨av, cv, rfl⟩ := (IntsAt.own ho).slice
  have R6 := Lib.hid (R5.out.all hb)
  have G6 := Lib.hid (G5.out.all hb)
  have B6 := Lib.hid (B5.out.trans (hb.mono B5.out.size))
  clear hb ho R5 G5 B5
  have q0 := R6.out.cell (i := 0) (by omega)
  have q1 := R6.out.cell (i := 1) (by omega)
  have z0 := R6.out.frozen 0
  have z1 := R6.out.frozen 1
  rcases hw : wholeB F with _ | _
  · have hp := tornL_pos F hw
    generalize (tornL F 8).length = nT at *
    have rr := R6.out.st2 (.slice none 0 0) (.int .i64 8)
    have E0 := Lib.hid (rr.cell (i := 0) (by omega))
    have E1 := Lib.hid (rr.cell (i := 1) (by omega))
    have HB2 := Lib.hid ((B6.out.setCell (p := ⟨w.heap.size, 0, none⟩) (Nat.le_refl _) (.slice none 0 0)).setCell (p := ⟨w.heap.size, 1, none⟩) (Nat.le_refl _) (.int .i64 8))
    have Hw := Lib.hid hw
    clear rr hw
    go_wp2_with fail
    have e0 := E0.out
    have e1 := E1.out
    refine bodyPost_ret (v := .agg #[.slice none 0 0, .int .i64 8]) ?_ rfl (by unfold RMendPost; rw [if_neg (by rw [Hw.out]; simp)]; exact ⟨rfl, HB2.out⟩)
    simp [results, Try.results36, go_sem, e0, e1, st2]
  · have hlen : (tornL F 8).length = 0 := by rw [tornL_whole F hw 8 (Nat.le_refl _)]; rfl
    rw [hlen]
    clear hlen
    have Hw := Lib.hid hw; clear hw
    have rr := R6.out.st2 (.slice (some ⟨g, 0, none⟩) 512 cp) (.int .i64 0)
    have E0 := Lib.hid (rr.cell (i := 0) (by omega))
    have E1 := Lib.hid (rr.cell (i := 1) (by omega))
    have HB2 := Lib.hid ((B6.out.setCell (p := ⟨w.heap.size, 0, none⟩) (Nat.le_refl _) (.slice (some ⟨g, 0, none⟩) 512 cp)).setCell (p := ⟨w.heap.size, 1, none⟩) (Nat.le_refl _) (.int .i64 0))
    have HR2 := Lib.hid ((G6.out.setOther ⟨w.heap.size, 0, none⟩ (.slice (some ⟨g, 0, none⟩) 512 cp) (by simp; omega)).setOther ⟨w.heap.size, 1, none⟩ (.int .i64 0) (by simp; omega))
    clear rr
    go_wp2_with fail
    have e0 := E0.out
    have e1 := E1.out
    refine bodyPost_ret (v := .agg #[.slice (some ⟨g, 0, none⟩) 512 cp, .int .i64 0]) ?_ rfl (by unfold RMendPost; rw [if_pos Hw.out]; exact ⟨g, cp, rfl, by omega, HR2.out, Hmx.out, HB2.out⟩)
    simp [results, Try.results36, go_sem, e0, e1, st2]

end Go.Proofs.Ytjfcjpkfefmhlaa
