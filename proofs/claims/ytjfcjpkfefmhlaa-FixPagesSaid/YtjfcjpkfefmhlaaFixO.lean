/- What Open and Mend catch; Mend. -/
import Derived.Test.YtjfcjpkfefmhlaaFixN
namespace Go.Proofs.Ytjfcjpkfefmhlaa
open Go.RowKit

set_option maxHeartbeats 400000 in
theorem open1_ok (b off cap : Nat) (hcap : 512 ≤ cap) (hm : cap ≤ maxLen) (f : Nat → Int) (hf : ∀ i, i < 512 → 0 ≤ f i ∧ f i < 256) (hw : wholeB f = true) (H H1 : Nat) (v0 : Int) (w : World)
    (h0 : RowAt w H 22 1 1 (fun _ => .slice (some ⟨b, off, none⟩) 512 cap)) (h1 : RowAt w H1 3 1 1 (fun _ => .int .i64 v0)) (hc : Cells w b off 512 (bytesV f)) :
    Calls Try.prog 51 #[.pointer (some ⟨H, 0, none⟩), .pointer (some ⟨H1, 0, none⟩)] w fun e w' => e = .returned (.tuple #[]) ∧ ∃ w1, Below w.heap.size w w1 ∧ w1.setCell ⟨H1, 0, none⟩ (.int .i64 (markI f 0)) = w' := by
  have hwh := whole_any b off cap hcap hm f hf w hc
  have Hwh := Lib.hid hwh; clear hwh
  have c0 := h0.cell (i := 0) (by omega)
  have H1' := Lib.hid h1
  clear hf hc h0 h1
  have Hw := Lib.hid hw; clear hw
  go_enter Try.func51, Try.ntmps51
  go_wp2_with fail
  refine Hwh.out.mono ?_
  rintro e w1 ⟨h, hb⟩
  rw [if_pos Hw.out] at h
  subst h
  have r1 := H1'.out.all hb
  have c1 := r1.cell (i := 0) (by omega)
  have z1 := r1.frozen 0
  go_wp2_with fail
  go_end0
  exact ⟨rfl, _, hb, rfl⟩

set_option maxHeartbeats 400000 in
theorem open1_torn (b off cap : Nat) (hcap : 512 ≤ cap) (hm : cap ≤ maxLen) (f : Nat → Int) (hf : ∀ i, i < 512 → 0 ≤ f i ∧ f i < 256) (hw : wholeB f = false) (H H1 : Nat) (w : World)
    (h0 : RowAt w H 22 1 1 (fun _ => .slice (some ⟨b, off, none⟩) 512 cap)) (hc : Cells w b off 512 (bytesV f)) :
    Calls Try.prog 51 #[.pointer (some ⟨H, 0, none⟩), .pointer (some ⟨H1, 0, none⟩)] w fun e w' => e = .panicked tornPanic ∧ Below w.heap.size w w' := by
  have hwh := whole_any b off cap hcap hm f hf w hc
  have Hwh := Lib.hid hwh; clear hwh
  have c0 := h0.cell (i := 0) (by omega)
  clear hf hc h0
  have Hw := Lib.hid hw; clear hw
  go_enter Try.func51, Try.ntmps51
  go_wp2_with fail
  refine Hwh.out.mono ?_
  rintro e w1 ⟨h, hb⟩
  rw [if_neg (by rw [Hw.out]; simp)] at h
  subst h
  go_wp2_with fail
  exact ⟨rfl, rfl, hb⟩

set_option maxHeartbeats 400000 in
theorem mend1_ok (b off cap : Nat) (hcap : 512 ≤ cap) (hm : cap ≤ maxLen) (f : Nat → Int) (hf : ∀ i, i < 512 → 0 ≤ f i ∧ f i < 256) (hw : wholeB f = true) (H : Nat) (w : World)
    (h0 : RowAt w H 22 1 1 (fun _ => .slice (some ⟨b, off, none⟩) 512 cap)) (hc : Cells w b off 512 (bytesV f)) :
    Calls Try.prog 54 #[.pointer (some ⟨H, 0, none⟩)] w fun e w' => e = .returned (.tuple #[]) ∧ Below w.heap.size w w' := by
  have hwh := whole_any b off cap hcap hm f hf w hc
  have Hwh := Lib.hid hwh; clear hwh
  have c0 := h0.cell (i := 0) (by omega)
  clear hf hc h0
  have Hw := Lib.hid hw; clear hw
  go_enter Try.func54, Try.ntmps54
  go_wp2_with fail
  refine Hwh.out.mono ?_
  rintro e w1 ⟨h, hb⟩
  rw [if_pos Hw.out] at h
  subst h
  go_wp2_with fail
  go_end0
  exact ⟨rfl, hb⟩

set_option maxHeartbeats 400000 in
theorem mend1_torn (b off cap : Nat) (hcap : 512 ≤ cap) (hm : cap ≤ maxLen) (f : Nat → Int) (hf : ∀ i, i < 512 → 0 ≤ f i ∧ f i < 256) (hw : wholeB f = false) (H : Nat) (w : World)
    (h0 : RowAt w H 22 1 1 (fun _ => .slice (some ⟨b, off, none⟩) 512 cap)) (hc : Cells w b off 512 (bytesV f)) :
    Calls Try.prog 54 #[.pointer (some ⟨H, 0, none⟩)] w fun e w' => e = .panicked tornPanic ∧ Below w.heap.size w w' := by
  have hwh := whole_any b off cap hcap hm f hf w hc
  have Hwh := Lib.hid hwh; clear hwh
  have c0 := h0.cell (i := 0) (by omega)
  clear hf hc h0
  have Hw := Lib.hid hw; clear hw
  go_enter Try.func54, Try.ntmps54
  go_wp2_with fail
  refine Hwh.out.mono ?_
  rintro e w1 ⟨h, hb⟩
  rw [if_neg (by rw [Hw.out]; simp)] at h
  subst h
  go_wp2_with fail
  exact ⟨rfl, rfl, hb⟩

def mendArgs (n m : Nat) (s : Int) : Prop := n = 512 ∧ (0 ≤ s ∧ s ≤ 7) ∧ m = 64

set_option maxHeartbeats 1000000 in
theorem mend_bad (a1 a2 : Option Addr) (n c m c2 : Nat) (s : Int) (h : ¬ mendArgs n m s) (w : World) :
    Calls Try.prog 24 #[.slice a1 n c, .int .i64 s, .slice a2 m c2] w (GuardBad w 1) := by
  unfold mendArgs at h
  rcases hb : ((n : Int) == 512) with _ | _
  · clear h
    go_enter Try.func24, Try.ntmps24
    go_wp2_with fail
    refine (right_one a1 n c w).mono ?_
    rintro e w' ⟨rfl, rfl⟩
    rw [hb]
    go_wp2
    go_ret2
    exact ⟨rfl, (Below.refl _ w).alloc (Nat.le_refl _) _⟩
  · rw [beq_iff_eq] at hb
    obtain rfl : n = 512 := by omega
    by_cases h0 : s < 0
    · clear h
      go_enter Try.func24, Try.ntmps24
      go_wp2_with fail
      refine (right_one a1 512 c w).mono ?_
      rintro e w' ⟨rfl, rfl⟩
      go_wp2
      go_ret2
      exact ⟨rfl, (Below.refl _ w).alloc (Nat.le_refl _) _⟩
    · by_cases h8 : 8 ≤ s
      · clear h
        go_enter Try.func24, Try.ntmps24
        go_wp2_with fail
        refine (right_one a1 512 c w).mono ?_
        rintro e w' ⟨rfl, rfl⟩
        go_wp2
        go_ret2
        exact ⟨rfl, (Below.refl _ w).alloc (Nat.le_refl _) _⟩
      · have hm : ((m : Int) != 64) = true := by
          rw [bne_iff_ne]
          intro hm
          exact h ⟨rfl, ⟨by omega, by omega⟩, by omega⟩
        clear h hb
        go_enter Try.func24, Try.ntmps24
        go_wp2_with fail
        refine (right_one a1 512 c w).mono ?_
        rintro e w' ⟨rfl, rfl⟩
        go_wp2
        go_ret2
        exact ⟨rfl, (Below.refl _ w).alloc (Nat.le_refl _) _⟩

/-- f with sector s out of h. -/
def mendF (f h : Nat → Int) (s : Nat) (i : Nat) : Int := if 64 * s ≤ i ∧ i < 64 * s + 64 then h (i - 64 * s) else f i

def MendPost (w : World) (f : Nat → Int) (e : Ending) (w' : World) : Prop :=
  if wholeB f = true then BlendOk w f e w' else GuardBad w 8 e w'

set_option maxHeartbeats 2000000 in
theorem mend_main (b off cap b2 off2 cap2 : Nat) (hcap2 : 64 ≤ cap2) (s : Nat) (hs : s < 8) (f h : Nat → Int) (hf : ∀ i, i < 512 → 0 ≤ f i ∧ f i < 256) (hh : ∀ i, i < 64 → 0 ≤ h i ∧ h i < 256) (w : World)
    (ha : Cells w b off 512 (bytesV f)) (hb : Cells w b2 off2 64 (bytesV h)) :
    Calls Try.prog 24 #[.slice (some ⟨b, off, none⟩) 512 cap, .int .i64 (s : Int), .slice (some ⟨b2, off2, none⟩) 64 cap2] w (MendPost w (mendF f h s)) := by
  have hmf : ∀ (fn : Fn) (first cap : Array Value) (w : World), (Instr.makeFunc fn first cap).run Try.prog w = .ok (.func fn first cap) w := fun _ _ _ _ => rfl
  have hmd : ∀ i, i < 512 → 0 ≤ mendF f h s i ∧ mendF f h s i < 256 := fun i hi => by
    unfold mendF
    split
    · exact hh _ (by omega)
    · exact hf _ hi
  have Hmd := Lib.hid hmd
  have Ha := Lib.hid ha
  have Hb := Lib.hid hb
  clear hmd ha hb hf hh
  go_enter Try.func24, Try.ntmps24
  go_wp2_with fail
  refine (right_one _ 512 cap w).mono ?_
  rintro e w' ⟨rfl, rfl⟩
  go_wp2_with fail
  refine (clone_any _ _ _ 512 (bytesV f) _ (by omega) (by omega) (Ha.out.alloc _) (fun _ _ => rfl)).mono ?_
  rintro e w1 ⟨g, cp, rfl, hg, hrow, hmx, hbel⟩
  simp only [World.size_alloc] at hg hbel
  have hb1 : Below w.heap.size w w1 := ((Below.refl _ w).alloc (Nat.le_refl _) _).trans (hbel.mono (by omega))
  have hcp : 512 ≤ cp := hrow.le
  have hlg := hrow.lt
  have hw1 := hb1.size
  clear hbel
  have Hrow := Lib.hid hrow; clear hrow
  go_wp2_with (with_reducible refine stopB .copy ?_)
  refine Hold.go ?_
  have hcb := (Hb.out.all hb1).alloc (.cells #[.slice (some ⟨g, 0, none⟩) 512 cp] 22)
  refine wpList_copy_o rfl _ _ 22 22 5 rfl Try.underlying22 size_u8 g (64 * s) (512 - 64 * s) (cp - 64 * s) cp 512 (bytesV f) rfl (Hrow.out.alloc _) b2 off2 64 cap2 (bytesV h) rfl hcb (fun _ _ => rfl) 64 (by simp [Nat.min_def]; omega) (by omega) ?_
  intro w3 hr3 hw3
  have hr4 : RowAt w3 g 5 cp 512 (bytesV (mendF f h s)) := hr3.congr (fun i hi => by unfold bytesV mendF; split <;> rfl)
  have hbx : RowAt w3 w1.heap.size 22 1 1 (fun _ => .slice (some ⟨g, 0, none⟩) 512 cp) := (RowAt.new w1 #[.slice (some ⟨g, 0, none⟩) 512 cp] 22 _ 1 (by simp) (one_cell rfl)).wrote hw3 (by omega)
  have hb3 : Below w.heap.size w w3 := hw3.below (hb1.alloc (by omega) _) (by simp; omega) (by omega)
  clear hcb hr3 hw3
  have Hr4 := Lib.hid hr4; clear hr4
  have Hbx := Lib.hid hbx; clear hbx
  have hlx : w1.heap.size < w3.heap.size := Hbx.out.lt
  go_wp2_with fail
  have rbf := RowAt.new w3 #[.bool false] 4 _ 1 (by simp) (one_cell rfl)
  rcases hw : wholeB (mendF f h s) with _ | _
  · have hct := caught_torn 54 #[.pointer (some ⟨w1.heap.size, 0, none⟩)] (enters_of Try.func54 (by kernel_rfl) rfl) w3 (fun W => Below (w3.alloc (.cells #[.bool false] 4)).heap.size (w3.alloc (.cells #[.bool false] 4)) W)
      ((mend1_torn g 0 cp hcp hmx _ Hmd.out hw w1.heap.size _ (Hbx.out.alloc _) (Hr4.out.alloc _).reads).mono (fun e w' ⟨h1, h2⟩ => ⟨h1, h2, rbf.all h2⟩))
    refine hct.mono ?_
    rintro e w5 ⟨rfl, w4, hb4, rfl⟩
    have hb5 : Below w.heap.size w (w4.setCell ⟨w3.heap.size, 0, none⟩ (.bool true)) := ((hb3.alloc hb3.size _).trans (hb4.mono (by simp; have := hb3.size; omega))).setCell (by simp; exact hb3.size) _
    have Hw := Lib.hid hw; clear hw hct hb4
    go_wp2_with fail
    go_ret2
    show MendPost w (mendF f h s) _ _
    unfold MendPost
    rw [if_neg (by rw [Hw.out]; simp)]
    exact ⟨rfl, hb5⟩
  · have hct := caught_ok 54 #[.pointer (some ⟨w1.heap.size, 0, none⟩)] (enters_of Try.func54 (by kernel_rfl) rfl) w3 (fun W => Below (w3.alloc (.cells #[.bool false] 4)).heap.size (w3.alloc (.cells #[.bool false] 4)) W)
      ((mend1_ok g 0 cp hcp hmx _ Hmd.out hw w1.heap.size _ (Hbx.out.alloc _) (Hr4.out.alloc _).reads).mono (fun e w' ⟨h1, h2⟩ => ⟨h1, h2, rbf.all h2⟩))
    refine hct.mono ?_
    rintro e w5 ⟨rfl, w4, hb4, rfl⟩
    have hb5 : Below w.heap.size w (w4.setCell ⟨w3.heap.size, 0, none⟩ (.bool false)) := ((hb3.alloc hb3.size _).trans (hb4.mono (by simp; have := hb3.size; omega))).setCell (by simp; exact hb3.size) _
    have hg3 : g < w3.heap.size := Hr4.out.lt
    have hr5 : RowAt (w4.setCell ⟨w3.heap.size, 0, none⟩ (.bool false)) g 5 cp 512 (bytesV (mendF f h s)) := (((Hr4.out.alloc _).all hb4)).setOther _ _ (by simp; omega)
    have hx5 := ((((Hbx.out.alloc (.cells #[.bool false] 4)).all hb4)).setOther ⟨w3.heap.size, 0, none⟩ (.bool false) (by simp; omega)).cell (i := 0) (by omega)
    have Hr5 := Lib.hid hr5; clear hr5
    have Hw := Lib.hid hw; clear hw hct hb4
    go_wp2_with fail
    go_ret2
    show MendPost w (mendF f h s) _ _
    unfold MendPost
    rw [if_pos Hw.out]
    exact ⟨g, cp, rfl, by omega, Hr5.out, hmx, hb5⟩

end Go.Proofs.Ytjfcjpkfefmhlaa
