/- FixBack. -/
import Derived.Test.YtjfcjpkfefmhlaaLawE
import Derived.Deep.RegionHeld
namespace Go.Proofs.Ytjfcjpkfefmhlaa
open Go.RowKit
attribute [local go_sem] Oper.semAt_some

/-- The first 18 bytes are zeros: what is a page in memory. -/
def Blank (f : Nat → Int) : Prop := ∀ i, i < 18 → f i = 0

theorem guard_low (m : Int) (f : Nat → Int) (i : Nat) (h2 : 2 ≤ i) (h18 : i < 18) : guardF m f i = f (64 * ((i - 2) / 2) + 62 + (i - 2) % 2) := by
  unfold guardF guardK
  rw [if_neg (by omega), if_neg (by omega), if_pos (by omega)]

theorem guard_tail0 (m : Int) (f : Nat → Int) (s : Nat) (hs : s < 8) : guardF m f (64 * s + 62) = m % 256 := by
  unfold guardF guardK
  rw [if_neg (by omega), if_neg (by omega), if_neg (by omega), if_pos (by omega)]

theorem guard_tail1 (m : Int) (f : Nat → Int) (s : Nat) (hs : s < 8) : guardF m f (64 * s + 63) = m / 256 := by
  unfold guardF guardK
  rw [if_neg (by omega), if_neg (by omega), if_neg (by omega), if_neg (by omega), if_pos (by omega)]

theorem guard_mid (m : Int) (f : Nat → Int) (i : Nat) (h18 : 18 ≤ i) (h : i % 64 < 62) : guardF m f i = f i := by
  unfold guardF guardK
  rw [if_neg (by omega), if_neg (by omega), if_neg (by omega), if_neg (by omega), if_neg (by omega)]

theorem guard_head0 (m : Int) (f : Nat → Int) : guardF m f 0 = m % 256 := rfl
theorem guard_head1 (m : Int) (f : Nat → Int) : guardF m f 1 = m / 256 := rfl

/-- Each sector of an image has the mark. -/
theorem guard_markI (m : Int) (f : Nat → Int) (s : Nat) (hs : s < 8) : markI (guardF m f) s = m := by
  unfold markI
  rw [guard_tail0 m f s hs, guard_tail1 m f s hs, guard_head0, guard_head1]
  have h0 := guard_tail0 m f 0 (by omega)
  have h1 := guard_tail1 m f 0 (by omega)
  simp only [Nat.mul_zero, Nat.zero_add] at h0 h1
  rw [h0, h1, if_neg (by simp)]
  omega

theorem guard_whole (m : Int) (hm : m ≠ 0) (f : Nat → Int) : wholeB (guardF m f) = true := by
  rw [wholeB_iff]
  intro s hs
  rw [guard_markI m f s hs, guard_markI m f 0 (by omega)]
  exact ⟨hm, rfl⟩

/-- Open of an image is the page. -/
theorem open_guard (m : Int) (f : Nat → Int) (hf : Blank f) (i : Nat) (hi : i < 512) : openF (guardF m f) i = f i := by
  unfold openF openK
  by_cases h : i < 18
  · rw [if_pos h, hf i h]
  · rw [if_neg h]
    by_cases h2 : 62 ≤ i % 64
    · rw [if_pos ⟨by omega, h2⟩, guard_low m f _ (by omega) (by omega)]
      congr 1
      omega
    · rw [if_neg (by omega), guard_mid m f i (by omega) (by omega)]

/-- The image of what Open shows is the image. -/
theorem guard_open (f : Nat → Int) (hf : ∀ i, i < 512 → 0 ≤ f i ∧ f i < 256) (hw : wholeB f = true) (i : Nat) (hi : i < 512) : guardF (markI f 0) (openF f) i = f i := by
  have hs := wholeB_iff.1 hw
  have hm : ∀ s, s < 8 → f (64 * s + 62) + 256 * f (64 * s + 63) = markI f 0 := by
    intro s h
    rw [← (hs s h).2]
    unfold markI
    by_cases h0 : s = 0 ∧ f 0 + 256 * f 1 ≠ f 62 + 256 * f 63
    · exact absurd (by unfold markI; rw [if_pos h0]) (hs s h).1
    · rw [if_neg h0]
  have h01 : f 0 + 256 * f 1 = markI f 0 := by
    have h1 := (hs 0 (by omega)).1
    have h2 := hm 0 (by omega)
    simp only [Nat.mul_zero, Nat.zero_add] at h2
    unfold markI at h1
    by_cases h0 : f 0 + 256 * f 1 = f 62 + 256 * f 63
    · omega
    · rw [if_pos ⟨rfl, h0⟩] at h1
      exact absurd rfl h1
  have b0 := hf 0 (by omega)
  have b1 := hf 1 (by omega)
  by_cases h0 : i = 0
  · subst h0; rw [guard_head0]; omega
  by_cases h1 : i = 1
  · subst h1; rw [guard_head1]; omega
  by_cases h18 : i < 18
  · rw [guard_low _ _ _ (by omega) h18]
    unfold openF openK
    rw [if_neg (by omega), if_pos (by omega)]
    congr 1
    omega
  · by_cases h2 : 62 ≤ i % 64
    · have hsec := hm (i / 64) (by omega)
      have c0 := hf (64 * (i / 64) + 62) (by omega)
      have c1 := hf (64 * (i / 64) + 63) (by omega)
      by_cases h3 : i % 64 = 62
      · have hi2 : i = 64 * (i / 64) + 62 := by omega
        rw [hi2, guard_tail0 _ _ _ (by omega)]
        omega
      · have hi2 : i = 64 * (i / 64) + 63 := by omega
        rw [hi2, guard_tail1 _ _ _ (by omega)]
        omega
    · rw [guard_mid _ _ _ (by omega) (by omega)]
      unfold openF openK
      rw [if_neg h18, if_neg (by omega)]

theorem markI_le {f : Nat → Int} (hf : ∀ i, i < 512 → 0 ≤ f i ∧ f i < 256) : 0 ≤ markI f 0 ∧ markI f 0 ≤ 65535 := by
  have := markI_bound hf 0 (by omega)
  omega

/-- Open of an argument. -/
theorem open_arg (v : Value) (n : Nat) (f : Nat → Int) (w : World) (h : ByteArg w v n f) :
    Calls Try.prog 20 #[v] w fun e w' =>
      (n = 512 ∧ wholeB f = true ∧ (∀ i, i < 512 → 0 ≤ f i ∧ f i < 256) ∧ ∃ g cap, e = .returned (.tuple #[.slice (some ⟨g, 0, none⟩) 512 cap, .int .i64 (markI f 0), .int .i64 0]) ∧ w.heap.size ≤ g ∧ Pg w' g cap (openF f) ∧ Below w.heap.size w w') ∨
      ((n ≠ 512 ∧ OpenBad w 1 e w') ∨ (n = 512 ∧ wholeB f = false ∧ OpenBad w 8 e w')) := by
  by_cases hn : n = 512
  · subst hn
    rcases h with ⟨h, _⟩ | ⟨b, off, cap, rfl, _, hcap, hm, hc, hf⟩
    · omega
    · rcases hw : wholeB f with _ | _
      · exact (open_torn b off cap hcap hm f hf hw w hc).mono fun e w' h => .inr (.inr ⟨rfl, rfl, h⟩)
      · refine (open_ok b off cap hcap hm f hf hw w hc).mono ?_
        rintro e w' ⟨g', cap', rfl, hg, hr, hm', hb⟩
        exact .inl ⟨rfl, rfl, hf, g', cap', rfl, hg, ⟨hr, hm', openF_bound hf⟩, hb⟩
  · obtain ⟨a, c, rfl⟩ := h.slice
    exact (open_len a n c hn w).mono fun e w' h => .inr (.inl ⟨hn, h⟩)

theorem ByteArg.str {w : World} {v : Value} {n : Nat} {f : Nat → Int} (h : ByteArg w v n f) (hn : 0 < n) : (convert 22 9 v).run Try.prog w = .ok (.string (strF n f)) w := by
  rcases h with ⟨h, _⟩ | ⟨b, off, cap, rfl, _, _, _, hc, _⟩
  · omega
  · exact convert_cells 22 5 9 Try.underlying22 (by kernel_rfl) (by kernel_rfl) b off n cap f w hc

set_option maxHeartbeats 4000000 in
theorem fixBack_walk (v0 : Value) (n0 : Nat) (f0 : Nat → Int) (m : Int) (v1 : Value) (n1 : Nat) (f1 : Nat → Int) (w : World) (h0 : ByteArg w v0 n0 f0) (hm : (Lit.int .i64 m).wf = true) (h1 : ByteArg w v1 n1 f1) :
    Calls Try.prog 4 #[v0, .int .i64 m, v1] w (FinContent w) := by
  obtain ⟨a0, c0, rfl⟩ := h0.slice
  obtain ⟨a1, c1, rfl⟩ := h1.slice
  have H0 := Lib.hid h0; clear h0
  have H1 := Lib.hid h1; clear h1
  have Hm := Lib.hid hm; clear hm
  by_cases hl : n0 ≤ 2000
  · by_cases hl1 : n1 ≤ 2000
    · go_enter Try.func4, Try.ntmps4
      go_wp2_with fail
      refine (lawmarked_any _ _ Hm.out).mono ?_
      rintro e w' ⟨rfl, rfl⟩
      have hM : 1 ≤ m % 65535 + 1 ∧ m % 65535 + 1 ≤ 65535 := by omega
      generalize m % 65535 + 1 = M at *
      go_wp2_with fail
      refine (page_p _ _ _ _ (by omega) H0.out).mono ?_
      rintro e w1 ⟨gP, cP, rfl, -, pP, hb⟩
      have P1 := Lib.hid pP
      have A1 := Lib.hid (H0.out.all hb)
      have C1 := Lib.hid (H1.out.all hb)
      have B1 := Lib.hid hb; clear hb pP
      have hbl : Blank (pageF n0 f0) := fun i hi => by unfold pageF; rw [if_pos (.inl hi)]
      have Hbl := Lib.hid hbl; clear hbl
      go_wp2_with fail
      refine (guard_p _ _ M hM _ Hbl.out _ P1.out).mono ?_
      rintro e w2 ⟨gX, cX, rfl, -, pX, hb⟩
      have X2 := Lib.hid pX
      have A2 := Lib.hid (A1.out.all hb)
      have C2 := Lib.hid (C1.out.all hb)
      have B2 := Lib.hid (B1.out.trans (hb.mono B1.out.size)); clear hb pX B1 P1 A1 C1
      go_wp2_with fail
      refine (open_p _ _ _ (guard_whole M (by omega) _) _ X2.out).mono ?_
      rintro e w3 ⟨gO, cO, rfl, -, pO, hb⟩
      have pO : Pg w3 gO cO (pageF n0 f0) := Pg.congr pO (fun i hi => open_guard M _ Hbl.out i hi)
      rw [guard_markI M _ 0 (by omega)]
      have A3 := Lib.hid (A2.out.all hb)
      have C3 := Lib.hid (C2.out.all hb)
      have sO := pO.str
      have O3 := Lib.hid pO
      have B3 := Lib.hid (B2.out.trans (hb.mono B2.out.size)); clear hb pO B2 X2 A2 C2
      go_wp2_with fail
      have hd3 : Below w3.heap.size w3 w3.drew := (Below.refl _ w3).drew
      go_region_held (fun w' => (convert 22 9 (.slice (some ⟨gO, 0, none⟩) 512 cO)).run Try.prog w' = .ok (.string (strF 512 (pageF n0 f0))) w' ∧ Below w3.heap.size w3 w')
        (exact ⟨(O3.out.all (by assumption)).str, by assumption⟩)
        (first | (go_at_call 19; refine (page_p _ _ _ _ (by omega) (A3.out.all hd3)).mono ?_; rintro e w4 ⟨gP2, cP2, rfl, -, pP2, hb⟩; have sP2 := pP2.str; have hb4 := hd3.trans hb; clear hd3))
      have B4 := Lib.hid (B3.out.trans (hb4.mono B3.out.size))
      have C4 := Lib.hid (C3.out.all hb4)
      clear hb4 sP2 sO pP2 B3 C3 A3 O3
      go_wp2_with fail
      refine (open_arg _ _ _ _ C4.out).mono ?_
      rintro e w5 (⟨rfl, hwh, hby, gQ, cQ, rfl, -, pQ, hb⟩ | ⟨-, ⟨rfl, hb⟩⟩ | ⟨-, -, ⟨rfl, hb⟩⟩)
      · have hm1 : markI f1 0 ≠ 0 := (wholeB_iff.1 hwh 0 (by omega)).1
        have hm2 := markI_le hby
        have Gd := Lib.hid (fun i (hi : i < 512) => guard_open f1 hby hwh i hi)
        generalize markI f1 0 = N at *
        have B5 := Lib.hid (B4.out.trans (hb.mono B4.out.size))
        have C5 := Lib.hid (C4.out.all hb)
        clear hb hby hwh B4 C4
        go_wp2_with fail
        refine (guard_p _ _ N (by omega) _ (fun i hi => by unfold openF; rw [if_pos hi]) _ pQ).mono ?_
        rintro e w6 ⟨gY, cY, rfl, -, pY, hb⟩
        have Y6 := Lib.hid (Pg.congr pY (fun i hi => Gd.out i hi))
        have C6 := Lib.hid (C5.out.all hb)
        have B6 := Lib.hid (B5.out.trans (hb.mono B5.out.size)); clear hb pQ pY B5 C5
        go_wp2_with fail
        refine (sanity_any _).mono ?_
        rintro e w7 ⟨rfl, hb⟩
        have s1 := (Y6.out.all hb).str
        have s2 := (C6.out.all hb).str (by omega)
        have B7 := Lib.hid (B6.out.trans (hb.mono B6.out.size)); clear hb
        go_wp2_with fail
        go_ret
        exact ⟨rfl, B7.out⟩
      all_goals
        have B5 := Lib.hid (B4.out.trans (hb.mono B4.out.size)); clear hb
        go_wp2_with fail
        refine (sanity_any _).mono ?_
        rintro e w7 ⟨rfl, hb⟩
        go_wp2_with fail
        go_ret
        exact ⟨rfl, B5.out.trans (hb.mono B5.out.size)⟩
    · go_enter Try.func4, Try.ntmps4
      go_wp2_with fail
      refine (sanity_any _).mono ?_
      rintro e w8 ⟨rfl, hb⟩
      go_wp2_with fail
      go_ret
      exact ⟨rfl, hb⟩
  · go_enter Try.func4, Try.ntmps4
    go_wp2_with fail
    refine (sanity_any _).mono ?_
    rintro e w8 ⟨rfl, hb⟩
    go_wp2_with fail
    go_ret
    exact ⟨rfl, hb⟩

end Go.Proofs.Ytjfcjpkfefmhlaa
