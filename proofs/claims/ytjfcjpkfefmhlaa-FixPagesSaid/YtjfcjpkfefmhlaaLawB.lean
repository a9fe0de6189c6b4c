/- Pages as results, and sanity. -/
import Derived.Test.YtjfcjpkfefmhlaaLawA
namespace Go.Proofs.Ytjfcjpkfefmhlaa
open Go.RowKit
attribute [local go_sem] Oper.semAt_some

/-- A page that was made. -/
structure Pg (w : World) (g cap : Nat) (f : Nat → Int) : Prop where
  row : RowAt w g 5 cap 512 (bytesV f)
  max : cap ≤ maxLen
  byte : ∀ i, i < 512 → 0 ≤ f i ∧ f i < 256

theorem Pg.all {w w' : World} {g cap : Nat} {f : Nat → Int} (h : Pg w g cap f) (hb : Below w.heap.size w w') : Pg w' g cap f := ⟨h.row.all hb, h.max, h.byte⟩
theorem Pg.congr {w : World} {g cap : Nat} {f f' : Nat → Int} (h : Pg w g cap f) (hf : ∀ i, i < 512 → f i = f' i) : Pg w g cap f' :=
  ⟨h.row.congr fun i hi => by unfold bytesV; rw [hf i hi], h.max, fun i hi => by rw [← hf i hi]; exact h.byte i hi⟩
theorem Pg.str {w : World} {g cap : Nat} {f : Nat → Int} (h : Pg w g cap f) : (convert 22 9 (.slice (some ⟨g, 0, none⟩) 512 cap)).run Try.prog w = .ok (.string (strF 512 f)) w :=
  convert_cells 22 5 9 Try.underlying22 (by kernel_rfl) (by kernel_rfl) g 0 512 cap f w h.row.reads

/-- A page and a zero. -/
def PgOk (w : World) (f : Nat → Int) (e : Ending) (w' : World) : Prop :=
  ∃ g cap, e = .returned (.tuple #[.slice (some ⟨g, 0, none⟩) 512 cap, .int .i64 0]) ∧ w.heap.size ≤ g ∧ Pg w' g cap f ∧ Below w.heap.size w w'

theorem page_p (v : Value) (n : Nat) (f : Nat → Int) (w : World) (hn : n ≤ 100000) (hv : ByteArg w v n f) :
    Calls Try.prog 19 #[v] w fun e w' => ∃ g cap, e = .returned (.slice (some ⟨g, 0, none⟩) 512 cap) ∧ w.heap.size ≤ g ∧ Pg w' g cap (pageF n f) ∧ Below w.heap.size w w' := by
  refine (page_any v n f w hn hv).mono ?_
  rintro e w' ⟨g, cap, rfl, hg, hr, hm, hb⟩
  refine ⟨g, cap, rfl, hg, ⟨hr, hm, fun i _ => ?_⟩, hb⟩
  rcases hv with ⟨rfl, _⟩ | ⟨_, _, _, _, _, _, _, _, hf⟩
  · exact pageF_bound (fun i hi => absurd hi (by omega)) i
  · exact pageF_bound hf i

theorem guard_p (g cap : Nat) (m : Int) (hm : 1 ≤ m ∧ m ≤ 65535) (f : Nat → Int) (hf : ∀ i, i < 18 → f i = 0) (w : World) (hc : Pg w g cap f) :
    Calls Try.prog 18 #[.slice (some ⟨g, 0, none⟩) 512 cap, .int .i64 m] w (PgOk w (guardF m f)) := by
  refine (guard_ok g 0 cap hc.row.le m hm f hc.byte (anyB_false.2 fun i hi => by simp [hf i hi]) w hc.row.reads).mono ?_
  rintro e w' ⟨g', cap', rfl, hg, hr, hm', hb⟩
  exact ⟨g', cap', rfl, hg, ⟨hr, hm', fun i hi => guardK_bound hm hc.byte 8 i (Nat.le_refl _) hi⟩, hb⟩

theorem blendF_bound {p : Nat → Bool} {fa fb : Nat → Int} (ha : ∀ i, i < 512 → 0 ≤ fa i ∧ fa i < 256) (hb : ∀ i, i < 512 → 0 ≤ fb i ∧ fb i < 256) : ∀ i, i < 512 → 0 ≤ blendF p fa fb i ∧ blendF p fa fb i < 256 := by
  intro i hi
  unfold blendF
  split
  · exact hb i hi
  · exact ha i hi

theorem blend_p (g cap g2 cap2 : Nat) (m : Int) (hm0 : 0 ≤ m) (hm1 : m ≤ 255) (fa fb : Nat → Int) (w : World) (ha : Pg w g cap fa) (hb : Pg w g2 cap2 fb) :
    Calls Try.prog 21 #[.slice (some ⟨g, 0, none⟩) 512 cap, .slice (some ⟨g2, 0, none⟩) 512 cap2, .int .i64 m] w (PgOk w (blendF (bitI m) fa fb)) := by
  refine (blend_ok g 0 cap g2 0 cap2 hb.row.le fa fb m hm0 hm1 w ha.row.reads hb.row.reads).mono ?_
  rintro e w' ⟨g', cap', rfl, hg, hr, hm', hbl⟩
  exact ⟨g', cap', rfl, hg, ⟨hr, hm', blendF_bound ha.byte hb.byte⟩, hbl⟩

theorem openF_bound {f : Nat → Int} (hf : ∀ i, i < 512 → 0 ≤ f i ∧ f i < 256) : ∀ i, i < 512 → 0 ≤ openF f i ∧ openF f i < 256 := by
  intro i hi
  unfold openF openK
  split
  · omega
  · split
    · exact hf _ (by omega)
    · exact hf i hi

theorem open_p (g cap : Nat) (f : Nat → Int) (hw : wholeB f = true) (w : World) (hc : Pg w g cap f) :
    Calls Try.prog 20 #[.slice (some ⟨g, 0, none⟩) 512 cap] w fun e w' =>
      ∃ g cap, e = .returned (.tuple #[.slice (some ⟨g, 0, none⟩) 512 cap, .int .i64 (markI f 0), .int .i64 0]) ∧ w.heap.size ≤ g ∧ Pg w' g cap (openF f) ∧ Below w.heap.size w w' := by
  refine (open_ok g 0 cap hc.row.le hc.max f hc.byte hw w hc.row.reads).mono ?_
  rintro e w' ⟨g', cap', rfl, hg, hr, hm', hb⟩
  exact ⟨g', cap', rfl, hg, ⟨hr, hm', openF_bound hc.byte⟩, hb⟩

theorem open_p_torn (g cap : Nat) (f : Nat → Int) (hw : wholeB f = false) (w : World) (hc : Pg w g cap f) :
    Calls Try.prog 20 #[.slice (some ⟨g, 0, none⟩) 512 cap] w (OpenBad w 8) :=
  open_torn g 0 cap hc.row.le hc.max f hc.byte hw w hc.row.reads

theorem merge_p (g cap g2 cap2 : Nat) (fa fb : Nat → Int) (w : World) (hbest : bestOf (markI fa) (markI fb) ≠ 0) (ha : Pg w g cap fa) (hb : Pg w g2 cap2 fb) :
    Calls Try.prog 13 #[.slice (some ⟨g, 0, none⟩) 512 cap, .slice (some ⟨g2, 0, none⟩) 512 cap2] w fun e w' =>
      ∃ g cap g2 cap2, e = .returned (.tuple #[.slice (some ⟨g, 0, none⟩) 512 cap, .slice (some ⟨g2, 0, none⟩) 8 cap2, .int .i64 0]) ∧ w.heap.size ≤ g ∧ w.heap.size ≤ g2 ∧ Pg w' g cap (blendF (fun s => markI fa s != bestOf (markI fa) (markI fb)) fa fb) ∧
        RowAt w' g2 3 cap2 8 (listV (fromL (markI fa) (bestOf (markI fa) (markI fb)) 8)) ∧ Below w.heap.size w w' := by
  refine (merge_main g 0 cap g2 0 cap2 ha.row.le ha.max hb.row.le hb.max fa fb ha.byte hb.byte w ha.row.reads hb.row.reads).mono ?_
  intro e w' h
  unfold MergePost at h
  rw [if_neg hbest] at h
  obtain ⟨g', cap', v, rfl, hg, hr, hm', ho, hbl⟩ := h
  obtain ⟨g3, cap3, rfl, hg3, hr3, _⟩ := ho.row (by omega)
  exact ⟨g', cap', g3, cap3, rfl, hg, hg3, ⟨hr, hm', blendF_bound ha.byte hb.byte⟩, hr3, hbl⟩

theorem merge_p_torn (g cap g2 cap2 : Nat) (fa fb : Nat → Int) (w : World) (hbest : bestOf (markI fa) (markI fb) = 0) (ha : Pg w g cap fa) (hb : Pg w g2 cap2 fb) :
    Calls Try.prog 13 #[.slice (some ⟨g, 0, none⟩) 512 cap, .slice (some ⟨g2, 0, none⟩) 512 cap2] w (MergeBad w 8) := by
  refine (merge_main g 0 cap g2 0 cap2 ha.row.le ha.max hb.row.le hb.max fa fb ha.byte hb.byte w ha.row.reads hb.row.reads).mono ?_
  intro e w' h
  unfold MergePost at h
  rwa [if_pos hbest] at h

/-! ## sanity -/
def sanP (i : Nat) : Int := if i = 100 then 5 else if i = 63 then 7 else 0

theorem row_san (w : World) (g cap : Nat) (h : RowAt w g 5 cap 512 (fun _ => .int .u8 0)) :
    RowAt ((w.setCell ⟨g, 63, none⟩ (.int .u8 7)).setCell ⟨g, 100, none⟩ (.int .u8 5)) g 5 cap 512 (bytesV sanP) :=
  ((h.set 63 (.int .u8 7)).set 100 (.int .u8 5)).congr fun i _ => by
    unfold bytesV sanP
    by_cases h1 : i = 100
    · simp [h1]
    · by_cases h2 : i = 63
      · simp [h2]
      · simp [h1, h2]

theorem san_byte : ∀ i, i < 512 → 0 ≤ sanP i ∧ sanP i < 256 := by
  intro i _
  unfold sanP
  split
  · omega
  · split <;> omega

theorem san_zero : ∀ i, i < 18 → sanP i = 0 := by decide +kernel
/-- What sanity's calls come to. -/
def sanA : Nat → Int := guardF 1 sanP
def sanB : Nat → Int := guardF 2 sanP
def sanC : Nat → Int := blendF (bitI 3) sanA sanB
def sanD : Nat → Int := blendF (bitI 252) sanA sanB
def sanM : Nat → Int := blendF (fun s => markI sanC s != bestOf (markI sanC) (markI sanD)) sanC sanD
theorem san_best : bestOf (markI sanC) (markI sanD) = 2 := by decide +kernel
theorem san_merge : ∀ i, i < 512 → sanM i = sanB i := by decide +kernel
theorem san_from : fromL (markI sanC) (bestOf (markI sanC) (markI sanD)) 8 = [0, 0, 1, 1, 1, 1, 1, 1] := by decide +kernel
theorem san_whole : wholeB sanB = true := by decide +kernel
theorem san_torn : wholeB sanC = false := by decide +kernel
theorem san_mark : markI sanB 0 = 2 := by decide +kernel
theorem san_open : ∀ i, i < 512 → openF sanB i = sanP i := by decide +kernel
theorem san_at : bytesV sanB 2 = .int .u8 0 ∧ bytesV sanB 3 = .int .u8 7 ∧ bytesV sanB 100 = .int .u8 5 ∧ bytesV sanB 63 = .int .u8 0 := by
  unfold bytesV
  simp only [Value.int.injEq, true_and]
  decide +kernel

set_option maxRecDepth 8000 in
set_option maxHeartbeats 4000000 in
theorem sanity_any (w : World) :
    Calls Try.prog 12 #[] w fun e w' => e = .returned (.bool true) ∧ Below w.heap.size w w' := by
  obtain ⟨w1, hmk, hrow, hbel, hs1⟩ := make_o (P := Try.prog) 22 5 _ _ Try.underlying22 info_u8 rfl (by decide) .i64 512 (by decide) w
  have hmk : (Instr.makeSlice 22 (.int .i64 512) (.int .i64 512)).run Try.prog w = _ := hmk
  have c63 := hrow.cell (i := 63) (by omega)
  have c100 := (hrow.set 63 (.int .u8 7)).cell (i := 100) (by omega)
  have z63 := hrow.frozen 63
  have z100 := (hrow.set 63 (.int .u8 7)).frozen 100
  have hp := row_san w1 w.heap.size 512 hrow
  have hb2 : Below w.heap.size w ((w1.setCell ⟨w.heap.size, 63, none⟩ (.int .u8 7)).setCell ⟨w.heap.size, 100, none⟩ (.int .u8 5)) := (hbel.setCell (Nat.le_refl _) _).setCell (Nat.le_refl _) _
  have PP := Lib.hid (show Pg _ w.heap.size 512 sanP from ⟨hp, by decide, san_byte⟩)
  clear hp hrow hs1
  have HB := Lib.hid hb2; clear hb2 hbel
  go_enter Try.func12, Try.ntmps12
  go_wp2_with fail
  generalize (w1.setCell ⟨w.heap.size, 63, none⟩ (.int .u8 7)).setCell ⟨w.heap.size, 100, none⟩ (.int .u8 5) = w2 at *
  refine (guard_p _ _ 1 (by omega) _ san_zero _ PP.out).mono ?_
  rintro e w3 ⟨gA, cA, rfl, -, pA, hb⟩
  have P1 := Lib.hid (PP.out.all hb)
  have PA := Lib.hid (show Pg w3 gA cA sanA from pA)
  have HB1 := Lib.hid (HB.out.trans (hb.mono HB.out.size)); clear HB PP hb pA
  go_wp2_with fail
  refine (guard_p _ _ 2 (by omega) _ san_zero _ P1.out).mono ?_
  rintro e w4 ⟨gB, cB, rfl, -, pB, hb⟩
  have P2 := Lib.hid (P1.out.all hb)
  have PA2 := Lib.hid (PA.out.all hb)
  have PB := Lib.hid (show Pg w4 gB cB sanB from pB)
  have HB2 := Lib.hid (HB1.out.trans (hb.mono HB1.out.size)); clear HB1 P1 PA hb pB
  go_wp2_with fail
  refine (blend_p _ _ _ _ 3 (by omega) (by omega) _ _ _ PA2.out PB.out).mono ?_
  rintro e w5 ⟨gC, cC, rfl, -, pC, hb⟩
  have P3 := Lib.hid (P2.out.all hb)
  have PA3 := Lib.hid (PA2.out.all hb)
  have PB3 := Lib.hid (PB.out.all hb)
  have PC := Lib.hid (show Pg w5 gC cC sanC from pC)
  have HB3 := Lib.hid (HB2.out.trans (hb.mono HB2.out.size)); clear HB2 P2 PA2 PB hb pC
  go_wp2_with fail
  refine (blend_p _ _ _ _ 252 (by omega) (by omega) _ _ _ PA3.out PB3.out).mono ?_
  rintro e w6 ⟨gD, cD, rfl, -, pD, hb⟩
  have P4 := Lib.hid (P3.out.all hb)
  have PB4 := Lib.hid (PB3.out.all hb)
  have PC4 := Lib.hid (PC.out.all hb)
  have PD := Lib.hid (show Pg w6 gD cD sanD from pD)
  have HB4 := Lib.hid (HB3.out.trans (hb.mono HB3.out.size)); clear HB3 P3 PA3 PB3 PC hb pD
  go_wp2_with fail
  refine (merge_p _ _ _ _ _ _ _ (by rw [san_best]; decide) PC4.out PD.out).mono ?_
  rintro e w7 ⟨gM, cM, gF, cF, rfl, -, -, pM, rF, hb⟩
  have P5 := Lib.hid (P4.out.all hb)
  have PB5 := Lib.hid (PB4.out.all hb)
  have PC5 := Lib.hid (PC4.out.all hb)
  have PM : Pg w7 gM cM sanB := Pg.congr pM san_merge
  rw [san_from] at rF
  have sM := PM.str
  have sB := PB5.out.str
  have HB5 := Lib.hid (HB4.out.trans (hb.mono HB4.out.size)); clear HB4 P4 PB4 PC4 PD hb pM PM c63 c100 z63 z100 hmk
  have RF := Lib.hid rF; clear rF
  go_wp2_with fail
  refine (sameInts_any _ _ [0, 0, 1, 1, 1, 1, 1, 1] [0, 0, 1, 1, 1, 1, 1, 1] _ (by decide) (.inr ⟨gF, 0, cF, rfl, by decide, RF.out.le, (RF.out.alloc _).reads⟩)
    (.inr ⟨_, 0, 8, rfl, by decide, by decide, (RowAt.new w7 _ _ (listV [0, 0, 1, 1, 1, 1, 1, 1]) 8 (by simp) (fun i hi => by rcases i with _ | _ | _ | _ | _ | _ | _ | _ | i <;> first | rfl | omega)).reads⟩)).mono ?_
  rintro e w8 ⟨rfl, hb⟩
  have hb : Below w7.heap.size w7 w8 := ((Below.refl _ w7).alloc (Nat.le_refl _) _).trans (hb.mono (by simp))
  have P6 := Lib.hid (P5.out.all hb)
  have PB6 := Lib.hid (PB5.out.all hb)
  have PC6 := Lib.hid (PC5.out.all hb)
  have c2 := PB6.out.row.cell (i := 2) (by omega)
  have c3 := PB6.out.row.cell (i := 3) (by omega)
  have c100' := PB6.out.row.cell (i := 100) (by omega)
  have c63' := PB6.out.row.cell (i := 63) (by omega)
  rw [san_at.1] at c2
  rw [san_at.2.1] at c3
  rw [san_at.2.2.1] at c100'
  rw [san_at.2.2.2] at c63'
  have HB6 := Lib.hid (HB5.out.trans (hb.mono HB5.out.size)); clear HB5 P5 PB5 PC5 RF hb sM sB
  go_wp2_with fail
  refine (open_p _ _ _ san_whole _ PB6.out).mono ?_
  rintro e w9 ⟨gQ, cQ, rfl, -, pQ, hb⟩
  rw [san_mark]
  have P7 := Lib.hid (P6.out.all hb)
  have PC7 := Lib.hid (PC6.out.all hb)
  have PQ := Lib.hid (Pg.congr pQ san_open)
  have HB7 := Lib.hid (HB6.out.trans (hb.mono HB6.out.size)); clear HB6 P6 PB6 PC6 hb pQ c2 c3 c100' c63'
  go_wp2_with fail
  refine (open_p_torn _ _ _ san_torn _ PC7.out).mono ?_
  rintro e w10 ⟨rfl, hb⟩
  have sP := (P7.out.all hb).str
  have sQ := (PQ.out.all hb).str
  have HB8 := Lib.hid (HB7.out.trans (hb.mono HB7.out.size)); clear HB7 P7 PC7 PQ hb
  go_wp2_with fail
  refine (Next_any _ _).mono ?_
  rintro e w11 ⟨rfl, rfl⟩
  rw [if_pos (by decide)]
  go_wp2_with fail
  refine (Newer_any _ _ _).mono ?_
  rintro e w11 ⟨rfl, rfl⟩
  rw [if_pos (by decide), show newerF 1 65535 = true from by decide]
  go_wp2_with fail
  go_ret
  exact ⟨rfl, HB8.out⟩

end Go.Proofs.Ytjfcjpkfefmhlaa
