/- DiskMatches. Acts, devices and lists of them as arguments, opened. -/
import Derived.Deep.CutRange
import Derived.Deep.RegionHeld
import Derived.OpenShut
import Derived.Lib.SmallJoins
import Derived.ChangeOld
import Derived.Test.YtjhcaedfknhilaaRc15
import Derived.Test.YtjhcaedfknhilaaRc24
import Derived.Test.YtjhcaedfknhilaaRc25
namespace Go.Proofs.Ytjhcaedfknhilaa
set_option linter.unusedVariables false
set_option linter.unusedSimpArgs false
open Go.RowKit
attribute [local go_sem ↓] Go.wp_at_zero Go.wp_at_succ
attribute [-go_sem] loadCellsFrom storeCells
attribute [local go_sem] storeCells_one

/-- A device in memory that is the same as what State tells. -/
theorem devAt_ok {B : Nat} {w : World} {dv qv bv : Value} {Y : Dev} {D : Dsk} (h : DevAt B w dv qv bv Y) (hs : D.dev.Same Y) (hok : D.Ok) : DevAt B w dv qv bv D.dev := by
  have hsz := hok.size
  refine ⟨?_, ?_, ?_, ?_⟩
  · rcases h.data with ⟨_, h1⟩
    refine ⟨fun i => hok.byte _ _, ?_⟩
    rcases h1 with ⟨h0, h1⟩ | ⟨b, off, c, h0, h1, h2, h3, h4, h5⟩
    · exact .inl ⟨hs.n ▸ h0, h1⟩
    · rw [hs.n] at h0 h1 h2 h4
      exact .inr ⟨b, off, c, h0, h1, h2, h3, h4.congr fun i hi => by unfold byteF; rw [hs.data i hi], h5⟩
  · rcases h.queue with ⟨_, h1⟩
    refine ⟨fun i => ?_, ?_⟩
    · show -9223372036854775808 ≤ qaF D i ∧ qaF D i ≤ 9223372036854775807
      unfold qaF
      split
      · have := hok.put i (by assumption)
        omega
      · exact z0
    · rcases h1 with ⟨h0, h1⟩ | ⟨b, off, c, bvs, h0, h1, h2, h3, h4, h5, h6⟩
      · exact .inl ⟨hs.q ▸ h0, h1⟩
      · rw [hs.q] at h0 h1 h2 h4 h6
        refine .inr ⟨b, off, c, bvs, h0, h1, h2, h3, h4.congr fun j hj => ?_, h5, fun i hi => ?_⟩
        · unfold putC
          split
          · rw [hs.qa (j / 2) (by omega)]
          · rfl
        · have h7 := h6 i hi
          rw [hs.ql i hi] at h7
          rcases h7 with ⟨_, h8⟩
          refine ⟨fun j => hok.pbyte i j, ?_⟩
          rcases h8 with h8 | ⟨b2, off2, c2, g0, g1, g2, g3, g4, g5⟩
          · exact .inl h8
          · exact .inr ⟨b2, off2, c2, g0, g1, g2, g3, g4.congr fun j hj => by
              show Value.int .u8 (Y.qb i j) = .int .u8 (D.dev.qb i j)
              rw [hs.qb i hi j hj], g5⟩
  · rcases h.bad with ⟨_, h1⟩
    refine ⟨fun i => ?_, ?_⟩
    · have := badF_range D D.n i hsz.2
      show -9223372036854775808 ≤ badF D D.n i ∧ badF D D.n i ≤ 9223372036854775807
      omega
    · rcases h1 with ⟨h0, h1⟩ | ⟨b, off, c, h0, h1, h2, h3, h4, h5⟩
      · exact .inl ⟨hs.m ▸ h0, h1⟩
      · rw [hs.m] at h0 h1 h2 h4
        exact .inr ⟨b, off, c, h0, h1, h2, h3, h4.congr fun i hi => by unfold intsV; rw [hs.bad i hi], h5⟩
  · have := hok.left
    show -9223372036854775808 ≤ D.left ∧ D.left ≤ 9223372036854775807
    omega
theorem dsk_bad {X : Dev} (h : X.Right) : badL X.dsk X.dsk.n = (List.range X.m).map fun i => (X.bad i).toNat := by
  have hb := h.h4
  refine sorted_ext (badL_sorted _ _) ?_ fun x => ?_
  · rw [List.pairwise_map]
    rw [List.pairwise_iff_getElem]
    intro i j hi hj hij
    simp only [List.getElem_range]
    simp only [List.length_range] at hj
    have hmono : ∀ d, i + 1 + d < X.m → X.bad i < X.bad (i + 1 + d) := fun d => by
      induction d with
      | zero => intro hd; have := (hb (i + 1) hd).2.2; rcases this with h9 | h9; omega; simpa using h9
      | succ d ih => intro hd; have h1 := ih (by omega); have := (hb (i + 1 + (d + 1)) hd).2.2; rcases this with h9 | h9; omega; have h10 : X.bad (i + 1 + d) < X.bad (i + 1 + (d + 1)) := h9; omega
    have h1 := hmono (j - i - 1) (by omega)
    rw [show i + 1 + (j - i - 1) = j by omega] at h1
    have := (hb i (by omega)).1
    omega
  · unfold badL
    rw [List.mem_filter, List.mem_range, List.mem_map]
    show (x < X.n / 64 ∧ metB X.bad X.m x = true) ↔ _
    rw [metB_true]
    constructor
    · rintro ⟨_, k, hk, h1⟩
      exact ⟨k, List.mem_range.2 hk, by omega⟩
    · rintro ⟨k, hk, h1⟩
      have hk2 := List.mem_range.1 hk
      have h2 := hb k hk2
      exact ⟨by omega, k, hk2, by omega⟩
theorem dsk_dev {X : Dev} (h : X.Right) : X.dsk.dev.Same X := by
  have h1 := h.h1
  have hb := dsk_bad h
  have hn : X.n / 64 * 64 = X.n := by have := h1.1; omega
  have hl : (badL X.dsk X.dsk.n).length = X.m := by rw [hb]; simp
  refine ⟨hn.symm, fun k hk => ?_, rfl, fun i hi => ?_, fun i hi => (h.h3 i hi).2.2, fun i hi k hk => ?_, hl.symm, fun i hi => ?_, rfl, rfl, rfl⟩
  · have hk2 : k < X.n / 64 * 64 := hk
    show X.data k = if k / 64 < X.n / 64 then X.data (k / 64 * 64 + k % 64) else 0
    rw [if_pos (by omega), show k / 64 * 64 + k % 64 = k by omega]
  · have hi2 : i < X.q := hi
    show X.qa i = qaF X.dsk i
    unfold qaF
    rw [if_pos (show i < X.dsk.q from hi)]
    show X.qa i = ((X.qa i).toNat : Int)
    have := (h.h3 i hi2).1
    omega
  · have hi2 : i < X.q := hi
    show X.qb i k = if i < X.q then X.qb i k else 0
    rw [if_pos hi2]
  · have hi2 : i < X.m := by rw [← hl]; exact hi
    show X.bad i = badF X.dsk X.dsk.n i
    unfold badF
    rw [hb, List.getD_eq_getElem?_getD, List.getElem?_map, List.getElem?_range hi2]
    show X.bad i = ((X.bad i).toNat : Int)
    have := (h.h4 i hi2).1
    omega

theorem DiskIn.wroteT {B g gs gb k : Nat} {qv : Value} {D : Dsk} {W W' : World} (h : DiskIn B g gs gb qv D W) (hw : Wrote W W' k) {e : TypeId} {c n : Nat} {F : Nat → Value} (hr : RowAt W k e c n F) (he : diskT e = false) : DiskIn B g gs gb qv D W' := by
  unfold diskT at he
  simp only [Bool.or_eq_false_iff, beq_eq_false_iff_ne, ne_eq] at he
  obtain ⟨⟨⟨h1, h2⟩, h3⟩, h4⟩ := he
  refine ⟨h.row.wrote hw (fun e9 => hr.neType h.row h1 e9.symm), h.sec.wrote hw (fun e9 => hr.neType h.sec h2 e9.symm), h.bad.wrote hw (fun e9 => hr.neType h.bad h3 e9.symm), ?_, h.base, h.ok⟩
  rcases h.que with hq | ⟨gq, cap, q1, q2, q3, q4⟩
  · exact .inl hq
  · exact .inr ⟨gq, cap, q1, q2, q3.wrote hw (fun e9 => hr.neType q3 h4 e9.symm), q4⟩
theorem cell_mv {w W' : World} {b o : Nat} {v : Value} (hb : Below w.heap.size w W') (h : w.cell? ⟨b, o, none⟩ = some v) : W'.cell? ⟨b, o, none⟩ = some v :=
  (hb.cell (p := ⟨b, o, none⟩) (World.block_lt_of_cell? w ⟨b, o, none⟩ h)).trans h
/-- What model left: its device in a box, its answer. -/
def ModI (B : Nat) (D1 : Dsk) (c : Int) (n : Nat) (f : Nat → Int) (w5 : World) (s10 s11 s12 : Value) (wx : World) : Prop :=
  ∃ p dv qv bv f', s10 = .pointer (some ⟨p, 0, none⟩) ∧ s12 = .int .i64 c ∧ BArg B wx s11 n f' ∧ (∀ k, k < n → f' k = f k) ∧ RowAt wx p 31 6 6 (st6 dv qv bv (.bool D1.dev.dead) (.bool D1.dev.armed) (.int .i64 D1.dev.left)) ∧ DevAt B wx dv qv bv D1.dev ∧ Below w5.heap.size w5 wx
theorem modI_a {B : Nat} {D D1 D2 : Dsk} {A : Deed} {c c' : Int} {n n' : Nat} {f f' : Nat → Int} {w5 w6 : World} {v dv qv bv : Value} (h1 : Does D A D1 c n f) (h2 : Does D A D2 c' n' f') (hok : D1.Ok) (hv : BArg B w6 v n' f') (hd : DevAt B w6 dv qv bv D2.dev) (hb : Below w5.heap.size w5 w6) :
    ModI B D1 c n f w5 (.pointer (some ⟨w6.heap.size, 0, none⟩)) v (.int .i64 c') (w6.alloc (.cells #[dv, qv, bv, .bool D2.dev.dead, .bool D2.dev.armed, .int .i64 D2.dev.left] 31)) := by
  obtain ⟨heq, rfl, rfl, hf⟩ := does_same (Dsk.Eqv.rfl' D) h1 h2
  have hs := eqv_dev heq
  have hal := (Below.refl _ w6).alloc (Nat.le_refl _) (.cells #[dv, qv, bv, .bool D2.dev.dead, .bool D2.dev.armed, .int .i64 D2.dev.left] 31)
  have hr := row_six w6 dv qv bv (.bool D2.dev.dead) (.bool D2.dev.armed) (.int .i64 D2.dev.left) 31
  refine ⟨_, dv, qv, bv, f', rfl, rfl, hv.all hal, hf, ?_, (devAt_ok hd hs hok).all hal, hb.alloc hb.size _⟩
  rw [hs.dead, hs.armed, hs.left] at hr
  rw [hs.dead, hs.armed, hs.left]
  exact hr
theorem modI_b {B : Nat} {D D1 D2 : Dsk} {A : Deed} {c c' : Int} {n n' : Nat} {f f' : Nat → Int} {w5 w6 : World} {v dv qv bv : Value} {G : Nat → Value} (h1 : Does D A D1 c n f) (h2 : Does D A D2 c' n' f') (hok : D1.Ok) (hv : BArg B w6 v n' f') (hd : DevAt B w6 dv qv bv D2.dev) (hb : Below w5.heap.size w5 w6) (hB : B ≤ w5.heap.size) (hr : RowAt w6 w5.heap.size 31 6 6 G) :
    ModI B D1 c n f w5 (.pointer (some ⟨w5.heap.size, 0, none⟩)) v (.int .i64 c') (w6.setCells w5.heap.size 0 [dv, qv, bv, .bool D2.dev.dead, .bool D2.dev.armed, .int .i64 D2.dev.left]) := by
  obtain ⟨heq, rfl, rfl, hf⟩ := does_same (Dsk.Eqv.rfl' D) h1 h2
  have hs := eqv_dev heq
  have hset := row_set6 hr dv qv bv (.bool D2.dev.dead) (.bool D2.dev.armed) (.int .i64 D2.dev.left)
  have hk := keepsD_wrote (B := B) hset.2 hr rfl hB
  refine ⟨_, dv, qv, bv, f', rfl, rfl, hv.keep hk, hf, ?_, (devAt_ok hd hs hok).keepD hk, hset.2.below hb hb.size (Nat.le_refl _)⟩
  have h9 := hset.1
  rw [hs.dead, hs.armed, hs.left] at h9
  rw [hs.dead, hs.armed, hs.left]
  exact h9

/-- What stands at the head of a round. -/
def MatchI (B L g : Nat) (w wr : World) : Prop := ∃ gs gb qv dv qv2 bv D, DiskIn L g gs gb qv D wr ∧ RowAt wr w.heap.size 31 6 6 (st6 dv qv2 bv (.bool D.dev.dead) (.bool D.dev.armed) (.int .i64 D.dev.left)) ∧ DevAt B wr dv qv2 bv D.dev ∧ Below w.heap.size w wr

theorem match_next {B L g gs gb : Nat} {qv dv qv2 bv : Value} {D : Dsk} {Y : Dev} {w wr : World} {G : Nat → Value} (hY : D.dev = Y) (hd : DiskIn L g gs gb qv D wr) (hr : RowAt wr w.heap.size 31 6 6 G) (hx : DevAt B wr dv qv2 bv Y) (hb : Below w.heap.size w wr) (hB : B ≤ w.heap.size) :
    MatchI B L g w (wr.setCells w.heap.size 0 [dv, qv2, bv, .bool Y.dead, .bool Y.armed, .int .i64 Y.left]) := by
  subst hY
  have hs := row_set6 hr dv qv2 bv (.bool D.dev.dead) (.bool D.dev.armed) (.int .i64 D.dev.left)
  have hl := hr.lt
  exact ⟨gs, gb, qv, dv, qv2, bv, D, hd.wroteT hs.2 hr rfl, hs.1, hx.keepD (keepsD_wrote hs.2 hr rfl hB), hs.2.below hb (by omega) (Nat.le_refl _)⟩

set_option maxRecDepth 100000 in
set_option maxHeartbeats 8000000 in
theorem DiskMatches_any {B : Nat} {dv qv bv v : Value} {X : Dev} {m : Nat} {A : Nat → Deed} (w : World) (h : DevAt B w dv qv bv X) (hl : DList B w v m A) (hB : B ≤ w.heap.size) :
    Calls Try.prog 6 #[devV dv qv bv X, v] w fun e w' => e = .returned (.bool true) ∧ Below w.heap.size w w' := by
  obtain ⟨dx, dc, rfl, -⟩ := h.data.slice
  obtain ⟨qx, qc, rfl, -⟩ := h.queue.slice
  obtain ⟨bx, bc, rfl, -⟩ := h.bad.slice
  obtain ⟨vx, vc, rfl, -⟩ := hl.slice
  have hr := row_six w (.slice dx X.n dc) (.slice qx X.q qc) (.slice bx X.m bc) (.bool X.dead) (.bool X.armed) (.int .i64 X.left) 31
  have hbl := (Below.refl _ w).alloc (Nat.le_refl w.heap.size) (.cells #[.slice dx X.n dc, .slice qx X.q qc, .slice bx X.m bc, .bool X.dead, .bool X.armed, .int .i64 X.left] 31)
  have HD := Lib.hid (h.all hbl)
  have HA := Lib.hid (hl.all hbl)
  have HA0 := Lib.hid hl
  have HB := Lib.hid hbl
  have HR := Lib.hid hr
  have hB2 := Nat.le_trans hB hbl.size
  have hload := loadC_dev hr
  clear h hl hbl hr
  unfold devV
  go_enter Try.func6, Try.ntmps6
  go_upto_region 1 with fail
  generalize w.alloc (.cells #[.slice dx X.n dc, .slice qx X.q qc, .slice bx X.m bc, .bool X.dead, .bool X.armed, .int .i64 X.left] 31) = W at *
  go_wp2_with fail
  refine (few_any W HD.out).mono ?_
  rintro e w2 ⟨⟨b, rfl, -⟩, hb⟩
  have HD2 := Lib.hid (HD.out.all hb)
  have HA2 := Lib.hid (HA.out.all hb)
  have HR2 := Lib.hid (HR.out.all hb)
  have HB2 := Lib.hid (HB.out.trans (hb.mono HB.out.size))
  have hB3 := Nat.le_trans hB2 hb.size
  clear hload hb HD HA HR HB
  rcases bool_cases b with rfl | rfl
  · go_wp2_with fail
    refine (sane_any w2).mono ?_
    rintro e w3 ⟨rfl, hb⟩
    go_wp2_with fail
    go_ret
    exact ⟨rfl, HB2.out.trans (hb.mono HB2.out.size)⟩
  go_wp2_with fail
  refine (short_any w2 HA2.out).mono ?_
  rintro e w2' ⟨⟨b, rfl, hsh⟩, rfl⟩
  rcases bool_cases b with rfl | rfl
  · go_wp2_with fail
    refine (sane_any w2).mono ?_
    rintro e w3 ⟨rfl, hb⟩
    go_wp2_with fail
    go_ret
    exact ⟨rfl, HB2.out.trans (hb.mono HB2.out.size)⟩
  have HS := Lib.hid (hsh.1 rfl)
  have hload := loadC_dev HR2.out
  clear hsh
  have hw2 : w.heap.size ≤ w2.heap.size := HB2.out.size
  go_wp2_with fail
  refine (Load_any w2 HD2.out hB3).mono ?_
  rintro e w3 (⟨hno, rfl, hb⟩ | ⟨hyes, g, gs, gb, uv, rfl, hd, hb⟩)
  · have HD3 := Lib.hid (HD2.out.all hb)
    have HB3 := Lib.hid (HB2.out.trans (hb.mono HB2.out.size))
    have hload2 := loadC_dev (HR2.out.all hb)
    have Hno := Lib.hid hno
    clear hload hb hno HD2 HA2 HR2 HB2
    go_wp2_with fail
    refine (Right_any w3 HD3.out).mono ?_
    rintro e w4 ⟨⟨b, rfl, hright⟩, hb⟩
    rcases bool_cases b with rfl | rfl
    · go_wp2_with fail
      refine (sane_any w4).mono ?_
      rintro e w5 ⟨rfl, hb5⟩
      go_wp2_with fail
      go_ret
      exact ⟨rfl, HB3.out.trans ((hb.trans (hb5.mono hb.size)).mono HB3.out.size)⟩
    · exact absurd (hright.1 rfl) Hno.out
  have HY := Lib.hid hyes
  have HK3 := Lib.hid hd
  have HD3 := Lib.hid (HD2.out.all hb)
  have HB3 := Lib.hid (HB2.out.trans (hb.mono HB2.out.size))
  have HR3 := Lib.hid (HR2.out.all hb)
  have hs3 := hb.size
  have hload2 := loadC_dev HR3.out
  clear hload hb hyes hd HD2 HA2 HR2 HB2
  go_wp2_with fail
  refine (Right_any w3 HD3.out).mono ?_
  rintro e w4 ⟨⟨b, rfl, hright⟩, hb⟩
  rcases bool_cases b with rfl | rfl
  · have := hright.2 HY.out
    cases this
  have HK4 := Lib.hid (HK3.out.all hb)
  have HD4 := Lib.hid (devAt_ok (HD3.out.all hb) (dsk_dev HY.out) HK3.out.ok)
  have HB4 := Lib.hid (HB3.out.trans (hb.mono HB3.out.size))
  have HR4 := Lib.hid (HR3.out.all hb)
  clear hload2 hb hright HK3 HD3 HB3 HR3
  have HI0 := Lib.hid (show MatchI B w2.heap.size g w w4 from ⟨_, _, _, _, _, _, X.dsk, HK4.out, HR4.out, HD4.out, HB4.out⟩)
  clear HK4 HR4 HD4 HB4
  have hm := HS.out.2
  go_wp2_with fail
  go_loopw [7] (fun t wr => ∃ i : Nat, i ≤ m ∧ t = .int .i64 i ∧ MatchI B w2.heap.size g w wr) (fun t _ => m - (intOf t).toNat)
  case atStart => exact ⟨0, by omega, by go_num, HI0.out⟩
  case round =>
    obtain ⟨i, hi, rfl, gs2, gb2, qv2, dv, qv3, bv2, D, hd, hr, hx, hb⟩ := hrel
    obtain ⟨d5, dc5, rfl, -⟩ := hx.data.slice
    obtain ⟨q5, qc5, rfl, -⟩ := hx.queue.slice
    obtain ⟨b5, bc5, rfl, -⟩ := hx.bad.slice
    have HK := Lib.hid hd
    have HR := Lib.hid hr
    have HX := Lib.hid hx
    have HB := Lib.hid hb
    clear hd hr hx hb
    by_cases hlt : i < m
    · have hdlt : decide ((i : Int) < m) = true := decide_eq_true (by omega)
      obtain ⟨b, off, c, ub, uk, e1, d0, d1, d2, d3, d4, hdeed⟩ := HA0.out.elem hlt
      cases e1
      have HL5 := Lib.hid (fun (W' : World) (hb : Below w.heap.size w W') => loadC_5 (cell_mv hb d0) (cell_mv hb d1) (cell_mv hb d2) (cell_mv hb d3) (cell_mv hb d4))
      have hld := HL5.out wr HB.out
      have HKo := Lib.hid HK.out.ok
      have Hd := Lib.hid (hdeed.all HB.out)
      have hBL : B ≤ w2.heap.size := hB3
      have Hd2 := Lib.hid ((hdeed.all HB.out).mono hBL)
      have hk := (HS.out.1 i hlt).2
      clear d0 d1 d2 d3 d4 hdeed
      go_wp2_with fail
      refine (act_any wr HK.out Hd2.out (by omega)).mono ?_
      rintro e w5 ⟨v5, c5, rfl, D1, n1, f1, gs6, gb6, qv6, hdo, hbv, hd, hb, hcalm⟩
      have HDo := Lib.hid hdo
      have HV5 := Lib.hid hbv
      have HK5 := Lib.hid hd
      have hkk := keeps_calm (hb.mono hBL) hcalm
      have HR5 := Lib.hid (RowAt.calm HR.out hcalm rfl)
      have HX5 := Lib.hid (HX.out.keep hkk)
      have Hd5 := Lib.hid (Hd.out.keepD hkk.data)
      have HB5 := Lib.hid (HB.out.trans (hb.mono (by omega)))
      have hs5 := hcalm.1
      clear hld hdo hbv hd hb hcalm hkk HR HX Hd2 HB
      go_upto_region 12 with fail
      have hBw5 : B ≤ w5.heap.size := by have := HB5.out.size; omega
      have HM := Lib.hid (fun (W' : World) (hb : Below w5.heap.size w5 W') => model_any W' (HX5.out.all hb) HKo.out (Hd5.out.all hb) (by omega) (Nat.le_trans hBw5 hb.size))
      obtain ⟨ux, uc, hub, -⟩ := Hd5.out.bytes.slice
      obtain ⟨kx2, kc2, hukp, -⟩ := Hd5.out.keep.slice
      subst hub hukp
      unfold devV deedV at HM
      have HS5 := Lib.hid (fun (W' : World) (hb : Below w5.heap.size w5 W') => show (loadCellsFrom ⟨w.heap.size, 0, none⟩ 0 6 #[]).run Try.prog W' = .ok #[.slice d5 D.dev.n dc5, .slice q5 D.dev.q qc5, .slice b5 D.dev.m bc5, .bool D.dev.dead, .bool D.dev.armed, .int .i64 D.dev.left] W' ∧ (loadCellsFrom ⟨b, off + i * 5, none⟩ 0 5 #[]).run Try.prog W' = .ok #[.int .i64 (A i).kind, .int .i64 (A i).at', .int .i64 (A i).many, .slice ux (A i).n uc, .slice kx2 (A i).k kc2] W' from ⟨loadC_dev (HR5.out.all hb), HL5.out W' (HB5.out.trans (hb.mono (by have := HB5.out.size; omega)))⟩)
      go_cut [10, 11, 12] from 47 to 119 (fun s10 s11 s12 wx => ModI B D1 c5 n1 f1 w5 s10 s11 s12 wx)
      case first =>
        have hbx : Below w5.heap.size w5 w5.drew := (Below.refl _ w5).drew
        have hbz : Below w5.heap.size w5 (w5.alloc (.cells #[.slice none 0 0, .slice none 0 0, .slice none 0 0, .bool false, .bool false, .int .i64 0] 31)).drew := ((Below.refl _ w5).alloc (Nat.le_refl _) _).drew
        have Rowz := Lib.hid (fun (W' : World) (hb : Below (w5.alloc (.cells #[.slice none 0 0, .slice none 0 0, .slice none 0 0, .bool false, .bool false, .int .i64 0] 31)).drew.heap.size (w5.alloc (.cells #[.slice none 0 0, .slice none 0 0, .slice none 0 0, .bool false, .bool false, .int .i64 0] 31)).drew W') => ((row_six w5 (.slice none 0 0) (.slice none 0 0) (.slice none 0 0) (.bool false) (.bool false) (.int .i64 0) 31).drew).all hb)
        go_region_held (fun W' => (loadCellsFrom ⟨w.heap.size, 0, none⟩ 0 6 #[]).run Try.prog W' = .ok #[.slice d5 D.dev.n dc5, .slice q5 D.dev.q qc5, .slice b5 D.dev.m bc5, .bool D.dev.dead, .bool D.dev.armed, .int .i64 D.dev.left] W' ∧ (loadCellsFrom ⟨b, off + i * 5, none⟩ 0 5 #[]).run Try.prog W' = .ok #[.int .i64 (A i).kind, .int .i64 (A i).at', .int .i64 (A i).many, .slice ux (A i).n uc, .slice kx2 (A i).k kc2] W')
          (first | (with_reducible exact HS5.out _ hbx) | (with_reducible exact HS5.out _ hbz) | (with_reducible exact HS5.out _ (hbx.alloc hbx.size _)) | (with_reducible exact HS5.out _ Hbs.out))
          (first | (go_at_call 29; ((with_reducible refine (HM.out _ (by first | exact hbx | exact hbz)).mono ?_); rintro e w6 hmp); (obtain ⟨D2, c6, n6, f6, v6, dv6, qv6, bv6, rfl, hdo6, hbv6, hd6, hb6⟩ := hmp); (obtain ⟨d6, dc6, rfl, -⟩ := hd6.data.slice); (obtain ⟨q6, qc6, rfl, -⟩ := hd6.queue.slice); (obtain ⟨b6, bc6, rfl, -⟩ := hd6.bad.slice); (have Hdo6 := Lib.hid hdo6); (have Hbv6 := Lib.hid hbv6); (have Hd6 := Lib.hid hd6); (replace hbx : Below w5.heap.size w5 w6 := by first | (with_reducible exact hbx.trans (hb6.mono hbx.size)) | (with_reducible exact hbz.trans (hb6.mono hbz.size))); (have hst := storeC_dev w6 #[.slice none 0 0, .slice none 0 0, .slice none 0 0, .bool false, .bool false, .int .i64 0] rfl _ _ _ _ _ _ (six_one (a := .slice d6 D2.dev.n dc6) (b := .slice q6 D2.dev.q qc6) (c := .slice b6 D2.dev.m bc6) (d := .bool D2.dev.dead) (e := .bool D2.dev.armed) (f := .int .i64 D2.dev.left) rfl rfl rfl rfl rfl rfl)); (try (with_reducible have Hrz := Lib.hid (Rowz.out _ hb6))); (try have hst2 := storeC_six Hrz.out (six_one (a := .slice d6 D2.dev.n dc6) (b := .slice q6 D2.dev.q qc6) (c := .slice b6 D2.dev.m bc6) (d := .bool D2.dev.dead) (e := .bool D2.dev.armed) (f := .int .i64 D2.dev.left) rfl rfl rfl rfl rfl rfl)); (try have Hbs := Lib.hid ((row_set6 Hrz.out (.slice d6 D2.dev.n dc6) (.slice q6 D2.dev.q qc6) (.slice b6 D2.dev.m bc6) (.bool D2.dev.dead) (.bool D2.dev.armed) (.int .i64 D2.dev.left)).2.below hbx hbx.size (Nat.le_refl _))); clear hdo6 hbv6 hd6 hb6; unfold devV))
        all_goals
          go_wp2_with fail
          go_meet
          case rel => first | (with_reducible exact modI_a HDo.out Hdo6.out HK5.out.ok Hbv6.out Hd6.out hbx) | exact modI_b HDo.out Hdo6.out HK5.out.ok Hbv6.out Hd6.out hbx hBw5 Hrz.out
      obtain ⟨p, dv7, qv7, bv7, f7, rfl, rfl, hbv7, hff, hrow7, hx7, hb7⟩ := hcut
      generalize wc = w7 at *
      obtain ⟨Y, hY⟩ : ∃ Y, D1.dev = Y := ⟨_, rfl⟩
      rw [hY] at hrow7 hx7
      have HY := Lib.hid hY
      obtain ⟨d7, dc7, rfl, -⟩ := hx7.data.slice
      obtain ⟨q7, qc7, rfl, -⟩ := hx7.queue.slice
      obtain ⟨b7, bc7, rfl, -⟩ := hx7.bad.slice
      obtain ⟨x5, cc5, rfl, -⟩ := HV5.out.slice
      obtain ⟨x7, cc7, rfl, -⟩ := hbv7.slice
      have HX7 := Lib.hid hx7
      have HR7 := Lib.hid hrow7
      have HK7 := Lib.hid (HK5.out.all hb7)
      have HQ7 := Lib.hid (HR5.out.all hb7)
      have HV7 := Lib.hid (HV5.out.all hb7)
      have HW7 := Lib.hid hbv7
      have hFF := Lib.hid (show strF n1 f7 = strF n1 f1 from strF_congr hff)
      have HB7 := Lib.hid (HB5.out.trans (hb7.mono (by have := HB5.out.size; omega)))
      clear hY hbv7 hff hrow7 hx7 hb7 HK5 HR5 HV5 HB5 HM HS5 HX5 Hd5 HDo
      go_wp2_with fail
      refine (State_any w7 HK7.out).mono ?_
      rintro e wb ⟨dvu, qvu, bvu, he, hd, hb⟩
      rw [HY.out] at he hd
      subst he
      obtain ⟨du, dcu, rfl, -⟩ := hd.data.slice
      obtain ⟨qu, qcu, rfl, -⟩ := hd.queue.slice
      obtain ⟨bu, bcu, rfl, -⟩ := hd.bad.slice
      have hst := storeC_dev wb #[.slice none 0 0, .slice none 0 0, .slice none 0 0, .bool false, .bool false, .int .i64 0] rfl _ _ _ _ _ _ (six_one (a := .slice du Y.n dcu) (b := .slice qu Y.q qcu) (c := .slice bu Y.m bcu) (d := .bool Y.dead) (e := .bool Y.armed) (f := .int .i64 Y.left) rfl rfl rfl rfl rfl rfl)
      have hr := row_six wb (.slice du Y.n dcu) (.slice qu Y.q qcu) (.slice bu Y.m bcu) (.bool Y.dead) (.bool Y.armed) (.int .i64 Y.left) 31
      have hbx := (Below.refl _ wb).alloc (Nat.le_refl _) (.cells #[.slice du Y.n dcu, .slice qu Y.q qcu, .slice bu Y.m bcu, .bool Y.dead, .bool Y.armed, .int .i64 Y.left] 31)
      have hb6 : Below w7.heap.size w7 (wb.alloc (.cells #[.slice du Y.n dcu, .slice qu Y.q qcu, .slice bu Y.m bcu, .bool Y.dead, .bool Y.armed, .int .i64 Y.left] 31)) := hb.trans (hbx.mono hb.size)
      have HDu := Lib.hid (hd.all hbx)
      have hzu := hb6.size
      have HX8 := Lib.hid (HX7.out.all hb6)
      have HR8 := Lib.hid (HR7.out.all hb6)
      have HK8 := Lib.hid (HK7.out.all hb6)
      have HQ8 := Lib.hid (HQ7.out.all hb6)
      have HV8 := Lib.hid (HV7.out.all hb6)
      have HW8 := Lib.hid (HW7.out.all hb6)
      have HB8 := Lib.hid (HB7.out.trans (hb6.mono (by have := HB7.out.size; omega)))
      clear hd hb hbx hb6
      unfold devV
      go_upto_region 14 with fail
      clear hst
      generalize wb.alloc (.cells #[.slice du Y.n dcu, .slice qu Y.q qcu, .slice bu Y.m bcu, .bool Y.dead, .bool Y.armed, .int .i64 Y.left] 31) = wd at *
      have HRu := Lib.hid hr
      clear hr
      clear HX7 HR7 HK7 HQ7 HV7 HW7 HB7
      obtain ⟨s, hs⟩ : ∃ s, strF n1 f1 = s := ⟨_, rfl⟩
      have Hs := Lib.hid hs
      clear hs
      obtain ⟨bD, hbD⟩ : ∃ bD, D1.dead = bD := ⟨_, rfl⟩
      have HbD := Lib.hid (And.intro hbD (show Y.dead = bD by rw [← HY.out]; exact hbD))
      obtain ⟨Q, hQ⟩ : ∃ Q, D1.q = Q := ⟨_, rfl⟩
      have HQq := Lib.hid (And.intro hQ (show Y.q = Q by rw [← HY.out]; exact hQ))
      obtain ⟨N, hN⟩ : ∃ N, D1.n = N := ⟨_, rfl⟩
      have HNn := Lib.hid (And.intro hN (show Y.n / 64 = N by rw [← HY.out, ← hN]; show D1.n * 64 / 64 = D1.n; omega))
      clear hbD hQ hN
      have HSame := Lib.hid (fun (W' : World) (hb : Below wd.heap.size wd W') => Same_yes W' (HDu.out.all hb) (HX8.out.all hb) (Dev.Same.rfl' Y))
      have HSize := Lib.hid (fun (W' : World) (hb : Below wd.heap.size wd W') => HNn.out.1 ▸ Size_any W' (HK8.out.all hb))
      have HSect := Lib.hid (fun (W' : World) (hb : Below wd.heap.size wd W') => HNn.out.2 ▸ Sectors_any W' (HX8.out.all hb))
      have HAlive := Lib.hid (fun (W' : World) (hb : Below wd.heap.size wd W') => HbD.out.1 ▸ Alive_any W' (HK8.out.all hb))
      have HQueued := Lib.hid (fun (W' : World) (hb : Below wd.heap.size wd W') => HQq.out.1 ▸ Queued_any W' (HK8.out.all hb))
      unfold devV at HSame HSect
      have HS14 := Lib.hid (fun (W' : World) (hb : Below wd.heap.size wd W') => show (convert 27 9 (.slice x5 n1 cc5)).run Try.prog W' = .ok (.string s) W' ∧ (convert 27 9 (.slice x7 n1 cc7)).run Try.prog W' = .ok (.string s) W' ∧ (loadCellsFrom ⟨wb.heap.size, 0, none⟩ 0 6 #[]).run Try.prog W' = .ok #[.slice du Y.n dcu, .slice qu Y.q qcu, .slice bu Y.m bcu, .bool Y.dead, .bool Y.armed, .int .i64 Y.left] W' ∧ (loadCellsFrom ⟨p, 0, none⟩ 0 6 #[]).run Try.prog W' = .ok #[.slice d7 Y.n dc7, .slice q7 Y.q qc7, .slice b7 Y.m bc7, .bool Y.dead, .bool Y.armed, .int .i64 Y.left] W' ∧ W'.cell? ⟨p, 3, none⟩ = some (.bool bD) ∧ W'.cell? ⟨p, 1, none⟩ = some (.slice q7 Q qc7) from
        ⟨Hs.out ▸ (HV8.out.all hb).str, Hs.out ▸ hFF.out ▸ (HW8.out.all hb).str, loadC_dev (HRu.out.all hb), loadC_dev (HR8.out.all hb), HbD.out.2 ▸ (HR8.out.all hb).cell (i := 3) (by omega), HQq.out.2 ▸ (HR8.out.all hb).cell (i := 1) (by omega)⟩)
      have hbx : Below wd.heap.size wd wd.drew := (Below.refl _ wd).drew
      rcases bool_cases bD with rfl | rfl
      · go_region_held (fun W' => (convert 27 9 (.slice x5 n1 cc5)).run Try.prog W' = .ok (.string s) W' ∧ (convert 27 9 (.slice x7 n1 cc7)).run Try.prog W' = .ok (.string s) W' ∧ (loadCellsFrom ⟨wb.heap.size, 0, none⟩ 0 6 #[]).run Try.prog W' = .ok #[.slice du Y.n dcu, .slice qu Y.q qcu, .slice bu Y.m bcu, .bool Y.dead, .bool Y.armed, .int .i64 Y.left] W' ∧ (loadCellsFrom ⟨p, 0, none⟩ 0 6 #[]).run Try.prog W' = .ok #[.slice d7 Y.n dc7, .slice q7 Y.q qc7, .slice b7 Y.m bc7, .bool Y.dead, .bool Y.armed, .int .i64 Y.left] W' ∧ W'.cell? ⟨p, 3, none⟩ = some (.bool false) ∧ W'.cell? ⟨p, 1, none⟩ = some (.slice q7 Q qc7))
          (first | (with_reducible exact HS14.out _ hbx))
          (first | (go_at_call 12; ((with_reducible refine (HSame.out _ hbx).mono ?_); rintro e w9 ⟨rfl, hb9⟩); (replace hbx := hbx.trans (hb9.mono hbx.size)); clear hb9) | (go_at_call 21; ((with_reducible refine (HSize.out _ hbx).mono ?_); rintro e w9 ⟨rfl, rfl⟩)) | (go_at_call 30; ((with_reducible refine (HSect.out _ hbx).mono ?_); rintro e w9 ⟨rfl, hb9⟩); (replace hbx := hbx.trans (hb9.mono hbx.size)); clear hb9) | (go_at_call 26; ((with_reducible refine (HAlive.out _ hbx).mono ?_); rintro e w9 ⟨rfl, rfl⟩)) | (go_at_call 27; ((with_reducible refine (HQueued.out _ hbx).mono ?_); rintro e w9 ⟨rfl, rfl⟩)))
        all_goals
          have hr2 := HQ8.out.all hbx
          have hs0 := storeC_six hr2 (six_one (a := .slice d7 Y.n dc7) (b := .slice q7 Y.q qc7) (c := .slice b7 Y.m bc7) (d := .bool Y.dead) (e := .bool Y.armed) (f := .int .i64 Y.left) rfl rfl rfl rfl rfl rfl)
          have hl2 := loadC_dev (HR8.out.all hbx)
          have HN := Lib.hid (match_next HY.out (HK8.out.all hbx) hr2 (HX8.out.all hbx) (HB8.out.trans (hbx.mono (by have := HB8.out.size; omega))) hB)
          clear hr2
          go_wp2_with fail
          go_roundw
          case rel => exact ⟨i + 1, by omega, by go_num, HN.out⟩
          case measure => simp [intOf]; omega
      · go_region_held (fun W' => (convert 27 9 (.slice x5 n1 cc5)).run Try.prog W' = .ok (.string s) W' ∧ (convert 27 9 (.slice x7 n1 cc7)).run Try.prog W' = .ok (.string s) W' ∧ (loadCellsFrom ⟨wb.heap.size, 0, none⟩ 0 6 #[]).run Try.prog W' = .ok #[.slice du Y.n dcu, .slice qu Y.q qcu, .slice bu Y.m bcu, .bool Y.dead, .bool Y.armed, .int .i64 Y.left] W' ∧ (loadCellsFrom ⟨p, 0, none⟩ 0 6 #[]).run Try.prog W' = .ok #[.slice d7 Y.n dc7, .slice q7 Y.q qc7, .slice b7 Y.m bc7, .bool Y.dead, .bool Y.armed, .int .i64 Y.left] W' ∧ W'.cell? ⟨p, 3, none⟩ = some (.bool true) ∧ W'.cell? ⟨p, 1, none⟩ = some (.slice q7 Q qc7))
          (first | (with_reducible exact HS14.out _ hbx))
          (first | (go_at_call 12; ((with_reducible refine (HSame.out _ hbx).mono ?_); rintro e w9 ⟨rfl, hb9⟩); (replace hbx := hbx.trans (hb9.mono hbx.size)); clear hb9) | (go_at_call 21; ((with_reducible refine (HSize.out _ hbx).mono ?_); rintro e w9 ⟨rfl, rfl⟩)) | (go_at_call 30; ((with_reducible refine (HSect.out _ hbx).mono ?_); rintro e w9 ⟨rfl, hb9⟩); (replace hbx := hbx.trans (hb9.mono hbx.size)); clear hb9) | (go_at_call 26; ((with_reducible refine (HAlive.out _ hbx).mono ?_); rintro e w9 ⟨rfl, rfl⟩)) | (go_at_call 27; ((with_reducible refine (HQueued.out _ hbx).mono ?_); rintro e w9 ⟨rfl, rfl⟩)))
        all_goals
          have hr2 := HQ8.out.all hbx
          have hs0 := storeC_six hr2 (six_one (a := .slice d7 Y.n dc7) (b := .slice q7 Y.q qc7) (c := .slice b7 Y.m bc7) (d := .bool Y.dead) (e := .bool Y.armed) (f := .int .i64 Y.left) rfl rfl rfl rfl rfl rfl)
          have hl2 := loadC_dev (HR8.out.all hbx)
          have HN := Lib.hid (match_next HY.out (HK8.out.all hbx) hr2 (HX8.out.all hbx) (HB8.out.trans (hbx.mono (by have := HB8.out.size; omega))) hB)
          clear hr2
          go_wp2_with fail
          go_roundw
          case rel => exact ⟨i + 1, by omega, by go_num, HN.out⟩
          case measure => simp [intOf]; omega
    · obtain rfl : m = i := by omega
      have hdlt : decide ((m : Int) < m) = false := decide_eq_false (by omega)
      go_wp2_with fail
      refine (sane_any wr).mono ?_
      rintro e w5 ⟨rfl, hb5⟩
      go_wp2_with fail
      go_ret
      exact ⟨rfl, HB.out.trans (hb5.mono HB.out.size)⟩

end Go.Proofs.Ytjhcaedfknhilaa

namespace Go.Proofs.Ytjhcaedfknhilaa
set_option linter.unusedVariables false
set_option linter.unusedSimpArgs false
open Go.ChangeShapes Go.WideShapes Go.ChangeAt Go.RowKit Go.Lib Go.Joins Go.Deep Go.WideElems Go.Maps

theorem u8_of_wf {m : Int} (hm : (Lit.int .u8 m).wf = true) : 0 ≤ m ∧ m < 256 := by
  simp [Lit.wf] at hm
  have h1 : IntKind.u8.min = 0 := rfl
  have h2 : IntKind.u8.max = 255 := rfl
  omega
theorem getD_all {P : Int → Prop} {zs : List Int} (h : ∀ n ∈ zs, P n) (h0 : P 0) (i : Nat) : P (zs.getD i 0) := by
  rw [List.getD_eq_getElem?_getD]
  rcases hg : zs[i]? with _ | m
  · exact h0
  · exact h m (List.mem_of_getElem? hg)

theorem struct_act : Try.prog.underlying 51 = some (.struct #[(Try.prog.fieldsOf 51)[0]!, (Try.prog.fieldsOf 51)[1]!, (Try.prog.fieldsOf 51)[2]!, (Try.prog.fieldsOf 51)[3]!, (Try.prog.fieldsOf 51)[4]!]) := by kernel_rfl
theorem types_act : ((Try.prog.fieldsOf 51)[0]!).type = 3 ∧ ((Try.prog.fieldsOf 51)[1]!).type = 3 ∧ ((Try.prog.fieldsOf 51)[2]!).type = 3 ∧ ((Try.prog.fieldsOf 51)[3]!).type = 27 ∧ ((Try.prog.fieldsOf 51)[4]!).type = 29 := ⟨by kernel_rfl, by kernel_rfl, by kernel_rfl, by kernel_rfl, by kernel_rfl⟩
theorem oneF_act : oneCellFields Try.prog #[(Try.prog.fieldsOf 51)[0]!, (Try.prog.fieldsOf 51)[1]!, (Try.prog.fieldsOf 51)[2]!, (Try.prog.fieldsOf 51)[3]!, (Try.prog.fieldsOf 51)[4]!] = true := by kernel_rfl
theorem cells_act : Try.prog.cellsOf 51 = 5 := by kernel_rfl
theorem struct_put : Try.prog.underlying 62 = some (.struct #[(Try.prog.fieldsOf 62)[0]!, (Try.prog.fieldsOf 62)[1]!]) := by kernel_rfl
theorem types_put : ((Try.prog.fieldsOf 62)[0]!).type = 3 ∧ ((Try.prog.fieldsOf 62)[1]!).type = 27 := ⟨by kernel_rfl, by kernel_rfl⟩
theorem oneF_put : oneCellFields Try.prog #[(Try.prog.fieldsOf 62)[0]!, (Try.prog.fieldsOf 62)[1]!] = true := by kernel_rfl
theorem cells_put : Try.prog.cellsOf 62 = 2 := by kernel_rfl
theorem struct_dev : Try.prog.underlying 31 = some (.struct #[(Try.prog.fieldsOf 31)[0]!, (Try.prog.fieldsOf 31)[1]!, (Try.prog.fieldsOf 31)[2]!, (Try.prog.fieldsOf 31)[3]!, (Try.prog.fieldsOf 31)[4]!, (Try.prog.fieldsOf 31)[5]!]) := by kernel_rfl
theorem types_dev : ((Try.prog.fieldsOf 31)[0]!).type = 27 ∧ ((Try.prog.fieldsOf 31)[1]!).type = 28 ∧ ((Try.prog.fieldsOf 31)[2]!).type = 29 ∧ ((Try.prog.fieldsOf 31)[3]!).type = 4 ∧ ((Try.prog.fieldsOf 31)[4]!).type = 4 ∧ ((Try.prog.fieldsOf 31)[5]!).type = 3 := ⟨by kernel_rfl, by kernel_rfl, by kernel_rfl, by kernel_rfl, by kernel_rfl, by kernel_rfl⟩
theorem oneF_dev : oneCellFields Try.prog #[(Try.prog.fieldsOf 31)[0]!, (Try.prog.fieldsOf 31)[1]!, (Try.prog.fieldsOf 31)[2]!, (Try.prog.fieldsOf 31)[3]!, (Try.prog.fieldsOf 31)[4]!, (Try.prog.fieldsOf 31)[5]!] = true := by kernel_rfl
theorem cells_dev : Try.prog.cellsOf 31 = 6 := by kernel_rfl
theorem list5 {α : Type} {l : List α} (h : l.length = 5) : ∃ v0 v1 v2 v3 v4, l = [v0, v1, v2, v3, v4] := by
  rcases l with _ | ⟨a, _ | ⟨b, _ | ⟨c, _ | ⟨d, _ | ⟨e, _ | ⟨f, l⟩⟩⟩⟩⟩⟩ <;> simp at h
  exact ⟨a, b, c, d, e, rfl⟩
theorem list6 {α : Type} {l : List α} (h : l.length = 6) : ∃ v0 v1 v2 v3 v4 v5, l = [v0, v1, v2, v3, v4, v5] := by
  rcases l with _ | ⟨a, _ | ⟨b, _ | ⟨c, _ | ⟨d, _ | ⟨e, _ | ⟨f, _ | ⟨g, l⟩⟩⟩⟩⟩⟩⟩ <;> simp at h
  exact ⟨a, b, c, d, e, f, rfl⟩
theorem list2 {α : Type} {l : List α} (h : l.length = 2) : ∃ v0 v1, l = [v0, v1] := by
  rcases l with _ | ⟨a, _ | ⟨b, _ | ⟨c, l⟩⟩⟩ <;> simp at h
  exact ⟨a, b, rfl⟩
theorem agg_open {P : Program} {W : World} {r : Reach} {b0 : Nat} {t : TypeId} {fs : Array Field} {v : Value} (hs : P.underlying t = some (.struct fs)) (hv : Value.okWide P W r b0 t v) : ∃ cs, v = .agg cs := by
  obtain ⟨cs, h, _⟩ := okWide_struct hs hv
  exact ⟨cs, h⟩
section
variable {H : Type} {enc : TypeId × Value → H} {W : World} {base : Nat} {held : Bool}

/-- A list of bytes. -/
theorem bytes_open {fuel : Nat} {v : Value} {y : DataW H × List MemPlace} (h : DataW.trod enc Try.prog W base (fun _ => true) held fuel 27 [v] = some y) : ∃ n f, BArg W.heap.size W v n f := by
  rcases open_ints Try.underlying27 Try.underlying5 (by kernel_rfl) h with ⟨hcs, _⟩ | ⟨x, l, c, zs, hcs, _, hl, hm, hz, _, hcell, hwz⟩
  · simp only [List.cons.injEq, and_true] at hcs
    subst hcs
    exact ⟨0, fun _ => 0, fun _ => z1, .inl ⟨rfl, _, _, rfl⟩⟩
  · simp only [List.cons.injEq, and_true] at hcs
    subst hcs
    have hz' : zs.length = c := by simpa using hz
    refine ⟨l, fun i => zs.getD i 0, fun i => getD_all (P := fun m => 0 ≤ m ∧ m < 256) (fun m hm => u8_of_wf (hwz m hm)) (by decide) i, ?_⟩
    by_cases h0 : l = 0
    · subst h0
      exact .inl ⟨rfl, _, _, rfl⟩
    · obtain ⟨b, off, spot⟩ := x
      have hc := hcell 0 (by omega)
      have hspot : spot = none := by simpa [Addr.add] using World.cell?_spot hc
      subst hspot
      have hcells : Cells W b off l (byteF fun i => zs.getD i 0) := fun i hi => by
        have := hcell i (by omega)
        by_cases hi0 : i = 0
        · subst hi0; simpa [Addr.add, byteF] using this
        · simpa [Addr.add, hi0, byteF] using this
      exact .inr ⟨b, off, c, rfl, by omega, hl, hm, hcells, .inl (World.block_lt_of_cell? W ⟨b, off + 0, none⟩ (hcells 0 (by omega)))⟩
/-- A list of numbers. -/
theorem ints_open {fuel : Nat} {v : Value} {y : DataW H × List MemPlace} (h : DataW.trod enc Try.prog W base (fun _ => true) held fuel 29 [v] = some y) : ∃ n f, NArg W.heap.size W v n f := by
  rcases open_ints Try.underlying29 Try.underlying3 (by kernel_rfl) h with ⟨hcs, _⟩ | ⟨x, l, c, zs, hcs, _, hl, hm, hz, _, hcell, hwz⟩
  · simp only [List.cons.injEq, and_true] at hcs
    subst hcs
    exact ⟨0, fun _ => 0, fun _ => z0, .inl ⟨rfl, _, _, rfl⟩⟩
  · simp only [List.cons.injEq, and_true] at hcs
    subst hcs
    have hz' : zs.length = c := by simpa using hz
    refine ⟨l, fun i => zs.getD i 0, fun i => getD_all (P := fun m => -9223372036854775808 ≤ m ∧ m ≤ 9223372036854775807) (fun m hm => i64_of_wf (hwz m hm)) (by decide) i, ?_⟩
    by_cases h0 : l = 0
    · subst h0
      exact .inl ⟨rfl, _, _, rfl⟩
    · obtain ⟨b, off, spot⟩ := x
      have hc := hcell 0 (by omega)
      have hspot : spot = none := by simpa [Addr.add] using World.cell?_spot hc
      subst hspot
      have hcells : Cells W b off l (intsV fun i => zs.getD i 0) := fun i hi => by
        have := hcell i (by omega)
        by_cases hi0 : i = 0
        · subst hi0; simpa [Addr.add, intsV] using this
        · simpa [Addr.add, hi0, intsV] using this
      exact .inr ⟨b, off, c, rfl, by omega, hl, hm, hcells, .inl (World.block_lt_of_cell? W ⟨b, off + 0, none⟩ (hcells 0 (by omega)))⟩
theorem int_open {fuel : Nat} {v : Value} {y : DataW H × List MemPlace} (h : DataW.trod enc Try.prog W base (fun _ => true) held fuel 3 [v] = some y) : ∃ n, v = .int .i64 n ∧ -9223372036854775808 ≤ n ∧ n ≤ 9223372036854775807 := by
  obtain ⟨K, hK, _, hw⟩ := DataW.trod_int Try.underlying3 h
  simp only [List.cons.injEq, and_true] at hK
  exact ⟨K, hK, i64_of_wf hw⟩

theorem drop_take_one {α : Type} {l : List α} {i : Nat} {v : α} (h : l[i]? = some v) : (l.drop i).take 1 = [v] := by
  apply List.ext_getElem?
  intro j
  rw [List.getElem?_take, List.getElem?_drop]
  by_cases hj : j < 1
  · obtain rfl : j = 0 := by omega
    rw [if_pos hj, Nat.add_zero, h]
    rfl
  · rw [if_neg hj]
    exact (List.getElem?_eq_none (by show 1 ≤ j; omega)).symm
/-- The fields of a struct of cells. -/
theorem fields_open {P : Program} {t : TypeId} {fs : Array Field} {fuel : Nat} {cs : List Value} {x : DataW H × List MemPlace} {spare : Nat → Bool} (hs : P.underlying t = some (.struct fs)) (hone : oneCellFields P fs = true) (h : DataW.trod enc P W base spare held fuel t cs = some x) :
    cs.length = P.cellsOf t ∧ ∃ n, ∀ (i : Nat) (f : Field) (v : Value), fs[i]? = some f → cs[i]? = some v → ∃ y, DataW.trod enc P W base spare held n f.type [v] = some y := by
  obtain ⟨xs, n, _, _, hl, hlen, hf⟩ := DataW.trod_struct hs h
  refine ⟨hl, n, fun i f v hi hv => ?_⟩
  have h1 := hf i f hi
  obtain ⟨o, k⟩ := hone_of hone i f hi
  have hlt : i < fs.size := (Array.getElem?_eq_some_iff.1 hi).1
  rw [o, k, drop_take_one hv] at h1
  exact ⟨xs[i]'(by omega), by rw [h1]; exact List.getElem?_eq_getElem (by omega)⟩
/-- The cells of an act. -/
theorem deed_open {fuel : Nat} {cs : List Value} {y : DataW H × List MemPlace} (h : DataW.trod enc Try.prog W base (fun _ => true) held fuel 51 cs = some y) :
    ∃ A bv kv, cs = [.int .i64 A.kind, .int .i64 A.at', .int .i64 A.many, bv, kv] ∧ DeedAt W.heap.size W bv kv A := by
  obtain ⟨hl, n, hf⟩ := fields_open struct_act oneF_act h
  obtain ⟨v0, v1, v2, v3, v4, rfl⟩ := list5 (hl.trans cells_act)
  obtain ⟨y0, h0⟩ := hf 0 ((Try.prog.fieldsOf 51)[0]!) v0 rfl rfl
  obtain ⟨y1, h1⟩ := hf 1 ((Try.prog.fieldsOf 51)[1]!) v1 rfl rfl
  obtain ⟨y2, h2⟩ := hf 2 ((Try.prog.fieldsOf 51)[2]!) v2 rfl rfl
  obtain ⟨y3, h3⟩ := hf 3 ((Try.prog.fieldsOf 51)[3]!) v3 rfl rfl
  obtain ⟨y4, h4⟩ := hf 4 ((Try.prog.fieldsOf 51)[4]!) v4 rfl rfl
  rw [types_act.1] at h0
  rw [types_act.2.1] at h1
  rw [types_act.2.2.1] at h2
  rw [types_act.2.2.2.1] at h3
  rw [types_act.2.2.2.2] at h4
  obtain ⟨a0, rfl, r0⟩ := int_open h0
  obtain ⟨a1, rfl, r1⟩ := int_open h1
  obtain ⟨a2, rfl, r2⟩ := int_open h2
  obtain ⟨n3, f3, b3⟩ := bytes_open h3
  obtain ⟨n4, f4, b4⟩ := ints_open h4
  exact ⟨⟨a0, a1, a2, n3, f3, n4, f4⟩, v3, v4, rfl, r0, r1, r2, b3, b4⟩
set_option maxRecDepth 100000 in
theorem open_deed {r : Reach} {b0 : Nat} {v : Value} {d : DataW H} {p : List MemPlace} (hv : Value.okWide Try.prog W r b0 51 v) (h : DataW.Trod enc Try.prog W base (fun _ => true) held 51 v d p) :
    ∃ A bv kv, v = deedV bv kv A ∧ DeedAt W.heap.size W bv kv A := by
  obtain ⟨cs, rfl⟩ := agg_open (P := Try.prog) (W := W) (r := r) (b0 := b0) (v := v) struct_act hv
  obtain ⟨fuel, hf⟩ := h
  obtain ⟨A, bv, kv, hcs, hd⟩ := deed_open hf
  refine ⟨A, bv, kv, ?_, hd⟩
  have hcs' : cs.toList = [.int .i64 A.kind, .int .i64 A.at', .int .i64 A.many, bv, kv] := hcs
  unfold deedV
  rw [← Array.toArray_toList (xs := cs), hcs']
end

end Go.Proofs.Ytjhcaedfknhilaa
