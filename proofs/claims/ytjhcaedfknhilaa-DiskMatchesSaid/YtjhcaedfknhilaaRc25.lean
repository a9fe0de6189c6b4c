/- DiskCopies. -/
import Derived.Test.YtjhcaedfknhilaaRc18
namespace Go.Proofs.Ytjhcaedfknhilaa
set_option linter.unusedVariables false
set_option linter.unusedSimpArgs false
open Go.RowKit
attribute [local go_sem ↓] Go.wp_at_zero Go.wp_at_succ
attribute [-go_sem] loadCellsFrom storeCells
attribute [local go_sem] storeCells_one

theorem Dsk.Eqv.trans {D E F : Dsk} (h : D.Eqv E) (h' : E.Eqv F) : D.Eqv F :=
  ⟨h'.n.trans h.n, fun i j h1 h2 => (h'.sec i j (h.n ▸ h1) h2).trans (h.sec i j h1 h2), fun i h1 => (h'.bad i (h.n ▸ h1)).trans (h.bad i h1), h'.q.trans h.q, fun i h1 => (h'.qa i (h.q ▸ h1)).trans (h.qa i h1), fun i j h1 h2 => (h'.qb i j (h.q ▸ h1) h2).trans (h.qb i j h1 h2), h'.dead.trans h.dead, h'.armed.trans h.armed, h'.left.trans h.left⟩
/-- Copy, in one form. -/
theorem copy_one {B g gs gb : Nat} {qv : Value} {D : Dsk} (w : World) (h : DiskIn B g gs gb qv D w) :
    Calls Try.prog 25 #[.pointer (some ⟨g, 0, none⟩)] w fun e w' => ∃ g' gs' gb' qv' E, e = .returned (.pointer (some ⟨g', 0, none⟩)) ∧ D.Eqv E ∧ DiskIn w.heap.size g' gs' gb' qv' E w' ∧ Below w.heap.size w w' :=
  (Copy_any w h).mono fun _ _ ⟨g', gs', gb', qv', cs, cb, he, hd, hb⟩ => ⟨g', gs', gb', qv', _, he, (⟨rfl, fun _ _ _ _ => rfl, fun _ _ => rfl, rfl, fun _ _ => rfl, fun _ _ _ _ => rfl, rfl, rfl, rfl⟩ : D.Eqv { D with cs := cs, cb := cb }), hd, hb⟩
/-- What stands at the head of a round of acts. -/
def ActsI (B g : Nat) (D : Dsk) (A : Nat → Deed) (w : World) (i : Nat) (wr : World) : Prop := ∃ gs gb qv E, Runs D A i E ∧ DiskIn B g gs gb qv E wr ∧ Below B w wr ∧ Calm w wr

set_option maxRecDepth 100000 in
set_option maxHeartbeats 8000000 in
theorem DiskCopies_any {B : Nat} {dv qv bv v kv : Value} {X : Dev} {m n : Nat} {A A2 : Nat → Deed} (w : World) (h : DevAt B w dv qv bv X) (hl : DList B w v m A) (hk : DList B w kv n A2) (hB : B ≤ w.heap.size) :
    Calls Try.prog 8 #[devV dv qv bv X, v, kv] w fun e w' => e = .returned (.bool true) ∧ Below w.heap.size w w' := by
  obtain ⟨dx, dc, rfl, -⟩ := h.data.slice
  obtain ⟨qx, qc, rfl, -⟩ := h.queue.slice
  obtain ⟨bx, bc, rfl, -⟩ := h.bad.slice
  obtain ⟨vx, vc, rfl, -⟩ := hl.slice
  obtain ⟨kx, kc, rfl, -⟩ := hk.slice
  have hr := row_six w (.slice dx X.n dc) (.slice qx X.q qc) (.slice bx X.m bc) (.bool X.dead) (.bool X.armed) (.int .i64 X.left) 31
  have hbl := (Below.refl _ w).alloc (Nat.le_refl w.heap.size) (.cells #[.slice dx X.n dc, .slice qx X.q qc, .slice bx X.m bc, .bool X.dead, .bool X.armed, .int .i64 X.left] 31)
  have HD := Lib.hid (h.all hbl)
  have HA := Lib.hid (hl.all hbl)
  have HK := Lib.hid (hk.all hbl)
  have HB := Lib.hid hbl
  have HR := Lib.hid hr
  have hB2 := Nat.le_trans hB hbl.size
  have hload := loadC_dev hr
  clear h hl hk hbl hr
  unfold devV
  go_enter Try.func8, Try.ntmps8
  go_upto_region 1 with fail
  generalize w.alloc (.cells #[.slice dx X.n dc, .slice qx X.q qc, .slice bx X.m bc, .bool X.dead, .bool X.armed, .int .i64 X.left] 31) = W at *
  go_wp2_with fail
  refine (few_any W HD.out).mono ?_
  rintro e w2 ⟨⟨b, rfl, -⟩, hb⟩
  have HD2 := Lib.hid (HD.out.all hb)
  have HA2 := Lib.hid (HA.out.all hb)
  have HK2 := Lib.hid (HK.out.all hb)
  have HR2 := Lib.hid (HR.out.all hb)
  have HB2 := Lib.hid (HB.out.trans (hb.mono HB.out.size))
  have hB3 := Nat.le_trans hB2 hb.size
  clear hload hb HD HA HK HR HB hB2
  rcases bool_cases b with rfl | rfl
  · go_wp2_with fail
    refine (sane_any w2).mono ?_
    rintro e w3 ⟨rfl, hb⟩
    go_wp2_with fail
    go_ret
    exact ⟨rfl, HB2.out.trans (hb.mono HB2.out.size)⟩
  go_wp2_with fail
  refine (short_any w2 HA2.out).mono ?_
  rintro e w2' ⟨⟨b, rfl, hsh⟩, rfl⟩
  rcases bool_cases b with rfl | rfl
  · go_wp2_with fail
    refine (sane_any w2).mono ?_
    rintro e w3 ⟨rfl, hb⟩
    go_wp2_with fail
    go_ret
    exact ⟨rfl, HB2.out.trans (hb.mono HB2.out.size)⟩
  have HS := Lib.hid (hsh.1 rfl)
  clear hsh
  go_wp2_with fail
  refine (short_any w2 HK2.out).mono ?_
  rintro e w2' ⟨⟨b, rfl, hsh⟩, rfl⟩
  rcases bool_cases b with rfl | rfl
  · go_wp2_with fail
    refine (sane_any w2).mono ?_
    rintro e w3 ⟨rfl, hb⟩
    go_wp2_with fail
    go_ret
    exact ⟨rfl, HB2.out.trans (hb.mono HB2.out.size)⟩
  have HS2 := Lib.hid (hsh.1 rfl)
  have hload := loadC_dev HR2.out
  clear hsh
  go_wp2_with fail
  refine (Right_any w2 HD2.out).mono ?_
  rintro e w3 ⟨⟨b, rfl, hright⟩, hb⟩
  have HD3 := Lib.hid (HD2.out.all hb)
  have HA3 := Lib.hid (HA2.out.all hb)
  have HK3 := Lib.hid (HK2.out.all hb)
  have HR3 := Lib.hid (HR2.out.all hb)
  have HB3 := Lib.hid (HB2.out.trans (hb.mono HB2.out.size))
  have hB4 := Nat.le_trans hB3 hb.size
  clear hload hb HD2 HA2 HK2 HR2 HB2 hB3
  rcases bool_cases b with rfl | rfl
  · go_wp2_with fail
    refine (sane_any w3).mono ?_
    rintro e w4 ⟨rfl, hb⟩
    go_wp2_with fail
    go_ret
    exact ⟨rfl, HB3.out.trans (hb.mono HB3.out.size)⟩
  have HX := Lib.hid (hright.1 rfl)
  clear hright
  have hload := loadC_dev HR3.out
  go_wp2_with fail
  refine (played_any w3 HD3.out HA3.out hB4 HX.out HS.out).mono ?_
  rintro e w4 ⟨g, gs, gb, qv4, D, rfl, hrun, hd, hb⟩
  have hs4 := hb.size
  have HG := Lib.hid (And.intro (runs_good (right_good HX.out) hrun) hd.ok)
  have H4 := Lib.hid hd
  have HK4 := Lib.hid (HK3.out.all hb)
  have HB4 := Lib.hid (HB3.out.trans (hb.mono HB3.out.size))
  have hk40 := HS2.out.2
  have hB5 := Nat.le_trans hB4 hs4
  clear hload hd hb hrun HD3 HA3 HR3 HK3 HS HX
  go_wp2_with fail
  refine (copy_one w4 H4.out).mono ?_
  rintro e w5 ⟨gc, gsc, gbc, qvc, C, rfl, heq, hd, hb⟩
  have HEq := Lib.hid heq
  have HC5 := Lib.hid hd
  have HW5 := Lib.hid hb
  have hs5 := hb.size
  clear hd hb heq
  obtain ⟨Y, hY⟩ : ∃ Y, D.dev = Y := ⟨_, rfl⟩
  have HY := Lib.hid hY
  clear hY
  obtain ⟨Z, hZ⟩ : ∃ Z, C.dev = Z := ⟨_, rfl⟩
  have HZ := Lib.hid hZ
  clear hZ
  have HYZ := Lib.hid (show Y.Same Z by rw [← HY.out, ← HZ.out]; exact eqv_dev HEq.out)
  have HH5 := Lib.hid (H4.out.all HW5.out)
  go_wp2_with fail
  refine (State_any w5 HH5.out).mono ?_
  rintro e w6 ⟨dv7, qv7, bv7, he, hd, hb⟩
  rw [HY.out] at he hd
  subst he
  obtain ⟨d7, dc7, rfl, -⟩ := hd.data.slice
  obtain ⟨q7, qc7, rfl, -⟩ := hd.queue.slice
  obtain ⟨b7, bc7, rfl, -⟩ := hd.bad.slice
  have hst := storeC_dev w6 #[.slice none 0 0, .slice none 0 0, .slice none 0 0, .bool false, .bool false, .int .i64 0] rfl _ _ _ _ _ _ (six_one (a := .slice d7 Y.n dc7) (b := .slice q7 Y.q qc7) (c := .slice b7 Y.m bc7) (d := .bool Y.dead) (e := .bool Y.armed) (f := .int .i64 Y.left) rfl rfl rfl rfl rfl rfl)
  have hr := row_six w6 (.slice d7 Y.n dc7) (.slice q7 Y.q qc7) (.slice b7 Y.m bc7) (.bool Y.dead) (.bool Y.armed) (.int .i64 Y.left) 31
  have hbx := (Below.refl _ w6).alloc (Nat.le_refl _) (.cells #[.slice d7 Y.n dc7, .slice q7 Y.q qc7, .slice b7 Y.m bc7, .bool Y.dead, .bool Y.armed, .int .i64 Y.left] 31)
  have hb6 : Below w5.heap.size w5 (w6.alloc (.cells #[.slice d7 Y.n dc7, .slice q7 Y.q qc7, .slice b7 Y.m bc7, .bool Y.dead, .bool Y.armed, .int .i64 Y.left] 31)) := hb.trans (hbx.mono hb.size)
  have HD7 := Lib.hid (hd.all hbx)
  have hz7 := hb6.size
  have HC7 := Lib.hid (HC5.out.all hb6)
  have HW7 := Lib.hid (HW5.out.trans (hb6.mono HW5.out.size))
  clear hd hb hbx hb6
  unfold devV
  go_upto_region 8 with fail
  clear hst
  generalize w6.alloc (.cells #[.slice d7 Y.n dc7, .slice q7 Y.q qc7, .slice b7 Y.m bc7, .bool Y.dead, .bool Y.armed, .int .i64 Y.left] 31) = w7 at *
  have HR7 := Lib.hid hr
  clear hr
  clear HC5 HW5 HH5
  go_wp2_with fail
  refine (State_any w7 HC7.out).mono ?_
  rintro e w8 ⟨dv9, qv9, bv9, he, hd, hb⟩
  rw [HZ.out] at he hd
  subst he
  obtain ⟨d9, dc9, rfl, -⟩ := hd.data.slice
  obtain ⟨q9, qc9, rfl, -⟩ := hd.queue.slice
  obtain ⟨b9, bc9, rfl, -⟩ := hd.bad.slice
  have hst := storeC_dev w8 #[.slice none 0 0, .slice none 0 0, .slice none 0 0, .bool false, .bool false, .int .i64 0] rfl _ _ _ _ _ _ (six_one (a := .slice d9 Z.n dc9) (b := .slice q9 Z.q qc9) (c := .slice b9 Z.m bc9) (d := .bool Z.dead) (e := .bool Z.armed) (f := .int .i64 Z.left) rfl rfl rfl rfl rfl rfl)
  have hr := row_six w8 (.slice d9 Z.n dc9) (.slice q9 Z.q qc9) (.slice b9 Z.m bc9) (.bool Z.dead) (.bool Z.armed) (.int .i64 Z.left) 31
  have hbx := (Below.refl _ w8).alloc (Nat.le_refl _) (.cells #[.slice d9 Z.n dc9, .slice q9 Z.q qc9, .slice b9 Z.m bc9, .bool Z.dead, .bool Z.armed, .int .i64 Z.left] 31)
  have hb6 : Below w7.heap.size w7 (w8.alloc (.cells #[.slice d9 Z.n dc9, .slice q9 Z.q qc9, .slice b9 Z.m bc9, .bool Z.dead, .bool Z.armed, .int .i64 Z.left] 31)) := hb.trans (hbx.mono hb.size)
  have HD9 := Lib.hid (hd.all hbx)
  have hz9 := hb6.size
  have HC9 := Lib.hid (HC7.out.all hb6)
  have HW9 := Lib.hid (HW7.out.trans (hb6.mono HW7.out.size))
  have HDs9 := Lib.hid (HD7.out.all hb6)
  have HRs9 := Lib.hid (HR7.out.all hb6)
  clear hd hb hbx hb6
  unfold devV
  go_upto_region 9 with fail
  clear hst
  generalize w8.alloc (.cells #[.slice d9 Z.n dc9, .slice q9 Z.q qc9, .slice b9 Z.m bc9, .bool Z.dead, .bool Z.armed, .int .i64 Z.left] 31) = w9 at *
  have HR9 := Lib.hid hr
  clear hr
  clear HC7 HW7 HD7 HR7
  have hl1 := loadC_dev HRs9.out
  have hl2 := loadC_dev HR9.out
  go_wp2_with fail
  refine (Same_yes w9 HDs9.out HD9.out HYZ.out).mono ?_
  rintro e wa ⟨rfl, hb⟩
  have hsa := hb.size
  have HCa := Lib.hid (HC9.out.all hb)
  have HWa := Lib.hid (HW9.out.trans (hb.mono HW9.out.size))
  have HDa := Lib.hid (HDs9.out.all hb)
  have HRa := Lib.hid (HRs9.out.all hb)
  clear hl1 hl2 hb HC9 HW9 HDs9 HRs9 HD9 HR9
  go_wp2_with fail
  go_loopw [13] (fun t wr => ∃ i : Nat, i ≤ n ∧ t = .int .i64 i ∧ ActsI w4.heap.size gc C A2 wa i wr) (fun t _ => n - (intOf t).toNat)
  case atStart => exact ⟨0, by omega, by go_num, _, _, _, C, rfl, HCa.out, Below.refl _ _, Calm.refl _⟩
  case round =>
    obtain ⟨i, hi, rfl, gsr, gbr, qvr, E, hrun, hd, hb, hcalm⟩ := hrel
    have HE := Lib.hid hrun
    have HDr := Lib.hid hd
    have HBr := Lib.hid hb
    have HCr := Lib.hid hcalm
    have hsr := hcalm.1
    clear hrun hd hb hcalm
    by_cases hlt : i < n
    · have hdlt : decide ((i : Int) < n) = true := decide_eq_true (by omega)
      obtain ⟨b, off, c, ub, uk, e1, d0, d1, d2, d3, d4, hdeed⟩ := (HK4.out.all (HWa.out.trans (HBr.out.mono (Nat.le_refl _)))).elem hlt
      cases e1
      have hld := loadC_5 d0 d1 d2 d3 d4
      have Hd := Lib.hid (hdeed.mono hB5)
      have hk := (HS2.out.1 i hlt).2
      clear d0 d1 d2 d3 d4 hdeed
      go_wp2_with fail
      refine (act_any wr HDr.out Hd.out (by omega)).mono ?_
      rintro e wy ⟨v3, c3, rfl, D', n', f', gs2, gb2, qv2, hdo, -, hd, hb, hcalm⟩
      have HN := Lib.hid (show ActsI w4.heap.size gc C A2 wa (i + 1) wy from ⟨gs2, gb2, qv2, D', ⟨E, c3, n', f', HE.out, hdo⟩, hd, HBr.out.trans hb, HCr.out.trans hcalm⟩)
      clear hld hdo hd hb hcalm
      go_wp2_with fail
      go_roundw
      case rel => exact ⟨i + 1, by omega, by go_num, HN.out⟩
      case measure => simp [intOf]; omega
    · obtain rfl : n = i := by omega
      have hdlt : decide ((n : Int) < n) = false := decide_eq_false (by omega)
      have HWr := Lib.hid (HWa.out.trans HBr.out)
      have HHr := Lib.hid (H4.out.all HWr.out)
      have HDsr := Lib.hid (HDa.out.keep (keeps_calm (HBr.out.mono hs4) HCr.out))
      have HRr := Lib.hid (RowAt.calm HRa.out HCr.out rfl)
      clear HCr HBr HWa HDa HRa HCa
      go_wp2_with fail
      refine (State_any wr HHr.out).mono ?_
      rintro e wb ⟨dvu, qvu, bvu, he, hd, hb⟩
      rw [HY.out] at he hd
      subst he
      obtain ⟨du, dcu, rfl, -⟩ := hd.data.slice
      obtain ⟨qu, qcu, rfl, -⟩ := hd.queue.slice
      obtain ⟨bu, bcu, rfl, -⟩ := hd.bad.slice
      have hst := storeC_dev wb #[.slice none 0 0, .slice none 0 0, .slice none 0 0, .bool false, .bool false, .int .i64 0] rfl _ _ _ _ _ _ (six_one (a := .slice du Y.n dcu) (b := .slice qu Y.q qcu) (c := .slice bu Y.m bcu) (d := .bool Y.dead) (e := .bool Y.armed) (f := .int .i64 Y.left) rfl rfl rfl rfl rfl rfl)
      have hr := row_six wb (.slice du Y.n dcu) (.slice qu Y.q qcu) (.slice bu Y.m bcu) (.bool Y.dead) (.bool Y.armed) (.int .i64 Y.left) 31
      have hbx := (Below.refl _ wb).alloc (Nat.le_refl _) (.cells #[.slice du Y.n dcu, .slice qu Y.q qcu, .slice bu Y.m bcu, .bool Y.dead, .bool Y.armed, .int .i64 Y.left] 31)
      have hb6 : Below wr.heap.size wr (wb.alloc (.cells #[.slice du Y.n dcu, .slice qu Y.q qcu, .slice bu Y.m bcu, .bool Y.dead, .bool Y.armed, .int .i64 Y.left] 31)) := hb.trans (hbx.mono hb.size)
      have HDu := Lib.hid (hd.all hbx)
      have hzu := hb6.size
      have HCc := Lib.hid (HDr.out.all hb6)
      have HWc := Lib.hid (HWr.out.trans (hb6.mono HWr.out.size))
      have HDc := Lib.hid (HDsr.out.all hb6)
      have HRc := Lib.hid (HRr.out.all hb6)
      clear hd hb hbx hb6
      unfold devV
      go_upto_region 16 with fail
      clear hst
      generalize wb.alloc (.cells #[.slice du Y.n dcu, .slice qu Y.q qcu, .slice bu Y.m bcu, .bool Y.dead, .bool Y.armed, .int .i64 Y.left] 31) = wc at *
      have HRu := Lib.hid hr
      clear hr
      clear HDr HWr HDsr HRr HHr
      have hl1 := loadC_dev HRc.out
      go_wp2_with fail
      refine (Load_any wc HDc.out (by have := HWc.out.size; omega)).mono ?_
      rintro e wd (⟨hno, -⟩ | ⟨-, go, gso, gbo, uvo, rfl, hd, hb⟩)
      · exact absurd (by rw [← HY.out]; exact dev_right HG.out.2 HG.out.1) hno
      have HOd := Lib.hid hd
      have HCd := Lib.hid (HCc.out.all hb)
      have HWd := Lib.hid (HWc.out.trans (hb.mono HWc.out.size))
      have HDd := Lib.hid (HDc.out.all hb)
      have HRd := Lib.hid (HRc.out.all hb)
      have HDu2 := Lib.hid (HDu.out.all hb)
      have HRu2 := Lib.hid (HRu.out.all hb)
      have hsd := hb.size
      have HLd := Lib.hid hb
      clear hd hb hl1 HWc HDc HRc HDu HRu
      have hl1 := loadC_dev HRd.out
      have hl2 := loadC_dev HRu2.out
      go_wp2_with fail
      refine (Same_yes wd HDd.out HDu2.out (Dev.Same.rfl' Y)).mono ?_
      rintro e we ⟨rfl, hb⟩
      have HOe := Lib.hid (HOd.out.all hb)
      have HCe := Lib.hid (HCd.out.all hb)
      have HWe := Lib.hid (HWd.out.trans (hb.mono HWd.out.size))
      have HLe := Lib.hid (HLd.out.trans (hb.mono HLd.out.size))
      have hse := hb.size
      clear hb hl1 hl2 HOd HCd HWd HDd HRd HDu2 HRu2 HLd
      have hcz := HCe.out.le
      obtain ⟨O, hO⟩ : ∃ O, Y.dsk = O := ⟨_, rfl⟩
      have HO := Lib.hid hO
      have HOe2 := Lib.hid (show DiskIn wc.heap.size go gso gbo uvo O we by rw [← hO]; exact HOe.out)
      clear hO HOe
      obtain ⟨wf, hwf⟩ : ∃ x, x = we := ⟨_, rfl⟩
      subst hwf
      go_wp2_with fail
      go_loopw [18] (fun t wr => ∃ i : Nat, i ≤ n ∧ t = .int .i64 i ∧ ActsI wc.heap.size go O A2 wf i wr) (fun t _ => n - (intOf t).toNat)
      case atStart => exact ⟨0, by omega, by go_num, _, _, _, O, rfl, HOe2.out, Below.refl _ _, Calm.refl _⟩
      case round =>
        obtain ⟨i, hi, rfl, gsr, gbr, qvr, E2, hrun, hd, hb, hcalm⟩ := hrel
        have HE2 := Lib.hid hrun
        have HDr := Lib.hid hd
        have HBr := Lib.hid hb
        have HCr := Lib.hid hcalm
        have hsr := hcalm.1
        clear hrun hd hb hcalm
        by_cases hlt : i < n
        · have hdlt : decide ((i : Int) < n) = true := decide_eq_true (by omega)
          obtain ⟨b, off, c, ub, uk, e1, d0, d1, d2, d3, d4, hdeed⟩ := (HK4.out.all (HWe.out.trans (HBr.out.mono (by omega)))).elem hlt
          cases e1
          have hld := loadC_5 d0 d1 d2 d3 d4
          have Hd := Lib.hid (hdeed.mono (B' := wc.heap.size) (by omega))
          have hk := (HS2.out.1 i hlt).2
          clear d0 d1 d2 d3 d4 hdeed
          go_wp2_with fail
          refine (act_any wr HDr.out Hd.out (by omega)).mono ?_
          rintro e wy ⟨v3, c3, rfl, D', n', f', gs2, gb2, qv2, hdo, -, hd, hb, hcalm⟩
          have HN := Lib.hid (show ActsI wc.heap.size go O A2 wf (i + 1) wy from ⟨gs2, gb2, qv2, D', ⟨E2, c3, n', f', HE2.out, hdo⟩, hd, HBr.out.trans hb, HCr.out.trans hcalm⟩)
          clear hld hdo hd hb hcalm
          go_wp2_with fail
          go_roundw
          case rel => exact ⟨i + 1, by omega, by go_num, HN.out⟩
          case measure => simp [intOf]; omega
        · obtain rfl : n = i := by omega
          have hdlt : decide ((n : Int) < n) = false := decide_eq_false (by omega)
          have HLr := Lib.hid (HLe.out.trans HBr.out)
          have HCr2 := Lib.hid (HCc.out.all HLr.out)
          have HWr := Lib.hid (HWe.out.trans (HBr.out.mono (by omega)))
          obtain ⟨P, hP⟩ : ∃ P, E.dev = P := ⟨_, rfl⟩
          have HP := Lib.hid hP
          obtain ⟨R, hR⟩ : ∃ R, E2.dev = R := ⟨_, rfl⟩
          have HR := Lib.hid hR
          have HPR := Lib.hid (show P.Same R by rw [← hP, ← hR]; exact eqv_dev (runs_same (HEq.out.symm.trans (by rw [← HO.out, ← HY.out]; exact dev_dsk D)) HE.out HE2.out))
          clear hP hR HCr HBr HLr HWe HLe
          go_wp2_with fail
          refine (State_any wr HCr2.out).mono ?_
          rintro e wg ⟨dvp, qvp, bvp, he, hd, hb⟩
          rw [HP.out] at he hd
          subst he
          obtain ⟨dp, dcp, rfl, -⟩ := hd.data.slice
          obtain ⟨qp, qcp, rfl, -⟩ := hd.queue.slice
          obtain ⟨bp, bcp, rfl, -⟩ := hd.bad.slice
          have hst := storeC_dev wg #[.slice none 0 0, .slice none 0 0, .slice none 0 0, .bool false, .bool false, .int .i64 0] rfl _ _ _ _ _ _ (six_one (a := .slice dp P.n dcp) (b := .slice qp P.q qcp) (c := .slice bp P.m bcp) (d := .bool P.dead) (e := .bool P.armed) (f := .int .i64 P.left) rfl rfl rfl rfl rfl rfl)
          have hr := row_six wg (.slice dp P.n dcp) (.slice qp P.q qcp) (.slice bp P.m bcp) (.bool P.dead) (.bool P.armed) (.int .i64 P.left) 31
          have hbx := (Below.refl _ wg).alloc (Nat.le_refl _) (.cells #[.slice dp P.n dcp, .slice qp P.q qcp, .slice bp P.m bcp, .bool P.dead, .bool P.armed, .int .i64 P.left] 31)
          have hb6 : Below wr.heap.size wr (wg.alloc (.cells #[.slice dp P.n dcp, .slice qp P.q qcp, .slice bp P.m bcp, .bool P.dead, .bool P.armed, .int .i64 P.left] 31)) := hb.trans (hbx.mono hb.size)
          have HDp := Lib.hid (hd.all hbx)
          have hzp := hb6.size
          have HOh := Lib.hid (HDr.out.all hb6)
          have HWh := Lib.hid (HWr.out.trans (hb6.mono HWr.out.size))
          clear hd hb hbx hb6
          unfold devV
          go_upto_region 24 with fail
          clear hst
          generalize wg.alloc (.cells #[.slice dp P.n dcp, .slice qp P.q qcp, .slice bp P.m bcp, .bool P.dead, .bool P.armed, .int .i64 P.left] 31) = wh at *
          have HRp := Lib.hid hr
          clear hr
          clear HCr2 HWr HDr
          go_wp2_with fail
          refine (State_any wh HOh.out).mono ?_
          rintro e wi ⟨dvr, qvr, bvr, he, hd, hb⟩
          rw [HR.out] at he hd
          subst he
          obtain ⟨dr, dcr, rfl, -⟩ := hd.data.slice
          obtain ⟨qr, qcr, rfl, -⟩ := hd.queue.slice
          obtain ⟨br, bcr, rfl, -⟩ := hd.bad.slice
          have hst := storeC_dev wi #[.slice none 0 0, .slice none 0 0, .slice none 0 0, .bool false, .bool false, .int .i64 0] rfl _ _ _ _ _ _ (six_one (a := .slice dr R.n dcr) (b := .slice qr R.q qcr) (c := .slice br R.m bcr) (d := .bool R.dead) (e := .bool R.armed) (f := .int .i64 R.left) rfl rfl rfl rfl rfl rfl)
          have hr := row_six wi (.slice dr R.n dcr) (.slice qr R.q qcr) (.slice br R.m bcr) (.bool R.dead) (.bool R.armed) (.int .i64 R.left) 31
          have hbx := (Below.refl _ wi).alloc (Nat.le_refl _) (.cells #[.slice dr R.n dcr, .slice qr R.q qcr, .slice br R.m bcr, .bool R.dead, .bool R.armed, .int .i64 R.left] 31)
          have hb6 : Below wh.heap.size wh (wi.alloc (.cells #[.slice dr R.n dcr, .slice qr R.q qcr, .slice br R.m bcr, .bool R.dead, .bool R.armed, .int .i64 R.left] 31)) := hb.trans (hbx.mono hb.size)
          have HDr := Lib.hid (hd.all hbx)
          have hzr := hb6.size
          have HWj := Lib.hid (HWh.out.trans (hb6.mono HWh.out.size))
          have HDp2 := Lib.hid (HDp.out.all hb6)
          have HRp2 := Lib.hid (HRp.out.all hb6)
          clear hd hb hbx hb6
          unfold devV
          go_upto_region 25 with fail
          clear hst
          generalize wi.alloc (.cells #[.slice dr R.n dcr, .slice qr R.q qcr, .slice br R.m bcr, .bool R.dead, .bool R.armed, .int .i64 R.left] 31) = wj at *
          have HRr := Lib.hid hr
          clear hr
          clear HOh HWh HDp HRp
          go_wp2_with fail
          refine (sane_any wj).mono ?_
          rintro e wk ⟨rfl, hb⟩
          have HWk := Lib.hid (HWj.out.trans (hb.mono HWj.out.size))
          have HDpk := Lib.hid (HDp2.out.all hb)
          have HDrk := Lib.hid (HDr.out.all hb)
          have hl1 := loadC_dev (HRp2.out.all hb)
          have hl2 := loadC_dev (HRr.out.all hb)
          clear hb
          go_wp2_with fail
          refine (Same_yes wk HDpk.out HDrk.out HPR.out).mono ?_
          rintro e wl ⟨rfl, hb⟩
          go_wp2_with fail
          go_ret
          exact ⟨rfl, HB4.out.trans ((HWk.out.trans (hb.mono HWk.out.size)).mono (Nat.le_trans HB3.out.size hs4))⟩

end Go.Proofs.Ytjhcaedfknhilaa
