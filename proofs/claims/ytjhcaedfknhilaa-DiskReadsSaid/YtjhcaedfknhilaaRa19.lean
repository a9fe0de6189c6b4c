/- DiskReads. Acts, devices and lists of them as arguments, opened. -/
import Derived.OpenShut
import Derived.Lib.SmallJoins
import Derived.ChangeOld
import Derived.Test.YtjhcaedfknhilaaRa15
import Derived.Test.YtjhcaedfknhilaaRa18
namespace Go.Proofs.Ytjhcaedfknhilaa
open Go.RowKit
attribute [local go_sem ↓] Go.wp_at_zero Go.wp_at_succ
attribute [-go_sem] loadCellsFrom storeCells
attribute [local go_sem] storeCells_one

/-- The texts of the sectors. -/
def txtV (D : Dsk) (i : Nat) : Value := .string (sTxt (D.has i))
/-- What stands at the head of a round. -/
def RoundI (B g N : Nat) (w wr : World) : Prop := ∃ gs gb qv E, E.n = N ∧ E.off = false ∧ E.dead = false ∧ E.armed = false ∧ DiskIn B g gs gb qv E wr ∧ Below B w wr
/-- What the first loop of a round finds. -/
def FirstI (B g gs gb : Nat) (qv : Value) (E : Dsk) (w : World) (i : Nat) (v : Value) (wr : World) : Prop :=
  Own wr w.heap.size 9 v i (txtV E) ∧ DiskIn B g gs gb qv E wr ∧ Below w.heap.size w wr
theorem FirstI.next {B g gs gb : Nat} {qv : Value} {E : Dsk} {w : World} {i : Nat} {v v' : Value} {wr w2 w3 : World} (h : FirstI B g gs gb qv E w i v wr) (hb : Below wr.heap.size wr w2)
    (hown : Own w3 w.heap.size 9 v' (i + 1) (fun k => if k < i then txtV E k else (fun _ => Value.string (sTxt (E.has i))) (k - i))) (hg : w2.grownBy w3 v.ownBlock) : FirstI B g gs gb qv E w (i + 1) v' w3 := by
  have h2 := h.1.all hb
  have hd := h.2.1.all hb
  have hl := h.2.2.size
  refine ⟨hown.congr fun k hk => ?_, ?_, ?_⟩
  · by_cases h1 : k < i
    · rw [if_pos h1]
    · rw [if_neg h1]
      obtain rfl : k = i := by omega
      rfl
  · have hlt := hd.lt
    have hne : ∀ {b : Nat} {e : TypeId} {c n : Nat} {F : Nat → Value}, RowAt w2 b e c n F → diskT e = true → v.ownBlock ≠ some b := fun hr he e9 => by
      obtain ⟨hB, o, ho, hc⟩ := h2.isCells _ e9
      rcases h2 with ⟨rfl, _⟩ | ⟨q, cap, rfl, _, ⟨cur, q3, _⟩, _⟩
      · cases e9
      · cases e9
        obtain ⟨cur2, q4, _⟩ := hr
        rw [q3] at q4
        cases q4
        cases he
    refine ⟨hd.row.grown hg (hne hd.row rfl), hd.sec.grown hg (hne hd.sec rfl), hd.bad.grown hg (hne hd.bad rfl), ?_, hd.base, hd.ok⟩
    rcases hd.que with hq | ⟨gq, cq, q1, q2, q3, q4⟩
    · exact .inl hq
    · exact .inr ⟨gq, cq, q1, q2, q3.grown hg (hne q3 rfl), q4⟩
  · exact (h.2.2.trans (hb.mono hl)).grown hg (by have := hb.size; omega) (fun k hk => (h2.isCells k hk).1)

set_option maxRecDepth 100000 in
set_option maxHeartbeats 8000000 in
theorem DiskReads_any {B : Nat} {dv qv bv v sv : Value} {X : Dev} {m : Nat} {A : Nat → Deed} {n : Nat} {f : Nat → Int} (p : Int) (hp : -9223372036854775808 ≤ p ∧ p ≤ 9223372036854775807) (w : World) (h : DevAt B w dv qv bv X) (hl : DList B w v m A) (hk : BArg B w sv n f) (hB : B ≤ w.heap.size) :
    Calls Try.prog 4 #[devV dv qv bv X, v, .int .i64 p, sv] w fun e w' => e = .returned (.bool true) ∧ Below w.heap.size w w' := by
  obtain ⟨dx, dc, rfl, -⟩ := h.data.slice
  obtain ⟨qx, qc, rfl, -⟩ := h.queue.slice
  obtain ⟨bx, bc, rfl, -⟩ := h.bad.slice
  obtain ⟨vx, vc, rfl, -⟩ := hl.slice
  obtain ⟨kx, kc, rfl, hkm⟩ := hk.slice
  unfold maxLen at hkm
  have hr := row_six w (.slice dx X.n dc) (.slice qx X.q qc) (.slice bx X.m bc) (.bool X.dead) (.bool X.armed) (.int .i64 X.left) 31
  have hbl := (Below.refl _ w).alloc (Nat.le_refl w.heap.size) (.cells #[.slice dx X.n dc, .slice qx X.q qc, .slice bx X.m bc, .bool X.dead, .bool X.armed, .int .i64 X.left] 31)
  have HD := Lib.hid (h.all hbl)
  have HA := Lib.hid (hl.all hbl)
  have HK := Lib.hid (hk.keep (keeps_below (B := B) hbl).data)
  have HB := Lib.hid hbl
  have HR := Lib.hid hr
  have Hp := Lib.hid hp
  have hB2 := Nat.le_trans hB hbl.size
  have hload := loadC_dev hr
  clear h hl hk hbl hr hp
  unfold devV
  go_enter Try.func4, Try.ntmps4
  go_upto_region 1 with fail
  generalize w.alloc (.cells #[.slice dx X.n dc, .slice qx X.q qc, .slice bx X.m bc, .bool X.dead, .bool X.armed, .int .i64 X.left] 31) = W at *
  go_wp2_with fail
  refine (few_any W HD.out).mono ?_
  rintro e w2 ⟨⟨b, rfl, -⟩, hb⟩
  have HD2 := Lib.hid (HD.out.all hb)
  have HA2 := Lib.hid (HA.out.all hb)
  have HK2 := Lib.hid (HK.out.keep (keeps_below (B := B) hb).data)
  have HR2 := Lib.hid (HR.out.all hb)
  have HB2 := Lib.hid (HB.out.trans (hb.mono HB.out.size))
  have hB3 := Nat.le_trans hB2 hb.size
  clear hload hb HD HA HK HR HB hB2
  rcases bool_cases b with rfl | rfl
  · go_wp2_with fail
    refine (sane_any w2).mono ?_
    rintro e w3 ⟨rfl, hb⟩
    go_wp2_with fail
    go_ret
    exact ⟨rfl, HB2.out.trans (hb.mono HB2.out.size)⟩
  go_wp2_with fail
  refine (short_any w2 HA2.out).mono ?_
  rintro e w2' ⟨⟨b, rfl, hsh⟩, rfl⟩
  rcases bool_cases b with rfl | rfl
  · go_wp2_with fail
    refine (sane_any w2).mono ?_
    rintro e w3 ⟨rfl, hb⟩
    go_wp2_with fail
    go_ret
    exact ⟨rfl, HB2.out.trans (hb.mono HB2.out.size)⟩
  have HS := Lib.hid (hsh.1 rfl)
  have hload := loadC_dev HR2.out
  clear hsh
  go_wp2_with fail
  refine (Right_any w2 HD2.out).mono ?_
  rintro e w3 ⟨⟨b, rfl, hright⟩, hb⟩
  have HD3 := Lib.hid (HD2.out.all hb)
  have HA3 := Lib.hid (HA2.out.all hb)
  have HK3 := Lib.hid (HK2.out.keep (keeps_below (B := B) hb).data)
  have HR3 := Lib.hid (HR2.out.all hb)
  have HB3 := Lib.hid (HB2.out.trans (hb.mono HB2.out.size))
  have hB4 := Nat.le_trans hB3 hb.size
  clear hload hb HD2 HA2 HK2 HR2 HB2 hB3
  rcases bool_cases b with rfl | rfl
  · go_wp2_with fail
    refine (sane_any w3).mono ?_
    rintro e w4 ⟨rfl, hb⟩
    go_wp2_with fail
    go_ret
    exact ⟨rfl, HB3.out.trans (hb.mono HB3.out.size)⟩
  have HX := Lib.hid (hright.1 rfl)
  clear hright
  by_cases hn : n ≤ 4096
  rotate_left
  · have g1 : decide ((n : Int) > 4096) = true := decide_eq_true (by omega)
    go_wp2_with fail
    refine (sane_any w3).mono ?_
    rintro e w4 ⟨rfl, hb⟩
    go_wp2_with fail
    go_ret
    exact ⟨rfl, HB3.out.trans (hb.mono HB3.out.size)⟩
  have g1 : decide ((n : Int) > 4096) = false := decide_eq_false (by omega)
  have hload := loadC_dev HR3.out
  go_wp2_with fail
  refine (played_any w3 HD3.out HA3.out hB4 HX.out HS.out).mono ?_
  rintro e w4 ⟨g, gs, gb, qv4, D, rfl, -, hd, hb⟩
  have H4 := Lib.hid hd
  have HK4 := Lib.hid ((HK3.out.keep (keeps_below (B := B) hb).data).mono hB4)
  have HB4 := Lib.hid (HB3.out.trans (hb.mono HB3.out.size))
  have hs4 := hb.size
  clear hload hd hb HD3 HA3 HR3 HK3 HX HS g1
  go_wp2_with fail
  refine (write_one p w4 H4.out HK4.out Hp.out).mono ?_
  rintro e w5 ⟨c, rfl, (hc | ⟨rfl, a, k, gs5, gb5, qv5, rfl, rfl, hak, hoff, hd⟩), hb, hcalm⟩
  · rcases hc with rfl | rfl | rfl <;> (
      have HB5 := Lib.hid (HB4.out.trans (hb.mono HB3.out.size))
      clear hb hcalm
      go_wp2_with fail
      refine (sane_any w5).mono ?_
      rintro e w6 ⟨rfl, hb⟩
      go_wp2_with fail
      go_ret
      exact ⟨rfl, HB5.out.trans (hb.mono HB5.out.size)⟩)
  have H5 := Lib.hid hd
  have HK5 := Lib.hid (HK4.out.keep (keeps_calm hb hcalm).data)
  have HB5 := Lib.hid (HB4.out.trans (hb.mono HB3.out.size))
  have Hdead := Lib.hid (off_dead hoff)
  have hs5 := hcalm.1
  clear hd hb hcalm HK4 HB4 H4 hoff Hp
  go_wp2_with fail
  refine (disarm w5 H5.out Hdead.out).mono ?_
  rintro e w6 ⟨rfl, hd, hb, hcalm⟩
  obtain ⟨E, hE⟩ : ∃ E, (D.write a k f).arm false 0 = E := ⟨_, rfl⟩
  have HE := Lib.hid hE
  have hEd : E.dead = false := by rw [← hE]; exact Hdead.out
  have hEa : E.armed = false := by rw [← hE]; rfl
  have Hnn := Lib.hid (show E.n = D.n from by rw [← hE]; rfl)
  rw [hE] at hd
  have Hd := Lib.hid hEd
  have Ha := Lib.hid hEa
  have H6 := Lib.hid hd
  have HK6 := Lib.hid (HK5.out.keep (keeps_calm hb hcalm).data)
  have HB6 := Lib.hid (HB5.out.trans (hb.mono HB3.out.size))
  have hs6 := hcalm.1
  clear hd hb hcalm HK5 HB5 H5 hE hEd hEa
  have hread := Read_any a k w6 H6.out (by rw [Hnn.out]; exact hak) (off_false Hd.out Ha.out)
  have Hread := Lib.hid hread
  clear hread
  go_wp2_with fail
  refine Hread.out.mono ?_
  rintro e w7 (⟨hno, -⟩ | ⟨-, v7, rfl, ho, hd, hb⟩)
  · exact absurd (HE.out ▸ (write_read D a k f).1) hno
  have hbyte := has_byte H6.out.ok
  have hb7 : BArg B w7 v7 (k * 64) (readI E a) := barg_own ho fun i => hbyte _ _
  have hst7 := hb7.str
  have hsv : strF (k * 64) (readI E a) = strF (k * 64) f := strF_congr fun i hi => by rw [← HE.out]; exact (write_read D a k f).2 i hi
  rw [hsv] at hst7
  obtain ⟨rx, rc, rfl⟩ := ho.slice
  have hstb := (HK6.out.all hb).str
  generalize strF (k * 64) f = s at *
  have H7 := Lib.hid hd
  have HB7 := Lib.hid (HB6.out.trans ((hb.mono (show w6.heap.size ≤ w6.heap.size from Nat.le_refl _)).mono HB6.out.size))
  have hs7 := hb.size
  clear ho hd hb hbyte hb7 hsv HK6 HB6 H6 Hread
  obtain ⟨N, hN⟩ : ∃ N, D.n = N := ⟨_, rfl⟩
  have hN1 : 1 ≤ N ∧ N ≤ 4096 := by have := H7.out.ok.size; rw [Hnn.out, hN] at this; exact this
  have HN := Lib.hid hN
  rw [hN] at hak
  clear hN
  have HI0 := Lib.hid (show RoundI w3.heap.size g N w7 w7 from ⟨_, _, _, E, by rw [Hnn.out, HN.out], off_false Hd.out Ha.out, Hd.out, Ha.out, H7.out, Below.refl _ _⟩)
  clear H7 Hd Ha HE Hnn
  go_wp2_with fail
  go_loopw [12] (fun t wr => ∃ k : Nat, k ≤ 3 ∧ t = .int .i64 k ∧ RoundI w3.heap.size g N w7 wr) (fun t _ => 3 - (intOf t).toNat)
  case atStart => exact ⟨0, by omega, by go_num, HI0.out⟩
  case round =>
    obtain ⟨r, hr, rfl, gs, gb, qv, E, hEn, hEo, hEd, hEa, hd, hb⟩ := hrel
    obtain ⟨wo, hwo⟩ : ∃ x, x = wr := ⟨_, rfl⟩
    subst hwo
    have HEn := Lib.hid hEn
    have HEo := Lib.hid hEo
    have HEd := Lib.hid hEd
    have HEa := Lib.hid hEa
    have H8 := Lib.hid hd
    have HB8 := Lib.hid hb
    clear hEn hEo hEd hEa hd hb
    by_cases hr3 : r < 3
    · have hdr : decide ((r : Int) < 3) = true := decide_eq_true (by omega)
      go_wp2_with fail
      go_loopw [13, 14] (fun s13 s14 wx => ∃ i : Nat, i ≤ N ∧ s14 = .int .i64 i ∧ ∃ x c, s13 = .slice x i c ∧ FirstI w3.heap.size g gs gb qv E wo i (.slice x i c) wx) (fun _ s14 _ => N - (intOf s14).toNat)
      case atStart => exact ⟨0, by omega, by go_num, _, _, rfl, Own.nil _ _ _ _, H8.out, Below.refl _ _⟩
      case round =>
        obtain ⟨i, hi, rfl, x, c, rfl, hI⟩ := hrel
        have HI := Lib.hid hI
        clear hI
        go_wp2_with fail
        refine (Size_any wr HI.out.2.1).mono ?_
        rintro e wz ⟨rfl, rfl⟩
        rw [HEn.out]
        by_cases hiN : i < N
        · have hdi : decide ((i : Int) < N) = true := decide_eq_true (by omega)
          go_wp2_with fail
          refine (read_one i wr HI.out.2.1 (by rw [HEn.out]; exact hiN) HEo.out).mono ?_
          rintro e wy ⟨v8, c8, rfl, hd, hb, (⟨rfl, f8, hf8, hv8⟩ | ⟨rfl, rfl, hf8⟩)⟩
          · have HF := Lib.hid hf8
            have Hd := Lib.hid hd
            have Hb := Lib.hid hb
            have ht := hv8.str
            have hsf : sTxt (E.has i) = strF 64 f8 := by rw [hf8]; rfl
            have Hsf := Lib.hid hsf
            generalize strF 64 f8 = s8 at *
            obtain ⟨r8, rc8, rfl, -⟩ := hv8.slice
            clear hf8 hd hb hv8 hsf
            go_wp2_with (with_reducible refine stopB .append ?_)
            refine Hold.go ?_
            refine wpList_append_o rfl _ _ 45 9 _ _ rfl Try.underlying45 info_str rfl wo.heap.size (.slice x i c) i (txtV E) rfl ((HI.out.1.all Hb.out).alloc _) (wy).heap.size 0 1 1 (fun _ => .string s8) rfl (RowAt.new (wy) #[.string s8] 9 _ 1 (by simp) (one_cell rfl)).reads (fun _ _ => rfl) (by omega) (by decide) (by have := HI.out.2.2.size; have := Hb.out.size; simp; omega) ?_
            intro v9 w9 hown hgr _ _
            obtain ⟨x9, c9, rfl⟩ := Own.slice hown
            have HN := Lib.hid (FirstI.next HI.out (Hb.out.alloc Hb.out.size _) (hown.congr fun k hk => by rw [Hsf.out]) hgr)
            clear hown hgr ht
            go_wp2
            go_roundw
            case rel => exact ⟨i + 1, by omega, by go_num, _, _, rfl, HN.out⟩
            case measure => simp [intOf]; omega
          · have HF := Lib.hid hf8
            have Hd := Lib.hid hd
            have Hb := Lib.hid hb
            have ht := none_str wy
            clear hf8 hd hb
            have hcv := none_conv wy
            go_upto_region 23 with fail
            clear hcv
            have Hz := Lib.hid (Hb.out.alloc Hb.out.size noneO)
            generalize wy.alloc noneO = wz at *
            clear Hb
            have Hb := Lib.hid Hz.out
            go_wp2_with (with_reducible refine stopB .append ?_)
            refine Hold.go ?_
            refine wpList_append_o rfl _ _ 45 9 _ _ rfl Try.underlying45 info_str rfl wo.heap.size (.slice x i c) i (txtV E) rfl ((HI.out.1.all Hb.out).alloc _) wz.heap.size 0 1 1 (fun _ => .string noneT) rfl (RowAt.new wz #[.string noneT] 9 _ 1 (by simp) (one_cell rfl)).reads (fun _ _ => rfl) (by omega) (by decide) (by have := HI.out.2.2.size; have := Hb.out.size; simp; omega) ?_
            intro v9 w9 hown hgr _ _
            obtain ⟨x9, c9, rfl⟩ := Own.slice hown
            have HN := Lib.hid (FirstI.next HI.out (Hb.out.alloc Hb.out.size _) (hown.congr fun k hk => by rw [show sTxt (E.has i) = noneT from by rw [HF.out]; rfl]) hgr)
            clear hown hgr ht
            go_wp2
            go_roundw
            case rel => exact ⟨i + 1, by omega, by go_num, _, _, rfl, HN.out⟩
            case measure => simp [intOf]; omega
        · obtain rfl : N = i := by omega
          have hdi : decide ((N : Int) < N) = false := decide_eq_false (by omega)
          have Hown := Lib.hid HI.out.1
          have H9 := Lib.hid HI.out.2.1
          have HB9 := Lib.hid (HB8.out.trans (HI.out.2.2.mono (by have := HB8.out.size; omega)))
          have hso := HI.out.2.2.size
          have hsw := HB8.out.size
          clear HI H8 HB8
          go_wp2_with fail
          refine (Sync_ok wr H9.out HEo.out).mono ?_
          rintro e w10 ⟨qv10, rfl, hd, hb, hcalm⟩
          have H10 := Lib.hid hd
          have HB10 := Lib.hid (HB9.out.trans hb)
          have Hown10 := Lib.hid (own_calm Hown.out hcalm rfl)
          have hs10 := hcalm.1
          have hr2 : r = 2 ∨ r ≠ 2 := by omega
          clear hd hb hcalm H9 HB9 Hown
          rcases hr2 with h2 | h2
          · have g2 : ((r : Int) == 2) = true := beq_iff_eq.2 (by omega)
            go_wp2_with fail
            refine (crash_none w10 H10.out).mono ?_
            rintro e w11 ⟨qv11, rfl, hd, hb, hcalm⟩
            have H11 := Lib.hid hd
            have HB11 := Lib.hid (HB10.out.trans hb)
            have Hown11 := Lib.hid (own_calm Hown10.out hcalm rfl)
            have hs11 := hcalm.1
            have HE := Lib.hid (show (∀ j, (E.sync.crash 0 fun _ => 0).has j = E.has j) ∧ (E.sync.crash 0 fun _ => 0).n = N ∧ (E.sync.crash 0 fun _ => 0).dead = false ∧ (E.sync.crash 0 fun _ => 0).armed = false from
              ⟨fun j => (crash0_has E.sync _ rfl j).trans (sync_has E j), ((crash_same E.sync 0 _).1.trans (sync_same E).1).trans HEn.out, ((crash_same E.sync 0 _).2.2.1.trans (sync_same E).2.2.1).trans HEd.out, rfl⟩)
            clear hd hb hcalm H10 HB10 Hown10
            generalize (E.sync.crash 0 fun _ => 0) = E2 at *
            have hno := off_false HE.out.2.2.1 HE.out.2.2.2
            have Hno := Lib.hid hno
            clear hno g2
            go_wp2_with fail
            go_loopw [18] (fun s18 wx => ∃ i : Nat, i ≤ N ∧ s18 = .int .i64 i ∧ Below w11.heap.size w11 wx) (fun s18 _ => N - (intOf s18).toNat)
            case atStart => exact ⟨0, by omega, by go_num, Below.refl _ _⟩
            case round =>
              obtain ⟨i, hi, rfl, hb⟩ := hrel
              have HBi := Lib.hid hb
              have H12 := Lib.hid (H11.out.all hb)
              clear hb
              go_wp2_with fail
              refine (Size_any wr H12.out).mono ?_
              rintro e wz ⟨rfl, rfl⟩
              rw [HE.out.2.1]
              by_cases hiN : i < N
              · have hdi : decide ((i : Int) < N) = true := decide_eq_true (by omega)
                obtain ⟨gq, cq, e9, -, hrow, hcm⟩ := (Hown11.out.all HBi.out).row (by omega)
                cases e9
                have Hrow := Lib.hid hrow
                clear hrow hcm
                go_wp2_with fail
                refine (read_one i wr H12.out (by rw [HE.out.2.1]; exact hiN) Hno.out).mono ?_
                rintro e wy ⟨v8, c8, rfl, hd, hb, (⟨rfl, f8, hf8, hv8⟩ | ⟨rfl, rfl, hf8⟩)⟩
                · have c9 := (Hrow.out.all hb).cell (i := i) hiN
                  unfold txtV at c9
                  rw [← HE.out.1 i, hf8] at c9
                  have ht := hv8.txt
                  have Hb := Lib.hid hb
                  change wy.cell? _ = some (.string (strF 64 f8)) at c9
                  unfold Txt at ht
                  generalize strF 64 f8 = s8 at *
                  obtain ⟨r8, rc8, rfl, -⟩ := hv8.slice
                  clear hf8 hd hb hv8
                  go_upto_region 33 with fail
                  go_quiet (fail)
                  go_wp2_with fail
                  go_roundw
                  case rel => exact ⟨i + 1, by omega, by go_num, below_dn (HBi.out.trans (Hb.out.mono HBi.out.size)) _⟩
                  case measure => simp [intOf]; omega
                · have hcv := none_conv wy
                  have ht := fun k => none_str2 wy k
                  have hrow2 := (Hrow.out.all hb).all ((Below.refl _ wy).alloc (Nat.le_refl _) noneO)
                  have c9 := hrow2.cell (i := i) hiN
                  unfold txtV at c9
                  rw [← HE.out.1 i, hf8] at c9
                  change (wy.alloc noneO).cell? _ = some (.string noneT) at c9
                  have Hb := Lib.hid hb
                  clear hf8 hd hb hrow2
                  go_upto_region 33 with fail
                  have Hz := Lib.hid (Hb.out.alloc Hb.out.size noneO)
                  clear hcv
                  generalize wy.alloc noneO = wz at *
                  go_quiet (fail)
                  go_wp2_with fail
                  go_roundw
                  case rel => exact ⟨i + 1, by omega, by go_num, below_dn (HBi.out.trans (Hz.out.mono HBi.out.size)) _⟩
                  case measure => simp [intOf]; omega
              · obtain rfl : N = i := by omega
                have hdi : decide ((N : Int) < N) = false := decide_eq_false (by omega)
                go_wp2_with fail
                go_roundw
                case rel => exact ⟨r + 1, by omega, by go_num, _, _, _, E2, HE.out.2.1, Hno.out, HE.out.2.2.1, HE.out.2.2.2, H12.out, HB11.out.trans (HBi.out.mono (by omega))⟩
                case measure => simp [intOf]; omega
          · have g2 : ((r : Int) == 2) = false := beq_eq_false_iff_ne.2 (by omega)
            go_upto_region 27 with fail
            have H11 := Lib.hid H10.out
            have HB11 := Lib.hid HB10.out
            have Hown11 := Lib.hid Hown10.out
            have HE := Lib.hid (show (∀ j, E.sync.has j = E.has j) ∧ E.sync.n = N ∧ E.sync.dead = false ∧ E.sync.armed = false from
              ⟨fun j => sync_has E j, (sync_same E).1.trans HEn.out, (sync_same E).2.2.1.trans HEd.out, (sync_same E).2.2.2.trans HEa.out⟩)
            clear H10 HB10 Hown10
            generalize E.sync = E2 at *
            have hno := off_false HE.out.2.2.1 HE.out.2.2.2
            have Hno := Lib.hid hno
            clear hno g2
            go_wp2_with fail
            go_loopw [18] (fun s18 wx => ∃ i : Nat, i ≤ N ∧ s18 = .int .i64 i ∧ Below w10.heap.size w10 wx) (fun s18 _ => N - (intOf s18).toNat)
            case atStart => exact ⟨0, by omega, by go_num, Below.refl _ _⟩
            case round =>
              obtain ⟨i, hi, rfl, hb⟩ := hrel
              have HBi := Lib.hid hb
              have H12 := Lib.hid (H11.out.all hb)
              clear hb
              go_wp2_with fail
              refine (Size_any wr H12.out).mono ?_
              rintro e wz ⟨rfl, rfl⟩
              rw [HE.out.2.1]
              by_cases hiN : i < N
              · have hdi : decide ((i : Int) < N) = true := decide_eq_true (by omega)
                obtain ⟨gq, cq, e9, -, hrow, hcm⟩ := (Hown11.out.all HBi.out).row (by omega)
                cases e9
                have Hrow := Lib.hid hrow
                clear hrow hcm
                go_wp2_with fail
                refine (read_one i wr H12.out (by rw [HE.out.2.1]; exact hiN) Hno.out).mono ?_
                rintro e wy ⟨v8, c8, rfl, hd, hb, (⟨rfl, f8, hf8, hv8⟩ | ⟨rfl, rfl, hf8⟩)⟩
                · have c9 := (Hrow.out.all hb).cell (i := i) hiN
                  unfold txtV at c9
                  rw [← HE.out.1 i, hf8] at c9
                  have ht := hv8.txt
                  have Hb := Lib.hid hb
                  change wy.cell? _ = some (.string (strF 64 f8)) at c9
                  unfold Txt at ht
                  generalize strF 64 f8 = s8 at *
                  obtain ⟨r8, rc8, rfl, -⟩ := hv8.slice
                  clear hf8 hd hb hv8
                  go_upto_region 33 with fail
                  go_quiet (fail)
                  go_wp2_with fail
                  go_roundw
                  case rel => exact ⟨i + 1, by omega, by go_num, below_dn (HBi.out.trans (Hb.out.mono HBi.out.size)) _⟩
                  case measure => simp [intOf]; omega
                · have hcv := none_conv wy
                  have ht := fun k => none_str2 wy k
                  have hrow2 := (Hrow.out.all hb).all ((Below.refl _ wy).alloc (Nat.le_refl _) noneO)
                  have c9 := hrow2.cell (i := i) hiN
                  unfold txtV at c9
                  rw [← HE.out.1 i, hf8] at c9
                  change (wy.alloc noneO).cell? _ = some (.string noneT) at c9
                  have Hb := Lib.hid hb
                  clear hf8 hd hb hrow2
                  go_upto_region 33 with fail
                  have Hz := Lib.hid (Hb.out.alloc Hb.out.size noneO)
                  clear hcv
                  generalize wy.alloc noneO = wz at *
                  go_quiet (fail)
                  go_wp2_with fail
                  go_roundw
                  case rel => exact ⟨i + 1, by omega, by go_num, below_dn (HBi.out.trans (Hz.out.mono HBi.out.size)) _⟩
                  case measure => simp [intOf]; omega
              · obtain rfl : N = i := by omega
                have hdi : decide ((N : Int) < N) = false := decide_eq_false (by omega)
                go_wp2_with fail
                go_roundw
                case rel => exact ⟨r + 1, by omega, by go_num, _, _, _, E2, HE.out.2.1, Hno.out, HE.out.2.2.1, HE.out.2.2.2, H12.out, HB11.out.trans (HBi.out.mono (by omega))⟩
                case measure => simp [intOf]; omega
    · obtain rfl : r = 3 := by omega
      have hdr : decide (((3 : Nat) : Int) < 3) = false := decide_eq_false (by omega)
      go_wp2_with fail
      refine (sane_any wo).mono ?_
      rintro e w9 ⟨rfl, hb⟩
      go_wp2_with fail
      go_ret
      exact ⟨rfl, HB7.out.trans ((HB8.out.mono HB3.out.size).trans (hb.mono (by have := HB8.out.size; have := HB7.out.size; omega)))⟩

end Go.Proofs.Ytjhcaedfknhilaa

namespace Go.Proofs.Ytjhcaedfknhilaa
open Go.ChangeShapes Go.WideShapes Go.ChangeAt Go.RowKit Go.Lib Go.Joins Go.Deep Go.WideElems Go.Maps

theorem u8_of_wf {m : Int} (hm : (Lit.int .u8 m).wf = true) : 0 ≤ m ∧ m < 256 := by
  simp [Lit.wf] at hm
  have h1 : IntKind.u8.min = 0 := rfl
  have h2 : IntKind.u8.max = 255 := rfl
  omega
theorem getD_all {P : Int → Prop} {zs : List Int} (h : ∀ n ∈ zs, P n) (h0 : P 0) (i : Nat) : P (zs.getD i 0) := by
  rw [List.getD_eq_getElem?_getD]
  rcases hg : zs[i]? with _ | m
  · exact h0
  · exact h m (List.mem_of_getElem? hg)

theorem struct_act : Try.prog.underlying 51 = some (.struct #[(Try.prog.fieldsOf 51)[0]!, (Try.prog.fieldsOf 51)[1]!, (Try.prog.fieldsOf 51)[2]!, (Try.prog.fieldsOf 51)[3]!, (Try.prog.fieldsOf 51)[4]!]) := by kernel_rfl
theorem types_act : ((Try.prog.fieldsOf 51)[0]!).type = 3 ∧ ((Try.prog.fieldsOf 51)[1]!).type = 3 ∧ ((Try.prog.fieldsOf 51)[2]!).type = 3 ∧ ((Try.prog.fieldsOf 51)[3]!).type = 27 ∧ ((Try.prog.fieldsOf 51)[4]!).type = 29 := ⟨by kernel_rfl, by kernel_rfl, by kernel_rfl, by kernel_rfl, by kernel_rfl⟩
theorem oneF_act : oneCellFields Try.prog #[(Try.prog.fieldsOf 51)[0]!, (Try.prog.fieldsOf 51)[1]!, (Try.prog.fieldsOf 51)[2]!, (Try.prog.fieldsOf 51)[3]!, (Try.prog.fieldsOf 51)[4]!] = true := by kernel_rfl
theorem cells_act : Try.prog.cellsOf 51 = 5 := by kernel_rfl
theorem struct_put : Try.prog.underlying 62 = some (.struct #[(Try.prog.fieldsOf 62)[0]!, (Try.prog.fieldsOf 62)[1]!]) := by kernel_rfl
theorem types_put : ((Try.prog.fieldsOf 62)[0]!).type = 3 ∧ ((Try.prog.fieldsOf 62)[1]!).type = 27 := ⟨by kernel_rfl, by kernel_rfl⟩
theorem oneF_put : oneCellFields Try.prog #[(Try.prog.fieldsOf 62)[0]!, (Try.prog.fieldsOf 62)[1]!] = true := by kernel_rfl
theorem cells_put : Try.prog.cellsOf 62 = 2 := by kernel_rfl
theorem struct_dev : Try.prog.underlying 31 = some (.struct #[(Try.prog.fieldsOf 31)[0]!, (Try.prog.fieldsOf 31)[1]!, (Try.prog.fieldsOf 31)[2]!, (Try.prog.fieldsOf 31)[3]!, (Try.prog.fieldsOf 31)[4]!, (Try.prog.fieldsOf 31)[5]!]) := by kernel_rfl
theorem types_dev : ((Try.prog.fieldsOf 31)[0]!).type = 27 ∧ ((Try.prog.fieldsOf 31)[1]!).type = 28 ∧ ((Try.prog.fieldsOf 31)[2]!).type = 29 ∧ ((Try.prog.fieldsOf 31)[3]!).type = 4 ∧ ((Try.prog.fieldsOf 31)[4]!).type = 4 ∧ ((Try.prog.fieldsOf 31)[5]!).type = 3 := ⟨by kernel_rfl, by kernel_rfl, by kernel_rfl, by kernel_rfl, by kernel_rfl, by kernel_rfl⟩
theorem oneF_dev : oneCellFields Try.prog #[(Try.prog.fieldsOf 31)[0]!, (Try.prog.fieldsOf 31)[1]!, (Try.prog.fieldsOf 31)[2]!, (Try.prog.fieldsOf 31)[3]!, (Try.prog.fieldsOf 31)[4]!, (Try.prog.fieldsOf 31)[5]!] = true := by kernel_rfl
theorem cells_dev : Try.prog.cellsOf 31 = 6 := by kernel_rfl
theorem list5 {α : Type} {l : List α} (h : l.length = 5) : ∃ v0 v1 v2 v3 v4, l = [v0, v1, v2, v3, v4] := by
  rcases l with _ | ⟨a, _ | ⟨b, _ | ⟨c, _ | ⟨d, _ | ⟨e, _ | ⟨f, l⟩⟩⟩⟩⟩⟩ <;> simp at h
  exact ⟨a, b, c, d, e, rfl⟩
theorem list6 {α : Type} {l : List α} (h : l.length = 6) : ∃ v0 v1 v2 v3 v4 v5, l = [v0, v1, v2, v3, v4, v5] := by
  rcases l with _ | ⟨a, _ | ⟨b, _ | ⟨c, _ | ⟨d, _ | ⟨e, _ | ⟨f, _ | ⟨g, l⟩⟩⟩⟩⟩⟩⟩ <;> simp at h
  exact ⟨a, b, c, d, e, f, rfl⟩
theorem list2 {α : Type} {l : List α} (h : l.length = 2) : ∃ v0 v1, l = [v0, v1] := by
  rcases l with _ | ⟨a, _ | ⟨b, _ | ⟨c, l⟩⟩⟩ <;> simp at h
  exact ⟨a, b, rfl⟩
theorem agg_open {P : Program} {W : World} {r : Reach} {b0 : Nat} {t : TypeId} {fs : Array Field} {v : Value} (hs : P.underlying t = some (.struct fs)) (hv : Value.okWide P W r b0 t v) : ∃ cs, v = .agg cs := by
  obtain ⟨cs, h, _⟩ := okWide_struct hs hv
  exact ⟨cs, h⟩
section
variable {H : Type} {enc : TypeId × Value → H} {W : World} {base : Nat} {held : Bool}

/-- A list of bytes. -/
theorem bytes_open {fuel : Nat} {v : Value} {y : DataW H × List MemPlace} (h : DataW.trod enc Try.prog W base (fun _ => true) held fuel 27 [v] = some y) : ∃ n f, BArg W.heap.size W v n f := by
  rcases open_ints Try.underlying27 Try.underlying5 (by kernel_rfl) h with ⟨hcs, _⟩ | ⟨x, l, c, zs, hcs, _, hl, hm, hz, _, hcell, hwz⟩
  · simp only [List.cons.injEq, and_true] at hcs
    subst hcs
    exact ⟨0, fun _ => 0, fun _ => z1, .inl ⟨rfl, _, _, rfl⟩⟩
  · simp only [List.cons.injEq, and_true] at hcs
    subst hcs
    have hz' : zs.length = c := by simpa using hz
    refine ⟨l, fun i => zs.getD i 0, fun i => getD_all (P := fun m => 0 ≤ m ∧ m < 256) (fun m hm => u8_of_wf (hwz m hm)) (by decide) i, ?_⟩
    by_cases h0 : l = 0
    · subst h0
      exact .inl ⟨rfl, _, _, rfl⟩
    · obtain ⟨b, off, spot⟩ := x
      have hc := hcell 0 (by omega)
      have hspot : spot = none := by simpa [Addr.add] using World.cell?_spot hc
      subst hspot
      have hcells : Cells W b off l (byteF fun i => zs.getD i 0) := fun i hi => by
        have := hcell i (by omega)
        by_cases hi0 : i = 0
        · subst hi0; simpa [Addr.add, byteF] using this
        · simpa [Addr.add, hi0, byteF] using this
      exact .inr ⟨b, off, c, rfl, by omega, hl, hm, hcells, .inl (World.block_lt_of_cell? W ⟨b, off + 0, none⟩ (hcells 0 (by omega)))⟩
/-- A list of numbers. -/
theorem ints_open {fuel : Nat} {v : Value} {y : DataW H × List MemPlace} (h : DataW.trod enc Try.prog W base (fun _ => true) held fuel 29 [v] = some y) : ∃ n f, NArg W.heap.size W v n f := by
  rcases open_ints Try.underlying29 Try.underlying3 (by kernel_rfl) h with ⟨hcs, _⟩ | ⟨x, l, c, zs, hcs, _, hl, hm, hz, _, hcell, hwz⟩
  · simp only [List.cons.injEq, and_true] at hcs
    subst hcs
    exact ⟨0, fun _ => 0, fun _ => z0, .inl ⟨rfl, _, _, rfl⟩⟩
  · simp only [List.cons.injEq, and_true] at hcs
    subst hcs
    have hz' : zs.length = c := by simpa using hz
    refine ⟨l, fun i => zs.getD i 0, fun i => getD_all (P := fun m => -9223372036854775808 ≤ m ∧ m ≤ 9223372036854775807) (fun m hm => i64_of_wf (hwz m hm)) (by decide) i, ?_⟩
    by_cases h0 : l = 0
    · subst h0
      exact .inl ⟨rfl, _, _, rfl⟩
    · obtain ⟨b, off, spot⟩ := x
      have hc := hcell 0 (by omega)
      have hspot : spot = none := by simpa [Addr.add] using World.cell?_spot hc
      subst hspot
      have hcells : Cells W b off l (intsV fun i => zs.getD i 0) := fun i hi => by
        have := hcell i (by omega)
        by_cases hi0 : i = 0
        · subst hi0; simpa [Addr.add, intsV] using this
        · simpa [Addr.add, hi0, intsV] using this
      exact .inr ⟨b, off, c, rfl, by omega, hl, hm, hcells, .inl (World.block_lt_of_cell? W ⟨b, off + 0, none⟩ (hcells 0 (by omega)))⟩
theorem int_open {fuel : Nat} {v : Value} {y : DataW H × List MemPlace} (h : DataW.trod enc Try.prog W base (fun _ => true) held fuel 3 [v] = some y) : ∃ n, v = .int .i64 n ∧ -9223372036854775808 ≤ n ∧ n ≤ 9223372036854775807 := by
  obtain ⟨K, hK, _, hw⟩ := DataW.trod_int Try.underlying3 h
  simp only [List.cons.injEq, and_true] at hK
  exact ⟨K, hK, i64_of_wf hw⟩

theorem drop_take_one {α : Type} {l : List α} {i : Nat} {v : α} (h : l[i]? = some v) : (l.drop i).take 1 = [v] := by
  apply List.ext_getElem?
  intro j
  rw [List.getElem?_take, List.getElem?_drop]
  by_cases hj : j < 1
  · obtain rfl : j = 0 := by omega
    rw [if_pos hj, Nat.add_zero, h]
    rfl
  · rw [if_neg hj]
    exact (List.getElem?_eq_none (by show 1 ≤ j; omega)).symm
/-- The fields of a struct of cells. -/
theorem fields_open {P : Program} {t : TypeId} {fs : Array Field} {fuel : Nat} {cs : List Value} {x : DataW H × List MemPlace} {spare : Nat → Bool} (hs : P.underlying t = some (.struct fs)) (hone : oneCellFields P fs = true) (h : DataW.trod enc P W base spare held fuel t cs = some x) :
    cs.length = P.cellsOf t ∧ ∃ n, ∀ (i : Nat) (f : Field) (v : Value), fs[i]? = some f → cs[i]? = some v → ∃ y, DataW.trod enc P W base spare held n f.type [v] = some y := by
  obtain ⟨xs, n, _, _, hl, hlen, hf⟩ := DataW.trod_struct hs h
  refine ⟨hl, n, fun i f v hi hv => ?_⟩
  have h1 := hf i f hi
  obtain ⟨o, k⟩ := hone_of hone i f hi
  have hlt : i < fs.size := (Array.getElem?_eq_some_iff.1 hi).1
  rw [o, k, drop_take_one hv] at h1
  exact ⟨xs[i]'(by omega), by rw [h1]; exact List.getElem?_eq_getElem (by omega)⟩
/-- The cells of an act. -/
theorem deed_open {fuel : Nat} {cs : List Value} {y : DataW H × List MemPlace} (h : DataW.trod enc Try.prog W base (fun _ => true) held fuel 51 cs = some y) :
    ∃ A bv kv, cs = [.int .i64 A.kind, .int .i64 A.at', .int .i64 A.many, bv, kv] ∧ DeedAt W.heap.size W bv kv A := by
  obtain ⟨hl, n, hf⟩ := fields_open struct_act oneF_act h
  obtain ⟨v0, v1, v2, v3, v4, rfl⟩ := list5 (hl.trans cells_act)
  obtain ⟨y0, h0⟩ := hf 0 ((Try.prog.fieldsOf 51)[0]!) v0 rfl rfl
  obtain ⟨y1, h1⟩ := hf 1 ((Try.prog.fieldsOf 51)[1]!) v1 rfl rfl
  obtain ⟨y2, h2⟩ := hf 2 ((Try.prog.fieldsOf 51)[2]!) v2 rfl rfl
  obtain ⟨y3, h3⟩ := hf 3 ((Try.prog.fieldsOf 51)[3]!) v3 rfl rfl
  obtain ⟨y4, h4⟩ := hf 4 ((Try.prog.fieldsOf 51)[4]!) v4 rfl rfl
  rw [types_act.1] at h0
  rw [types_act.2.1] at h1
  rw [types_act.2.2.1] at h2
  rw [types_act.2.2.2.1] at h3
  rw [types_act.2.2.2.2] at h4
  obtain ⟨a0, rfl, r0⟩ := int_open h0
  obtain ⟨a1, rfl, r1⟩ := int_open h1
  obtain ⟨a2, rfl, r2⟩ := int_open h2
  obtain ⟨n3, f3, b3⟩ := bytes_open h3
  obtain ⟨n4, f4, b4⟩ := ints_open h4
  exact ⟨⟨a0, a1, a2, n3, f3, n4, f4⟩, v3, v4, rfl, r0, r1, r2, b3, b4⟩
set_option maxRecDepth 100000 in
theorem open_deed {r : Reach} {b0 : Nat} {v : Value} {d : DataW H} {p : List MemPlace} (hv : Value.okWide Try.prog W r b0 51 v) (h : DataW.Trod enc Try.prog W base (fun _ => true) held 51 v d p) :
    ∃ A bv kv, v = deedV bv kv A ∧ DeedAt W.heap.size W bv kv A := by
  obtain ⟨cs, rfl⟩ := agg_open (P := Try.prog) (W := W) (r := r) (b0 := b0) (v := v) struct_act hv
  obtain ⟨fuel, hf⟩ := h
  obtain ⟨A, bv, kv, hcs, hd⟩ := deed_open hf
  refine ⟨A, bv, kv, ?_, hd⟩
  have hcs' : cs.toList = [.int .i64 A.kind, .int .i64 A.at', .int .i64 A.many, bv, kv] := hcs
  unfold deedV
  rw [← Array.toArray_toList (xs := cs), hcs']
end

end Go.Proofs.Ytjhcaedfknhilaa
