/- FixPages. -/
import Derived.Test.YtjfcjpkfefmhlaaLawR
namespace Go.Proofs.Ytjfcjpkfefmhlaa
open Go.RowKit
attribute [local go_sem] Oper.semAt_some

theorem decL (L : List Int) : decide (L = L) = true := by simp
theorem beqS (x : ByteArray) : (x.toList == x.toList) = true := by simp

set_option maxRecDepth 8000 in
set_option maxHeartbeats 16000000 in
theorem fixPages_walk (v0 : Value) (n0 : Nat) (f0 : Nat → Int) (v1 : Value) (n1 : Nat) (f1 : Nat → Int) (u v m s : Int) (v2 : Value) (n2 : Nat) (f2 : Nat → Int) (w : World) (h0 : ByteArg w v0 n0 f0) (h1 : ByteArg w v1 n1 f1)
    (_ : (Lit.int .i64 u).wf = true) (_ : (Lit.int .i64 v).wf = true) (_ : (Lit.int .i64 m).wf = true) (_ : (Lit.int .i64 s).wf = true) (h2 : ByteArg w v2 n2 f2) :
    Calls Try.prog 11 #[v0, v1, .int .i64 u, .int .i64 v, .int .i64 m, .int .i64 s, v2] w (FinContent w) := by
  obtain ⟨a0, c0, rfl⟩ := h0.slice
  obtain ⟨a1, c1, rfl⟩ := h1.slice
  obtain ⟨a2, c2, rfl⟩ := h2.slice
  have H0 := Lib.hid h0; clear h0
  have H1 := Lib.hid h1; clear h1
  have H2 := Lib.hid h2; clear h2
  by_cases hl : n0 ≤ 2000
  · by_cases hl1 : n1 ≤ 2000
    · by_cases hl2 : n2 ≤ 2000
      · go_enter Try.func11, Try.ntmps11
        go_wp2_with fail
        have G1 := Lib.hid (guard_all _ _ f0 u _ H0.out)
        have G2 := Lib.hid (fun (W : World) (hb : Below w.heap.size w W) => rGuard_all _ _ f0 u W (H0.out.all hb))
        generalize guardR n0 f0 u = r at *
        refine G1.out.mono ?_
        rintro e w1 ⟨v, rfl, hx, hb⟩
        obtain ⟨a3, n3, c3, rfl⟩ := hx.at.1
        have X1 := Lib.hid hx.at
        have B1 := Lib.hid hb; clear hx hb G1
        go_wp2_with fail
        refine (G2.out _ B1.out).mono ?_
        rintro e w2 ⟨v, rfl, hy, hb⟩
        obtain ⟨a4, n4, c4, rfl⟩ := hy.at.1
        have X2 := Lib.hid (X1.out.all hb)
        have Y2 := Lib.hid hy.at
        have B2 := Lib.hid (B1.out.trans (hb.mono B1.out.size)); clear hy hb G2 X1 B1
        go_wp2_with fail
        have h17 := row2 w2 (.slice a4 n4 c4) (.int .i64 r.2) 55
        have hb : Below w2.heap.size w2 (w2.alloc (.cells #[.slice a4 n4 c4, .int .i64 r.2] 55)) := (Below.refl _ w2).alloc (Nat.le_refl _) _
        have R3 := Lib.hid h17
        have X3 := Lib.hid (X2.out.all hb)
        have Y3 := Lib.hid (Y2.out.all hb)
        have B3 := Lib.hid (B2.out.trans (hb.mono B2.out.size))
        have hh : w.heap.size ≤ w2.heap.size := B2.out.size
        clear hb h17 X2 Y2 B2
        generalize w2.alloc (.cells #[.slice a4 n4 c4, .int .i64 r.2] 55) = w3 at *
        generalize w2.heap.size = h17 at *
        have O1 := Lib.hid (open_all _ _ f1 _ (H1.out.all B3.out))
        have O2 := Lib.hid (fun (W : World) (hb : Below w.heap.size w W) => rOpen_all _ _ f1 W (H1.out.all hb))
        generalize openR n1 f1 = q at *
        refine O1.out.mono ?_
        rintro e w4 ⟨v, rfl, hx, hb⟩
        obtain ⟨a5, n5, c5, rfl⟩ := hx.1
        have R4 := Lib.hid (R3.out.all hb)
        have X4 := Lib.hid (X3.out.all hb)
        have Y4 := Lib.hid (Y3.out.all hb)
        have P4 := Lib.hid hx
        have B4 := Lib.hid (B3.out.trans (hb.mono B3.out.size)); clear hx hb R3 X3 Y3 B3 O1
        go_wp2_with fail
        refine (O2.out _ B4.out).mono ?_
        rintro e w5 ⟨v, rfl, hx, hb⟩
        obtain ⟨a6, n6, c6, rfl⟩ := hx.1
        have h21 := row3 w5 (.slice a6 n6 c6) (.int .i64 q.2.1) (.int .i64 q.2.2) 58
        have hb2 := (Below.refl _ w5).alloc (Nat.le_refl _) (.cells #[.slice a6 n6 c6, .int .i64 q.2.1, .int .i64 q.2.2] 58)
        have hb3 := hb.trans (hb2.mono hb.size)
        have R6 := (R4.out.all hb3)
        have X6 := Lib.hid (X4.out.all hb3)
        have Y6 := Lib.hid (Y4.out.all hb3)
        have P6 := Lib.hid (P4.out.all hb3)
        have Q6 := Lib.hid (hx.all hb2)
        have B6 := Lib.hid (B4.out.trans (hb3.mono B4.out.size))
        have p0 := R6.cell (i := 0) (by omega)
        have p1 := R6.cell (i := 1) (by omega)
        have p2 := h21.cell (i := 0) (by omega)
        have p3 := h21.cell (i := 1) (by omega)
        have p4 := h21.cell (i := 2) (by omega)
        unfold st2 at p0 p1
        unfold st3 at p2 p3 p4
        simp only [if_true, Nat.one_ne_zero, if_false] at p0 p1 p2 p3
        have R6 := Lib.hid R6
        clear hx hb hb2 hb3 R4 X4 Y4 P4 B4 O2 h21
        generalize hwe : w5.alloc (.cells #[.slice a6 n6 c6, .int .i64 q.2.1, .int .i64 q.2.2] 58) = w6 at *
        go_wp2_with fail
        refine (sameBytes_at _ _ _ _ _ X6.out Y6.out).mono ?_
        rintro e w' ⟨rfl, rfl⟩
        rw [beqS]
        go_wp2_with fail
        refine (sameBytes_at _ _ _ _ _ P6.out Q6.out).mono ?_
        rintro e w' ⟨rfl, rfl⟩
        rw [beqS]
        clear p0 p1 p2 p3 p4 X6 Y6 P6 Q6
        go_wp2_with fail
        have R := R6
        have B := B6
        clear R6 B6 hwe
        by_cases hn1 : n1 = 512
        · subst hn1
          have H1' := H1.out
          rcases H1' with ⟨h, _⟩ | ⟨b1, off1, cap1, hv1, _, hcap1, hmx1, hc1, hf1⟩
          · omega
          cases hv1
          have Hc1 := Lib.hid hc1
          have Hf1 := Lib.hid hf1
          clear hc1 hf1
          refine (marks_ok b1 off1 _ hcap1 hmx1 f1 Hf1.out _ (Hc1.out.all B.out)).mono ?_
          rintro e w7 ⟨gL, cL, rfl, -, hrL, -, hb⟩
          have LL := Lib.hid (intsAt_row8 hrL)
          clear hrL
          have R := Lib.hid (R.out.all hb)
          have B := Lib.hid (B.out.trans (hb.mono B.out.size)); clear hb
          go_wp2_with fail
          refine (torn_ok b1 off1 _ hcap1 hmx1 f1 Hf1.out _ (Hc1.out.all B.out)).mono ?_
          rintro e w8 ⟨vT, rfl, hoT, hb⟩
          obtain ⟨aT, cT, rfl⟩ := (IntsAt.own hoT).slice
          have LT := Lib.hid (IntsAt.own hoT)
          have LL := Lib.hid (LL.out.all hb)
          clear hoT
          have R := Lib.hid (R.out.all hb)
          have B := Lib.hid (B.out.trans (hb.mono B.out.size)); clear hb
          go_wp2_with fail
          refine (rRight_any _ _ _ _).mono ?_
          rintro e w' ⟨rfl, rfl⟩
          rw [show (((512 : Nat) : Int) == 512) = true from rfl]
          go_wp2_with fail
          refine (rMarks_any b1 off1 _ hcap1 hmx1 f1 Hf1.out _ (Hc1.out.all B.out)).mono ?_
          rintro e w9 ⟨gM, cM, rfl, -, hrM, hb⟩
          have LM := Lib.hid (intsAt_row8 hrM)
          have LL := Lib.hid (LL.out.all hb)
          have LT := Lib.hid (LT.out.all hb)
          clear hrM
          have R := Lib.hid (R.out.all hb)
          have B := Lib.hid (B.out.trans (hb.mono B.out.size)); clear hb
          go_wp2_with fail
          refine (sameInts_any _ _ _ _ _ (by simp) LL.out LM.out).mono ?_
          rintro e w10 ⟨rfl, hb⟩
          have LT := Lib.hid (LT.out.all hb)
          have R := Lib.hid (R.out.all hb)
          have B := Lib.hid (B.out.trans (hb.mono B.out.size)); clear hb
          rw [decL]
          clear LL LM
          go_wp2_with fail
          refine (rTorn_any b1 off1 _ hcap1 hmx1 f1 Hf1.out _ (Hc1.out.all B.out)).mono ?_
          rintro e w11 ⟨vU, rfl, hoU, hb⟩
          obtain ⟨aU, cU, rfl⟩ := (IntsAt.own hoU).slice
          have LU := Lib.hid (IntsAt.own hoU)
          have LT := Lib.hid (LT.out.all hb)
          clear hoU
          have R := Lib.hid (R.out.all hb)
          have B := Lib.hid (B.out.trans (hb.mono B.out.size)); clear hb
          go_wp2_with fail
          refine (sameInts_any _ _ _ _ _ (by have := tornL_len f1 8; omega) LT.out LU.out).mono ?_
          rintro e w12 ⟨rfl, hb⟩
          have R := Lib.hid (R.out.all hb)
          have B := Lib.hid (B.out.trans (hb.mono B.out.size)); clear hb
          rw [decL]
          clear LT LU
          by_cases hu : 1 ≤ u ∧ u ≤ 65535
          · by_cases hv : 1 ≤ v ∧ v ≤ 65535
            · go_wp2_with fail
              refine (Next_any _ _).mono ?_
              rintro e w' ⟨rfl, rfl⟩
              rw [if_pos hu]
              go_wp2_with fail
              refine (Newer_any _ _ _).mono ?_
              rintro e w' ⟨rfl, rfl⟩
              rw [if_pos ⟨hu, hv⟩]
              go_wp2_with fail
              refine (rMark_any _ _).mono ?_
              rintro e w' ⟨rfl, rfl⟩
              rw [show decide (1 ≤ u ∧ u ≤ 65535) = true from by simpa using hu]
              go_wp2_with fail
              refine (rNext_any _ _ hu).mono ?_
              rintro e w' ⟨rfl, rfl⟩
              go_wp2_with fail
              refine (rMark_any _ _).mono ?_
              rintro e w' ⟨rfl, rfl⟩
              rw [show decide (1 ≤ u ∧ u ≤ 65535) = true from by simpa using hu]
              go_wp2_with fail
              refine (rMark_any _ _).mono ?_
              rintro e w' ⟨rfl, rfl⟩
              rw [show decide (1 ≤ v ∧ v ≤ 65535) = true from by simpa using hv]
              go_wp2_with fail
              refine (rNewer_any _ _ _ hu hv).mono ?_
              rintro e w' ⟨rfl, rfl⟩
              by_cases hn0 : n0 = 512
              · subst hn0
                by_cases hm0 : m < 0
                · have hbad := Lib.hid (show ¬ blendArgs 512 512 m from fun h => by have := h.2.2; omega)
                  go_wp2_with fail
                  refine (blend_bad _ _ _ _ _ _ m hbad.out _).mono ?_
                  rintro e w12 ⟨rfl, hb⟩
                  have R := Lib.hid (R.out.all hb)
                  have B := Lib.hid (B.out.trans (hb.mono B.out.size)); clear hb
                  go_wp2_with fail
                  refine (rRight_any _ _ _ _).mono ?_
                  rintro e w' ⟨rfl, rfl⟩
                  rw [show (((512 : Nat) : Int) == 512) = true from rfl]
                  go_wp2_with fail
                  refine (rRight_any _ _ _ _).mono ?_
                  rintro e w' ⟨rfl, rfl⟩
                  rw [show (((512 : Nat) : Int) == 512) = true from rfl]
                  go_wp2_with fail
                  have M1 := Lib.hid (mend_all _ _ _ _ f1 f2 s _ (H1.out.all B.out) (H2.out.all B.out))
                  have M2 := Lib.hid (fun (W : World) (hb : Below w.heap.size w W) => rMend_all _ _ _ _ f1 f2 s W (H1.out.all hb) (H2.out.all hb))
                  generalize mendR _ f1 s n2 f2 = mr at *
                  refine M1.out.mono ?_
                  rintro e w20 ⟨v, rfl, hx, hb⟩
                  obtain ⟨a7, n7, c7, rfl⟩ := hx.at.1
                  have hlt := R.out.lt
                  have X := Lib.hid hx
                  have R1 := Lib.hid (R.out.all hb)
                  have B1 := Lib.hid (B.out.trans (hb.mono B.out.size)); clear hx hb M1
                  go_wp2_with fail
                  refine (M2.out _ B1.out).mono ?_
                  rintro e w21 ⟨v, rfl, hy, hb⟩
                  obtain ⟨a8, n8, c8, rfl⟩ := hy.at.1
                  have hlt1 := R1.out.lt
                  have X1 := Lib.hid (X.out.all hb)
                  have Y1 := Lib.hid hy
                  have hR := R1.out.all hb
                  have B2 := Lib.hid (B1.out.trans (hb.mono B1.out.size)); clear hy hb M2
                  have p0 := hR.cell (i := 0) (by omega)
                  have p1 := hR.cell (i := 1) (by omega)
                  have z0 := hR.frozen 0
                  have z1 := hR.frozen 1
                  have hR2 := hR.st2 (.slice a8 n8 c8) (.int .i64 mr.2)
                  have hB2 := (B2.out.setCell (p := ⟨h17, 0, none⟩) hh (.slice a8 n8 c8)).setCell (p := ⟨h17, 1, none⟩) hh (.int .i64 mr.2)
                  have hX2 : StrAt (.slice a7 n7 c7) mr.1 ((w21.setCell ⟨h17, 0, none⟩ (.slice a8 n8 c8)).setCell ⟨h17, 1, none⟩ (.int .i64 mr.2)) := ((X1.out.setOther _ _ hlt).setOther _ _ hlt).at
                  have hY2 : StrAt (.slice a8 n8 c8) mr.1 ((w21.setCell ⟨h17, 0, none⟩ (.slice a8 n8 c8)).setCell ⟨h17, 1, none⟩ (.int .i64 mr.2)) := ((Y1.out.setOther _ _ hlt1).setOther _ _ hlt1).at
                  have R2 := Lib.hid hR2
                  have HB2 := Lib.hid hB2
                  have X2 := Lib.hid hX2
                  have Y2 := Lib.hid hY2
                  clear hR hR2 hB2 hX2 hY2
                  go_wp2_with fail
                  generalize (w21.setCell ⟨h17, 0, none⟩ (.slice a8 n8 c8)).setCell ⟨h17, 1, none⟩ (.int .i64 mr.2) = w22 at *
                  refine (sanity_any _).mono ?_
                  rintro e w23 ⟨rfl, hb⟩
                  have hR3 := R2.out.all hb
                  have p0 := hR3.cell (i := 0) (by omega)
                  have p1 := hR3.cell (i := 1) (by omega)
                  unfold st2 at p0 p1
                  simp only [if_true, Nat.one_ne_zero, if_false] at p0 p1
                  have X3 := Lib.hid (X2.out.all hb)
                  have Y3 := Lib.hid (Y2.out.all hb)
                  have HB3 := Lib.hid (HB2.out.trans (hb.mono HB2.out.size))
                  clear hR3 hb
                  go_wp2_with fail
                  refine (sameBytes_at _ _ _ _ _ X3.out Y3.out).mono ?_
                  rintro e w' ⟨rfl, rfl⟩
                  rw [beqS]
                  go_wp2_with fail
                  go_ret
                  exact ⟨rfl, HB3.out⟩
                · by_cases hm1 : 255 < m
                  · have hbad := Lib.hid (show ¬ blendArgs 512 512 m from fun h => by have := h.2.2; omega)
                    go_wp2_with fail
                    refine (blend_bad _ _ _ _ _ _ m hbad.out _).mono ?_
                    rintro e w12 ⟨rfl, hb⟩
                    have R := Lib.hid (R.out.all hb)
                    have B := Lib.hid (B.out.trans (hb.mono B.out.size)); clear hb
                    go_wp2_with fail
                    refine (rRight_any _ _ _ _).mono ?_
                    rintro e w' ⟨rfl, rfl⟩
                    rw [show (((512 : Nat) : Int) == 512) = true from rfl]
                    go_wp2_with fail
                    refine (rRight_any _ _ _ _).mono ?_
                    rintro e w' ⟨rfl, rfl⟩
                    rw [show (((512 : Nat) : Int) == 512) = true from rfl]
                    go_wp2_with fail
                    have M1 := Lib.hid (mend_all _ _ _ _ f1 f2 s _ (H1.out.all B.out) (H2.out.all B.out))
                    have M2 := Lib.hid (fun (W : World) (hb : Below w.heap.size w W) => rMend_all _ _ _ _ f1 f2 s W (H1.out.all hb) (H2.out.all hb))
                    generalize mendR _ f1 s n2 f2 = mr at *
                    refine M1.out.mono ?_
                    rintro e w20 ⟨v, rfl, hx, hb⟩
                    obtain ⟨a7, n7, c7, rfl⟩ := hx.at.1
                    have hlt := R.out.lt
                    have X := Lib.hid hx
                    have R1 := Lib.hid (R.out.all hb)
                    have B1 := Lib.hid (B.out.trans (hb.mono B.out.size)); clear hx hb M1
                    go_wp2_with fail
                    refine (M2.out _ B1.out).mono ?_
                    rintro e w21 ⟨v, rfl, hy, hb⟩
                    obtain ⟨a8, n8, c8, rfl⟩ := hy.at.1
                    have hlt1 := R1.out.lt
                    have X1 := Lib.hid (X.out.all hb)
                    have Y1 := Lib.hid hy
                    have hR := R1.out.all hb
                    have B2 := Lib.hid (B1.out.trans (hb.mono B1.out.size)); clear hy hb M2
                    have p0 := hR.cell (i := 0) (by omega)
                    have p1 := hR.cell (i := 1) (by omega)
                    have z0 := hR.frozen 0
                    have z1 := hR.frozen 1
                    have hR2 := hR.st2 (.slice a8 n8 c8) (.int .i64 mr.2)
                    have hB2 := (B2.out.setCell (p := ⟨h17, 0, none⟩) hh (.slice a8 n8 c8)).setCell (p := ⟨h17, 1, none⟩) hh (.int .i64 mr.2)
                    have hX2 : StrAt (.slice a7 n7 c7) mr.1 ((w21.setCell ⟨h17, 0, none⟩ (.slice a8 n8 c8)).setCell ⟨h17, 1, none⟩ (.int .i64 mr.2)) := ((X1.out.setOther _ _ hlt).setOther _ _ hlt).at
                    have hY2 : StrAt (.slice a8 n8 c8) mr.1 ((w21.setCell ⟨h17, 0, none⟩ (.slice a8 n8 c8)).setCell ⟨h17, 1, none⟩ (.int .i64 mr.2)) := ((Y1.out.setOther _ _ hlt1).setOther _ _ hlt1).at
                    have R2 := Lib.hid hR2
                    have HB2 := Lib.hid hB2
                    have X2 := Lib.hid hX2
                    have Y2 := Lib.hid hY2
                    clear hR hR2 hB2 hX2 hY2
                    go_wp2_with fail
                    generalize (w21.setCell ⟨h17, 0, none⟩ (.slice a8 n8 c8)).setCell ⟨h17, 1, none⟩ (.int .i64 mr.2) = w22 at *
                    refine (sanity_any _).mono ?_
                    rintro e w23 ⟨rfl, hb⟩
                    have hR3 := R2.out.all hb
                    have p0 := hR3.cell (i := 0) (by omega)
                    have p1 := hR3.cell (i := 1) (by omega)
                    unfold st2 at p0 p1
                    simp only [if_true, Nat.one_ne_zero, if_false] at p0 p1
                    have X3 := Lib.hid (X2.out.all hb)
                    have Y3 := Lib.hid (Y2.out.all hb)
                    have HB3 := Lib.hid (HB2.out.trans (hb.mono HB2.out.size))
                    clear hR3 hb
                    go_wp2_with fail
                    refine (sameBytes_at _ _ _ _ _ X3.out Y3.out).mono ?_
                    rintro e w' ⟨rfl, rfl⟩
                    rw [beqS]
                    go_wp2_with fail
                    go_ret
                    exact ⟨rfl, HB3.out⟩
                  · have hmm : 0 ≤ m ∧ m ≤ 255 := by omega
                    clear hm0 hm1
                    have hbad := Lib.hid (show 0 ≤ m ∧ m ≤ 255 from hmm)
                    obtain ⟨M, rfl⟩ := Int.eq_ofNat_of_zero_le hmm.1
                    have hM : M < 256 := by omega
                    clear hmm
                    have H0' := H0.out
                    rcases H0' with ⟨h, _⟩ | ⟨b0, off0, cap0, hv0, _, hcap0, hmx0, hc0, hf0⟩
                    · omega
                    cases hv0
                    have Hc0 := Lib.hid hc0
                    have Hf0 := Lib.hid hf0
                    clear hc0 hf0
                    go_wp2_with fail
                    refine (blend_ok b0 off0 _ b1 off1 _ hcap1 f0 f1 (M : Int) (by omega) (by omega) _ (Hc0.out.all B.out) (Hc1.out.all B.out)).mono ?_
                    rintro e w12 ⟨gB, cB, rfl, -, hrB, -, hb⟩
                    have XB := Lib.hid (StrAt.row hrB)
                    have R := Lib.hid (R.out.all hb)
                    have B := Lib.hid (B.out.trans (hb.mono B.out.size)); clear hb
                    clear hrB
                    go_wp2_with fail
                    refine (rRight_any _ _ _ _).mono ?_
                    rintro e w' ⟨rfl, rfl⟩
                    rw [show (((512 : Nat) : Int) == 512) = true from rfl]
                    go_wp2_with fail
                    refine (rRight_any _ _ _ _).mono ?_
                    rintro e w' ⟨rfl, rfl⟩
                    rw [show (((512 : Nat) : Int) == 512) = true from rfl]
                    go_wp2_with fail
                    refine (rBlend_any b0 off0 _ b1 off1 _ hcap1 f0 f1 M hM _ (Hc0.out.all B.out) (Hc1.out.all B.out)).mono ?_
                    rintro e w13 ⟨gC, cC, rfl, -, hrC, -, hb⟩
                    have YB := Lib.hid (StrAt.row hrC)
                    have XB := Lib.hid (XB.out.all hb)
                    have R := Lib.hid (R.out.all hb)
                    have B := Lib.hid (B.out.trans (hb.mono B.out.size)); clear hb
                    clear hrC
                    go_wp2_with fail
                    refine (sameBytes_at _ _ _ _ _ XB.out YB.out).mono ?_
                    rintro e w' ⟨rfl, rfl⟩
                    rw [beqS]
                    go_wp2_with fail
                    have M1 := Lib.hid (mend_all _ _ _ _ f1 f2 s _ (H1.out.all B.out) (H2.out.all B.out))
                    have M2 := Lib.hid (fun (W : World) (hb : Below w.heap.size w W) => rMend_all _ _ _ _ f1 f2 s W (H1.out.all hb) (H2.out.all hb))
                    generalize mendR _ f1 s n2 f2 = mr at *
                    refine M1.out.mono ?_
                    rintro e w20 ⟨v, rfl, hx, hb⟩
                    obtain ⟨a7, n7, c7, rfl⟩ := hx.at.1
                    have hlt := R.out.lt
                    have X := Lib.hid hx
                    have R1 := Lib.hid (R.out.all hb)
                    have B1 := Lib.hid (B.out.trans (hb.mono B.out.size)); clear hx hb M1
                    go_wp2_with fail
                    refine (M2.out _ B1.out).mono ?_
                    rintro e w21 ⟨v, rfl, hy, hb⟩
                    obtain ⟨a8, n8, c8, rfl⟩ := hy.at.1
                    have hlt1 := R1.out.lt
                    have X1 := Lib.hid (X.out.all hb)
                    have Y1 := Lib.hid hy
                    have hR := R1.out.all hb
                    have B2 := Lib.hid (B1.out.trans (hb.mono B1.out.size)); clear hy hb M2
                    have p0 := hR.cell (i := 0) (by omega)
                    have p1 := hR.cell (i := 1) (by omega)
                    have z0 := hR.frozen 0
                    have z1 := hR.frozen 1
                    have hR2 := hR.st2 (.slice a8 n8 c8) (.int .i64 mr.2)
                    have hB2 := (B2.out.setCell (p := ⟨h17, 0, none⟩) hh (.slice a8 n8 c8)).setCell (p := ⟨h17, 1, none⟩) hh (.int .i64 mr.2)
                    have hX2 : StrAt (.slice a7 n7 c7) mr.1 ((w21.setCell ⟨h17, 0, none⟩ (.slice a8 n8 c8)).setCell ⟨h17, 1, none⟩ (.int .i64 mr.2)) := ((X1.out.setOther _ _ hlt).setOther _ _ hlt).at
                    have hY2 : StrAt (.slice a8 n8 c8) mr.1 ((w21.setCell ⟨h17, 0, none⟩ (.slice a8 n8 c8)).setCell ⟨h17, 1, none⟩ (.int .i64 mr.2)) := ((Y1.out.setOther _ _ hlt1).setOther _ _ hlt1).at
                    have R2 := Lib.hid hR2
                    have HB2 := Lib.hid hB2
                    have X2 := Lib.hid hX2
                    have Y2 := Lib.hid hY2
                    clear hR hR2 hB2 hX2 hY2
                    go_wp2_with fail
                    generalize (w21.setCell ⟨h17, 0, none⟩ (.slice a8 n8 c8)).setCell ⟨h17, 1, none⟩ (.int .i64 mr.2) = w22 at *
                    refine (sanity_any _).mono ?_
                    rintro e w23 ⟨rfl, hb⟩
                    have hR3 := R2.out.all hb
                    have p0 := hR3.cell (i := 0) (by omega)
                    have p1 := hR3.cell (i := 1) (by omega)
                    unfold st2 at p0 p1
                    simp only [if_true, Nat.one_ne_zero, if_false] at p0 p1
                    have X3 := Lib.hid (X2.out.all hb)
                    have Y3 := Lib.hid (Y2.out.all hb)
                    have HB3 := Lib.hid (HB2.out.trans (hb.mono HB2.out.size))
                    clear hR3 hb
                    go_wp2_with fail
                    refine (sameBytes_at _ _ _ _ _ X3.out Y3.out).mono ?_
                    rintro e w' ⟨rfl, rfl⟩
                    rw [beqS]
                    go_wp2_with fail
                    go_ret
                    exact ⟨rfl, HB3.out⟩
              · have hq : ((n0 : Int) == 512) = false := by rw [beq_eq_false_iff_ne]; omega
                have hbad := Lib.hid (show ¬ blendArgs n0 512 m from fun h => hn0 h.1)
                go_wp2_with fail
                refine (blend_bad _ _ _ _ _ _ m hbad.out _).mono ?_
                rintro e w12 ⟨rfl, hb⟩
                have R := Lib.hid (R.out.all hb)
                have B := Lib.hid (B.out.trans (hb.mono B.out.size)); clear hb
                go_wp2_with fail
                refine (rRight_any _ _ _ _).mono ?_
                rintro e w' ⟨rfl, rfl⟩
                rw [hq]
                go_wp2_with fail
                have M1 := Lib.hid (mend_all _ _ _ _ f1 f2 s _ (H1.out.all B.out) (H2.out.all B.out))
                have M2 := Lib.hid (fun (W : World) (hb : Below w.heap.size w W) => rMend_all _ _ _ _ f1 f2 s W (H1.out.all hb) (H2.out.all hb))
                generalize mendR _ f1 s n2 f2 = mr at *
                refine M1.out.mono ?_
                rintro e w20 ⟨v, rfl, hx, hb⟩
                obtain ⟨a7, n7, c7, rfl⟩ := hx.at.1
                have hlt := R.out.lt
                have X := Lib.hid hx
                have R1 := Lib.hid (R.out.all hb)
                have B1 := Lib.hid (B.out.trans (hb.mono B.out.size)); clear hx hb M1
                go_wp2_with fail
                refine (M2.out _ B1.out).mono ?_
                rintro e w21 ⟨v, rfl, hy, hb⟩
                obtain ⟨a8, n8, c8, rfl⟩ := hy.at.1
                have hlt1 := R1.out.lt
                have X1 := Lib.hid (X.out.all hb)
                have Y1 := Lib.hid hy
                have hR := R1.out.all hb
                have B2 := Lib.hid (B1.out.trans (hb.mono B1.out.size)); clear hy hb M2
                have p0 := hR.cell (i := 0) (by omega)
                have p1 := hR.cell (i := 1) (by omega)
                have z0 := hR.frozen 0
                have z1 := hR.frozen 1
                have hR2 := hR.st2 (.slice a8 n8 c8) (.int .i64 mr.2)
                have hB2 := (B2.out.setCell (p := ⟨h17, 0, none⟩) hh (.slice a8 n8 c8)).setCell (p := ⟨h17, 1, none⟩) hh (.int .i64 mr.2)
                have hX2 : StrAt (.slice a7 n7 c7) mr.1 ((w21.setCell ⟨h17, 0, none⟩ (.slice a8 n8 c8)).setCell ⟨h17, 1, none⟩ (.int .i64 mr.2)) := ((X1.out.setOther _ _ hlt).setOther _ _ hlt).at
                have hY2 : StrAt (.slice a8 n8 c8) mr.1 ((w21.setCell ⟨h17, 0, none⟩ (.slice a8 n8 c8)).setCell ⟨h17, 1, none⟩ (.int .i64 mr.2)) := ((Y1.out.setOther _ _ hlt1).setOther _ _ hlt1).at
                have R2 := Lib.hid hR2
                have HB2 := Lib.hid hB2
                have X2 := Lib.hid hX2
                have Y2 := Lib.hid hY2
                clear hR hR2 hB2 hX2 hY2
                go_wp2_with fail
                generalize (w21.setCell ⟨h17, 0, none⟩ (.slice a8 n8 c8)).setCell ⟨h17, 1, none⟩ (.int .i64 mr.2) = w22 at *
                refine (sanity_any _).mono ?_
                rintro e w23 ⟨rfl, hb⟩
                have hR3 := R2.out.all hb
                have p0 := hR3.cell (i := 0) (by omega)
                have p1 := hR3.cell (i := 1) (by omega)
                unfold st2 at p0 p1
                simp only [if_true, Nat.one_ne_zero, if_false] at p0 p1
                have X3 := Lib.hid (X2.out.all hb)
                have Y3 := Lib.hid (Y2.out.all hb)
                have HB3 := Lib.hid (HB2.out.trans (hb.mono HB2.out.size))
                clear hR3 hb
                go_wp2_with fail
                refine (sameBytes_at _ _ _ _ _ X3.out Y3.out).mono ?_
                rintro e w' ⟨rfl, rfl⟩
                rw [beqS]
                go_wp2_with fail
                go_ret
                exact ⟨rfl, HB3.out⟩
            · go_wp2_with fail
              refine (Next_any _ _).mono ?_
              rintro e w' ⟨rfl, rfl⟩
              rw [if_pos hu]
              go_wp2_with fail
              refine (Newer_any _ _ _).mono ?_
              rintro e w' ⟨rfl, rfl⟩
              rw [if_neg (fun h => hv h.2)]
              go_wp2_with fail
              refine (rMark_any _ _).mono ?_
              rintro e w' ⟨rfl, rfl⟩
              rw [show decide (1 ≤ u ∧ u ≤ 65535) = true from by simpa using hu]
              go_wp2_with fail
              refine (rNext_any _ _ hu).mono ?_
              rintro e w' ⟨rfl, rfl⟩
              go_wp2_with fail
              refine (rMark_any _ _).mono ?_
              rintro e w' ⟨rfl, rfl⟩
              rw [show decide (1 ≤ u ∧ u ≤ 65535) = true from by simpa using hu]
              go_wp2_with fail
              refine (rMark_any _ _).mono ?_
              rintro e w' ⟨rfl, rfl⟩
              rw [show decide (1 ≤ v ∧ v ≤ 65535) = false from by simpa using hv]
              by_cases hn0 : n0 = 512
              · subst hn0
                by_cases hm0 : m < 0
                · have hbad := Lib.hid (show ¬ blendArgs 512 512 m from fun h => by have := h.2.2; omega)
                  go_wp2_with fail
                  refine (blend_bad _ _ _ _ _ _ m hbad.out _).mono ?_
                  rintro e w12 ⟨rfl, hb⟩
                  have R := Lib.hid (R.out.all hb)
                  have B := Lib.hid (B.out.trans (hb.mono B.out.size)); clear hb
                  go_wp2_with fail
                  refine (rRight_any _ _ _ _).mono ?_
                  rintro e w' ⟨rfl, rfl⟩
                  rw [show (((512 : Nat) : Int) == 512) = true from rfl]
                  go_wp2_with fail
                  refine (rRight_any _ _ _ _).mono ?_
                  rintro e w' ⟨rfl, rfl⟩
                  rw [show (((512 : Nat) : Int) == 512) = true from rfl]
                  go_wp2_with fail
                  have M1 := Lib.hid (mend_all _ _ _ _ f1 f2 s _ (H1.out.all B.out) (H2.out.all B.out))
                  have M2 := Lib.hid (fun (W : World) (hb : Below w.heap.size w W) => rMend_all _ _ _ _ f1 f2 s W (H1.out.all hb) (H2.out.all hb))
                  generalize mendR _ f1 s n2 f2 = mr at *
                  refine M1.out.mono ?_
                  rintro e w20 ⟨v, rfl, hx, hb⟩
                  obtain ⟨a7, n7, c7, rfl⟩ := hx.at.1
                  have hlt := R.out.lt
                  have X := Lib.hid hx
                  have R1 := Lib.hid (R.out.all hb)
                  have B1 := Lib.hid (B.out.trans (hb.mono B.out.size)); clear hx hb M1
                  go_wp2_with fail
                  refine (M2.out _ B1.out).mono ?_
                  rintro e w21 ⟨v, rfl, hy, hb⟩
                  obtain ⟨a8, n8, c8, rfl⟩ := hy.at.1
                  have hlt1 := R1.out.lt
                  have X1 := Lib.hid (X.out.all hb)
                  have Y1 := Lib.hid hy
                  have hR := R1.out.all hb
                  have B2 := Lib.hid (B1.out.trans (hb.mono B1.out.size)); clear hy hb M2
                  have p0 := hR.cell (i := 0) (by omega)
                  have p1 := hR.cell (i := 1) (by omega)
                  have z0 := hR.frozen 0
                  have z1 := hR.frozen 1
                  have hR2 := hR.st2 (.slice a8 n8 c8) (.int .i64 mr.2)
                  have hB2 := (B2.out.setCell (p := ⟨h17, 0, none⟩) hh (.slice a8 n8 c8)).setCell (p := ⟨h17, 1, none⟩) hh (.int .i64 mr.2)
                  have hX2 : StrAt (.slice a7 n7 c7) mr.1 ((w21.setCell ⟨h17, 0, none⟩ (.slice a8 n8 c8)).setCell ⟨h17, 1, none⟩ (.int .i64 mr.2)) := ((X1.out.setOther _ _ hlt).setOther _ _ hlt).at
                  have hY2 : StrAt (.slice a8 n8 c8) mr.1 ((w21.setCell ⟨h17, 0, none⟩ (.slice a8 n8 c8)).setCell ⟨h17, 1, none⟩ (.int .i64 mr.2)) := ((Y1.out.setOther _ _ hlt1).setOther _ _ hlt1).at
                  have R2 := Lib.hid hR2
                  have HB2 := Lib.hid hB2
                  have X2 := Lib.hid hX2
                  have Y2 := Lib.hid hY2
                  clear hR hR2 hB2 hX2 hY2
                  go_wp2_with fail
                  generalize (w21.setCell ⟨h17, 0, none⟩ (.slice a8 n8 c8)).setCell ⟨h17, 1, none⟩ (.int .i64 mr.2) = w22 at *
                  refine (sanity_any _).mono ?_
                  rintro e w23 ⟨rfl, hb⟩
                  have hR3 := R2.out.all hb
                  have p0 := hR3.cell (i := 0) (by omega)
                  have p1 := hR3.cell (i := 1) (by omega)
                  unfold st2 at p0 p1
                  simp only [if_true, Nat.one_ne_zero, if_false] at p0 p1
                  have X3 := Lib.hid (X2.out.all hb)
                  have Y3 := Lib.hid (Y2.out.all hb)
                  have HB3 := Lib.hid (HB2.out.trans (hb.mono HB2.out.size))
                  clear hR3 hb
                  go_wp2_with fail
                  refine (sameBytes_at _ _ _ _ _ X3.out Y3.out).mono ?_
                  rintro e w' ⟨rfl, rfl⟩
                  rw [beqS]
                  go_wp2_with fail
                  go_ret
                  exact ⟨rfl, HB3.out⟩
                · by_cases hm1 : 255 < m
                  · have hbad := Lib.hid (show ¬ blendArgs 512 512 m from fun h => by have := h.2.2; omega)
                    go_wp2_with fail
                    refine (blend_bad _ _ _ _ _ _ m hbad.out _).mono ?_
                    rintro e w12 ⟨rfl, hb⟩
                    have R := Lib.hid (R.out.all hb)
                    have B := Lib.hid (B.out.trans (hb.mono B.out.size)); clear hb
                    go_wp2_with fail
                    refine (rRight_any _ _ _ _).mono ?_
                    rintro e w' ⟨rfl, rfl⟩
                    rw [show (((512 : Nat) : Int) == 512) = true from rfl]
                    go_wp2_with fail
                    refine (rRight_any _ _ _ _).mono ?_
                    rintro e w' ⟨rfl, rfl⟩
                    rw [show (((512 : Nat) : Int) == 512) = true from rfl]
                    go_wp2_with fail
                    have M1 := Lib.hid (mend_all _ _ _ _ f1 f2 s _ (H1.out.all B.out) (H2.out.all B.out))
                    have M2 := Lib.hid (fun (W : World) (hb : Below w.heap.size w W) => rMend_all _ _ _ _ f1 f2 s W (H1.out.all hb) (H2.out.all hb))
                    generalize mendR _ f1 s n2 f2 = mr at *
                    refine M1.out.mono ?_
                    rintro e w20 ⟨v, rfl, hx, hb⟩
                    obtain ⟨a7, n7, c7, rfl⟩ := hx.at.1
                    have hlt := R.out.lt
                    have X := Lib.hid hx
                    have R1 := Lib.hid (R.out.all hb)
                    have B1 := Lib.hid (B.out.trans (hb.mono B.out.size)); clear hx hb M1
                    go_wp2_with fail
                    refine (M2.out _ B1.out).mono ?_
                    rintro e w21 ⟨v, rfl, hy, hb⟩
                    obtain ⟨a8, n8, c8, rfl⟩ := hy.at.1
                    have hlt1 := R1.out.lt
                    have X1 := Lib.hid (X.out.all hb)
                    have Y1 := Lib.hid hy
                    have hR := R1.out.all hb
                    have B2 := Lib.hid (B1.out.trans (hb.mono B1.out.size)); clear hy hb M2
                    have p0 := hR.cell (i := 0) (by omega)
                    have p1 := hR.cell (i := 1) (by omega)
                    have z0 := hR.frozen 0
                    have z1 := hR.frozen 1
                    have hR2 := hR.st2 (.slice a8 n8 c8) (.int .i64 mr.2)
                    have hB2 := (B2.out.setCell (p := ⟨h17, 0, none⟩) hh (.slice a8 n8 c8)).setCell (p := ⟨h17, 1, none⟩) hh (.int .i64 mr.2)
                    have hX2 : StrAt (.slice a7 n7 c7) mr.1 ((w21.setCell ⟨h17, 0, none⟩ (.slice a8 n8 c8)).setCell ⟨h17, 1, none⟩ (.int .i64 mr.2)) := ((X1.out.setOther _ _ hlt).setOther _ _ hlt).at
                    have hY2 : StrAt (.slice a8 n8 c8) mr.1 ((w21.setCell ⟨h17, 0, none⟩ (.slice a8 n8 c8)).setCell ⟨h17, 1, none⟩ (.int .i64 mr.2)) := ((Y1.out.setOther _ _ hlt1).setOther _ _ hlt1).at
                    have R2 := Lib.hid hR2
                    have HB2 := Lib.hid hB2
                    have X2 := Lib.hid hX2
                    have Y2 := Lib.hid hY2
                    clear hR hR2 hB2 hX2 hY2
                    go_wp2_with fail
                    generalize (w21.setCell ⟨h17, 0, none⟩ (.slice a8 n8 c8)).setCell ⟨h17, 1, none⟩ (.int .i64 mr.2) = w22 at *
                    refine (sanity_any _).mono ?_
                    rintro e w23 ⟨rfl, hb⟩
                    have hR3 := R2.out.all hb
                    have p0 := hR3.cell (i := 0) (by omega)
                    have p1 := hR3.cell (i := 1) (by omega)
                    unfold st2 at p0 p1
                    simp only [if_true, Nat.one_ne_zero, if_false] at p0 p1
                    have X3 := Lib.hid (X2.out.all hb)
                    have Y3 := Lib.hid (Y2.out.all hb)
                    have HB3 := Lib.hid (HB2.out.trans (hb.mono HB2.out.size))
                    clear hR3 hb
                    go_wp2_with fail
                    refine (sameBytes_at _ _ _ _ _ X3.out Y3.out).mono ?_
                    rintro e w' ⟨rfl, rfl⟩
                    rw [beqS]
                    go_wp2_with fail
                    go_ret
                    exact ⟨rfl, HB3.out⟩
                  · have hmm : 0 ≤ m ∧ m ≤ 255 := by omega
                    clear hm0 hm1
                    have hbad := Lib.hid (show 0 ≤ m ∧ m ≤ 255 from hmm)
                    obtain ⟨M, rfl⟩ := Int.eq_ofNat_of_zero_le hmm.1
                    have hM : M < 256 := by omega
                    clear hmm
                    have H0' := H0.out
                    rcases H0' with ⟨h, _⟩ | ⟨b0, off0, cap0, hv0, _, hcap0, hmx0, hc0, hf0⟩
                    · omega
                    cases hv0
                    have Hc0 := Lib.hid hc0
                    have Hf0 := Lib.hid hf0
                    clear hc0 hf0
                    go_wp2_with fail
                    refine (blend_ok b0 off0 _ b1 off1 _ hcap1 f0 f1 (M : Int) (by omega) (by omega) _ (Hc0.out.all B.out) (Hc1.out.all B.out)).mono ?_
                    rintro e w12 ⟨gB, cB, rfl, -, hrB, -, hb⟩
                    have XB := Lib.hid (StrAt.row hrB)
                    have R := Lib.hid (R.out.all hb)
                    have B := Lib.hid (B.out.trans (hb.mono B.out.size)); clear hb
                    clear hrB
                    go_wp2_with fail
                    refine (rRight_any _ _ _ _).mono ?_
                    rintro e w' ⟨rfl, rfl⟩
                    rw [show (((512 : Nat) : Int) == 512) = true from rfl]
                    go_wp2_with fail
                    refine (rRight_any _ _ _ _).mono ?_
                    rintro e w' ⟨rfl, rfl⟩
                    rw [show (((512 : Nat) : Int) == 512) = true from rfl]
                    go_wp2_with fail
                    refine (rBlend_any b0 off0 _ b1 off1 _ hcap1 f0 f1 M hM _ (Hc0.out.all B.out) (Hc1.out.all B.out)).mono ?_
                    rintro e w13 ⟨gC, cC, rfl, -, hrC, -, hb⟩
                    have YB := Lib.hid (StrAt.row hrC)
                    have XB := Lib.hid (XB.out.all hb)
                    have R := Lib.hid (R.out.all hb)
                    have B := Lib.hid (B.out.trans (hb.mono B.out.size)); clear hb
                    clear hrC
                    go_wp2_with fail
                    refine (sameBytes_at _ _ _ _ _ XB.out YB.out).mono ?_
                    rintro e w' ⟨rfl, rfl⟩
                    rw [beqS]
                    go_wp2_with fail
                    have M1 := Lib.hid (mend_all _ _ _ _ f1 f2 s _ (H1.out.all B.out) (H2.out.all B.out))
                    have M2 := Lib.hid (fun (W : World) (hb : Below w.heap.size w W) => rMend_all _ _ _ _ f1 f2 s W (H1.out.all hb) (H2.out.all hb))
                    generalize mendR _ f1 s n2 f2 = mr at *
                    refine M1.out.mono ?_
                    rintro e w20 ⟨v, rfl, hx, hb⟩
                    obtain ⟨a7, n7, c7, rfl⟩ := hx.at.1
                    have hlt := R.out.lt
                    have X := Lib.hid hx
                    have R1 := Lib.hid (R.out.all hb)
                    have B1 := Lib.hid (B.out.trans (hb.mono B.out.size)); clear hx hb M1
                    go_wp2_with fail
                    refine (M2.out _ B1.out).mono ?_
                    rintro e w21 ⟨v, rfl, hy, hb⟩
                    obtain ⟨a8, n8, c8, rfl⟩ := hy.at.1
                    have hlt1 := R1.out.lt
                    have X1 := Lib.hid (X.out.all hb)
                    have Y1 := Lib.hid hy
                    have hR := R1.out.all hb
                    have B2 := Lib.hid (B1.out.trans (hb.mono B1.out.size)); clear hy hb M2
                    have p0 := hR.cell (i := 0) (by omega)
                    have p1 := hR.cell (i := 1) (by omega)
                    have z0 := hR.frozen 0
                    have z1 := hR.frozen 1
                    have hR2 := hR.st2 (.slice a8 n8 c8) (.int .i64 mr.2)
                    have hB2 := (B2.out.setCell (p := ⟨h17, 0, none⟩) hh (.slice a8 n8 c8)).setCell (p := ⟨h17, 1, none⟩) hh (.int .i64 mr.2)
                    have hX2 : StrAt (.slice a7 n7 c7) mr.1 ((w21.setCell ⟨h17, 0, none⟩ (.slice a8 n8 c8)).setCell ⟨h17, 1, none⟩ (.int .i64 mr.2)) := ((X1.out.setOther _ _ hlt).setOther _ _ hlt).at
                    have hY2 : StrAt (.slice a8 n8 c8) mr.1 ((w21.setCell ⟨h17, 0, none⟩ (.slice a8 n8 c8)).setCell ⟨h17, 1, none⟩ (.int .i64 mr.2)) := ((Y1.out.setOther _ _ hlt1).setOther _ _ hlt1).at
                    have R2 := Lib.hid hR2
                    have HB2 := Lib.hid hB2
                    have X2 := Lib.hid hX2
                    have Y2 := Lib.hid hY2
                    clear hR hR2 hB2 hX2 hY2
                    go_wp2_with fail
                    generalize (w21.setCell ⟨h17, 0, none⟩ (.slice a8 n8 c8)).setCell ⟨h17, 1, none⟩ (.int .i64 mr.2) = w22 at *
                    refine (sanity_any _).mono ?_
                    rintro e w23 ⟨rfl, hb⟩
                    have hR3 := R2.out.all hb
                    have p0 := hR3.cell (i := 0) (by omega)
                    have p1 := hR3.cell (i := 1) (by omega)
                    unfold st2 at p0 p1
                    simp only [if_true, Nat.one_ne_zero, if_false] at p0 p1
                    have X3 := Lib.hid (X2.out.all hb)
                    have Y3 := Lib.hid (Y2.out.all hb)
                    have HB3 := Lib.hid (HB2.out.trans (hb.mono HB2.out.size))
                    clear hR3 hb
                    go_wp2_with fail
                    refine (sameBytes_at _ _ _ _ _ X3.out Y3.out).mono ?_
                    rintro e w' ⟨rfl, rfl⟩
                    rw [beqS]
                    go_wp2_with fail
                    go_ret
                    exact ⟨rfl, HB3.out⟩
              · have hq : ((n0 : Int) == 512) = false := by rw [beq_eq_false_iff_ne]; omega
                have hbad := Lib.hid (show ¬ blendArgs n0 512 m from fun h => hn0 h.1)
                go_wp2_with fail
                refine (blend_bad _ _ _ _ _ _ m hbad.out _).mono ?_
                rintro e w12 ⟨rfl, hb⟩
                have R := Lib.hid (R.out.all hb)
                have B := Lib.hid (B.out.trans (hb.mono B.out.size)); clear hb
                go_wp2_with fail
                refine (rRight_any _ _ _ _).mono ?_
                rintro e w' ⟨rfl, rfl⟩
                rw [hq]
                go_wp2_with fail
                have M1 := Lib.hid (mend_all _ _ _ _ f1 f2 s _ (H1.out.all B.out) (H2.out.all B.out))
                have M2 := Lib.hid (fun (W : World) (hb : Below w.heap.size w W) => rMend_all _ _ _ _ f1 f2 s W (H1.out.all hb) (H2.out.all hb))
                generalize mendR _ f1 s n2 f2 = mr at *
                refine M1.out.mono ?_
                rintro e w20 ⟨v, rfl, hx, hb⟩
                obtain ⟨a7, n7, c7, rfl⟩ := hx.at.1
                have hlt := R.out.lt
                have X := Lib.hid hx
                have R1 := Lib.hid (R.out.all hb)
                have B1 := Lib.hid (B.out.trans (hb.mono B.out.size)); clear hx hb M1
                go_wp2_with fail
                refine (M2.out _ B1.out).mono ?_
                rintro e w21 ⟨v, rfl, hy, hb⟩
                obtain ⟨a8, n8, c8, rfl⟩ := hy.at.1
                have hlt1 := R1.out.lt
                have X1 := Lib.hid (X.out.all hb)
                have Y1 := Lib.hid hy
                have hR := R1.out.all hb
                have B2 := Lib.hid (B1.out.trans (hb.mono B1.out.size)); clear hy hb M2
                have p0 := hR.cell (i := 0) (by omega)
                have p1 := hR.cell (i := 1) (by omega)
                have z0 := hR.frozen 0
                have z1 := hR.frozen 1
                have hR2 := hR.st2 (.slice a8 n8 c8) (.int .i64 mr.2)
                have hB2 := (B2.out.setCell (p := ⟨h17, 0, none⟩) hh (.slice a8 n8 c8)).setCell (p := ⟨h17, 1, none⟩) hh (.int .i64 mr.2)
                have hX2 : StrAt (.slice a7 n7 c7) mr.1 ((w21.setCell ⟨h17, 0, none⟩ (.slice a8 n8 c8)).setCell ⟨h17, 1, none⟩ (.int .i64 mr.2)) := ((X1.out.setOther _ _ hlt).setOther _ _ hlt).at
                have hY2 : StrAt (.slice a8 n8 c8) mr.1 ((w21.setCell ⟨h17, 0, none⟩ (.slice a8 n8 c8)).setCell ⟨h17, 1, none⟩ (.int .i64 mr.2)) := ((Y1.out.setOther _ _ hlt1).setOther _ _ hlt1).at
                have R2 := Lib.hid hR2
                have HB2 := Lib.hid hB2
                have X2 := Lib.hid hX2
                have Y2 := Lib.hid hY2
                clear hR hR2 hB2 hX2 hY2
                go_wp2_with fail
                generalize (w21.setCell ⟨h17, 0, none⟩ (.slice a8 n8 c8)).setCell ⟨h17, 1, none⟩ (.int .i64 mr.2) = w22 at *
                refine (sanity_any _).mono ?_
                rintro e w23 ⟨rfl, hb⟩
                have hR3 := R2.out.all hb
                have p0 := hR3.cell (i := 0) (by omega)
                have p1 := hR3.cell (i := 1) (by omega)
                unfold st2 at p0 p1
                simp only [if_true, Nat.one_ne_zero, if_false] at p0 p1
                have X3 := Lib.hid (X2.out.all hb)
                have Y3 := Lib.hid (Y2.out.all hb)
                have HB3 := Lib.hid (HB2.out.trans (hb.mono HB2.out.size))
                clear hR3 hb
                go_wp2_with fail
                refine (sameBytes_at _ _ _ _ _ X3.out Y3.out).mono ?_
                rintro e w' ⟨rfl, rfl⟩
                rw [beqS]
                go_wp2_with fail
                go_ret
                exact ⟨rfl, HB3.out⟩
          · go_wp2_with fail
            refine (Next_any _ _).mono ?_
            rintro e w' ⟨rfl, rfl⟩
            rw [if_neg hu]
            go_wp2_with fail
            refine (Newer_any _ _ _).mono ?_
            rintro e w' ⟨rfl, rfl⟩
            rw [if_neg (fun h => hu h.1)]
            go_wp2_with fail
            refine (rMark_any _ _).mono ?_
            rintro e w' ⟨rfl, rfl⟩
            rw [show decide (1 ≤ u ∧ u ≤ 65535) = false from by simpa using hu]
            go_wp2_with fail
            refine (rMark_any _ _).mono ?_
            rintro e w' ⟨rfl, rfl⟩
            rw [show decide (1 ≤ u ∧ u ≤ 65535) = false from by simpa using hu]
            by_cases hn0 : n0 = 512
            · subst hn0
              by_cases hm0 : m < 0
              · have hbad := Lib.hid (show ¬ blendArgs 512 512 m from fun h => by have := h.2.2; omega)
                go_wp2_with fail
                refine (blend_bad _ _ _ _ _ _ m hbad.out _).mono ?_
                rintro e w12 ⟨rfl, hb⟩
                have R := Lib.hid (R.out.all hb)
                have B := Lib.hid (B.out.trans (hb.mono B.out.size)); clear hb
                go_wp2_with fail
                refine (rRight_any _ _ _ _).mono ?_
                rintro e w' ⟨rfl, rfl⟩
                rw [show (((512 : Nat) : Int) == 512) = true from rfl]
                go_wp2_with fail
                refine (rRight_any _ _ _ _).mono ?_
                rintro e w' ⟨rfl, rfl⟩
                rw [show (((512 : Nat) : Int) == 512) = true from rfl]
                go_wp2_with fail
                have M1 := Lib.hid (mend_all _ _ _ _ f1 f2 s _ (H1.out.all B.out) (H2.out.all B.out))
                have M2 := Lib.hid (fun (W : World) (hb : Below w.heap.size w W) => rMend_all _ _ _ _ f1 f2 s W (H1.out.all hb) (H2.out.all hb))
                generalize mendR _ f1 s n2 f2 = mr at *
                refine M1.out.mono ?_
                rintro e w20 ⟨v, rfl, hx, hb⟩
                obtain ⟨a7, n7, c7, rfl⟩ := hx.at.1
                have hlt := R.out.lt
                have X := Lib.hid hx
                have R1 := Lib.hid (R.out.all hb)
                have B1 := Lib.hid (B.out.trans (hb.mono B.out.size)); clear hx hb M1
                go_wp2_with fail
                refine (M2.out _ B1.out).mono ?_
                rintro e w21 ⟨v, rfl, hy, hb⟩
                obtain ⟨a8, n8, c8, rfl⟩ := hy.at.1
                have hlt1 := R1.out.lt
                have X1 := Lib.hid (X.out.all hb)
                have Y1 := Lib.hid hy
                have hR := R1.out.all hb
                have B2 := Lib.hid (B1.out.trans (hb.mono B1.out.size)); clear hy hb M2
                have p0 := hR.cell (i := 0) (by omega)
                have p1 := hR.cell (i := 1) (by omega)
                have z0 := hR.frozen 0
                have z1 := hR.frozen 1
                have hR2 := hR.st2 (.slice a8 n8 c8) (.int .i64 mr.2)
                have hB2 := (B2.out.setCell (p := ⟨h17, 0, none⟩) hh (.slice a8 n8 c8)).setCell (p := ⟨h17, 1, none⟩) hh (.int .i64 mr.2)
                have hX2 : StrAt (.slice a7 n7 c7) mr.1 ((w21.setCell ⟨h17, 0, none⟩ (.slice a8 n8 c8)).setCell ⟨h17, 1, none⟩ (.int .i64 mr.2)) := ((X1.out.setOther _ _ hlt).setOther _ _ hlt).at
                have hY2 : StrAt (.slice a8 n8 c8) mr.1 ((w21.setCell ⟨h17, 0, none⟩ (.slice a8 n8 c8)).setCell ⟨h17, 1, none⟩ (.int .i64 mr.2)) := ((Y1.out.setOther _ _ hlt1).setOther _ _ hlt1).at
                have R2 := Lib.hid hR2
                have HB2 := Lib.hid hB2
                have X2 := Lib.hid hX2
                have Y2 := Lib.hid hY2
                clear hR hR2 hB2 hX2 hY2
                go_wp2_with fail
                generalize (w21.setCell ⟨h17, 0, none⟩ (.slice a8 n8 c8)).setCell ⟨h17, 1, none⟩ (.int .i64 mr.2) = w22 at *
                refine (sanity_any _).mono ?_
                rintro e w23 ⟨rfl, hb⟩
                have hR3 := R2.out.all hb
                have p0 := hR3.cell (i := 0) (by omega)
                have p1 := hR3.cell (i := 1) (by omega)
                unfold st2 at p0 p1
                simp only [if_true, Nat.one_ne_zero, if_false] at p0 p1
                have X3 := Lib.hid (X2.out.all hb)
                have Y3 := Lib.hid (Y2.out.all hb)
                have HB3 := Lib.hid (HB2.out.trans (hb.mono HB2.out.size))
                clear hR3 hb
                go_wp2_with fail
                refine (sameBytes_at _ _ _ _ _ X3.out Y3.out).mono ?_
                rintro e w' ⟨rfl, rfl⟩
                rw [beqS]
                go_wp2_with fail
                go_ret
                exact ⟨rfl, HB3.out⟩
              · by_cases hm1 : 255 < m
                · have hbad := Lib.hid (show ¬ blendArgs 512 512 m from fun h => by have := h.2.2; omega)
                  go_wp2_with fail
                  refine (blend_bad _ _ _ _ _ _ m hbad.out _).mono ?_
                  rintro e w12 ⟨rfl, hb⟩
                  have R := Lib.hid (R.out.all hb)
                  have B := Lib.hid (B.out.trans (hb.mono B.out.size)); clear hb
                  go_wp2_with fail
                  refine (rRight_any _ _ _ _).mono ?_
                  rintro e w' ⟨rfl, rfl⟩
                  rw [show (((512 : Nat) : Int) == 512) = true from rfl]
                  go_wp2_with fail
                  refine (rRight_any _ _ _ _).mono ?_
                  rintro e w' ⟨rfl, rfl⟩
                  rw [show (((512 : Nat) : Int) == 512) = true from rfl]
                  go_wp2_with fail
                  have M1 := Lib.hid (mend_all _ _ _ _ f1 f2 s _ (H1.out.all B.out) (H2.out.all B.out))
                  have M2 := Lib.hid (fun (W : World) (hb : Below w.heap.size w W) => rMend_all _ _ _ _ f1 f2 s W (H1.out.all hb) (H2.out.all hb))
                  generalize mendR _ f1 s n2 f2 = mr at *
                  refine M1.out.mono ?_
                  rintro e w20 ⟨v, rfl, hx, hb⟩
                  obtain ⟨a7, n7, c7, rfl⟩ := hx.at.1
                  have hlt := R.out.lt
                  have X := Lib.hid hx
                  have R1 := Lib.hid (R.out.all hb)
                  have B1 := Lib.hid (B.out.trans (hb.mono B.out.size)); clear hx hb M1
                  go_wp2_with fail
                  refine (M2.out _ B1.out).mono ?_
                  rintro e w21 ⟨v, rfl, hy, hb⟩
                  obtain ⟨a8, n8, c8, rfl⟩ := hy.at.1
                  have hlt1 := R1.out.lt
                  have X1 := Lib.hid (X.out.all hb)
                  have Y1 := Lib.hid hy
                  have hR := R1.out.all hb
                  have B2 := Lib.hid (B1.out.trans (hb.mono B1.out.size)); clear hy hb M2
                  have p0 := hR.cell (i := 0) (by omega)
                  have p1 := hR.cell (i := 1) (by omega)
                  have z0 := hR.frozen 0
                  have z1 := hR.frozen 1
                  have hR2 := hR.st2 (.slice a8 n8 c8) (.int .i64 mr.2)
                  have hB2 := (B2.out.setCell (p := ⟨h17, 0, none⟩) hh (.slice a8 n8 c8)).setCell (p := ⟨h17, 1, none⟩) hh (.int .i64 mr.2)
                  have hX2 : StrAt (.slice a7 n7 c7) mr.1 ((w21.setCell ⟨h17, 0, none⟩ (.slice a8 n8 c8)).setCell ⟨h17, 1, none⟩ (.int .i64 mr.2)) := ((X1.out.setOther _ _ hlt).setOther _ _ hlt).at
                  have hY2 : StrAt (.slice a8 n8 c8) mr.1 ((w21.setCell ⟨h17, 0, none⟩ (.slice a8 n8 c8)).setCell ⟨h17, 1, none⟩ (.int .i64 mr.2)) := ((Y1.out.setOther _ _ hlt1).setOther _ _ hlt1).at
                  have R2 := Lib.hid hR2
                  have HB2 := Lib.hid hB2
                  have X2 := Lib.hid hX2
                  have Y2 := Lib.hid hY2
                  clear hR hR2 hB2 hX2 hY2
                  go_wp2_with fail
                  generalize (w21.setCell ⟨h17, 0, none⟩ (.slice a8 n8 c8)).setCell ⟨h17, 1, none⟩ (.int .i64 mr.2) = w22 at *
                  refine (sanity_any _).mono ?_
                  rintro e w23 ⟨rfl, hb⟩
                  have hR3 := R2.out.all hb
                  have p0 := hR3.cell (i := 0) (by omega)
                  have p1 := hR3.cell (i := 1) (by omega)
                  unfold st2 at p0 p1
                  simp only [if_true, Nat.one_ne_zero, if_false] at p0 p1
                  have X3 := Lib.hid (X2.out.all hb)
                  have Y3 := Lib.hid (Y2.out.all hb)
                  have HB3 := Lib.hid (HB2.out.trans (hb.mono HB2.out.size))
                  clear hR3 hb
                  go_wp2_with fail
                  refine (sameBytes_at _ _ _ _ _ X3.out Y3.out).mono ?_
                  rintro e w' ⟨rfl, rfl⟩
                  rw [beqS]
                  go_wp2_with fail
                  go_ret
                  exact ⟨rfl, HB3.out⟩
                · have hmm : 0 ≤ m ∧ m ≤ 255 := by omega
                  clear hm0 hm1
                  have hbad := Lib.hid (show 0 ≤ m ∧ m ≤ 255 from hmm)
                  obtain ⟨M, rfl⟩ := Int.eq_ofNat_of_zero_le hmm.1
                  have hM : M < 256 := by omega
                  clear hmm
                  have H0' := H0.out
                  rcases H0' with ⟨h, _⟩ | ⟨b0, off0, cap0, hv0, _, hcap0, hmx0, hc0, hf0⟩
                  · omega
                  cases hv0
                  have Hc0 := Lib.hid hc0
                  have Hf0 := Lib.hid hf0
                  clear hc0 hf0
                  go_wp2_with fail
                  refine (blend_ok b0 off0 _ b1 off1 _ hcap1 f0 f1 (M : Int) (by omega) (by omega) _ (Hc0.out.all B.out) (Hc1.out.all B.out)).mono ?_
                  rintro e w12 ⟨gB, cB, rfl, -, hrB, -, hb⟩
                  have XB := Lib.hid (StrAt.row hrB)
                  have R := Lib.hid (R.out.all hb)
                  have B := Lib.hid (B.out.trans (hb.mono B.out.size)); clear hb
                  clear hrB
                  go_wp2_with fail
                  refine (rRight_any _ _ _ _).mono ?_
                  rintro e w' ⟨rfl, rfl⟩
                  rw [show (((512 : Nat) : Int) == 512) = true from rfl]
                  go_wp2_with fail
                  refine (rRight_any _ _ _ _).mono ?_
                  rintro e w' ⟨rfl, rfl⟩
                  rw [show (((512 : Nat) : Int) == 512) = true from rfl]
                  go_wp2_with fail
                  refine (rBlend_any b0 off0 _ b1 off1 _ hcap1 f0 f1 M hM _ (Hc0.out.all B.out) (Hc1.out.all B.out)).mono ?_
                  rintro e w13 ⟨gC, cC, rfl, -, hrC, -, hb⟩
                  have YB := Lib.hid (StrAt.row hrC)
                  have XB := Lib.hid (XB.out.all hb)
                  have R := Lib.hid (R.out.all hb)
                  have B := Lib.hid (B.out.trans (hb.mono B.out.size)); clear hb
                  clear hrC
                  go_wp2_with fail
                  refine (sameBytes_at _ _ _ _ _ XB.out YB.out).mono ?_
                  rintro e w' ⟨rfl, rfl⟩
                  rw [beqS]
                  go_wp2_with fail
                  have M1 := Lib.hid (mend_all _ _ _ _ f1 f2 s _ (H1.out.all B.out) (H2.out.all B.out))
                  have M2 := Lib.hid (fun (W : World) (hb : Below w.heap.size w W) => rMend_all _ _ _ _ f1 f2 s W (H1.out.all hb) (H2.out.all hb))
                  generalize mendR _ f1 s n2 f2 = mr at *
                  refine M1.out.mono ?_
                  rintro e w20 ⟨v, rfl, hx, hb⟩
                  obtain ⟨a7, n7, c7, rfl⟩ := hx.at.1
                  have hlt := R.out.lt
                  have X := Lib.hid hx
                  have R1 := Lib.hid (R.out.all hb)
                  have B1 := Lib.hid (B.out.trans (hb.mono B.out.size)); clear hx hb M1
                  go_wp2_with fail
                  refine (M2.out _ B1.out).mono ?_
                  rintro e w21 ⟨v, rfl, hy, hb⟩
                  obtain ⟨a8, n8, c8, rfl⟩ := hy.at.1
                  have hlt1 := R1.out.lt
                  have X1 := Lib.hid (X.out.all hb)
                  have Y1 := Lib.hid hy
                  have hR := R1.out.all hb
                  have B2 := Lib.hid (B1.out.trans (hb.mono B1.out.size)); clear hy hb M2
                  have p0 := hR.cell (i := 0) (by omega)
                  have p1 := hR.cell (i := 1) (by omega)
                  have z0 := hR.frozen 0
                  have z1 := hR.frozen 1
                  have hR2 := hR.st2 (.slice a8 n8 c8) (.int .i64 mr.2)
                  have hB2 := (B2.out.setCell (p := ⟨h17, 0, none⟩) hh (.slice a8 n8 c8)).setCell (p := ⟨h17, 1, none⟩) hh (.int .i64 mr.2)
                  have hX2 : StrAt (.slice a7 n7 c7) mr.1 ((w21.setCell ⟨h17, 0, none⟩ (.slice a8 n8 c8)).setCell ⟨h17, 1, none⟩ (.int .i64 mr.2)) := ((X1.out.setOther _ _ hlt).setOther _ _ hlt).at
                  have hY2 : StrAt (.slice a8 n8 c8) mr.1 ((w21.setCell ⟨h17, 0, none⟩ (.slice a8 n8 c8)).setCell ⟨h17, 1, none⟩ (.int .i64 mr.2)) := ((Y1.out.setOther _ _ hlt1).setOther _ _ hlt1).at
                  have R2 := Lib.hid hR2
                  have HB2 := Lib.hid hB2
                  have X2 := Lib.hid hX2
                  have Y2 := Lib.hid hY2
                  clear hR hR2 hB2 hX2 hY2
                  go_wp2_with fail
                  generalize (w21.setCell ⟨h17, 0, none⟩ (.slice a8 n8 c8)).setCell ⟨h17, 1, none⟩ (.int .i64 mr.2) = w22 at *
                  refine (sanity_any _).mono ?_
                  rintro e w23 ⟨rfl, hb⟩
                  have hR3 := R2.out.all hb
                  have p0 := hR3.cell (i := 0) (by omega)
                  have p1 := hR3.cell (i := 1) (by omega)
                  unfold st2 at p0 p1
                  simp only [if_true, Nat.one_ne_zero, if_false] at p0 p1
                  have X3 := Lib.hid (X2.out.all hb)
                  have Y3 := Lib.hid (Y2.out.all hb)
                  have HB3 := Lib.hid (HB2.out.trans (hb.mono HB2.out.size))
                  clear hR3 hb
                  go_wp2_with fail
                  refine (sameBytes_at _ _ _ _ _ X3.out Y3.out).mono ?_
                  rintro e w' ⟨rfl, rfl⟩
                  rw [beqS]
                  go_wp2_with fail
                  go_ret
                  exact ⟨rfl, HB3.out⟩
            · have hq : ((n0 : Int) == 512) = false := by rw [beq_eq_false_iff_ne]; omega
              have hbad := Lib.hid (show ¬ blendArgs n0 512 m from fun h => hn0 h.1)
              go_wp2_with fail
              refine (blend_bad _ _ _ _ _ _ m hbad.out _).mono ?_
              rintro e w12 ⟨rfl, hb⟩
              have R := Lib.hid (R.out.all hb)
              have B := Lib.hid (B.out.trans (hb.mono B.out.size)); clear hb
              go_wp2_with fail
              refine (rRight_any _ _ _ _).mono ?_
              rintro e w' ⟨rfl, rfl⟩
              rw [hq]
              go_wp2_with fail
              have M1 := Lib.hid (mend_all _ _ _ _ f1 f2 s _ (H1.out.all B.out) (H2.out.all B.out))
              have M2 := Lib.hid (fun (W : World) (hb : Below w.heap.size w W) => rMend_all _ _ _ _ f1 f2 s W (H1.out.all hb) (H2.out.all hb))
              generalize mendR _ f1 s n2 f2 = mr at *
              refine M1.out.mono ?_
              rintro e w20 ⟨v, rfl, hx, hb⟩
              obtain ⟨a7, n7, c7, rfl⟩ := hx.at.1
              have hlt := R.out.lt
              have X := Lib.hid hx
              have R1 := Lib.hid (R.out.all hb)
              have B1 := Lib.hid (B.out.trans (hb.mono B.out.size)); clear hx hb M1
              go_wp2_with fail
              refine (M2.out _ B1.out).mono ?_
              rintro e w21 ⟨v, rfl, hy, hb⟩
              obtain ⟨a8, n8, c8, rfl⟩ := hy.at.1
              have hlt1 := R1.out.lt
              have X1 := Lib.hid (X.out.all hb)
              have Y1 := Lib.hid hy
              have hR := R1.out.all hb
              have B2 := Lib.hid (B1.out.trans (hb.mono B1.out.size)); clear hy hb M2
              have p0 := hR.cell (i := 0) (by omega)
              have p1 := hR.cell (i := 1) (by omega)
              have z0 := hR.frozen 0
              have z1 := hR.frozen 1
              have hR2 := hR.st2 (.slice a8 n8 c8) (.int .i64 mr.2)
              have hB2 := (B2.out.setCell (p := ⟨h17, 0, none⟩) hh (.slice a8 n8 c8)).setCell (p := ⟨h17, 1, none⟩) hh (.int .i64 mr.2)
              have hX2 : StrAt (.slice a7 n7 c7) mr.1 ((w21.setCell ⟨h17, 0, none⟩ (.slice a8 n8 c8)).setCell ⟨h17, 1, none⟩ (.int .i64 mr.2)) := ((X1.out.setOther _ _ hlt).setOther _ _ hlt).at
              have hY2 : StrAt (.slice a8 n8 c8) mr.1 ((w21.setCell ⟨h17, 0, none⟩ (.slice a8 n8 c8)).setCell ⟨h17, 1, none⟩ (.int .i64 mr.2)) := ((Y1.out.setOther _ _ hlt1).setOther _ _ hlt1).at
              have R2 := Lib.hid hR2
              have HB2 := Lib.hid hB2
              have X2 := Lib.hid hX2
              have Y2 := Lib.hid hY2
              clear hR hR2 hB2 hX2 hY2
              go_wp2_with fail
              generalize (w21.setCell ⟨h17, 0, none⟩ (.slice a8 n8 c8)).setCell ⟨h17, 1, none⟩ (.int .i64 mr.2) = w22 at *
              refine (sanity_any _).mono ?_
              rintro e w23 ⟨rfl, hb⟩
              have hR3 := R2.out.all hb
              have p0 := hR3.cell (i := 0) (by omega)
              have p1 := hR3.cell (i := 1) (by omega)
              unfold st2 at p0 p1
              simp only [if_true, Nat.one_ne_zero, if_false] at p0 p1
              have X3 := Lib.hid (X2.out.all hb)
              have Y3 := Lib.hid (Y2.out.all hb)
              have HB3 := Lib.hid (HB2.out.trans (hb.mono HB2.out.size))
              clear hR3 hb
              go_wp2_with fail
              refine (sameBytes_at _ _ _ _ _ X3.out Y3.out).mono ?_
              rintro e w' ⟨rfl, rfl⟩
              rw [beqS]
              go_wp2_with fail
              go_ret
              exact ⟨rfl, HB3.out⟩
        · have hq1 : ((n1 : Int) == 512) = false := by rw [beq_eq_false_iff_ne]; omega
          refine (marks_len _ _ _ hn1 _).mono ?_
          rintro e w7 ⟨rfl, hb⟩
          have R := Lib.hid (R.out.all hb)
          have B := Lib.hid (B.out.trans (hb.mono B.out.size)); clear hb
          go_wp2_with fail
          refine (torn_len _ _ _ hn1 _).mono ?_
          rintro e w8 ⟨rfl, hb⟩
          have R := Lib.hid (R.out.all hb)
          have B := Lib.hid (B.out.trans (hb.mono B.out.size)); clear hb
          go_wp2_with fail
          refine (rRight_any _ _ _ _).mono ?_
          rintro e w' ⟨rfl, rfl⟩
          rw [hq1]
          have hn1 := Lib.hid hn1
          by_cases hu : 1 ≤ u ∧ u ≤ 65535
          · by_cases hv : 1 ≤ v ∧ v ≤ 65535
            · go_wp2_with fail
              refine (Next_any _ _).mono ?_
              rintro e w' ⟨rfl, rfl⟩
              rw [if_pos hu]
              go_wp2_with fail
              refine (Newer_any _ _ _).mono ?_
              rintro e w' ⟨rfl, rfl⟩
              rw [if_pos ⟨hu, hv⟩]
              go_wp2_with fail
              refine (rMark_any _ _).mono ?_
              rintro e w' ⟨rfl, rfl⟩
              rw [show decide (1 ≤ u ∧ u ≤ 65535) = true from by simpa using hu]
              go_wp2_with fail
              refine (rNext_any _ _ hu).mono ?_
              rintro e w' ⟨rfl, rfl⟩
              go_wp2_with fail
              refine (rMark_any _ _).mono ?_
              rintro e w' ⟨rfl, rfl⟩
              rw [show decide (1 ≤ u ∧ u ≤ 65535) = true from by simpa using hu]
              go_wp2_with fail
              refine (rMark_any _ _).mono ?_
              rintro e w' ⟨rfl, rfl⟩
              rw [show decide (1 ≤ v ∧ v ≤ 65535) = true from by simpa using hv]
              go_wp2_with fail
              refine (rNewer_any _ _ _ hu hv).mono ?_
              rintro e w' ⟨rfl, rfl⟩
              have hbad := Lib.hid (show ¬ blendArgs n0 n1 m from fun h => hn1.out h.2.1)
              by_cases hn0 : n0 = 512
              · subst hn0
                go_wp2_with fail
                refine (blend_bad _ _ _ _ _ _ m hbad.out _).mono ?_
                rintro e w12 ⟨rfl, hb⟩
                have R := Lib.hid (R.out.all hb)
                have B := Lib.hid (B.out.trans (hb.mono B.out.size)); clear hb
                go_wp2_with fail
                refine (rRight_any _ _ _ _).mono ?_
                rintro e w' ⟨rfl, rfl⟩
                rw [show (((512 : Nat) : Int) == 512) = true from rfl]
                go_wp2_with fail
                refine (rRight_any _ _ _ _).mono ?_
                rintro e w' ⟨rfl, rfl⟩
                rw [hq1]
                go_wp2_with fail
                have M1 := Lib.hid (mend_all _ _ _ _ f1 f2 s _ (H1.out.all B.out) (H2.out.all B.out))
                have M2 := Lib.hid (fun (W : World) (hb : Below w.heap.size w W) => rMend_all _ _ _ _ f1 f2 s W (H1.out.all hb) (H2.out.all hb))
                generalize mendR _ f1 s n2 f2 = mr at *
                refine M1.out.mono ?_
                rintro e w20 ⟨v, rfl, hx, hb⟩
                obtain ⟨a7, n7, c7, rfl⟩ := hx.at.1
                have hlt := R.out.lt
                have X := Lib.hid hx
                have R1 := Lib.hid (R.out.all hb)
                have B1 := Lib.hid (B.out.trans (hb.mono B.out.size)); clear hx hb M1
                go_wp2_with fail
                refine (M2.out _ B1.out).mono ?_
                rintro e w21 ⟨v, rfl, hy, hb⟩
                obtain ⟨a8, n8, c8, rfl⟩ := hy.at.1
                have hlt1 := R1.out.lt
                have X1 := Lib.hid (X.out.all hb)
                have Y1 := Lib.hid hy
                have hR := R1.out.all hb
                have B2 := Lib.hid (B1.out.trans (hb.mono B1.out.size)); clear hy hb M2
                have p0 := hR.cell (i := 0) (by omega)
                have p1 := hR.cell (i := 1) (by omega)
                have z0 := hR.frozen 0
                have z1 := hR.frozen 1
                have hR2 := hR.st2 (.slice a8 n8 c8) (.int .i64 mr.2)
                have hB2 := (B2.out.setCell (p := ⟨h17, 0, none⟩) hh (.slice a8 n8 c8)).setCell (p := ⟨h17, 1, none⟩) hh (.int .i64 mr.2)
                have hX2 : StrAt (.slice a7 n7 c7) mr.1 ((w21.setCell ⟨h17, 0, none⟩ (.slice a8 n8 c8)).setCell ⟨h17, 1, none⟩ (.int .i64 mr.2)) := ((X1.out.setOther _ _ hlt).setOther _ _ hlt).at
                have hY2 : StrAt (.slice a8 n8 c8) mr.1 ((w21.setCell ⟨h17, 0, none⟩ (.slice a8 n8 c8)).setCell ⟨h17, 1, none⟩ (.int .i64 mr.2)) := ((Y1.out.setOther _ _ hlt1).setOther _ _ hlt1).at
                have R2 := Lib.hid hR2
                have HB2 := Lib.hid hB2
                have X2 := Lib.hid hX2
                have Y2 := Lib.hid hY2
                clear hR hR2 hB2 hX2 hY2
                go_wp2_with fail
                generalize (w21.setCell ⟨h17, 0, none⟩ (.slice a8 n8 c8)).setCell ⟨h17, 1, none⟩ (.int .i64 mr.2) = w22 at *
                refine (sanity_any _).mono ?_
                rintro e w23 ⟨rfl, hb⟩
                have hR3 := R2.out.all hb
                have p0 := hR3.cell (i := 0) (by omega)
                have p1 := hR3.cell (i := 1) (by omega)
                unfold st2 at p0 p1
                simp only [if_true, Nat.one_ne_zero, if_false] at p0 p1
                have X3 := Lib.hid (X2.out.all hb)
                have Y3 := Lib.hid (Y2.out.all hb)
                have HB3 := Lib.hid (HB2.out.trans (hb.mono HB2.out.size))
                clear hR3 hb
                go_wp2_with fail
                refine (sameBytes_at _ _ _ _ _ X3.out Y3.out).mono ?_
                rintro e w' ⟨rfl, rfl⟩
                rw [beqS]
                go_wp2_with fail
                go_ret
                exact ⟨rfl, HB3.out⟩
              · have hq : ((n0 : Int) == 512) = false := by rw [beq_eq_false_iff_ne]; omega
                go_wp2_with fail
                refine (blend_bad _ _ _ _ _ _ m hbad.out _).mono ?_
                rintro e w12 ⟨rfl, hb⟩
                have R := Lib.hid (R.out.all hb)
                have B := Lib.hid (B.out.trans (hb.mono B.out.size)); clear hb
                go_wp2_with fail
                refine (rRight_any _ _ _ _).mono ?_
                rintro e w' ⟨rfl, rfl⟩
                rw [hq]
                go_wp2_with fail
                have M1 := Lib.hid (mend_all _ _ _ _ f1 f2 s _ (H1.out.all B.out) (H2.out.all B.out))
                have M2 := Lib.hid (fun (W : World) (hb : Below w.heap.size w W) => rMend_all _ _ _ _ f1 f2 s W (H1.out.all hb) (H2.out.all hb))
                generalize mendR _ f1 s n2 f2 = mr at *
                refine M1.out.mono ?_
                rintro e w20 ⟨v, rfl, hx, hb⟩
                obtain ⟨a7, n7, c7, rfl⟩ := hx.at.1
                have hlt := R.out.lt
                have X := Lib.hid hx
                have R1 := Lib.hid (R.out.all hb)
                have B1 := Lib.hid (B.out.trans (hb.mono B.out.size)); clear hx hb M1
                go_wp2_with fail
                refine (M2.out _ B1.out).mono ?_
                rintro e w21 ⟨v, rfl, hy, hb⟩
                obtain ⟨a8, n8, c8, rfl⟩ := hy.at.1
                have hlt1 := R1.out.lt
                have X1 := Lib.hid (X.out.all hb)
                have Y1 := Lib.hid hy
                have hR := R1.out.all hb
                have B2 := Lib.hid (B1.out.trans (hb.mono B1.out.size)); clear hy hb M2
                have p0 := hR.cell (i := 0) (by omega)
                have p1 := hR.cell (i := 1) (by omega)
                have z0 := hR.frozen 0
                have z1 := hR.frozen 1
                have hR2 := hR.st2 (.slice a8 n8 c8) (.int .i64 mr.2)
                have hB2 := (B2.out.setCell (p := ⟨h17, 0, none⟩) hh (.slice a8 n8 c8)).setCell (p := ⟨h17, 1, none⟩) hh (.int .i64 mr.2)
                have hX2 : StrAt (.slice a7 n7 c7) mr.1 ((w21.setCell ⟨h17, 0, none⟩ (.slice a8 n8 c8)).setCell ⟨h17, 1, none⟩ (.int .i64 mr.2)) := ((X1.out.setOther _ _ hlt).setOther _ _ hlt).at
                have hY2 : StrAt (.slice a8 n8 c8) mr.1 ((w21.setCell ⟨h17, 0, none⟩ (.slice a8 n8 c8)).setCell ⟨h17, 1, none⟩ (.int .i64 mr.2)) := ((Y1.out.setOther _ _ hlt1).setOther _ _ hlt1).at
                have R2 := Lib.hid hR2
                have HB2 := Lib.hid hB2
                have X2 := Lib.hid hX2
                have Y2 := Lib.hid hY2
                clear hR hR2 hB2 hX2 hY2
                go_wp2_with fail
                generalize (w21.setCell ⟨h17, 0, none⟩ (.slice a8 n8 c8)).setCell ⟨h17, 1, none⟩ (.int .i64 mr.2) = w22 at *
                refine (sanity_any _).mono ?_
                rintro e w23 ⟨rfl, hb⟩
                have hR3 := R2.out.all hb
                have p0 := hR3.cell (i := 0) (by omega)
                have p1 := hR3.cell (i := 1) (by omega)
                unfold st2 at p0 p1
                simp only [if_true, Nat.one_ne_zero, if_false] at p0 p1
                have X3 := Lib.hid (X2.out.all hb)
                have Y3 := Lib.hid (Y2.out.all hb)
                have HB3 := Lib.hid (HB2.out.trans (hb.mono HB2.out.size))
                clear hR3 hb
                go_wp2_with fail
                refine (sameBytes_at _ _ _ _ _ X3.out Y3.out).mono ?_
                rintro e w' ⟨rfl, rfl⟩
                rw [beqS]
                go_wp2_with fail
                go_ret
                exact ⟨rfl, HB3.out⟩
            · go_wp2_with fail
              refine (Next_any _ _).mono ?_
              rintro e w' ⟨rfl, rfl⟩
              rw [if_pos hu]
              go_wp2_with fail
              refine (Newer_any _ _ _).mono ?_
              rintro e w' ⟨rfl, rfl⟩
              rw [if_neg (fun h => hv h.2)]
              go_wp2_with fail
              refine (rMark_any _ _).mono ?_
              rintro e w' ⟨rfl, rfl⟩
              rw [show decide (1 ≤ u ∧ u ≤ 65535) = true from by simpa using hu]
              go_wp2_with fail
              refine (rNext_any _ _ hu).mono ?_
              rintro e w' ⟨rfl, rfl⟩
              go_wp2_with fail
              refine (rMark_any _ _).mono ?_
              rintro e w' ⟨rfl, rfl⟩
              rw [show decide (1 ≤ u ∧ u ≤ 65535) = true from by simpa using hu]
              go_wp2_with fail
              refine (rMark_any _ _).mono ?_
              rintro e w' ⟨rfl, rfl⟩
              rw [show decide (1 ≤ v ∧ v ≤ 65535) = false from by simpa using hv]
              have hbad := Lib.hid (show ¬ blendArgs n0 n1 m from fun h => hn1.out h.2.1)
              by_cases hn0 : n0 = 512
              · subst hn0
                go_wp2_with fail
                refine (blend_bad _ _ _ _ _ _ m hbad.out _).mono ?_
                rintro e w12 ⟨rfl, hb⟩
                have R := Lib.hid (R.out.all hb)
                have B := Lib.hid (B.out.trans (hb.mono B.out.size)); clear hb
                go_wp2_with fail
                refine (rRight_any _ _ _ _).mono ?_
                rintro e w' ⟨rfl, rfl⟩
                rw [show (((512 : Nat) : Int) == 512) = true from rfl]
                go_wp2_with fail
                refine (rRight_any _ _ _ _).mono ?_
                rintro e w' ⟨rfl, rfl⟩
                rw [hq1]
                go_wp2_with fail
                have M1 := Lib.hid (mend_all _ _ _ _ f1 f2 s _ (H1.out.all B.out) (H2.out.all B.out))
                have M2 := Lib.hid (fun (W : World) (hb : Below w.heap.size w W) => rMend_all _ _ _ _ f1 f2 s W (H1.out.all hb) (H2.out.all hb))
                generalize mendR _ f1 s n2 f2 = mr at *
                refine M1.out.mono ?_
                rintro e w20 ⟨v, rfl, hx, hb⟩
                obtain ⟨a7, n7, c7, rfl⟩ := hx.at.1
                have hlt := R.out.lt
                have X := Lib.hid hx
                have R1 := Lib.hid (R.out.all hb)
                have B1 := Lib.hid (B.out.trans (hb.mono B.out.size)); clear hx hb M1
                go_wp2_with fail
                refine (M2.out _ B1.out).mono ?_
                rintro e w21 ⟨v, rfl, hy, hb⟩
                obtain ⟨a8, n8, c8, rfl⟩ := hy.at.1
                have hlt1 := R1.out.lt
                have X1 := Lib.hid (X.out.all hb)
                have Y1 := Lib.hid hy
                have hR := R1.out.all hb
                have B2 := Lib.hid (B1.out.trans (hb.mono B1.out.size)); clear hy hb M2
                have p0 := hR.cell (i := 0) (by omega)
                have p1 := hR.cell (i := 1) (by omega)
                have z0 := hR.frozen 0
                have z1 := hR.frozen 1
                have hR2 := hR.st2 (.slice a8 n8 c8) (.int .i64 mr.2)
                have hB2 := (B2.out.setCell (p := ⟨h17, 0, none⟩) hh (.slice a8 n8 c8)).setCell (p := ⟨h17, 1, none⟩) hh (.int .i64 mr.2)
                have hX2 : StrAt (.slice a7 n7 c7) mr.1 ((w21.setCell ⟨h17, 0, none⟩ (.slice a8 n8 c8)).setCell ⟨h17, 1, none⟩ (.int .i64 mr.2)) := ((X1.out.setOther _ _ hlt).setOther _ _ hlt).at
                have hY2 : StrAt (.slice a8 n8 c8) mr.1 ((w21.setCell ⟨h17, 0, none⟩ (.slice a8 n8 c8)).setCell ⟨h17, 1, none⟩ (.int .i64 mr.2)) := ((Y1.out.setOther _ _ hlt1).setOther _ _ hlt1).at
                have R2 := Lib.hid hR2
                have HB2 := Lib.hid hB2
                have X2 := Lib.hid hX2
                have Y2 := Lib.hid hY2
                clear hR hR2 hB2 hX2 hY2
                go_wp2_with fail
                generalize (w21.setCell ⟨h17, 0, none⟩ (.slice a8 n8 c8)).setCell ⟨h17, 1, none⟩ (.int .i64 mr.2) = w22 at *
                refine (sanity_any _).mono ?_
                rintro e w23 ⟨rfl, hb⟩
                have hR3 := R2.out.all hb
                have p0 := hR3.cell (i := 0) (by omega)
                have p1 := hR3.cell (i := 1) (by omega)
                unfold st2 at p0 p1
                simp only [if_true, Nat.one_ne_zero, if_false] at p0 p1
                have X3 := Lib.hid (X2.out.all hb)
                have Y3 := Lib.hid (Y2.out.all hb)
                have HB3 := Lib.hid (HB2.out.trans (hb.mono HB2.out.size))
                clear hR3 hb
                go_wp2_with fail
                refine (sameBytes_at _ _ _ _ _ X3.out Y3.out).mono ?_
                rintro e w' ⟨rfl, rfl⟩
                rw [beqS]
                go_wp2_with fail
                go_ret
                exact ⟨rfl, HB3.out⟩
              · have hq : ((n0 : Int) == 512) = false := by rw [beq_eq_false_iff_ne]; omega
                go_wp2_with fail
                refine (blend_bad _ _ _ _ _ _ m hbad.out _).mono ?_
                rintro e w12 ⟨rfl, hb⟩
                have R := Lib.hid (R.out.all hb)
                have B := Lib.hid (B.out.trans (hb.mono B.out.size)); clear hb
                go_wp2_with fail
                refine (rRight_any _ _ _ _).mono ?_
                rintro e w' ⟨rfl, rfl⟩
                rw [hq]
                go_wp2_with fail
                have M1 := Lib.hid (mend_all _ _ _ _ f1 f2 s _ (H1.out.all B.out) (H2.out.all B.out))
                have M2 := Lib.hid (fun (W : World) (hb : Below w.heap.size w W) => rMend_all _ _ _ _ f1 f2 s W (H1.out.all hb) (H2.out.all hb))
                generalize mendR _ f1 s n2 f2 = mr at *
                refine M1.out.mono ?_
                rintro e w20 ⟨v, rfl, hx, hb⟩
                obtain ⟨a7, n7, c7, rfl⟩ := hx.at.1
                have hlt := R.out.lt
                have X := Lib.hid hx
                have R1 := Lib.hid (R.out.all hb)
                have B1 := Lib.hid (B.out.trans (hb.mono B.out.size)); clear hx hb M1
                go_wp2_with fail
                refine (M2.out _ B1.out).mono ?_
                rintro e w21 ⟨v, rfl, hy, hb⟩
                obtain ⟨a8, n8, c8, rfl⟩ := hy.at.1
                have hlt1 := R1.out.lt
                have X1 := Lib.hid (X.out.all hb)
                have Y1 := Lib.hid hy
                have hR := R1.out.all hb
                have B2 := Lib.hid (B1.out.trans (hb.mono B1.out.size)); clear hy hb M2
                have p0 := hR.cell (i := 0) (by omega)
                have p1 := hR.cell (i := 1) (by omega)
                have z0 := hR.frozen 0
                have z1 := hR.frozen 1
                have hR2 := hR.st2 (.slice a8 n8 c8) (.int .i64 mr.2)
                have hB2 := (B2.out.setCell (p := ⟨h17, 0, none⟩) hh (.slice a8 n8 c8)).setCell (p := ⟨h17, 1, none⟩) hh (.int .i64 mr.2)
                have hX2 : StrAt (.slice a7 n7 c7) mr.1 ((w21.setCell ⟨h17, 0, none⟩ (.slice a8 n8 c8)).setCell ⟨h17, 1, none⟩ (.int .i64 mr.2)) := ((X1.out.setOther _ _ hlt).setOther _ _ hlt).at
                have hY2 : StrAt (.slice a8 n8 c8) mr.1 ((w21.setCell ⟨h17, 0, none⟩ (.slice a8 n8 c8)).setCell ⟨h17, 1, none⟩ (.int .i64 mr.2)) := ((Y1.out.setOther _ _ hlt1).setOther _ _ hlt1).at
                have R2 := Lib.hid hR2
                have HB2 := Lib.hid hB2
                have X2 := Lib.hid hX2
                have Y2 := Lib.hid hY2
                clear hR hR2 hB2 hX2 hY2
                go_wp2_with fail
                generalize (w21.setCell ⟨h17, 0, none⟩ (.slice a8 n8 c8)).setCell ⟨h17, 1, none⟩ (.int .i64 mr.2) = w22 at *
                refine (sanity_any _).mono ?_
                rintro e w23 ⟨rfl, hb⟩
                have hR3 := R2.out.all hb
                have p0 := hR3.cell (i := 0) (by omega)
                have p1 := hR3.cell (i := 1) (by omega)
                unfold st2 at p0 p1
                simp only [if_true, Nat.one_ne_zero, if_false] at p0 p1
                have X3 := Lib.hid (X2.out.all hb)
                have Y3 := Lib.hid (Y2.out.all hb)
                have HB3 := Lib.hid (HB2.out.trans (hb.mono HB2.out.size))
                clear hR3 hb
                go_wp2_with fail
                refine (sameBytes_at _ _ _ _ _ X3.out Y3.out).mono ?_
                rintro e w' ⟨rfl, rfl⟩
                rw [beqS]
                go_wp2_with fail
                go_ret
                exact ⟨rfl, HB3.out⟩
          · go_wp2_with fail
            refine (Next_any _ _).mono ?_
            rintro e w' ⟨rfl, rfl⟩
            rw [if_neg hu]
            go_wp2_with fail
            refine (Newer_any _ _ _).mono ?_
            rintro e w' ⟨rfl, rfl⟩
            rw [if_neg (fun h => hu h.1)]
            go_wp2_with fail
            refine (rMark_any _ _).mono ?_
            rintro e w' ⟨rfl, rfl⟩
            rw [show decide (1 ≤ u ∧ u ≤ 65535) = false from by simpa using hu]
            go_wp2_with fail
            refine (rMark_any _ _).mono ?_
            rintro e w' ⟨rfl, rfl⟩
            rw [show decide (1 ≤ u ∧ u ≤ 65535) = false from by simpa using hu]
            have hbad := Lib.hid (show ¬ blendArgs n0 n1 m from fun h => hn1.out h.2.1)
            by_cases hn0 : n0 = 512
            · subst hn0
              go_wp2_with fail
              refine (blend_bad _ _ _ _ _ _ m hbad.out _).mono ?_
              rintro e w12 ⟨rfl, hb⟩
              have R := Lib.hid (R.out.all hb)
              have B := Lib.hid (B.out.trans (hb.mono B.out.size)); clear hb
              go_wp2_with fail
              refine (rRight_any _ _ _ _).mono ?_
              rintro e w' ⟨rfl, rfl⟩
              rw [show (((512 : Nat) : Int) == 512) = true from rfl]
              go_wp2_with fail
              refine (rRight_any _ _ _ _).mono ?_
              rintro e w' ⟨rfl, rfl⟩
              rw [hq1]
              go_wp2_with fail
              have M1 := Lib.hid (mend_all _ _ _ _ f1 f2 s _ (H1.out.all B.out) (H2.out.all B.out))
              have M2 := Lib.hid (fun (W : World) (hb : Below w.heap.size w W) => rMend_all _ _ _ _ f1 f2 s W (H1.out.all hb) (H2.out.all hb))
              generalize mendR _ f1 s n2 f2 = mr at *
              refine M1.out.mono ?_
              rintro e w20 ⟨v, rfl, hx, hb⟩
              obtain ⟨a7, n7, c7, rfl⟩ := hx.at.1
              have hlt := R.out.lt
              have X := Lib.hid hx
              have R1 := Lib.hid (R.out.all hb)
              have B1 := Lib.hid (B.out.trans (hb.mono B.out.size)); clear hx hb M1
              go_wp2_with fail
              refine (M2.out _ B1.out).mono ?_
              rintro e w21 ⟨v, rfl, hy, hb⟩
              obtain ⟨a8, n8, c8, rfl⟩ := hy.at.1
              have hlt1 := R1.out.lt
              have X1 := Lib.hid (X.out.all hb)
              have Y1 := Lib.hid hy
              have hR := R1.out.all hb
              have B2 := Lib.hid (B1.out.trans (hb.mono B1.out.size)); clear hy hb M2
              have p0 := hR.cell (i := 0) (by omega)
              have p1 := hR.cell (i := 1) (by omega)
              have z0 := hR.frozen 0
              have z1 := hR.frozen 1
              have hR2 := hR.st2 (.slice a8 n8 c8) (.int .i64 mr.2)
              have hB2 := (B2.out.setCell (p := ⟨h17, 0, none⟩) hh (.slice a8 n8 c8)).setCell (p := ⟨h17, 1, none⟩) hh (.int .i64 mr.2)
              have hX2 : StrAt (.slice a7 n7 c7) mr.1 ((w21.setCell ⟨h17, 0, none⟩ (.slice a8 n8 c8)).setCell ⟨h17, 1, none⟩ (.int .i64 mr.2)) := ((X1.out.setOther _ _ hlt).setOther _ _ hlt).at
              have hY2 : StrAt (.slice a8 n8 c8) mr.1 ((w21.setCell ⟨h17, 0, none⟩ (.slice a8 n8 c8)).setCell ⟨h17, 1, none⟩ (.int .i64 mr.2)) := ((Y1.out.setOther _ _ hlt1).setOther _ _ hlt1).at
              have R2 := Lib.hid hR2
              have HB2 := Lib.hid hB2
              have X2 := Lib.hid hX2
              have Y2 := Lib.hid hY2
              clear hR hR2 hB2 hX2 hY2
              go_wp2_with fail
              generalize (w21.setCell ⟨h17, 0, none⟩ (.slice a8 n8 c8)).setCell ⟨h17, 1, none⟩ (.int .i64 mr.2) = w22 at *
              refine (sanity_any _).mono ?_
              rintro e w23 ⟨rfl, hb⟩
              have hR3 := R2.out.all hb
              have p0 := hR3.cell (i := 0) (by omega)
              have p1 := hR3.cell (i := 1) (by omega)
              unfold st2 at p0 p1
              simp only [if_true, Nat.one_ne_zero, if_false] at p0 p1
              have X3 := Lib.hid (X2.out.all hb)
              have Y3 := Lib.hid (Y2.out.all hb)
              have HB3 := Lib.hid (HB2.out.trans (hb.mono HB2.out.size))
              clear hR3 hb
              go_wp2_with fail
              refine (sameBytes_at _ _ _ _ _ X3.out Y3.out).mono ?_
              rintro e w' ⟨rfl, rfl⟩
              rw [beqS]
              go_wp2_with fail
              go_ret
              exact ⟨rfl, HB3.out⟩
            · have hq : ((n0 : Int) == 512) = false := by rw [beq_eq_false_iff_ne]; omega
              go_wp2_with fail
              refine (blend_bad _ _ _ _ _ _ m hbad.out _).mono ?_
              rintro e w12 ⟨rfl, hb⟩
              have R := Lib.hid (R.out.all hb)
              have B := Lib.hid (B.out.trans (hb.mono B.out.size)); clear hb
              go_wp2_with fail
              refine (rRight_any _ _ _ _).mono ?_
              rintro e w' ⟨rfl, rfl⟩
              rw [hq]
              go_wp2_with fail
              have M1 := Lib.hid (mend_all _ _ _ _ f1 f2 s _ (H1.out.all B.out) (H2.out.all B.out))
              have M2 := Lib.hid (fun (W : World) (hb : Below w.heap.size w W) => rMend_all _ _ _ _ f1 f2 s W (H1.out.all hb) (H2.out.all hb))
              generalize mendR _ f1 s n2 f2 = mr at *
              refine M1.out.mono ?_
              rintro e w20 ⟨v, rfl, hx, hb⟩
              obtain ⟨a7, n7, c7, rfl⟩ := hx.at.1
              have hlt := R.out.lt
              have X := Lib.hid hx
              have R1 := Lib.hid (R.out.all hb)
              have B1 := Lib.hid (B.out.trans (hb.mono B.out.size)); clear hx hb M1
              go_wp2_with fail
              refine (M2.out _ B1.out).mono ?_
              rintro e w21 ⟨v, rfl, hy, hb⟩
              obtain ⟨a8, n8, c8, rfl⟩ := hy.at.1
              have hlt1 := R1.out.lt
              have X1 := Lib.hid (X.out.all hb)
              have Y1 := Lib.hid hy
              have hR := R1.out.all hb
              have B2 := Lib.hid (B1.out.trans (hb.mono B1.out.size)); clear hy hb M2
              have p0 := hR.cell (i := 0) (by omega)
              have p1 := hR.cell (i := 1) (by omega)
              have z0 := hR.frozen 0
              have z1 := hR.frozen 1
              have hR2 := hR.st2 (.slice a8 n8 c8) (.int .i64 mr.2)
              have hB2 := (B2.out.setCell (p := ⟨h17, 0, none⟩) hh (.slice a8 n8 c8)).setCell (p := ⟨h17, 1, none⟩) hh (.int .i64 mr.2)
              have hX2 : StrAt (.slice a7 n7 c7) mr.1 ((w21.setCell ⟨h17, 0, none⟩ (.slice a8 n8 c8)).setCell ⟨h17, 1, none⟩ (.int .i64 mr.2)) := ((X1.out.setOther _ _ hlt).setOther _ _ hlt).at
              have hY2 : StrAt (.slice a8 n8 c8) mr.1 ((w21.setCell ⟨h17, 0, none⟩ (.slice a8 n8 c8)).setCell ⟨h17, 1, none⟩ (.int .i64 mr.2)) := ((Y1.out.setOther _ _ hlt1).setOther _ _ hlt1).at
              have R2 := Lib.hid hR2
              have HB2 := Lib.hid hB2
              have X2 := Lib.hid hX2
              have Y2 := Lib.hid hY2
              clear hR hR2 hB2 hX2 hY2
              go_wp2_with fail
              generalize (w21.setCell ⟨h17, 0, none⟩ (.slice a8 n8 c8)).setCell ⟨h17, 1, none⟩ (.int .i64 mr.2) = w22 at *
              refine (sanity_any _).mono ?_
              rintro e w23 ⟨rfl, hb⟩
              have hR3 := R2.out.all hb
              have p0 := hR3.cell (i := 0) (by omega)
              have p1 := hR3.cell (i := 1) (by omega)
              unfold st2 at p0 p1
              simp only [if_true, Nat.one_ne_zero, if_false] at p0 p1
              have X3 := Lib.hid (X2.out.all hb)
              have Y3 := Lib.hid (Y2.out.all hb)
              have HB3 := Lib.hid (HB2.out.trans (hb.mono HB2.out.size))
              clear hR3 hb
              go_wp2_with fail
              refine (sameBytes_at _ _ _ _ _ X3.out Y3.out).mono ?_
              rintro e w' ⟨rfl, rfl⟩
              rw [beqS]
              go_wp2_with fail
              go_ret
              exact ⟨rfl, HB3.out⟩
      · go_enter Try.func11, Try.ntmps11
        go_wp2_with fail
        refine (sanity_any _).mono ?_
        rintro e w8 ⟨rfl, hb⟩
        go_wp2_with fail
        go_ret
        exact ⟨rfl, hb⟩
    · go_enter Try.func11, Try.ntmps11
      go_wp2_with fail
      refine (sanity_any _).mono ?_
      rintro e w8 ⟨rfl, hb⟩
      go_wp2_with fail
      go_ret
      exact ⟨rfl, hb⟩
  · go_enter Try.func11, Try.ntmps11
    go_wp2_with fail
    refine (sanity_any _).mono ?_
    rintro e w8 ⟨rfl, hb⟩
    go_wp2_with fail
    go_ret
    exact ⟨rfl, hb⟩

end Go.Proofs.Ytjfcjpkfefmhlaa
