/- Span: the law SpanRows. -/
import Derived.Test.YtlbohmfhdchabaaSpnLJ
import Derived.Test.YtlbohmfhdchabaaSpnLQ
import Derived.Test.YtlbohmfhdchabaaSpnLO
import Derived.Deep.DrawnRows
import Derived.Deep.CutRange
namespace Go.Proofs.Ytlbohmfhdchabaa
open Go.RowKit
attribute [local go_sem ↓] Go.wp_at_zero Go.wp_at_succ

theorem anyB_succ (f : Nat → Bool) (n : Nat) : anyB f (n + 1) = (anyB f n || f n) := rfl

theorem met_step (L : Lay) (p : Int) (d j : Nat) : L.met p (d + 1) j = (L.met p d j || decide ((L.at (L.rowF p d) 0).1 = j)) := by
  unfold Lay.met
  rw [anyB_succ, Bool.or_assoc]
theorem met_none {L : Lay} (hK : L.K ≠ 5) (p : Int) (j : Nat) : L.met p 0 j = false := by
  unfold Lay.met
  rw [decide_eq_false hK, Bool.false_and, Bool.false_or]
  exact anyB_false.2 fun i hi => absurd hi (by omega)
theorem met_par {L : Lay} (hK : L.K = 5) (p : Int) (j : Nat) : L.met p 0 j = decide ((L.at p 1).1 = j) := by
  unfold Lay.met
  rw [decide_eq_true hK, Bool.true_and]
  rw [anyB_false.2 (fun i hi => absurd hi (by omega)), Bool.or_false]

/-- Has the page itself been met among a row's first k pages? -/
def Lay.inRow (L : Lay) (p : Int) (k : Nat) : Bool := anyB (fun d => decide (L.rowF p d = p)) k

/-- What a region reads that loads a layout and a number of a row. -/
theorem keep_row {w0 W W' : World} {L : Lay} {a : Option Addr} {cap b off n : Nat} {F : Nat → Int} {d : Nat} (h : LayAt w0 L a cap W) (hc : Cells W b off n (intsV F)) (hd : d < n) (hb : Below W.heap.size W W') :
    W'.cell? ⟨w0.heap.size, 0, none⟩ = some (.int .i64 L.K) ∧ W'.cell? ⟨w0.heap.size, 1, none⟩ = some (.slice a L.n cap) ∧ W'.cell? ⟨w0.heap.size, 2, none⟩ = some (.int .i64 L.C) ∧ W'.cell? ⟨b, off + d, none⟩ = some (.int .i64 (F d)) ∧ Below W.heap.size W W' := by
  obtain ⟨h1, h2, h3⟩ := (h.all hb).cells
  exact ⟨h1, h2, h3, (hc.all hb) d hd, hb⟩

set_option maxRecDepth 8000 in
set_option maxHeartbeats 16000000 in
theorem SpanRows_any (L : Lay) (sl : Value) (w : World) (hs : IArg w sl L.n L.M) : Calls Try.prog 7 #[layV L sl] w (TrueR w) := by
  obtain ⟨hW, hr, hB⟩ := lay_setup hs
  obtain ⟨c0, c1, c2⟩ := row3_cells hr
  obtain ⟨a, cap, rfl⟩ := hs.slice
  have HL := Lib.hid (show LayAt w L a cap _ from ⟨hr, hW, hB⟩)
  clear hW hs hr hB
  unfold layV
  go_enter Try.func7, Try.ntmps7
  go_wp2_with fail
  generalize w.alloc (.cells #[.int .i64 L.K, .slice a L.n cap, .int .i64 L.C] 24) = W at *
  refine (few_any L _ W HL.out.arg).mono ?_
  rintro e w1 ⟨(⟨hF, rfl⟩ | ⟨hnF, rfl⟩), hb⟩
  rotate_left 1
  · clear hnF
    go_wp2_with fail
    refine (sanity_any _).mono ?_
    rintro e w2 ⟨rfl, hb2⟩
    go_wp2
    go_ret
    exact ⟨rfl, ((HL.out.all hb).all hb2).bel⟩
  clear hF
  replace HL := Lib.hid (HL.out.all hb)
  clear c0 c1 c2 hb
  obtain ⟨c0, c1, c2⟩ := HL.out.cells
  go_wp2_with fail
  refine (Check_any L _ w1 HL.out.arg).mono ?_
  rintro e w2 ⟨(⟨hR, rfl⟩ | ⟨hnR, rfl⟩), hb⟩
  rotate_left 1
  · clear hnR
    go_wp2_with fail
    refine (sanity_any _).mono ?_
    rintro e w3 ⟨rfl, hb3⟩
    go_wp2
    go_ret
    exact ⟨rfl, ((HL.out.all hb).all hb3).bel⟩
  have HR := Lib.hid hR; clear hR
  replace HL := Lib.hid (HL.out.all hb)
  clear c0 c1 c2 hb
  obtain ⟨c0, c1, c2⟩ := HL.out.cells
  have hn := HR.out.nle
  have hsz := HR.out.sizes
  have hsp := HR.out.size_pos'
  have hrl := row_len HR.out
  have hnum6 := HR.out.num_six
  have hnum1 := Lay.num_pos HR.out
  have Hp0 := Lib.hid (show (0 : Int) ≤ 0 ∧ 0 < L.size from ⟨by omega, by omega⟩)
  go_wp2_with fail
  refine (Size_right L _ w2 HL.out.arg HR.out).mono ?_
  rintro e w3 ⟨rfl, hb⟩
  replace HL := Lib.hid (HL.out.all hb)
  clear c0 c1 c2 hb
  obtain ⟨c0, c1, c2⟩ := HL.out.cells
  go_wp2_with fail
  refine (Row_ok L _ 0 w3 HL.out.arg HR.out Hp0.out).mono ?_
  rintro e w4 ⟨v, rfl, hO, hb⟩
  obtain ⟨a5, cap5, rfl⟩ := hO.slice
  replace HL := Lib.hid (HL.out.all hb)
  clear c0 c1 c2 hb hO
  generalize hS : L.size = S at *
  have HS := Lib.hid hS; clear hS
  generalize hN : L.rowN = N at *
  have HN := Lib.hid hN; clear hN
  generalize hM : L.num' = M at *
  have HM := Lib.hid hM; clear hM
  go_wp2_with fail
  go_loopw [7] (fun t W => ∃ k : Nat, (k : Int) ≤ S ∧ t = .int .i64 k ∧ LayAt w L a cap W) (fun t _ => (S - intOf t).toNat)
  case atStart => exact ⟨0, by omega, rfl, HL.out⟩
  case round =>
    obtain ⟨p, hp, rfl, hLr⟩ := hrel
    have HLr := Lib.hid hLr; clear hLr
    by_cases hlt : (p : Int) < S
    · have Hpp := Lib.hid (show 0 ≤ (p : Int) ∧ (p : Int) < L.size from ⟨by omega, by rw [HS.out]; exact hlt⟩)
      obtain ⟨c0, c1, c2⟩ := HLr.out.cells
      go_wp2_with fail
      refine (Row_ok L _ p wr HLr.out.arg HR.out Hpp.out).mono ?_
      rintro e w5 ⟨u, rfl, hO, hb⟩
      rw [HN.out] at hO
      replace HLr := Lib.hid (HLr.out.all hb)
      clear c0 c1 c2 hb
      obtain ⟨c0, c1, c2⟩ := HLr.out.cells
      obtain ⟨bu, ou, cu, rfl, hcu⟩ : ∃ b off cap, u = .slice (some ⟨b, off, none⟩) N cap ∧ Cells w5 b off N (intsV (L.rowF p)) := by
        rcases hO.intsAt with ⟨h0, _⟩ | ⟨b, off, cap, rfl, _, hc⟩
        · omega
        · exact ⟨b, off, cap, rfl, hc⟩
      have HU := Lib.hid hcu; clear hcu hO
      go_wp2_with fail
      refine (Region_ok L _ p w5 HLr.out.arg HR.out Hpp.out).mono ?_
      rintro e w6 ⟨rfl, hb⟩
      replace HLr := Lib.hid (HLr.out.all hb)
      replace HU := Lib.hid (HU.out.all hb)
      clear c0 c1 c2 hb
      obtain ⟨c0, c1, c2⟩ := HLr.out.cells
      go_wp2_with fail
      refine (Place_ok L _ p w6 HLr.out.arg HR.out Hpp.out).mono ?_
      rintro e w7 ⟨v, rfl, hS, hb⟩
      rw [HM.out] at hS
      obtain ⟨gv, cv, rfl, -, hrv, -, -⟩ := hS.row (by omega)
      have HV := Lib.hid hrv.reads
      replace HLr := Lib.hid (HLr.out.all hb)
      replace HU := Lib.hid (HU.out.all hb)
      clear c0 c1 c2 hb hS hrv
      obtain ⟨c0, c1, c2⟩ := HLr.out.cells
      have hM0 : ((M : Int) == 0) = false := by rw [beq_eq_false_iff_ne]; omega
      obtain ⟨w8, hmk, hrow, hb8, hs8⟩ := make_o (P := Try.prog) 51 4 _ _ Try.underlying51 info_boolI rfl (by decide) .i64 L.n (by omega) w7
      have hmk : (Instr.makeSlice 51 (.int .i64 L.n) (.int .i64 L.n)).run Try.prog w7 = _ := hmk
      have HL8 := Lib.hid (HLr.out.all hb8)
      obtain ⟨k0, k1, k2⟩ := HL8.out.cells
      have Hs8 := Lib.hid hs8; clear hs8
      have Hinv := Lib.hid (fun (d : Nat) (hd : d < N) => row_facts HR.out Hpp.out (d := d) (by rw [HN.out]; exact hd))
      go_upto_if 99 with fail
      go_cut [] from 48 to 190 (fun wx => RowAt wx w7.heap.size 4 L.n L.n (boolsV (L.met p 0)) ∧ Below w7.heap.size w7 wx)
      case first =>
        by_cases hK : L.K = 5
        · have b5 : (L.K == 5) = true := by rw [beq_iff_eq]; exact hK
          have hM1 : 1 < M := by have := HM.out; unfold Lay.num' at this; rw [hK] at this; simp at this; omega
          obtain ⟨s0, -⟩ := cells_spot (HV.out.all hb8) (i := 1) hM1
          have hmem := at_mem HR.out Hpp.out (i := 1) (by rw [HM.out]; exact hM1)
          obtain ⟨j, hj⟩ : ∃ j : Nat, (L.at p 1).1 = j := ⟨_, (Int.toNat_of_nonneg hmem.1).symm⟩
          rw [hj] at s0 hmem
          have hjn : j < L.n := by omega
          have hrow9 := (hrow.set j (.bool true)).congr (f' := boolsV (L.met p 0)) (fun i hi => by
            unfold boolsV
            rw [met_par hK, hj]
            by_cases h : i = j
            · subst h; simp
            · have h2 : ¬ ((j : Int) = i) := by omega
              simp [h, h2])
          have e8 := hrow.cell (i := j) hjn
          have f8 := hrow.frozen j
          have hb9 : Below w7.heap.size w7 (w8.setCell ⟨w7.heap.size, j, none⟩ (.bool true)) := hb8.setCell (Nat.le_refl _) _
          have Hrel := Lib.hid (And.intro hrow9 hb9)
          clear hrow9 hb9 hj hmem hK hrow hb8 hmk
          go_wp2_with fail
          go_meet
          case rel => exact Hrel.out
        · have b5 : (L.K == 5) = false := by rw [beq_eq_false_iff_ne]; exact hK
          have hrow9 := hrow.congr (f' := boolsV (L.met p 0)) (fun i hi => by
            unfold boolsV
            rw [met_none hK])
          have Hrel := Lib.hid (And.intro hrow9 hb8)
          clear hrow9 hK hrow hb8 hmk
          go_wp2_with fail
          go_meet
          case rel => exact Hrel.out
      obtain ⟨hrow9, hb9⟩ := hcut
      generalize wc = w9 at *
      have HRow9 := Lib.hid hrow9
      have Hb9 := Lib.hid hb9
      clear hrow9 hb9 hmk HL8 k0 k1 k2 c0 c1 c2 Hs8 hrow hb8
      go_wp2_with fail
      go_loopw [16, 15] (fun t u W' => ∃ d : Nat, d ≤ N ∧ t = .int .i64 d ∧ u = .bool (L.inRow p d) ∧ RowAt W' w7.heap.size 4 L.n L.n (boolsV (L.met p d)) ∧ Below w7.heap.size w7 W') (fun t _ _ => N - (intOf t).toNat)
      case atStart => exact ⟨0, by omega, rfl, rfl, HRow9.out, Hb9.out⟩
      case round =>
        obtain ⟨d, hd0, rfl, rfl, hrow, hbd⟩ := hrel
        have HRow := Lib.hid hrow
        have HLd := Lib.hid (HLr.out.all hbd)
        have HUd := Lib.hid (HU.out.all hbd)
        have Hbd := Lib.hid hbd
        clear hrow hbd
        by_cases hlt2 : d < N
        · have Hf := Lib.hid (Hinv.out d hlt2)
          have Z1 := Lib.hid (fun W (hW : IArg W (.slice a L.n cap) L.n L.M) => Row_ok L _ (L.rowF p d) W hW HR.out Hf.out.inn)
          have Z2 := Lib.hid (fun W (hW : IArg W (.slice a L.n cap) L.n L.M) => Region_ok L _ (L.rowF p d) W hW HR.out Hf.out.inn)
          have Z3 := Lib.hid (fun W (hW : IArg W (.slice a L.n cap) L.n L.M) => Place_ok L _ (L.rowF p d) W hW HR.out Hf.out.inn)
          unfold layV at Z1 Z2 Z3
          go_upto_region 22 with fail
          go_cut [17, 18] from 106 to 188 (fun s17 s18 wx => (∃ a' c', s17 = .slice a' N c' ∧ IntsAt wx (.slice a' N c') N (L.rowF (L.rowF p d))) ∧ s18 = .int .i64 0 ∧ Below wr.heap.size wr wx)
          case first =>
            have hd : Below wr.heap.size wr wr.drew := (Below.refl _ wr).drew
            go_region_held (fun w' => w'.cell? ⟨w.heap.size, 0, none⟩ = some (.int .i64 L.K) ∧ w'.cell? ⟨w.heap.size, 1, none⟩ = some (.slice a L.n cap) ∧ w'.cell? ⟨w.heap.size, 2, none⟩ = some (.int .i64 L.C) ∧ w'.cell? ⟨bu, ou + d, none⟩ = some (.int .i64 (L.rowF p d)) ∧ Below wr.heap.size wr w') (exact keep_row HLd.out HUd.out hlt2 (by assumption))
              (first | (go_at_call 17; ((with_reducible refine (Z1.out _ (HLd.out.all hd).arg).mono ?_); rintro e wx ⟨ua, rfl, hOa, hbq⟩); rw [HN.out] at hOa; obtain ⟨aa, ca, rfl⟩ := hOa.slice; have HOa := Lib.hid hOa.intsAt; clear hOa; replace hd := hd.trans (hbq.mono hd.size)))
            go_wp2_with fail
            go_meet
            case rel => exact ⟨⟨_, _, rfl, HOa.out⟩, rfl, hd⟩
          obtain ⟨⟨aa, ca, rfl, hOa⟩, rfl, hbq⟩ := hcut
          have HOa := Lib.hid hOa; clear hOa
          generalize wc = wa at *
          replace HLd := Lib.hid (HLd.out.all hbq)
          replace HUd := Lib.hid (HUd.out.all hbq)
          replace HRow := Lib.hid (HRow.out.all hbq)
          replace Hbd := Lib.hid (Hbd.out.trans (hbq.mono Hbd.out.size))
          clear hbq Z1
          go_upto_region 23 with fail
          go_cut [19, 20] from 106 to 188 (fun s19 s20 wx => s19 = .int .i64 (L.reg p) ∧ s20 = .int .i64 0 ∧ Below wa.heap.size wa wx)
          case first =>
            have hd : Below wa.heap.size wa wa.drew := (Below.refl _ wa).drew
            go_region_held (fun w' => w'.cell? ⟨w.heap.size, 0, none⟩ = some (.int .i64 L.K) ∧ w'.cell? ⟨w.heap.size, 1, none⟩ = some (.slice a L.n cap) ∧ w'.cell? ⟨w.heap.size, 2, none⟩ = some (.int .i64 L.C) ∧ w'.cell? ⟨bu, ou + d, none⟩ = some (.int .i64 (L.rowF p d)) ∧ Below wa.heap.size wa w') (exact keep_row HLd.out HUd.out hlt2 (by assumption))
              (first | (go_at_call 29; ((with_reducible refine (Z2.out _ (HLd.out.all hd).arg).mono ?_); rintro e wx ⟨rfl, hbq⟩); rw [Hf.out.reg]; replace hd := hd.trans (hbq.mono hd.size)))
            go_wp2_with fail
            go_meet
            case rel => exact ⟨rfl, rfl, hd⟩
          obtain ⟨rfl, rfl, hbq⟩ := hcut
          generalize wc = wb at *
          replace HLd := Lib.hid (HLd.out.all hbq)
          replace HUd := Lib.hid (HUd.out.all hbq)
          replace HRow := Lib.hid (HRow.out.all hbq)
          replace Hbd := Lib.hid (Hbd.out.trans (hbq.mono Hbd.out.size))
          replace HOa := Lib.hid (HOa.out.all hbq)
          clear hbq Z2
          go_upto_region 24 with fail
          go_cut [21, 22] from 106 to 188 (fun s21 s22 wx => (∃ g' c', s21 = .slice (some ⟨g', 0, none⟩) M c' ∧ Cells wx g' 0 (M * 2) (spotV (L.at (L.rowF p d)))) ∧ s22 = .int .i64 0 ∧ Below wb.heap.size wb wx)
          case first =>
            have hd : Below wb.heap.size wb wb.drew := (Below.refl _ wb).drew
            go_region_held (fun w' => w'.cell? ⟨w.heap.size, 0, none⟩ = some (.int .i64 L.K) ∧ w'.cell? ⟨w.heap.size, 1, none⟩ = some (.slice a L.n cap) ∧ w'.cell? ⟨w.heap.size, 2, none⟩ = some (.int .i64 L.C) ∧ w'.cell? ⟨bu, ou + d, none⟩ = some (.int .i64 (L.rowF p d)) ∧ Below wb.heap.size wb w') (exact keep_row HLd.out HUd.out hlt2 (by assumption))
              (first | (go_at_call 16; ((with_reducible refine (Z3.out _ (HLd.out.all hd).arg).mono ?_); rintro e wx ⟨va, rfl, hSa, hbq⟩); rw [HM.out] at hSa; obtain ⟨ga, cga, rfl, -, hrva, -, -⟩ := hSa.row (by omega); have HVa := Lib.hid hrva.reads; clear hSa hrva; replace hd := hd.trans (hbq.mono hd.size)))
            go_wp2_with fail
            go_meet
            case rel => exact ⟨⟨_, _, rfl, HVa.out⟩, rfl, hd⟩
          obtain ⟨⟨ga, cga, rfl, hVa⟩, rfl, hbq⟩ := hcut
          have HVa := Lib.hid hVa; clear hVa
          generalize wc = wd at *
          replace HLd := Lib.hid (HLd.out.all hbq)
          replace HUd := Lib.hid (HUd.out.all hbq)
          replace HRow := Lib.hid (HRow.out.all hbq)
          replace Hbd := Lib.hid (Hbd.out.trans (hbq.mono Hbd.out.size))
          replace HOa := Lib.hid (HOa.out.all hbq)
          clear hbq Z3
          obtain ⟨j, hj⟩ : ∃ j : Nat, (L.at (L.rowF p d) 0).1 = j := ⟨_, (Int.toNat_of_nonneg Hf.out.mem.1).symm⟩
          have hmem := Hf.out.mem
          have hfr := Hf.out.fresh
          rw [hj] at hmem hfr
          rw [Int.toNat_natCast] at hfr
          have hjn : j < L.n := by omega
          have Hj := Lib.hid hj; clear hj
          have Hfr := Lib.hid hfr; clear hfr hmem
          go_upto_region 25 with fail
          go_cut [173] from 106 to 188 (fun s173 wx => s173 = .bool false ∧ Below wd.heap.size wd wx)
          case first =>
            go_wp2_with fail
            refine (sameInts_any _ _ _ _ _ _ wd HOa.out (.inr ⟨_, _, _, rfl, by omega, HUd.out⟩) (by omega) (by omega)).mono ?_
            rintro e we ⟨rfl, hbq⟩
            rw [sameIn_true rfl (fun d' _ => Hf.out.same d')]
            obtain ⟨x0, -⟩ := cells_spot (HVa.out.all hbq) (i := 0) (by omega)
            rw [Hj.out] at x0
            have e0 := (HRow.out.all hbq).cell (i := j) hjn
            unfold boolsV at e0
            rw [Hfr.out] at e0
            go_wp2_with fail
            go_meet
            case rel => exact ⟨rfl, hbq⟩
          obtain ⟨rfl, hbq⟩ := hcut
          generalize wc = we at *
          replace HRow := Lib.hid (HRow.out.all hbq)
          replace Hbd := Lib.hid (Hbd.out.trans (hbq.mono Hbd.out.size))
          obtain ⟨x0, -⟩ := cells_spot (HVa.out.all hbq) (i := 0) (by omega)
          rw [Hj.out] at x0
          have e0 := HRow.out.cell (i := j) hjn
          have f0 := HRow.out.frozen j
          have hrow10 := (HRow.out.set j (.bool true)).congr (f' := boolsV (L.met p (d + 1))) (fun i hi => by
            unfold boolsV
            rw [met_step, Hj.out]
            by_cases h : i = j
            · subst h; simp
            · have h2 : ¬ ((j : Int) = i) := by omega
              simp [h, h2])
          have hb10 := Hbd.out.setCell (p := ⟨w7.heap.size, j, none⟩) (Nat.le_refl _) (.bool true)
          have hx := (HU.out.all hb10) d hlt2
          unfold intsV at hx
          have HRow10 := Lib.hid hrow10
          have Hb10 := Lib.hid hb10
          have Hx := Lib.hid hx
          clear hrow10 hb10 hx hbq HOa HVa HUd HLd HRow Hbd
          go_upto_region 28 with fail
          generalize we.setCell ⟨w7.heap.size, j, none⟩ (.bool true) = w10 at *
          clear x0 e0 f0
          rcases hin : L.inRow p d with _ | _
          · have hx := Hx.out
            by_cases hq : L.rowF p d = p
            · have bq : (L.rowF p d == (p : Int)) = true := by rw [beq_iff_eq]; exact hq
              have hin2 : L.inRow p (d + 1) = true := by unfold Lay.inRow; rw [anyB_succ, decide_eq_true hq, Bool.or_true]
              have Hin2 := Lib.hid hin2
              clear hin2 hin hq
              go_wp2_with fail
              go_roundw
              case rel => exact ⟨d + 1, by omega, by go_num, by rw [Hin2.out], HRow10.out, Hb10.out⟩
              case measure => simp [intOf]; omega
            · have bq : (L.rowF p d == (p : Int)) = false := by rw [beq_eq_false_iff_ne]; exact hq
              have hin2 : L.inRow p (d + 1) = false := by unfold Lay.inRow at hin ⊢; rw [anyB_succ, decide_eq_false hq, hin, Bool.or_self]
              have Hin2 := Lib.hid hin2
              clear hin2 hin hq
              go_wp2_with fail
              go_roundw
              case rel => exact ⟨d + 1, by omega, by go_num, by rw [Hin2.out], HRow10.out, Hb10.out⟩
              case measure => simp [intOf]; omega
          · have hin2 : L.inRow p (d + 1) = true := by unfold Lay.inRow at hin ⊢; rw [anyB_succ, hin, Bool.true_or]
            have Hin2 := Lib.hid hin2
            clear hin2 hin
            go_wp2_with fail
            go_roundw
            case rel => exact ⟨d + 1, by omega, by go_num, by rw [Hin2.out], HRow10.out, Hb10.out⟩
            case measure => simp [intOf]; omega
        · obtain rfl : d = N := by omega
          have hin : L.inRow p d = true := by
            obtain ⟨d', h1, h2⟩ := row_own HR.out Hpp.out
            rw [HN.out] at h1
            exact anyB_true.2 ⟨d', h1, decide_eq_true h2⟩
          rw [hin]
          clear hin
          go_wp2_with fail
          go_roundw
          case rel => exact ⟨p + 1, by omega, by go_num, HLd.out⟩
          case measure => simp [intOf]; omega
    · have hlt' : ¬ (p : Int) < S := hlt
      clear hlt
      go_wp2_with fail
      refine (sanity_any _).mono ?_
      rintro e w9 ⟨rfl, hb9⟩
      go_wp2
      go_ret
      exact ⟨rfl, (HLr.out.all hb9).bel⟩

end Go.Proofs.Ytlbohmfhdchabaa
