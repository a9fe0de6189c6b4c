/- Span: the law SpanCovers. -/
import Derived.Test.YtlbohmfhdchabaaSpnLJ
import Derived.Test.YtlbohmfhdchabaaSpnLQ
import Derived.Test.YtlbohmfhdchabaaSpnLT
import Derived.Deep.DrawnRows
import Derived.Deep.CutRange
namespace Go.Proofs.Ytlbohmfhdchabaa
open Go.RowKit
attribute [local go_sem ↓] Go.wp_at_zero Go.wp_at_succ

/-- Counts of the members before i, and of i's first k pages. -/
def UF (g : Nat → Nat → Bool) (M : Nat → Int) (i k j : Nat) : Int := if j < i then (cntB (g j) (M j).toNat : Nat) else if j = i then (cntB (g i) k : Nat) else 0
theorem UF_at (g : Nat → Nat → Bool) (M : Nat → Int) (i k : Nat) : UF g M i k i = (cntB (g i) k : Nat) := by
  unfold UF; rw [if_neg (by omega), if_pos rfl]
theorem UF_done (g : Nat → Nat → Bool) (M : Nat → Int) (i j : Nat) : UF g M i (M i).toNat j = UF g M (i + 1) 0 j := by
  unfold UF
  by_cases h1 : j < i
  · rw [if_pos h1, if_pos (by omega)]
  · by_cases h2 : j = i
    · subst h2; rw [if_neg h1, if_pos rfl, if_pos (by omega)]
    · rw [if_neg h1, if_neg h2, if_neg (by omega)]
      split
      · rfl
      · rfl
theorem UF_miss {g : Nat → Nat → Bool} {M : Nat → Int} {i k : Nat} (h : g i k = false) (j : Nat) : UF g M i (k + 1) j = UF g M i k j := by
  unfold UF; simp [cntB, h]
theorem UF_hit {g : Nat → Nat → Bool} {M : Nat → Int} {i k : Nat} (h : g i k = true) (j : Nat) : UF g M i (k + 1) j = if j = i then (cntB (g i) k : Int) + 1 else UF g M i k j := by
  unfold UF
  by_cases h1 : j < i
  · rw [if_pos h1, if_neg (by omega), if_pos h1]
  · by_cases h2 : j = i
    · rw [if_neg h1, if_pos h2, if_pos h2]; simp [cntB, h]
    · rw [if_neg h1, if_neg h2, if_neg h2, if_neg h1, if_neg h2]
theorem UF_zero (g : Nat → Nat → Bool) (M : Nat → Int) (j : Nat) : UF g M 0 0 j = 0 := by
  unfold UF; rw [if_neg (by omega)]; split <;> rfl

theorem has_met {L : Lay} (h : L.Right) {r N : Nat} {F : Nat → Int × Int} (hM : MetS L r N F) (hr : (r : Int) = L.regn) (s : Int × Int) (hs : 0 ≤ s.1 ∧ s.1 < L.n ∧ 0 ≤ s.2) : hasSp N F s = decide (s.2 < L.regs) := by
  have hb : L.bnd r = L.regs := by
    have := MetS.done h
    rwa [← hr, Int.toNat_natCast] at this
  by_cases hlt : s.2 < L.regs
  · rw [decide_eq_true hlt]
    obtain ⟨j, hj, hjs⟩ := (hM.iff s).2 ⟨hs.1, hs.2.1, hs.2.2, by rw [hb]; exact hlt⟩
    exact anyB_true.2 ⟨j, hj, decide_eq_true hjs⟩
  · rw [decide_eq_false hlt]
    refine anyB_false.2 fun j hj => decide_eq_false fun hjs => ?_
    have := (hM.iff s).1 ⟨j, hj, hjs⟩
    rw [hb] at this
    exact hlt this.2.2.2
theorem met_len {L : Lay} (h : L.Right) {r N : Nat} {F : Nat → Int × Int} (hM : MetS L r N F) : N ≤ 24576 := by
  have hn := h.nle
  have hr := h.regs
  have hb : (L.bnd r).toNat ≤ 4096 := by unfold Lay.bnd; split <;> omega
  rw [hM.len]
  exact Nat.le_trans (Nat.mul_le_mul hn.2 hb) (by decide)

set_option maxRecDepth 8000 in
set_option maxHeartbeats 16000000 in
theorem SpanCovers_any (L : Lay) (sl : Value) (w : World) (hs : IArg w sl L.n L.M) : Calls Try.prog 5 #[layV L sl] w (TrueR w) := by
  obtain ⟨hW, hr, hB⟩ := lay_setup hs
  obtain ⟨c0, c1, c2⟩ := row3_cells hr
  obtain ⟨a, cap, rfl⟩ := hs.slice
  have HL := Lib.hid (show LayAt w L a cap _ from ⟨hr, hW, hB⟩)
  clear hW hs hr hB
  unfold layV
  go_enter Try.func5, Try.ntmps5
  go_wp2_with fail
  generalize w.alloc (.cells #[.int .i64 L.K, .slice a L.n cap, .int .i64 L.C] 24) = W at *
  refine (few_any L _ W HL.out.arg).mono ?_
  rintro e w1 ⟨(⟨hF, rfl⟩ | ⟨hnF, rfl⟩), hb⟩
  rotate_left 1
  · clear hnF
    go_wp2_with fail
    refine (sanity_any _).mono ?_
    rintro e w2 ⟨rfl, hb2⟩
    go_wp2
    go_ret
    exact ⟨rfl, ((HL.out.all hb).all hb2).bel⟩
  clear hF
  replace HL := Lib.hid (HL.out.all hb)
  clear c0 c1 c2 hb
  obtain ⟨c0, c1, c2⟩ := HL.out.cells
  go_wp2_with fail
  refine (Check_any L _ w1 HL.out.arg).mono ?_
  rintro e w2 ⟨(⟨hR, rfl⟩ | ⟨hnR, rfl⟩), hb⟩
  rotate_left 1
  · clear hnR
    go_wp2_with fail
    refine (sanity_any _).mono ?_
    rintro e w3 ⟨rfl, hb3⟩
    go_wp2
    go_ret
    exact ⟨rfl, ((HL.out.all hb).all hb3).bel⟩
  have HR := Lib.hid hR; clear hR
  replace HL := Lib.hid (HL.out.all hb)
  clear c0 c1 c2 hb
  obtain ⟨c0, c1, c2⟩ := HL.out.cells
  have hn := HR.out.nle
  have hrn := regn_bounds HR.out
  go_wp2_with fail
  refine (Regions_ok L _ w2 HL.out.arg HR.out).mono ?_
  rintro e w3 ⟨rfl, hb⟩
  replace HL := Lib.hid (HL.out.all hb)
  clear c0 c1 c2 hb
  obtain ⟨c0, c1, c2⟩ := HL.out.cells
  have Hrp := Lib.hid (regn_pos HR.out)
  go_upto_region 4 with fail
  go_cut [47] from 33 to 47 (fun s47 wx => s47 = .bool false ∧ wx = w3)
  case first =>
    by_cases h4 : L.K = 4
    · have b4 : (L.K == 4) = true := by rw [beq_iff_eq]; exact h4
      have hpos := Hrp.out.2 (.inl h4)
      clear h4
      go_wp2_with fail
      go_meet
      case rel => exact ⟨rfl, rfl⟩
    · have b4 : (L.K == 4) = false := by rw [beq_eq_false_iff_ne]; exact h4
      by_cases h5 : L.K = 5
      · have b5 : (L.K == 5) = true := by rw [beq_iff_eq]; exact h5
        have hpos := Hrp.out.2 (.inr h5)
        clear h4 h5
        go_wp2_with fail
        go_meet
        case rel => exact ⟨rfl, rfl⟩
      · have b5 : (L.K == 5) = false := by rw [beq_eq_false_iff_ne]; exact h5
        have hpos : ¬ 0 < L.regn := fun h => (Hrp.out.1 h).elim h4 h5
        clear h4 h5
        go_wp2_with fail
        go_meet
        case rel => exact ⟨rfl, rfl⟩
  case rest =>
    obtain ⟨rfl, hwc⟩ := hcut
    rw [hwc]
    clear hwc
    go_wp2_with fail
    clear c0 c1 c2
    go_loopw [6, 5] (fun t u W' => ∃ (r N : Nat) (F : Nat → Int × Int), (r : Int) ≤ L.regn ∧ t = .int .i64 r ∧ Spots W' w3.heap.size u N F ∧ MetS L r N F ∧ Below w3.heap.size w3 W') (fun t _ _ => (L.regn - intOf t).toNat)
    case atStart => exact ⟨0, 0, fun _ => (0, 0), by omega, rfl, Spots.nil _ _ _, MetS.zero HR.out _, Below.refl _ _⟩
    case round =>
      obtain ⟨r, N, F, hr, rfl, hSp, hMet, hbl⟩ := hrel
      have HMet := Lib.hid hMet; clear hMet
      have hN := met_len HR.out HMet.out
      have HLr := Lib.hid (HL.out.all hbl)
      obtain ⟨av, cv, rfl⟩ := hSp.slice
      have HSp := Lib.hid hSp; clear hSp
      have Hbl := Lib.hid hbl; clear hbl
      obtain ⟨c0, c1, c2⟩ := HLr.out.cells
      by_cases hlt : (r : Int) < L.regn
      · have Hr := Lib.hid (show 0 ≤ (r : Int) ∧ (r : Int) < L.regn from ⟨by omega, hlt⟩)
        go_wp2_with fail
        refine (Members_ok L _ r wr HLr.out.arg HR.out Hr.out).mono ?_
        rintro e w4 ⟨v, rfl, hSm, hb4⟩
        have hml := mem_len HR.out Hr.out
        have hmr := mem_ref HR.out Hr.out
        have hmp : 0 < L.n * L.memM r := Nat.mul_pos (by omega) (by unfold Lay.memM; omega)
        have HStep := Lib.hid (MetS.step HR.out Hr.out.2 HMet.out)
        obtain ⟨gm, cm, rfl, -, hrm, -, -⟩ := hSm.row hmp
        have HC := Lib.hid hrm.reads
        have HSp4 := Lib.hid (HSp.out.all hb4)
        have Hb4 := Lib.hid (Hbl.out.trans (hb4.mono Hbl.out.size))
        have hq384 := hml.2
        clear hSm hrm hml hmr hb4 c0 c1 c2
        generalize hq : L.n * L.memM r = q at *
        have Hq := Lib.hid hq; clear hq
        have q0 : ((q : Int) == 0) = false := by rw [beq_eq_false_iff_ne]; omega
        go_wp2_with (with_reducible refine stopB .append ?_)
        refine Hold.go ?_
        refine wpList_append_sp rfl _ _ rfl w3.heap.size _ N F rfl HSp4.out gm 0 q cm (nthSpot ((r : Int) * L.C) (L.memM r)) rfl HC.out (by omega) (by have := Hb4.out.size; omega) ?_
        intro v' W3 hS' hgr
        have hb5 := HSp4.out.below Hb4.out (by have := Hb4.out.size; omega) hgr
        obtain ⟨a', cap', rfl⟩ := hS'.slice
        have Hn := Lib.hid (And.intro hS' hb5)
        clear hS' hgr hb5
        go_wp2
        go_roundw
        case rel => exact ⟨r + 1, N + q, _, by omega, by go_num, Hn.out.1, HStep.out, Hn.out.2⟩
        case measure => simp [intOf]; omega
      · have hrr : (r : Int) = L.regn := by omega
        have Hrr := Lib.hid hrr; clear hrr
        generalize wr = wb at *
        obtain ⟨w8, hmk8, hrow8, hb8, hs8⟩ := make_o (P := Try.prog) 22 3 _ _ Try.underlying22 info_int rfl (by decide) .i64 L.n (by omega) wb
        have hmk8 : (Instr.makeSlice 22 (.int .i64 L.n) (.int .i64 L.n)).run Try.prog wb = _ := hmk8
        obtain ⟨w9, hmk9, hrow9, hb9, hs9⟩ := make_o (P := Try.prog) 22 3 _ _ Try.underlying22 info_int rfl (by decide) .i64 L.n (by omega) w8
        have hmk9 : (Instr.makeSlice 22 (.int .i64 L.n) (.int .i64 L.n)).run Try.prog w8 = _ := hmk9
        obtain ⟨d0, d1, d2⟩ := (HLr.out.all hb8).cells
        have HL9 := Lib.hid ((HLr.out.all hb8).all hb9)
        obtain ⟨k0, k1, k2⟩ := HL9.out.cells
        have hU := (hrow8.all hb9).congr (f' := intsV (UF L.usedF L.M 0 0)) (fun i hi => by unfold intsV; rw [UF_zero])
        have hP := hrow9.congr (f' := intsV (UF L.parF L.M 0 0)) (fun i hi => by unfold intsV; rw [UF_zero])
        have hne : w8.heap.size ≠ wb.heap.size := by omega
        have hge : wb.heap.size ≤ w8.heap.size := by omega
        have HU9 := Lib.hid hU
        have HP9 := Lib.hid hP
        have Hne := Lib.hid hne
        have hbm : Below wb.heap.size wb w9 := hb8.trans (hb9.mono hge)
        have Hbm := Lib.hid hbm
        have HM9 := Lib.hid (HSp.out.at.all hbm)
        have Hge := Lib.hid hge
        clear hU hP hne hs8 hs9 hrow8 hrow9 hb8 hb9 hbm hge
        go_wp2_with fail
        clear hmk8 hmk9 c0 c1 c2 d0 d1 d2 k0 k1 k2
        obtain ⟨v9, off9, cap9, hsl, hcel9⟩ : ∃ b off cap1, Value.slice a L.n cap = .slice (some ⟨b, off, none⟩) L.n cap1 ∧ Cells wb b off L.n (intsV L.M) := by
          rcases HLr.out.arg with ⟨h0, _⟩ | ⟨b, off, cap1, heq, h0, hcap, hmax, hcells, hrange⟩
          · omega
          · exact ⟨b, off, cap1, heq, hcells⟩
        simp only [Value.slice.injEq, true_and] at hsl
        obtain ⟨rfl, rfl⟩ := hsl
        have HC9 := Lib.hid hcel9; clear hcel9
        go_loopw [12, 11] (fun t u W' => ∃ i : Nat, i ≤ L.n ∧ t = .int .i64 i ∧ u = .int .i64 (sumN L.used i) ∧ sumN L.used i ≤ 4096 * i ∧ RowAt W' wb.heap.size 3 L.n L.n (intsV (UF L.usedF L.M i 0)) ∧ RowAt W' w8.heap.size 3 L.n L.n (intsV (UF L.parF L.M i 0)) ∧ Below wb.heap.size wb W') (fun t _ _ => L.n - (intOf t).toNat)
        case atStart => exact ⟨0, by omega, rfl, rfl, by simp [sumN], HU9.out, HP9.out, Hbm.out⟩
        case round =>
          obtain ⟨i, hi, rfl, rfl, hsum, hU, hP, hbi⟩ := hrel
          have HU := Lib.hid hU
          have HP := Lib.hid hP
          have Hbi := Lib.hid hbi
          clear hU hP hbi
          obtain ⟨c0, c1, c2⟩ := (HLr.out.all Hbi.out).cells
          by_cases hlti : i < L.n
          · have hMi := HR.out.mem i hlti
            have hi6 : i < 6 := by omega
            have hnext : sumN L.used (i + 1) = sumN L.used i + cntB (L.usedF i) (L.M i).toNat := rfl
            have Hnext := Lib.hid hnext; clear hnext
            have hcb := cntB_le (L.usedF i) (L.M i).toNat
            have Hcb := Lib.hid hcb; clear hcb
            generalize hT : sumN L.used i = T at *
            have HT := Lib.hid hT; clear hT
            go_wp2_with fail
            clear c0 c1 c2
            go_loopw [13, 11] (fun t u W' => ∃ k : Nat, (k : Int) ≤ L.M i ∧ t = .int .i64 k ∧ u = .int .i64 ((T : Int) + cntB (L.usedF i) k) ∧ RowAt W' wb.heap.size 3 L.n L.n (intsV (UF L.usedF L.M i k)) ∧ RowAt W' w8.heap.size 3 L.n L.n (intsV (UF L.parF L.M i k)) ∧ Below wb.heap.size wb W') (fun t _ _ => (L.M i - intOf t).toNat)
            case atStart => exact ⟨0, by omega, rfl, by simp [cntB], HU.out, HP.out, Hbi.out⟩
            case round =>
              obtain ⟨k, hk, rfl, rfl, hU, hP, hbk⟩ := hrel
              have HUk := Lib.hid hU
              have HPk := Lib.hid hP
              have HLk := Lib.hid (HLr.out.all hbk)
              have HMk := Lib.hid (HSp.out.at.all hbk)
              have hcell := (HC9.out.all hbk) i hlti
              unfold intsV at hcell
              have Hbk := Lib.hid hbk
              clear hU hP hbk
              obtain ⟨c0, c1, c2⟩ := HLk.out.cells
              have hck := cntB_le (L.usedF i) k
              have hpk := cntB_le (L.parF i) k
              by_cases hltk : (k : Int) < L.M i
              · have Hhas := Lib.hid (show L.has ((i : Int), (k : Int)) = true from has_iff.2 ⟨by simp, by simp; omega, by simp, by simpa using hltk⟩)
                go_upto_region 23 with fail
                generalize hpg : L.page ((i : Int), (k : Int)) = pg at *
                have hu0 : L.usedF i k = decide (pg.2 ≠ 4) := by unfold Lay.usedF; rw [hpg]
                have hp0 : L.parF i k = decide (pg.2 = 3) := by unfold Lay.parF; rw [hpg]
                have hHm : 0 < L.regn → hasSp N F ((i : Int), (k : Int)) = decide (pg.2 ≠ 4) := fun hpos => by
                  have hK := Hrp.out.1 hpos
                  rw [has_met HR.out HMet.out Hrr.out ((i : Int), (k : Int)) ⟨by simp, by simp; omega, by simp⟩, ← hpg]
                  exact decide_eq_decide.2 (role_regs HR.out hK _).symm
                have Hpg := Lib.hid hpg
                have Hu0 := Lib.hid hu0
                have Hp0 := Lib.hid hp0
                have HHm := Lib.hid hHm
                clear hpg hu0 hp0 hHm
                have hd : Below wr.heap.size wr wr.drew := (Below.refl _ wr).drew
                have Zp := Lib.hid (fun W (hW : IArg W (.slice (some ⟨v9, off9, none⟩) L.n cap) L.n L.M) => (show Calls Try.prog 24 #[.agg #[.int .i64 L.K, .slice (some ⟨v9, off9, none⟩) L.n cap, .int .i64 L.C], .agg #[.int .i64 (i : Int), .int .i64 (k : Int)]] W (fun e w' => e = .returned (.tuple #[.int .i64 pg.1, .int .i64 pg.2, .int .i64 0]) ∧ Below W.heap.size W w') from by
                  have h := Page_ok L _ ((i : Int), (k : Int)) W hW HR.out Hhas.out
                  rw [Hpg.out] at h
                  exact h))
                go_cut [15, 16] from 91 to 135 (fun s15 s16 wx => s15 = .int .i64 pg.2 ∧ s16 = .int .i64 0 ∧ Below wr.heap.size wr wx)
                case first =>
                  go_region_held (fun w' => w'.cell? ⟨w.heap.size, 0, none⟩ = some (.int .i64 L.K) ∧ w'.cell? ⟨w.heap.size, 1, none⟩ = some (.slice (some ⟨v9, off9, none⟩) L.n cap) ∧ w'.cell? ⟨w.heap.size, 2, none⟩ = some (.int .i64 L.C) ∧ Below wr.heap.size wr w') (exact keep3 HLk.out.row (by assumption))
                    (first | (go_at_call 25; ((with_reducible refine (spot_any _ _ _).mono ?_); rintro e wx ⟨rfl, hbq⟩); replace hd := hd.trans (hbq.mono hd.size)) | (go_at_call 24; ((with_reducible refine (Zp.out _ (HLk.out.arg.all hd)).mono ?_); rintro e wy ⟨rfl, hbr⟩); replace hd := hd.trans (hbr.mono hd.size)))
                  go_wp2_with fail
                  go_meet
                  case rel => exact ⟨rfl, rfl, hd⟩
                case rest =>
                  obtain ⟨rfl, rfl, hbc⟩ := hcut
                  generalize wc = wp at *
                  have HMp := Lib.hid (HMk.out.all hbc)
                  have HLp := Lib.hid (HLk.out.all hbc)
                  have HUp := Lib.hid (HUk.out.all hbc)
                  have HPp := Lib.hid (HPk.out.all hbc)
                  have Hbp := Lib.hid (Hbk.out.trans (hbc.mono Hbk.out.size))
                  clear hbc c0 c1 c2 hcell HUk HPk HMk HLk Hbk Zp hd
                  generalize hrole : pg.2 = role at *
                  clear hrole
                  go_upto_region 24 with fail
                  go_cut [117] from 91 to 135 (fun s117 wx => s117 = .bool false ∧ Below wp.heap.size wp wx)
                  case first =>
                    by_cases hpos : 0 < L.regn
                    · have hm := HHm.out hpos
                      have Hm := Lib.hid hm; clear hm
                      by_cases h4 : role = 4
                      · have e4 : (role != 4) = false := by rw [bne_eq_false_iff_eq]; exact h4
                        have hx : decide (role ≠ 4) = false := decide_eq_false (fun h => h h4)
                        have Hx := Lib.hid hx
                        clear hx h4
                        go_wp2_with fail
                        refine (spot_any _ _ _).mono ?_
                        rintro e wx ⟨rfl, hbq⟩
                        have HMq := Lib.hid (HMp.out.all hbq)
                        go_wp2_with fail
                        refine (hasSp_any _ N F ((i : Int), (k : Int)) wx HMq.out (by omega)).mono ?_
                        rintro e wy ⟨rfl, hbr⟩
                        rw [Hm.out, Hx.out]
                        have hbs := hbq.trans (hbr.mono hbq.size)
                        go_wp2_with fail
                        go_meet
                        case rel => exact ⟨rfl, hbs⟩
                      · have e4 : (role != 4) = true := by rw [bne_iff_ne]; exact h4
                        have hx : decide (role ≠ 4) = true := decide_eq_true h4
                        have Hx := Lib.hid hx
                        clear hx h4
                        go_wp2_with fail
                        refine (spot_any _ _ _).mono ?_
                        rintro e wx ⟨rfl, hbq⟩
                        have HMq := Lib.hid (HMp.out.all hbq)
                        go_wp2_with fail
                        refine (hasSp_any _ N F ((i : Int), (k : Int)) wx HMq.out (by omega)).mono ?_
                        rintro e wy ⟨rfl, hbr⟩
                        rw [Hm.out, Hx.out]
                        have hbs := hbq.trans (hbr.mono hbq.size)
                        go_wp2_with fail
                        go_meet
                        case rel => exact ⟨rfl, hbs⟩
                    · go_wp2_with fail
                      go_meet
                      case rel => exact ⟨rfl, Below.refl _ _⟩
                  case rest =>
                    obtain ⟨rfl, hbc⟩ := hcut
                    have HUq := Lib.hid (HUp.out.all hbc)
                    have HPq := Lib.hid (HPp.out.all hbc)
                    have Hbq := Lib.hid (Hbp.out.trans (hbc.mono Hbp.out.size))
                    clear hbc HMp HLp HUp HPp Hbp HHm
                    by_cases h4 : role = 4
                    · have e4 : (role != 4) = false := by rw [bne_eq_false_iff_eq]; exact h4
                      have e3 : (role == 3) = false := by rw [beq_eq_false_iff_ne]; omega
                      have hu1 : L.usedF i k = false := by rw [Hu0.out]; exact decide_eq_false (fun h => h h4)
                      have hp1 : L.parF i k = false := by rw [Hp0.out]; exact decide_eq_false (by omega)
                      have hc1 : cntB (L.usedF i) (k + 1) = cntB (L.usedF i) k := by simp [cntB, hu1]
                      have Hn := Lib.hid (And.intro hc1 (And.intro (HUq.out.congr (f' := intsV (UF L.usedF L.M i (k + 1))) (fun j _ => by unfold intsV; rw [UF_miss hu1])) (HPq.out.congr (f' := intsV (UF L.parF L.M i (k + 1))) (fun j _ => by unfold intsV; rw [UF_miss hp1]))))
                      clear h4 hu1 hp1 hc1
                      go_wp2_with fail
                      go_roundw
                      case rel => exact ⟨k + 1, by omega, by go_num, by rw [Hn.out.1], Hn.out.2.1, Hn.out.2.2, Hbq.out⟩
                      case measure => simp [intOf]; omega
                    · have e4 : (role != 4) = true := by rw [bne_iff_ne]; exact h4
                      have hu1 : L.usedF i k = true := by rw [Hu0.out]; exact decide_eq_true h4
                      have hc1 : cntB (L.usedF i) (k + 1) = cntB (L.usedF i) k + 1 := by simp [cntB, hu1]
                      have x0 := HUq.out.cell (i := i) hlti
                      unfold intsV at x0
                      rw [UF_at] at x0
                      have f0 := HUq.out.frozen i
                      have hU2 := (HUq.out.set i (.int .i64 ((cntB (L.usedF i) k : Int) + 1))).congr (f' := intsV (UF L.usedF L.M i (k + 1))) (fun j _ => by
                        unfold intsV; rw [UF_hit hu1]; split <;> rfl)
                      have hP2 := HPq.out.setOther ⟨wb.heap.size, i, none⟩ (.int .i64 ((cntB (L.usedF i) k : Int) + 1)) (fun h => Hne.out h.symm)
                      have hb2 := Hbq.out.setCell (p := ⟨wb.heap.size, i, none⟩) (Nat.le_refl _) (.int .i64 ((cntB (L.usedF i) k : Int) + 1))
                      have HU2 := Lib.hid hU2
                      have HP2 := Lib.hid hP2
                      have Hb2 := Lib.hid hb2
                      have Hc1 := Lib.hid hc1
                      clear hU2 hP2 hb2 hc1 hu1
                      by_cases h3 : role = 3
                      · have e3 : (role == 3) = true := by rw [beq_iff_eq]; exact h3
                        have hp1 : L.parF i k = true := by rw [Hp0.out]; exact decide_eq_true h3
                        have Hp1 := Lib.hid hp1
                        clear h3 h4 hp1
                        go_upto_region 30 with fail
                        generalize wc.setCell ⟨wb.heap.size, i, none⟩ (.int .i64 ((cntB (L.usedF i) k : Int) + 1)) = wz at *
                        have y0 := HP2.out.cell (i := i) hlti
                        unfold intsV at y0
                        rw [UF_at] at y0
                        have g0 := HP2.out.frozen i
                        have hP3 := (HP2.out.set i (.int .i64 ((cntB (L.parF i) k : Int) + 1))).congr (f' := intsV (UF L.parF L.M i (k + 1))) (fun j _ => by
                          unfold intsV; rw [UF_hit Hp1.out]; split <;> rfl)
                        have hU3 := HU2.out.setOther ⟨w8.heap.size, i, none⟩ (.int .i64 ((cntB (L.parF i) k : Int) + 1)) Hne.out
                        have hb3 := Hb2.out.setCell (p := ⟨w8.heap.size, i, none⟩) Hge.out (.int .i64 ((cntB (L.parF i) k : Int) + 1))
                        have Hn := Lib.hid (And.intro hU3 (And.intro hP3 hb3))
                        clear hP3 hU3 hb3 x0 f0
                        go_wp2_with fail
                        go_roundw
                        case rel => exact ⟨k + 1, by omega, by go_num, by rw [Hc1.out]; go_num, Hn.out.1, Hn.out.2.1, Hn.out.2.2⟩
                        case measure => simp [intOf]; omega
                      · have e3 : (role == 3) = false := by rw [beq_eq_false_iff_ne]; exact h3
                        have hp1 : L.parF i k = false := by rw [Hp0.out]; exact decide_eq_false h3
                        have Hn := Lib.hid (HP2.out.congr (f' := intsV (UF L.parF L.M i (k + 1))) (fun j _ => by unfold intsV; rw [UF_miss hp1]))
                        clear h3 h4 hp1
                        go_wp2_with fail
                        go_roundw
                        case rel => exact ⟨k + 1, by omega, by go_num, by rw [Hc1.out]; go_num, HU2.out, Hn.out, Hb2.out⟩
                        case measure => simp [intOf]; omega
              · have hkk : k = (L.M i).toNat := by omega
                have Hkk := Lib.hid hkk; clear hkk
                go_wp2_with fail
                go_roundw
                case rel =>
                  refine ⟨i + 1, by omega, by go_num, ?_, ?_, ?_, ?_, Hbk.out⟩
                  · rw [Hnext.out, ← Hkk.out]; push_cast; rfl
                  · have := Hcb.out; have := Hnext.out; omega
                  · exact HUk.out.congr (fun j _ => by unfold intsV; rw [Hkk.out, UF_done])
                  · exact HPk.out.congr (fun j _ => by unfold intsV; rw [Hkk.out, UF_done])
                case measure => simp [intOf]; omega
          · obtain rfl : i = L.n := by omega
            have htot : 0 < L.regn → sumN L.used L.n = N := fun hpos => by
              have hK := Hrp.out.1 hpos
              have hb : L.bnd r = L.regs := by
                have := MetS.done HR.out
                rwa [← Hrr.out, Int.toNat_natCast] at this
              rw [covers_total HR.out hK, HMet.out.len, hb]
            have Htot := Lib.hid htot; clear htot
            generalize hT : sumN L.used L.n = T at *
            clear hT
            have HLi := Lib.hid (HLr.out.all Hbi.out)
            clear Hbi
            go_upto_region 31 with fail
            go_cut [143] from 136 to 143 (fun s143 wx => s143 = .bool false ∧ wx = wr)
            case first =>
              by_cases hpos : 0 < L.regn
              · have e0 : ((T : Int) != N) = false := by rw [bne_eq_false_iff_eq, Htot.out hpos]
                go_wp2_with fail
                go_meet
                case rel => exact ⟨rfl, rfl⟩
              · go_wp2_with fail
                go_meet
                case rel => exact ⟨rfl, rfl⟩
            case rest =>
              obtain ⟨rfl, hwc⟩ := hcut
              rw [hwc]
              clear hwc c0 c1 c2
              generalize wr = wq at *
              go_wp2_with fail
              go_loopw [17] (fun t W' => ∃ j : Nat, (1 ≤ j ∧ j ≤ L.n) ∧ t = .int .i64 j ∧ Below wq.heap.size wq W') (fun t _ => L.n - (intOf t).toNat)
              case atStart => exact ⟨1, by omega, rfl, Below.refl _ _⟩
              case round =>
                obtain ⟨j, hj, rfl, hbj⟩ := hrel
                have HLj := Lib.hid (HLi.out.all hbj)
                have HUj := Lib.hid (HU.out.all hbj)
                have HPj := Lib.hid (HP.out.all hbj)
                have Hbj := Lib.hid hbj; clear hbj
                by_cases hltj : j < L.n
                · obtain ⟨c0, c1, c2⟩ := HLj.out.cells
                  go_upto_region 36 with fail
                  go_cut [18] from 148 to 194 (fun s18 wx => s18 = .bool (decide (L.K = 3 ∨ L.K = 5)) ∧ wx = wr)
                  case first =>
                    by_cases h3 : L.K = 3
                    · have b3 : (L.K == 3) = true := by rw [beq_iff_eq]; exact h3
                      have hv := Lib.hid (show decide (L.K = 3 ∨ L.K = 5) = true from decide_eq_true (.inl h3))
                      clear h3
                      go_wp2_with fail
                      go_meet
                      case rel => exact ⟨by rw [hv.out], rfl⟩
                    · have b3 : (L.K == 3) = false := by rw [beq_eq_false_iff_ne]; exact h3
                      by_cases h5 : L.K = 5
                      · have b5 : (L.K == 5) = true := by rw [beq_iff_eq]; exact h5
                        have hv := Lib.hid (show decide (L.K = 3 ∨ L.K = 5) = true from decide_eq_true (.inr h5))
                        clear h3 h5
                        go_wp2_with fail
                        go_meet
                        case rel => exact ⟨by rw [hv.out], rfl⟩
                      · have b5 : (L.K == 5) = false := by rw [beq_eq_false_iff_ne]; exact h5
                        have hv := Lib.hid (show decide (L.K = 3 ∨ L.K = 5) = false from decide_eq_false (by omega))
                        clear h3 h5
                        go_wp2_with fail
                        go_meet
                        case rel => exact ⟨by rw [hv.out], rfl⟩
                  case rest =>
                    obtain ⟨rfl, hwc⟩ := hcut
                    rw [hwc]
                    clear hwc
                    by_cases hev : L.K = 3 ∨ L.K = 5
                    · rw [decide_eq_true hev]
                      have hce := covers_even HR.out hev hltj
                      have hx1 := HUj.out.cell (i := j) hltj
                      have hx2 := HUj.out.cell (i := 0) (by omega)
                      have hy1 := HPj.out.cell (i := j) hltj
                      have hy2 := HPj.out.cell (i := 0) (by omega)
                      have hM0 := HR.out.mem 0 (by omega)
                      have hMj := HR.out.mem j hltj
                      have hp1 := cntB_le (L.parF j) (L.M j).toNat
                      have hp2 := cntB_le (L.parF 0) (L.M 0).toNat
                      unfold intsV UF at hx1 hx2 hy1 hy2
                      rw [if_pos hltj] at hx1 hy1
                      rw [if_pos (by omega)] at hx2 hy2
                      have e1 : ((cntB (L.usedF j) (L.M j).toNat : Int) != cntB (L.usedF 0) (L.M 0).toNat) = false := by
                        rw [bne_eq_false_iff_eq]; exact congrArg Nat.cast hce.1
                      have e2 : ¬ L.C < (cntB (L.parF j) (L.M j).toNat : Int) - cntB (L.parF 0) (L.M 0).toNat := by have := hce.2.1; unfold Lay.pars at this; omega
                      have e3 : ¬ L.C < (cntB (L.parF 0) (L.M 0).toNat : Int) - cntB (L.parF j) (L.M j).toNat := by have := hce.2.2; unfold Lay.pars at this; omega
                      clear hce hev
                      generalize cntB (L.usedF j) (L.M j).toNat = ua at *
                      generalize cntB (L.usedF 0) (L.M 0).toNat = ub at *
                      generalize cntB (L.parF j) (L.M j).toNat = pa at *
                      generalize cntB (L.parF 0) (L.M 0).toNat = pb at *
                      go_upto_region 37 with fail
                      go_quiet (fail)
                      go_wp2_with fail
                      go_roundw
                      case rel => exact ⟨j + 1, by omega, by go_num, Hbj.out.trans (below_drewN _ _ _)⟩
                      case measure => simp [intOf]; omega
                    · rw [decide_eq_false hev]
                      clear hev
                      go_upto_region 37 with fail
                      go_quiet (fail)
                      go_wp2_with fail
                      go_roundw
                      case rel => exact ⟨j + 1, by omega, by go_num, Hbj.out.trans (below_drewN _ _ _)⟩
                      case measure => simp [intOf]; omega
                · go_wp2_with fail
                  refine (sanity_any _).mono ?_
                  rintro e wz ⟨rfl, hbz⟩
                  go_wp2
                  go_ret
                  exact ⟨rfl, (HLj.out.all hbz).bel⟩

end Go.Proofs.Ytlbohmfhdchabaa
