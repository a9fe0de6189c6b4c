/- Span: the law SpanBack. -/
import Derived.Test.YtlbohmfhdchabaaSpnLE
import Derived.Test.YtlbohmfhdchabaaSpnLF
namespace Go.Proofs.Ytlbohmfhdchabaa
open Go.RowKit

theorem Lay.Right.size_pos {L : Lay} (h : L.Right) : 1 ≤ L.size := by
  have hk := h.kind
  have hn := h.nle
  have hm := h.mle
  have hkl := h.kle
  have hs := (sumI_bound L.M 1 4096 L.n (fun i hi => h.mem i hi)).1
  unfold Lay.size
  by_cases h1 : L.K = 1
  · rw [if_pos h1]; omega
  by_cases h2 : L.K = 2
  · rw [if_neg h1, if_pos h2]; omega
  by_cases h3 : L.K = 3
  · rw [if_neg h1, if_neg h2, if_pos h3]
    have hw := h.whole (.inl h3)
    have := Int.mul_le_mul (show (1 : Int) ≤ L.n by omega) (show (1 : Int) ≤ L.k by omega) (by omega) (by omega)
    omega
  by_cases h4 : L.K = 4
  · rw [if_neg h1, if_neg h2, if_neg h3, if_pos h4]; omega
  · rw [if_neg h1, if_neg h2, if_neg h3, if_neg h4]
    have h5 : L.K = 5 := by omega
    have hw := h.whole (.inr h5)
    have hn3 : (3 : Int) ≤ L.n := by have := h.num.1; unfold Lay.lo at this; rw [h5] at this; exact this
    have := Int.mul_le_mul (show (1 : Int) ≤ (L.n : Int) - 1 by omega) (show (1 : Int) ≤ L.k by omega) (by omega) (by omega)
    omega

theorem Size_ok (L : Lay) (sl : Value) (w : World) (hs : IArg w sl L.n L.M) (hR : L.Right) :
    Calls Try.prog 15 #[layV L sl] w fun e w' => e = .returned (.tuple #[.int .i64 L.size, .int .i64 0]) ∧ Below w.heap.size w w' :=
  (Size_any L sl w hs).mono fun e w' h => by
    obtain ⟨(⟨-, rfl⟩ | ⟨hx, -⟩), hb⟩ := h
    · exact ⟨rfl, hb⟩
    · exact absurd hR hx

theorem hasSp_true {n : Nat} {f : Nat → Int × Int} {s : Int × Int} (h : ∃ i, i < n ∧ f i = s) : hasSp n f s = true := by
  obtain ⟨i, hi, rfl⟩ := h
  exact anyB_true.2 ⟨i, hi, by simp⟩

set_option maxRecDepth 8000 in
set_option maxHeartbeats 16000000 in
theorem SpanBack_any (L : Lay) (sl : Value) (w : World) (hs : IArg w sl L.n L.M) : Calls Try.prog 4 #[layV L sl] w (TrueR w) := by
  obtain ⟨hW, hr, hB⟩ := lay_setup hs
  obtain ⟨c0, c1, c2⟩ := row3_cells hr
  obtain ⟨a, cap, rfl⟩ := hs.slice
  have HW := Lib.hid hW; clear hW hs
  unfold layV
  go_enter Try.func4, Try.ntmps4
  go_wp2_with fail
  generalize w.alloc (.cells #[.int .i64 L.K, .slice a L.n cap, .int .i64 L.C] 24) = W at *
  refine (few_any L _ W HW.out).mono ?_
  rintro e w1 ⟨(⟨hF, rfl⟩ | ⟨hnF, rfl⟩), hb⟩
  rotate_left 1
  · clear hnF
    go_wp2_with fail
    refine (sanity_any _).mono ?_
    rintro e w2 ⟨rfl, hb2⟩
    go_wp2
    go_ret
    exact ⟨rfl, hB.trans ((hb.trans (hb2.mono hb.size)).mono hB.size)⟩
  have HF := Lib.hid hF; clear hF
  have hr1 := hr.all hb
  have HW1 := Lib.hid (HW.out.all hb)
  have hB1 := hB.trans (hb.mono hB.size)
  obtain ⟨d0, d1, d2⟩ := row3_cells hr1
  clear c0 c1 c2 hr hb hB HW
  go_wp2_with fail
  refine (Check_any L _ w1 HW1.out).mono ?_
  rintro e w2 ⟨(⟨hR, rfl⟩ | ⟨hnR, rfl⟩), hb⟩
  rotate_left 1
  · clear hnR
    go_wp2_with fail
    refine (sanity_any _).mono ?_
    rintro e w3 ⟨rfl, hb3⟩
    go_wp2
    go_ret
    exact ⟨rfl, hB1.trans ((hb.trans (hb3.mono hb.size)).mono hB1.size)⟩
  have HR := Lib.hid hR; clear hR
  have hr2 := hr1.all hb
  have HW2 := Lib.hid (HW1.out.all hb)
  have hB2 := hB1.trans (hb.mono hB1.size)
  obtain ⟨c0, c1, c2⟩ := row3_cells hr2
  clear d0 d1 d2 hr1 hb hB1 HW1
  have hn := HR.out.nle
  have hsp := HR.out.size_pos
  have hsz := HR.out.sizes
  go_wp2_with fail
  refine (Size_ok L _ w2 HW2.out HR.out).mono ?_
  rintro e w5 ⟨rfl, hb5⟩
  have hr5 := hr2.all hb5
  have HW5 := Lib.hid (HW2.out.all hb5)
  have hB5 := hB2.trans (hb5.mono hB2.size)
  obtain ⟨k0, k1, k2⟩ := row3_cells hr5
  clear hb5 hr2 hB2 HW2 c0 c1 c2
  generalize hsize : L.size = S at *
  have Hsize := Lib.hid hsize; clear hsize
  go_wp2_with fail
  clear k0 k1 k2
  go_loopw [5] (fun t W => ∃ k : Nat, (k : Int) ≤ S ∧ t = .int .i64 k ∧ Below w5.heap.size w5 W) (fun t _ => (S - intOf t).toNat)
  case atStart => exact ⟨0, by omega, rfl, Below.refl _ _⟩
  case round =>
    obtain ⟨k, hk, rfl, hbl⟩ := hrel
    have hrk := hr5.all hbl
    obtain ⟨z0, z1, z2⟩ := row3_cells hrk
    have HWk := Lib.hid (HW5.out.all hbl)
    have Hbl := Lib.hid hbl; clear hbl
    by_cases hlt : (k : Int) < S
    · have hpk : 0 ≤ (k : Int) ∧ (k : Int) < L.size := ⟨by omega, by rw [Hsize.out]; exact hlt⟩
      have Hpk := Lib.hid hpk; clear hpk
      go_wp2_with fail
      refine (Place_ok L _ k wr HWk.out HR.out Hpk.out).mono ?_
      rintro e wp ⟨v, rfl, hS, hbp⟩
      have hnum := Lay.num_pos HR.out
      obtain ⟨gv, cv, rfl, -, hrv, -, -⟩ := hS.row hnum
      have HC := Lib.hid hrv.reads; clear hrv hS
      have hrp := hrk.all hbp
      have HWp := Lib.hid (HWk.out.all hbp)
      have Hbp := Lib.hid (Hbl.out.trans (hbp.mono Hbl.out.size))
      clear z0 z1 z2 hrk HWk Hbl hbp
      have hback := fun i (hi : i < L.num') => back HR.out Hpk.out hi
      have Hback := Lib.hid hback; clear hback
      have hnum6 : L.num' ≤ 6 := by
        unfold Lay.num'
        repeat' split
        all_goals omega
      generalize hN : L.num' = N at *
      have HN := Lib.hid hN; clear hN
      have hN0 : ¬ N = 0 := by omega
      go_wp2_with fail
      go_loopw [8] (fun t W => ∃ i : Nat, i ≤ N ∧ t = .int .i64 i ∧ Below wp.heap.size wp W) (fun t _ => N - (intOf t).toNat)
      case atStart => exact ⟨0, by omega, rfl, Below.refl _ _⟩
      case round =>
        obtain ⟨i, hi, rfl, hbi⟩ := hrel
        by_cases hlti : i < N
        · have hri := hrp.all hbi
          have HWi := Lib.hid (HWp.out.all hbi)
          have HCi := Lib.hid (HC.out.all hbi)
          have Hbi := Lib.hid hbi; clear hbi
          have hbk := Hback.out i hlti
          have Bhas := Lib.hid hbk.has
          have b1 := hbk.role
          have b2 := hbk.first
          have b3 := hbk.own
          have b4 := hbk.par
          clear hbk
          generalize hu : L.at k i = u at *
          have Hu := Lib.hid hu; clear hu
          generalize hrole : (L.page u).2 = role at *
          generalize hpg : (L.page u).1 = pg at *
          have Hrole := Lib.hid hrole; clear hrole
          have Hpg := Lib.hid hpg; clear hpg
          have hcase : (i = 0 ∧ role = 1 ∧ pg = k) ∨ (i ≠ 0 ∧ role = 3 ∧ pg ≤ k) ∨ (i ≠ 0 ∧ role ≠ 1 ∧ role ≠ 3 ∧ role ≠ 4 ∧ pg = k) := by
            by_cases hi0 : i = 0
            · have hr1 := b2.1 hi0
              exact .inl ⟨hi0, hr1, b3 (by omega)⟩
            · have hr1 : role ≠ 1 := fun h => hi0 (b2.2 h)
              by_cases hr3 : role = 3
              · exact .inr (.inl ⟨hi0, hr3, b4 hr3⟩)
              · exact .inr (.inr ⟨hi0, hr1, hr3, b1, b3 hr3⟩)
          clear b1 b2 b3 b4
          have Hcase := Lib.hid hcase; clear hcase
          go_upto_region 15 with fail
          have hd : Below wr.heap.size wr wr.drew := (Below.refl _ wr).drew
          have hkp := fun w' (hq : Below wr.heap.size wr w') => keep_peer hri HCi.out hlti hq
          rw [Hu.out] at hkp
          have Hkp := Lib.hid hkp; clear hkp
          go_region_held (fun w' => w'.cell? ⟨w.heap.size, 0, none⟩ = some (.int .i64 L.K) ∧ w'.cell? ⟨w.heap.size, 1, none⟩ = some (.slice a L.n cap) ∧ w'.cell? ⟨w.heap.size, 2, none⟩ = some (.int .i64 L.C) ∧ w'.cell? ⟨gv, i * 2, none⟩ = some (.int .i64 u.1) ∧ w'.cell? ⟨gv, i * 2 + 1, none⟩ = some (.int .i64 u.2) ∧ Below wr.heap.size wr w') (exact Hkp.out _ (by assumption))
            (first | (go_at_call 24; refine (Page_ok L _ u _ (HWi.out.all hd) HR.out Bhas.out).mono ?_; rintro e wt ⟨rfl, hbz⟩; rw [Hrole.out, Hpg.out]; replace hd := hd.trans (hbz.mono hd.size)))
          have Hbt := Lib.hid (Hbi.out.trans (hd.mono Hbi.out.size))
          clear hd
          rcases Hcase.out with ⟨h1, h2, h3⟩ | ⟨h1, h2, h3⟩ | ⟨h1, h2, h3, h4, h5⟩
          · subst h1 h2 h3
            go_wp2_with fail
            go_roundw
            case rel => exact ⟨1, by omega, by go_num, Hbt.out⟩
            case measure => simp [intOf]; omega
          · subst h2
            have e0 : ((i : Int) == 0) = false := by rw [beq_eq_false_iff_ne]; omega
            have e1 : ¬ (k : Int) < pg := by omega
            clear h1
            go_wp2_with fail
            go_roundw
            case rel => exact ⟨i + 1, by omega, by go_num, Hbt.out⟩
            case measure => simp [intOf]; omega
          · subst h5
            have e0 : ((i : Int) == 0) = false := by rw [beq_eq_false_iff_ne]; omega
            have e1 : (role == 1) = false := by rw [beq_eq_false_iff_ne]; exact h2
            have e3 : (role == 3) = false := by rw [beq_eq_false_iff_ne]; exact h3
            have e4 : (role == 4) = false := by rw [beq_eq_false_iff_ne]; exact h4
            have e5 : (role != 3) = true := by rw [bne_iff_ne]; exact h3
            clear h1 h2 h3 h4
            go_wp2_with fail
            go_roundw
            case rel => exact ⟨i + 1, by omega, by go_num, Hbt.out⟩
            case measure => simp [intOf]; omega
        · obtain rfl : i = N := by omega
          have Hbi := Lib.hid (Hbp.out.trans (hbi.mono Hbp.out.size)); clear hbi
          go_wp2_with fail
          go_roundw
          case rel => exact ⟨k + 1, by omega, by go_num, Hbi.out⟩
          case measure => simp [intOf]; omega
    · have hlt' : ¬ (k : Int) < S := hlt
      clear hlt
      go_wp2_with fail
      obtain ⟨v5, off5, cap5, hsl, hcel5⟩ : ∃ b off cap1, Value.slice a L.n cap = .slice (some ⟨b, off, none⟩) L.n cap1 ∧ Cells w5 b off L.n (intsV L.M) := by
        rcases HW5.out with ⟨h0, _⟩ | ⟨b, off, cap1, heq, h0, hcap, hmax, hcells, hrange⟩
        · omega
        · exact ⟨b, off, cap1, heq, hcells⟩
      simp only [Value.slice.injEq, true_and] at hsl
      obtain ⟨rfl, rfl⟩ := hsl
      have Hcel5 := Lib.hid hcel5; clear hcel5
      go_loopw [12] (fun t W => ∃ i : Nat, i ≤ L.n ∧ t = .int .i64 i ∧ Below w5.heap.size w5 W) (fun t _ => L.n - (intOf t).toNat)
      case atStart => exact ⟨0, by omega, rfl, Hbl.out⟩
      case round =>
        obtain ⟨i, hi, rfl, hbi⟩ := hrel
        obtain ⟨z0, z1, z2⟩ := row3_cells (hr5.all hbi)
        have Hbi := Lib.hid hbi; clear hbi
        by_cases hlti : i < L.n
        · have hMi := HR.out.mem i hlti
          have hcell := (Hcel5.out.all Hbi.out) i hlti
          unfold intsV at hcell
          go_wp2_with fail
          clear z0 z1 z2 hcell
          go_loopw [13] (fun t W => ∃ q : Nat, (q : Int) ≤ L.M i ∧ t = .int .i64 q ∧ Below w5.heap.size w5 W) (fun t _ => (L.M i - intOf t).toNat)
          case atStart => exact ⟨0, by omega, rfl, Hbi.out⟩
          case round =>
            obtain ⟨q, hq, rfl, hbq⟩ := hrel
            have hrq := hr5.all hbq
            obtain ⟨z0, z1, z2⟩ := row3_cells hrq
            have HWq := Lib.hid (HW5.out.all hbq)
            have hcell := (Hcel5.out.all hbq) i hlti
            unfold intsV at hcell
            have Hbq := Lib.hid hbq; clear hbq
            by_cases hltq : (q : Int) < L.M i
            · have hhas : L.has ((i : Int), (q : Int)) = true := has_iff.2 ⟨by simp, by simp; omega, by simp, by simpa using hltq⟩
              have Hhas := Lib.hid hhas; clear hhas
              have hforth := forth HR.out Hhas.out
              have Hforth := Lib.hid hforth; clear hforth
              go_upto_region 24 with fail
              have hd : Below wr.heap.size wr wr.drew := (Below.refl _ wr).drew
              go_region_held (fun w' => w'.cell? ⟨w.heap.size, 0, none⟩ = some (.int .i64 L.K) ∧ w'.cell? ⟨w.heap.size, 1, none⟩ = some (.slice (some ⟨v5, off5, none⟩) L.n cap) ∧ w'.cell? ⟨w.heap.size, 2, none⟩ = some (.int .i64 L.C) ∧ Below wr.heap.size wr w') (exact keep3 hrq (by assumption))
                (first | (go_at_call 25; refine (spot_any i q _).mono ?_; rintro e wa ⟨rfl, hbz⟩; replace hd := hd.trans (hbz.mono hd.size)) | (go_at_call 24; refine (Page_ok L _ ((i : Int), (q : Int)) _ (HWq.out.all hd) HR.out Hhas.out).mono ?_; rintro e wp ⟨rfl, hbz⟩; replace hd := hd.trans (hbz.mono hd.size)))
              have hrp := hrq.all hd
              have HWp := Lib.hid (HWq.out.all hd)
              have Hbp := Lib.hid (Hbq.out.trans (hd.mono Hbq.out.size))
              clear z0 z1 z2 hrq HWq Hbq hd hcell
              generalize hrole : (L.page ((i : Int), (q : Int))).2 = role at *
              generalize hpg : (L.page ((i : Int), (q : Int))).1 = pg at *
              clear hrole hpg
              by_cases hr4 : role = 4
              · subst hr4
                clear Hforth
                go_wp2_with fail
                go_roundw
                case rel => exact ⟨q + 1, by omega, by go_num, Hbp.out⟩
                case measure => simp [intOf]; omega
              · have e4 : (role == 4) = false := by rw [beq_eq_false_iff_ne]; exact hr4
                obtain ⟨hpin, hex⟩ := Hforth.out hr4
                have Hpin := Lib.hid hpin; clear hpin
                have Hex := Lib.hid hex; clear hex Hforth hr4
                obtain ⟨z0, z1, z2⟩ := row3_cells hrp
                go_wp2_with fail
                refine (Place_ok L _ pg wp HWp.out HR.out Hpin.out).mono ?_
                rintro e ws ⟨v, rfl, hS, hbs⟩
                obtain ⟨av, cv, rfl⟩ := hS.slice
                have HS := Lib.hid hS.at; clear hS
                have Hbs := Lib.hid (Hbp.out.trans (hbs.mono Hbp.out.size)); clear hbs z0 z1 z2
                have hnum6 : L.num' ≤ 6 := by
                  unfold Lay.num'
                  repeat' split
                  all_goals omega
                go_wp2_with fail
                refine (spot_any i q ws).mono ?_
                rintro e wt ⟨rfl, hbt⟩
                have HSt := Lib.hid (HS.out.all hbt)
                have Hbt := Lib.hid (Hbs.out.trans (hbt.mono Hbs.out.size)); clear hbt
                go_wp2_with fail
                refine (hasSp_any _ L.num' (L.at pg) ((i : Int), (q : Int)) wt HSt.out (by omega)).mono ?_
                rintro e wu ⟨rfl, hbu⟩
                rw [hasSp_true Hex.out]
                have Hbu := Lib.hid (Hbt.out.trans (hbu.mono Hbt.out.size)); clear hbu
                go_wp2_with fail
                go_roundw
                case rel => exact ⟨q + 1, by omega, by go_num, Hbu.out⟩
                case measure => simp [intOf]; omega
            · have hlt' : ¬ (q : Int) < L.M i := hltq
              clear hltq
              go_wp2_with fail
              go_roundw
              case rel => exact ⟨i + 1, by omega, by go_num, Hbq.out⟩
              case measure => simp [intOf]; omega
        · obtain rfl : i = L.n := by omega
          go_wp2_with fail
          refine (sanity_any _).mono ?_
          rintro e w6 ⟨rfl, hb6⟩
          go_wp2
          go_ret
          exact ⟨rfl, hB5.trans ((Hbi.out.trans (hb6.mono Hbi.out.size)).mono hB5.size)⟩

end Go.Proofs.Ytlbohmfhdchabaa
