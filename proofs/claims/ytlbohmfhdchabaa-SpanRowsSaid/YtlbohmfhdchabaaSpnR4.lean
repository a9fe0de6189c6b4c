/- Span: the reference's Row. -/
import Derived.Test.YtlbohmfhdchabaaSpnR2
import Derived.Test.YtlbohmfhdchabaaSpnR3
import Derived.Test.YtlbohmfhdchabaaSpnLB
import Derived.Deep.DrawnRows
namespace Go.Proofs.Ytlbohmfhdchabaa
open Go.RowKit

attribute [local go_sem ↓] Go.wp_at_zero Go.wp_at_succ

def RRowR (L : Lay) (p : Int) (w : World) (e : Ending) (w' : World) : Prop := ∃ v, e = .returned v ∧ Own w' w.heap.size 3 v L.rowN (intsV (L.rowF p)) ∧ Below w.heap.size w w'

set_option maxRecDepth 8000 in
set_option maxHeartbeats 4000000 in
theorem rRow_any (L : Lay) (sl : Value) (p : Int) (w : World) (hs : IArg w sl L.n L.M) (hR : L.Right) (hp : 0 ≤ p ∧ p < L.size) :
    Calls Try.prog 23 #[layV L sl, .int .i64 p] w (RRowR L p w) := by
  obtain ⟨hW, hr, hB⟩ := lay_setup hs
  obtain ⟨a, cap, rfl⟩ := hs.slice
  have HW := Lib.hid hW; clear hW hs
  have HR := Lib.hid hR; clear hR
  have Hp := Lib.hid hp; clear hp
  obtain ⟨c0, c1, c2⟩ := row3_cells hr
  have hge := hB.size
  unfold layV
  go_enter Try.func23, Try.ntmps23
  by_cases hK : L.K = 5
  · have b5 : (L.K != 5) = false := by rw [bne_eq_false_iff_eq]; exact hK
    have hn2 : L.num' = 2 := by unfold Lay.num'; rw [hK]; rfl
    have Hn2 := Lib.hid hn2; clear hn2
    have HK := Lib.hid hK; clear hK
    go_wp2_with fail
    generalize w.alloc (.cells #[.int .i64 L.K, .slice a L.n cap, .int .i64 L.C] 24) = W at *
    refine (rPlace_any L _ p W HW.out HR.out Hp.out).mono ?_
    rintro e w1 ⟨v, rfl, hS, hb⟩
    rw [Hn2.out] at hS
    obtain ⟨gv, cv, rfl, -, hrv, -, -⟩ := hS.row (by omega)
    obtain ⟨s0, s1⟩ := cells_spot hrv.reads (i := 1) (by omega)
    have hr1 := hr.all hb
    have HW1 := Lib.hid (HW.out.all hb)
    have hB1 := hB.trans (hb.mono hge)
    obtain ⟨k0, k1, k2⟩ := row3_cells hr1
    clear c0 c1 c2 hr HW hb hS hrv
    go_wp2_with fail
    have hq0 := row2 w1 (.int .i64 (L.at p 1).1) (.int .i64 (L.at p 1).2) 45
    have hb2 : Below w1.heap.size w1 (w1.alloc (.cells #[.int .i64 (L.at p 1).1, .int .i64 (L.at p 1).2] 45)) := (Below.refl _ w1).alloc (Nat.le_refl _) _
    have hr2 := hr1.all hb2
    have HW2 := Lib.hid (HW1.out.all hb2)
    have hB2 := hB1.trans (hb2.mono hB1.size)
    clear hr1 HW1 hb2 k0 k1 k2 s0 s1
    generalize w1.alloc (.cells #[.int .i64 (L.at p 1).1, .int .i64 (L.at p 1).2] 45) = w2 at *
    have HQ := Lib.hid hq0; clear hq0
    have hsz := HR.out.sizes
    have hs0 : 0 ≤ L.size := by have := Hp.out; omega
    go_loopw [7, 5] (fun t u W => ∃ k c : Nat, (k : Int) ≤ L.size ∧ t = .int .i64 k ∧ c ≤ L.rowN ∧ (∀ d, d < L.rowN → (L.rowF p d < k ↔ d < c)) ∧ Own W w2.heap.size 3 u c (intsV (L.rowF p)) ∧ Below w2.heap.size w2 W) (fun t _ _ => (L.size - intOf t).toNat)
    case atStart => exact ⟨0, 0, by omega, rfl, by omega, fun d hd => ⟨fun h => by have := (row_in HR.out HK.out Hp.out hd).1; omega, fun h => by omega⟩, Own.nil _ _ _ _, Below.refl _ _⟩
    case round =>
      obtain ⟨k, c, hk, rfl, hc, hrel, hO, hbl⟩ := hrel
      obtain ⟨av, cv2, rfl⟩ := hO.slice
      have hrk := hr2.all hbl
      obtain ⟨k0, k1, k2⟩ := row3_cells hrk
      have HWk := Lib.hid (HW2.out.all hbl)
      have HO := Lib.hid hO; clear hO
      have Hrel := Lib.hid hrel; clear hrel
      go_wp2_with fail
      refine (rSize_any L _ wr HWk.out HR.out).mono ?_
      rintro e w3 ⟨rfl, hb3⟩
      have hr3 := hrk.all hb3
      have HW3 := Lib.hid (HWk.out.all hb3)
      have HO3 := Lib.hid (HO.out.all hb3)
      have Hb3 := Lib.hid (hbl.trans (hb3.mono hbl.size))
      have hq3 := (HQ.out.all hbl).all hb3
      obtain ⟨z0, z1⟩ := row2_cells hq3
      obtain ⟨k3, k4, k5⟩ := row3_cells hr3
      clear k0 k1 k2 hrk HWk HO hb3 hbl
      by_cases hlt : (k : Int) < L.size
      · have Hpk := Lib.hid (show 0 ≤ (k : Int) ∧ (k : Int) < L.size from ⟨by omega, hlt⟩)
        have hcmp := fun w => equalIn_spot (L.at k 1).1 (L.at k 1).2 (L.at p 1).1 (L.at p 1).2 w
        have hgd := guard_spot
        have Hcmp := Lib.hid hcmp; clear hcmp
        have hd : Below w3.heap.size w3 w3.drew := (Below.refl _ w3).drew
        have heq : (L.at k 1 = L.at p 1) ∨ ¬ (L.at k 1 = L.at p 1) := Classical.em _
        have hri := row_iff HR.out HK.out Hp.out Hpk.out
        have Hri := Lib.hid hri; clear hri
        have Hpl := Lib.hid (fun W (hW : IArg W (.slice a L.n cap) L.n L.M) => rPlace_any L _ (k : Int) W hW HR.out Hpk.out)
        unfold layV at Hpl
        have hrN : L.rowN ≤ 6 := by
          have hn := HR.out.nle
          unfold Lay.rowN
          split <;> omega
        rcases heq with heq | heq
        · have h1 : ((L.at k 1).1 == (L.at p 1).1) = true := by rw [heq]; simp
          have h2 : ((L.at k 1).2 == (L.at p 1).2) = true := by rw [heq]; simp
          have hc2 := Hcmp.out
          rw [h1, h2] at hc2
          obtain ⟨d, hd1, hd2⟩ := Hri.out.1 heq
          obtain ⟨hc1, hkc, hnew⟩ := row_hit HR.out HK.out hd1 hd2 hc Hrel.out
          have Hkc := Lib.hid hkc; clear hkc
          have Hnew := Lib.hid hnew; clear hnew
          clear heq h1 h2 Hcmp hd1 hd2 Hri d
          go_upto_region 8 with fail
          go_region_with (first | (go_at_call 21; ((with_reducible refine (Hpl.out _ (HW3.out.all hd)).mono ?_); rintro e w4 ⟨v, rfl, hS4, hb4⟩); rw [Hn2.out] at hS4; obtain ⟨gk, ck, rfl, -, hrk4, -, -⟩ := hS4.row (by omega); have hs4 := cells_spot hrk4.reads (i := 1) (by omega); have hz4 := row2_cells ((hq3.all hd).all hb4); have hk4 := row3_cells ((hr3.all hd).all hb4); replace hd := hd.trans (hb4.mono hd.size); clear hS4 hrk4))
          all_goals
            have HO4 := Lib.hid (HO3.out.all hd)
            have Hb4 := Lib.hid (Hb3.out.trans (hd.mono Hb3.out.size))
            clear hd hz4 hk4 hs4 hc2 hgd HW3 HO3 Hb3 hr3 hq3 hb4 z0 z1 k3 k4 k5
            go_wp2_with (with_reducible refine stopB .append ?_)
            refine Hold.go ?_
            refine wpList_append_o rfl _ _ 22 3 _ _ rfl Try.underlying22 info_int rfl w2.heap.size _ c (intsV (L.rowF p)) rfl (HO4.out.alloc _) w4.heap.size 0 1 1 (fun _ => .int .i64 k) rfl (cells1i w4 _) (fun _ _ => rfl) (by omega) (by decide) (by have := Hb4.out.size; simp; omega) ?_
            intro v' W3 hS' hgw _ _
            have hb5 := (HO4.out.alloc (.cells #[.int .i64 k] 3)).belowG (Hb4.out.alloc Hb4.out.size _) (by have := Hb4.out.size; simp; omega) hgw
            obtain ⟨a3, c3, rfl⟩ := hS'.slice
            have Hn := Lib.hid (And.intro (hS'.snoc (by show Value.int .i64 k = .int .i64 (L.rowF p c); rw [← Hkc.out])) hb5)
            clear hS' hgw hb5
            go_wp2
            go_roundw
            case rel => exact ⟨k + 1, c + 1, by omega, by go_num, hc1, Hnew.out, Hn.out⟩
            case measure => simp [intOf]; omega
        · have hc3 : ((L.at k 1).1 == (L.at p 1).1 && (L.at k 1).2 == (L.at p 1).2) = false := by
            rcases hx : ((L.at k 1).1 == (L.at p 1).1 && (L.at k 1).2 == (L.at p 1).2) with _ | _
            · rfl
            · rw [Bool.and_eq_true, beq_iff_eq, beq_iff_eq] at hx
              exact absurd (Prod.ext hx.1 hx.2) heq
          have hc2 := Hcmp.out
          rw [hc3] at hc2
          have hnew := row_miss (fun hx => heq (Hri.out.2 hx)) Hrel.out
          have Hnew := Lib.hid hnew; clear hnew
          clear heq hc3 Hcmp Hri
          go_upto_region 8 with fail
          go_region_with (first | (go_at_call 21; ((with_reducible refine (Hpl.out _ (HW3.out.all hd)).mono ?_); rintro e w4 ⟨v, rfl, hS4, hb4⟩); rw [Hn2.out] at hS4; obtain ⟨gk, ck, rfl, -, hrk4, -, -⟩ := hS4.row (by omega); have hs4 := cells_spot hrk4.reads (i := 1) (by omega); have hz4 := row2_cells ((hq3.all hd).all hb4); have hk4 := row3_cells ((hr3.all hd).all hb4); replace hd := hd.trans (hb4.mono hd.size); clear hS4 hrk4))
          all_goals
            have HO4 := Lib.hid (HO3.out.all hd)
            have Hb4 := Lib.hid (Hb3.out.trans (hd.mono Hb3.out.size))
            clear hd hz4 hk4 hs4 hc2 hgd HW3 HO3 Hb3 hr3 hq3 hb4 z0 z1 k3 k4 k5
            go_wp2
            go_roundw
            case rel => exact ⟨k + 1, c, by omega, by go_num, hc, Hnew.out, HO4.out, Hb4.out⟩
            case measure => simp [intOf]; omega
      · have hlt' : ¬ (k : Int) < L.size := hlt
        clear hlt
        have hcN : c = L.rowN := by
          refine Classical.byContradiction fun h => ?_
          have h1 := (row_in HR.out HK.out Hp.out (d := c) (by omega)).2
          have h2 := (Hrel.out c (by omega)).1 (by omega)
          omega
        subst hcN
        have Hfin := Lib.hid (And.intro (HO3.out.mono hB2.size) (hB2.trans (Hb3.out.mono hB2.size)))
        go_wp2
        go_ret
        exact ⟨_, rfl, Hfin.out⟩
  · have b5 : (L.K != 5) = true := by rw [bne_iff_ne]; exact hK
    have hv : L.rowN = 1 ∧ L.rowF p = fun _ : Nat => p := by
      constructor
      · unfold Lay.rowN; rw [if_neg hK]
      · funext d; unfold Lay.rowF; rw [if_neg hK]
    have Hv := Lib.hid hv; clear hv hK
    have hWs : (w.alloc (.cells #[.int .i64 L.K, .slice a L.n cap, .int .i64 L.C] 24)).heap.size = w.heap.size + 1 := by simp
    have h1 := own1 (w.alloc (.cells #[.int .i64 L.K, .slice a L.n cap, .int .i64 L.C] 24)) p
    rw [hWs] at h1
    have H1 := Lib.hid h1; clear h1 hWs
    go_wp2
    go_ret
    refine ⟨_, rfl, ?_, hB.alloc hge _⟩
    rw [Hv.out.1, Hv.out.2]
    exact H1.out.mono (Nat.le_add_right _ 1)

end Go.Proofs.Ytlbohmfhdchabaa
