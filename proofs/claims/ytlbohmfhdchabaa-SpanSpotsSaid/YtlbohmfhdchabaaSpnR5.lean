/- Span: the reference's Has, Page, Peers. -/
import Derived.Test.YtlbohmfhdchabaaSpnBox
import Derived.Test.YtlbohmfhdchabaaSpnLN
import Derived.Test.YtlbohmfhdchabaaSpnR2
import Derived.Test.YtlbohmfhdchabaaSpnLB
import Derived.Test.YtlbohmfhdchabaaSpanO
import Derived.Deep.DrawnRows
namespace Go.Proofs.Ytlbohmfhdchabaa
open Go.RowKit
attribute [local go_sem ↓] Go.wp_at_zero Go.wp_at_succ

set_option maxHeartbeats 4000000 in
theorem rHas_any (L : Lay) (sl : Value) (s : Int × Int) (w : World) (hs : IArg w sl L.n L.M) :
    Calls Try.prog 34 #[layV L sl, spotA s] w fun e w' => e = .returned (.bool (L.has s)) ∧ Below w.heap.size w w' := by
  obtain ⟨x, y⟩ := s
  obtain ⟨hW, hr, hr2, hB⟩ := spot_setup x y hs
  obtain ⟨c0, c1, c2⟩ := row3_cells hr
  obtain ⟨b0, b1⟩ := row2_cells hr2
  have hv : L.has (x, y) = (decide (0 ≤ x) && (decide (x < L.n) && (decide (0 ≤ y) && decide (y < L.M x.toNat)))) := rfl
  rw [hv]; clear hv
  have HW := Lib.hid hW; clear hW hr hr2
  obtain ⟨a, cap, rfl⟩ := hs.slice
  clear hs
  unfold layV spotA
  go_enter Try.func34, Try.ntmps34
  rcases h1 : decide (0 ≤ x) with _ | _
  · have h1' : ¬ 0 ≤ x := of_decide_eq_false h1
    go_wp2_with fail
    go_quiet (fail)
    go_wp2
    go_ret
    exact ⟨rfl, hB.trans (below_drewN _ _ _)⟩
  have h1' : 0 ≤ x := of_decide_eq_true h1
  rcases h2 : decide (x < L.n) with _ | _
  · have h2' : ¬ x < L.n := of_decide_eq_false h2
    go_wp2_with fail
    go_quiet (fail)
    go_wp2
    go_ret
    exact ⟨rfl, hB.trans (below_drewN _ _ _)⟩
  have h2' : x < L.n := of_decide_eq_true h2
  rcases h3 : decide (0 ≤ y) with _ | _
  · have h3' : ¬ 0 ≤ y := of_decide_eq_false h3
    go_wp2_with fail
    go_quiet (fail)
    go_wp2
    go_ret
    exact ⟨rfl, hB.trans (below_drewN _ _ _)⟩
  have h3' : 0 ≤ y := of_decide_eq_true h3
  rcases HW.out with ⟨h0, _⟩ | ⟨b, off, cap1, heq, h0, hcap, hmax, hcells, hrange⟩
  · omega
  simp only [Value.slice.injEq, true_and] at heq
  obtain ⟨rfl, rfl⟩ := heq
  have hcell := hcells x.toNat (by omega)
  unfold intsV at hcell
  clear hcells hrange
  go_wp2_with fail
  go_quiet (fail)
  go_wp2
  go_ret
  exact ⟨by simp, hB.trans (below_drewN _ _ _)⟩

set_option maxRecDepth 8000 in
set_option maxHeartbeats 4000000 in
theorem rPage_any (L : Lay) (sl : Value) (s : Int × Int) (w : World) (hs : IArg w sl L.n L.M) (hR : L.Right) (hh : L.has s = true) :
    Calls Try.prog 35 #[layV L sl, spotA s] w fun e w' => e = .returned (.tuple #[.int .i64 (L.page s).1, .int .i64 (L.page s).2]) ∧ Below w.heap.size w w' := by
  obtain ⟨x, y⟩ := s
  obtain ⟨hW, hr, hr2, hB⟩ := spot_setup x y hs
  obtain ⟨c0, c1, c2⟩ := row3_cells hr
  obtain ⟨b0, b1⟩ := row2_cells hr2
  obtain ⟨a, cap, rfl⟩ := hs.slice
  have HS := Lib.hid (show SpAt w L a cap x y _ from ⟨⟨hr, hW, hB⟩, hr2⟩)
  have HR := Lib.hid hR
  have Hh := Lib.hid hh
  have hsz := hR.sizes
  have hn6 := hR.num_six
  have hn1 := Lay.num_pos hR
  clear hs hW hr hr2 hB hR hh
  unfold layV spotA
  go_enter Try.func35, Try.ntmps35
  go_wp2_with fail
  generalize (w.alloc (.cells #[.int .i64 L.K, .slice a L.n cap, .int .i64 L.C] 24)).alloc (.cells #[.int .i64 x, .int .i64 y] 45) = W at *
  clear c0 c1 c2 b0 b1
  go_loopw [6] (fun t W' => ∃ p : Nat, (p = 0 ∨ (p : Int) ≤ L.size) ∧ t = .int .i64 p ∧ (∀ q : Nat, q < p → ∀ j, j < L.num' → L.at q j ≠ (x, y)) ∧ Below W.heap.size W W') (fun t _ => (L.size - intOf t).toNat)
  case atStart => exact ⟨0, .inl rfl, rfl, fun q hq => absurd hq (by omega), Below.refl _ _⟩
  case round =>
    obtain ⟨p, hp, rfl, hno, hb⟩ := hrel
    have Hno := Lib.hid hno; clear hno
    have HSr := Lib.hid (HS.out.all hb)
    have Hb := Lib.hid hb; clear hb
    obtain ⟨c0, c1, c2, b0, b1⟩ := HSr.out.cells
    go_wp2_with fail
    refine (rSize_any L _ wr HSr.out.arg HR.out).mono ?_
    rintro e w3 ⟨rfl, hb3⟩
    have HS3 := Lib.hid (HSr.out.all hb3)
    have Hb3 := Lib.hid (Hb.out.trans (hb3.mono Hb.out.size)); clear hb3 Hb HSr
    clear c0 c1 c2 b0 b1
    obtain ⟨c0, c1, c2, b0, b1⟩ := HS3.out.cells
    by_cases hlt : (p : Int) < L.size
    · have Hpp := Lib.hid (show 0 ≤ (p : Int) ∧ (p : Int) < L.size from ⟨by omega, hlt⟩)
      go_wp2_with fail
      refine (rPlace_any L _ p w3 HS3.out.arg HR.out Hpp.out).mono ?_
      rintro e w4 ⟨v, rfl, hSp, hb4⟩
      obtain ⟨gv, cv, rfl, -, hrv, -, -⟩ := hSp.row hn1
      have HC := Lib.hid hrv.reads; clear hrv hSp
      have HS4 := Lib.hid (HS3.out.all hb4)
      have Hb4 := Lib.hid (Hb3.out.trans (hb4.mono Hb3.out.size)); clear hb4 Hb3 HS3
      clear c0 c1 c2 b0 b1
      go_wp2_with fail
      go_loopw [8] (fun t W' => ∃ i : Nat, i ≤ L.num' ∧ t = .int .i64 i ∧ (∀ j, j < i → L.at p j ≠ (x, y)) ∧ Below w4.heap.size w4 W') (fun t _ => L.num' - (intOf t).toNat)
      case atStart => exact ⟨0, by omega, rfl, fun j hj => absurd hj (by omega), Below.refl _ _⟩
      case round =>
        obtain ⟨i, hi, rfl, hnoi, hbi⟩ := hrel
        have Hnoi := Lib.hid hnoi; clear hnoi
        have HSi := Lib.hid (HS4.out.all hbi)
        have hci := HC.out.all hbi
        have Hbi := Lib.hid (Hb4.out.trans (hbi.mono Hb4.out.size))
        have Hbj := Lib.hid hbi; clear hbi
        obtain ⟨c0, c1, c2, b0, b1⟩ := HSi.out.cells
        by_cases hlti : i < L.num'
        · obtain ⟨x1, x2⟩ := cells_spot hci hlti
          rw [Nat.zero_add] at x1 x2
          clear hci
          have hcmp := equalIn_spot (L.at p i).1 (L.at p i).2 x y
          have hgd := guard_spot
          by_cases heq : L.at p i = (x, y)
          · have h1 : ((L.at p i).1 == x) = true := by rw [heq]; simp
            have h2 : ((L.at p i).2 == y) = true := by rw [heq]; simp
            rw [h1, h2] at hcmp
            have hres := ref_page HR.out hlt hlti heq Hno.out
            clear heq h1 h2
            by_cases hi0 : i = 0
            · subst hi0
              rw [if_pos rfl] at hres
              have Hres := Lib.hid hres; clear hres
              go_wp2_with fail
              go_quiet (fail)
              go_wp2
              exact bodyPost_ret (v := .tuple #[.int .i64 p, .int .i64 1]) (by simp [results, Try.results35, go_sem]) rfl ⟨by rw [Hres.out], HS.out.bel.trans ((Hbi.out.trans (below_drewN _ _ _)).mono HS.out.bel.size)⟩
            · rw [if_neg hi0] at hres
              have e0 : ((i : Int) == 0) = false := by rw [beq_eq_false_iff_ne]; omega
              clear hi0
              by_cases hK : L.K = 4
              · rw [if_pos hK] at hres
                have Hres := Lib.hid hres; clear hres
                have e4 : (L.K == 4) = true := by rw [beq_iff_eq]; exact hK
                clear hK
                go_wp2_with fail
                go_quiet (fail)
                go_wp2
                exact bodyPost_ret (v := .tuple #[.int .i64 p, .int .i64 2]) (by simp [results, Try.results35, go_sem]) rfl ⟨by rw [Hres.out], HS.out.bel.trans ((Hbi.out.trans (below_drewN _ _ _)).mono HS.out.bel.size)⟩
              · rw [if_neg hK] at hres
                have Hres := Lib.hid hres; clear hres
                have e4 : (L.K == 4) = false := by rw [beq_eq_false_iff_ne]; exact hK
                clear hK
                go_wp2_with fail
                go_quiet (fail)
                go_wp2
                exact bodyPost_ret (v := .tuple #[.int .i64 p, .int .i64 3]) (by simp [results, Try.results35, go_sem]) rfl ⟨by rw [Hres.out], HS.out.bel.trans ((Hbi.out.trans (below_drewN _ _ _)).mono HS.out.bel.size)⟩
          · have h1 : ((L.at p i).1 == x && (L.at p i).2 == y) = false := by
              rw [Bool.and_eq_false_iff, beq_eq_false_iff_ne, beq_eq_false_iff_ne]
              by_cases h : (L.at p i).1 = x
              · exact .inr fun h2 => heq (Prod.ext h h2)
              · exact .inl h
            rw [h1] at hcmp
            have Heq := Lib.hid heq; clear heq h1
            go_wp2_with fail
            go_quiet (fail)
            go_wp2
            go_roundw
            case rel => exact ⟨i + 1, by omega, by go_num, fun j hj => if h : j = i then by rw [h]; exact Heq.out else Hnoi.out j (by omega), Hbj.out.trans (below_drewN _ _ _)⟩
            case measure => simp [intOf]; omega
        · obtain rfl : i = L.num' := by omega
          clear hci
          go_wp2_with fail
          go_roundw
          case rel =>
            refine ⟨p + 1, .inr (by omega), by go_num, fun q hq => ?_, Hbi.out⟩
            by_cases hqp : q = p
            · rw [hqp]; exact Hnoi.out
            · exact Hno.out q (by omega)
          case measure => simp [intOf]; omega
    · have hlt' : ¬ (p : Int) < L.size := hlt
      clear hlt
      have hres : L.page (x, y) = (0, 4) := ref_none HR.out Hh.out (fun q hq => Hno.out q (by omega))
      have Hres := Lib.hid hres; clear hres
      go_wp2
      exact bodyPost_ret (v := .tuple #[.int .i64 0, .int .i64 4]) (by simp [results, Try.results35, go_sem]) rfl ⟨by rw [Hres.out], HS.out.bel.trans (Hb3.out.mono HS.out.bel.size)⟩

end Go.Proofs.Ytlbohmfhdchabaa
