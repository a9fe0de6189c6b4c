/- Span: the reference's State, Extends. -/
import Derived.Test.YtlbohmfhdchabaaSpnR2
import Derived.Test.YtlbohmfhdchabaaSpnLH
import Derived.Test.YtlbohmfhdchabaaSpnLB
import Derived.Test.YtlbohmfhdchabaaSpnR7
namespace Go.Proofs.Ytlbohmfhdchabaa
open Go.RowKit
attribute [local go_sem ↓] Go.wp_at_zero Go.wp_at_succ

set_option maxRecDepth 8000 in
set_option maxHeartbeats 4000000 in
theorem rState_any (L : Lay) (sl v : Value) (f : Nat → Bool) (w : World) (hs : IArg w sl L.n L.M) (hv : BArg w v L.n f) (hR : L.Right) :
    Calls Try.prog 39 #[layV L sl, v] w fun e w' => e = .returned (.int .i64 (L.state (cntB f L.n))) ∧ Below w.heap.size w w' := by
  obtain ⟨hW, hr, hB⟩ := lay_setup hs
  obtain ⟨c0, c1, c2⟩ := row3_cells hr
  obtain ⟨a, cap, rfl⟩ := hs.slice
  obtain ⟨av, cv, rfl⟩ := hv.slice
  have hn := hR.nle
  have HL := Lib.hid (show LayAt w L a cap _ from ⟨hr, hW, hB⟩)
  have HV := Lib.hid (hv.all hB)
  clear hW hs hr hB hv
  unfold layV
  go_enter Try.func39, Try.ntmps39
  go_wp2_with fail
  generalize w.alloc (.cells #[.int .i64 L.K, .slice a L.n cap, .int .i64 L.C] 24) = W at *
  go_loopw [6, 5] (fun t u W' => ∃ k : Nat, k ≤ L.n ∧ t = .int .i64 k ∧ u = .int .i64 (cntB f k) ∧ Below W.heap.size W W') (fun t _ _ => L.n - (intOf t).toNat)
  case atStart => exact ⟨0, by omega, rfl, rfl, Below.refl _ _⟩
  case round =>
    obtain ⟨k, hk, rfl, rfl, hb⟩ := hrel
    have hcl := cntB_le f k
    by_cases hlt : k < L.n
    · rcases HV.out with ⟨h0, _⟩ | ⟨b, off, cap1, heq, h0, hcells⟩
      · omega
      simp only [Value.slice.injEq, true_and] at heq
      obtain ⟨rfl, rfl⟩ := heq
      have hcell := (hcells.all hb) k hlt
      unfold boolsV at hcell
      have Hb := Lib.hid hb; clear hb hcells
      rcases hf : f k with _ | _
      · rw [hf] at hcell
        have hcc : cntB f (k + 1) = cntB f k := by simp [cntB, hf]
        have Hcc := Lib.hid hcc; clear hcc hf
        go_wp2
        go_roundw
        case rel => exact ⟨k + 1, by omega, by go_num, by rw [Hcc.out], Hb.out⟩
        case measure => simp [intOf]; omega
      · rw [hf] at hcell
        have hcc : cntB f (k + 1) = cntB f k + 1 := by simp [cntB, hf]
        have Hcc := Lib.hid hcc; clear hcc hf
        go_wp2
        go_roundw
        case rel => exact ⟨k + 1, by omega, by go_num, by rw [Hcc.out]; go_num, Hb.out⟩
        case measure => simp [intOf]; omega
    · obtain rfl : k = L.n := by omega
      obtain ⟨d0, d1, d2⟩ := (HL.out.all hb).cells
      have Hb := Lib.hid (HL.out.bel.trans (hb.mono HL.out.bel.size)); clear hb
      generalize hc : cntB f L.n = c at *
      have Hc := Lib.hid hc; clear hc
      by_cases hc0 : c = 0
      · have hst : L.state c = 1 := by unfold Lay.state; rw [if_pos hc0]
        have Hst := Lib.hid hst; clear hst
        subst hc0
        go_wp2
        go_ret
        exact ⟨by rw [Hc.out, Hst.out]; rfl, Hb.out⟩
      · have hst : L.state c = if L.lost c = true then 3 else 2 := by unfold Lay.state; rw [if_neg hc0]
        have z0 : ((c : Int) == 0) = false := by rw [beq_eq_false_iff_ne]; omega
        by_cases h4 : L.K = 4
        · have b4 : (L.K == 4) = true := by rw [beq_iff_eq]; exact h4
          have b5 : (L.K == 5) = false := by rw [beq_eq_false_iff_ne]; omega
          have hl : L.lost c = decide ((c : Int) = L.n) := by unfold Lay.lost; rw [if_pos h4]
          by_cases hcn : c < L.n
          · have hst2 : L.state c = 2 := by rw [hst, hl, decide_eq_false (by omega)]; rfl
            have Hst := Lib.hid hst2; clear hst2 hst hl h4 hc0
            go_wp2
            go_ret
            exact ⟨by rw [Hc.out, Hst.out]; rfl, Hb.out⟩
          · have hst2 : L.state c = 3 := by rw [hst, hl, decide_eq_true (by omega)]; rfl
            have Hst := Lib.hid hst2; clear hst2 hst hl h4 hc0
            go_wp2
            go_ret
            exact ⟨by rw [Hc.out, Hst.out]; rfl, Hb.out⟩
        · have b4 : (L.K == 4) = false := by rw [beq_eq_false_iff_ne]; exact h4
          by_cases h5 : L.K = 5
          · have b5 : (L.K == 5) = true := by rw [beq_iff_eq]; exact h5
            have hl : L.lost c = decide ((1 : Int) < c) := by unfold Lay.lost; rw [if_neg h4, if_pos h5]
            by_cases hc1 : c = 1
            · have hst2 : L.state c = 2 := by rw [hst, hl, decide_eq_false (by omega)]; rfl
              have Hst := Lib.hid hst2; clear hst2 hst hl h4 h5 hc0
              have z1 : ((c : Int) == 1) = true := by rw [beq_iff_eq]; omega
              clear hc1
              go_wp2
              go_ret
              exact ⟨by rw [Hc.out, Hst.out]; rfl, Hb.out⟩
            · have hst2 : L.state c = 3 := by rw [hst, hl, decide_eq_true (by omega)]; rfl
              have Hst := Lib.hid hst2; clear hst2 hst hl h4 h5 hc0
              have z1 : ((c : Int) == 1) = false := by rw [beq_eq_false_iff_ne]; omega
              clear hc1
              go_wp2
              go_ret
              exact ⟨by rw [Hc.out, Hst.out]; rfl, Hb.out⟩
          · have b5 : (L.K == 5) = false := by rw [beq_eq_false_iff_ne]; exact h5
            have hl : L.lost c = decide ((0 : Int) < c) := by unfold Lay.lost; rw [if_neg h4, if_neg h5]
            have hst2 : L.state c = 3 := by rw [hst, hl, decide_eq_true (by omega)]; rfl
            have Hst := Lib.hid hst2; clear hst2 hst hl h4 h5 hc0
            go_wp2
            go_ret
            exact ⟨by rw [Hc.out, Hst.out]; rfl, Hb.out⟩

set_option maxRecDepth 8000 in
set_option maxHeartbeats 8000000 in
theorem rExtends_any (A B : Lay) (sa sb : Value) (w : World) (ha : IArg w sa A.n A.M) (hb : IArg w sb B.n B.M) (hRA : A.Right) (hRB : B.Right) :
    Calls Try.prog 40 #[layV A sa, layV B sb] w fun e w' => ∃ x, e = .returned (.bool x) ∧ (x = true ↔ Ext A B) ∧ Below w.heap.size w w' := by
  obtain ⟨hA, hB, hrA, hrB, hBel⟩ := two_setup ha hb
  obtain ⟨aa, ca, rfl⟩ := ha.slice
  obtain ⟨ab, cb, rfl⟩ := hb.slice
  have HA := Lib.hid hA; clear hA ha
  have HB := Lib.hid hB; clear hB hb
  have hszA := hRA.sizes
  have hszB := hRB.sizes
  have hszA1 := hRA.size_pos'
  have hszB1 := hRB.size_pos'
  have Zs := Lib.hid (fun W (hW : IArg W (.slice aa A.n ca) A.n A.M) => rSize_any A _ W hW hRA)
  have Zt := Lib.hid (fun W (hW : IArg W (.slice ab B.n cb) B.n B.M) => rSize_any B _ W hW hRB)
  have Za := Lib.hid (fun (k : Nat) (h : 0 ≤ (k : Int) ∧ (k : Int) < A.size) W (hW : IArg W (.slice aa A.n ca) A.n A.M) => rPlace_any A _ k W hW hRA h)
  have Zb := Lib.hid (fun (k : Nat) (h : 0 ≤ (k : Int) ∧ (k : Int) < B.size) W (hW : IArg W (.slice ab B.n cb) B.n B.M) => rPlace_any B _ k W hW hRB h)
  unfold layV at Zs Zt Za Zb
  have RA := Lib.hid hRA; clear hRA
  have RB := Lib.hid hRB; clear hRB
  unfold layV
  go_enter Try.func40, Try.ntmps40
  go_upto_region 1 with fail
  generalize (w.alloc (.cells #[.int .i64 A.K, .slice aa A.n ca, .int .i64 A.C] 24)).alloc (.cells #[.int .i64 B.K, .slice ab B.n cb, .int .i64 B.C] 24) = W at *
  have hd : Below W.heap.size W W.drew := (Below.refl _ W).drew
  go_region_held (fun w' => w'.cell? ⟨w.heap.size, 0, none⟩ = some (.int .i64 A.K) ∧ w'.cell? ⟨w.heap.size, 1, none⟩ = some (.slice aa A.n ca) ∧ w'.cell? ⟨w.heap.size, 2, none⟩ = some (.int .i64 A.C) ∧ w'.cell? ⟨w.heap.size + 1, 0, none⟩ = some (.int .i64 B.K) ∧ w'.cell? ⟨w.heap.size + 1, 1, none⟩ = some (.slice ab B.n cb) ∧ w'.cell? ⟨w.heap.size + 1, 2, none⟩ = some (.int .i64 B.C) ∧ Below W.heap.size W w') (exact keep6 hrA hrB (by assumption))
    (first | (go_at_call 19; (first | ((with_reducible refine (Zs.out _ (HA.out.all hd)).mono ?_); rintro e wa ⟨rfl, hBa⟩; replace hd := hd.trans (hBa.mono hd.size)) | ((with_reducible refine (Zt.out _ (HB.out.all hd)).mono ?_); rintro e wb ⟨rfl, hBb⟩; replace hd := hd.trans (hBb.mono hd.size)))))
  generalize hSA : A.size = SA at *
  generalize hSB : B.size = SB at *
  have HSA := Lib.hid hSA; clear hSA
  have HSB := Lib.hid hSB; clear hSB
  replace HA := Lib.hid (HA.out.all hd)
  replace HB := Lib.hid (HB.out.all hd)
  replace hrA := hrA.all hd
  replace hrB := hrB.all hd
  have hB1 := hBel.trans (hd.mono hBel.size)
  obtain ⟨c0, c1, c2⟩ := row3_cells hrA
  clear hd hBel hBa hBb
  by_cases hlt : SB < SA
  · have Hn := Lib.hid (show ¬ Ext A B from fun h => by have := h.1; rw [HSA.out, HSB.out] at this; omega)
    go_wp2
    go_ret
    exact ⟨false, rfl, by simp [Hn.out], hB1⟩
  · have hlt' : ¬ SB < SA := hlt
    clear hlt
    go_wp2_with fail
    clear c0 c1 c2
    go_loopw [5] (fun t W' => ∃ k : Nat, (k : Int) ≤ SA ∧ t = .int .i64 k ∧ (∀ p : Nat, p < k → sameSp A.num' (A.at p) B.num' (B.at p) = true) ∧ Below wb.heap.size wb W') (fun t _ => (SA - intOf t).toNat)
    case atStart => exact ⟨0, by omega, rfl, fun p hp => absurd hp (by omega), Below.refl _ _⟩
    case round =>
      obtain ⟨k, hk, rfl, hq, hbl⟩ := hrel
      have Hq := Lib.hid hq; clear hq
      have hA2 := Lib.hid (HA.out.all hbl)
      have hrA2 := hrA.all hbl
      have hB2 := Lib.hid (HB.out.all hbl)
      have hrB2 := hrB.all hbl
      have Hbl := Lib.hid hbl; clear hbl
      obtain ⟨c0, c1, c2⟩ := row3_cells hrA2
      go_wp2_with fail
      refine (Zs.out _ hA2.out).mono ?_
      rintro e wc ⟨rfl, hBc⟩
      have hA3 := Lib.hid (hA2.out.all hBc)
      have hB3 := Lib.hid (hB2.out.all hBc)
      have hrA3 := hrA2.all hBc
      have hrB3 := hrB2.all hBc
      have Hbc := Lib.hid (Hbl.out.trans (hBc.mono Hbl.out.size))
      clear hA2 hB2 hrA2 hrB2 hBc Hbl c0 c1 c2
      by_cases hltk : (k : Int) < SA
      · have PA := Lib.hid (show 0 ≤ (k : Int) ∧ (k : Int) < SA from ⟨by omega, hltk⟩)
        have PB := Lib.hid (show 0 ≤ (k : Int) ∧ (k : Int) < SB from ⟨by omega, by omega⟩)
        have hnA : A.num' ≤ 1000000 := Nat.le_trans (Lay.num_le RA.out) (by decide)
        have hnB : B.num' ≤ 1000000 := Nat.le_trans (Lay.num_le RB.out) (by decide)
        have NA := Lib.hid hnA; clear hnA
        have NB := Lib.hid hnB; clear hnB
        go_upto_region 6 with fail
        have hd : Below wc.heap.size wc wc.drew := (Below.refl _ wc).drew
        go_region_held (fun w' => w'.cell? ⟨w.heap.size, 0, none⟩ = some (.int .i64 A.K) ∧ w'.cell? ⟨w.heap.size, 1, none⟩ = some (.slice aa A.n ca) ∧ w'.cell? ⟨w.heap.size, 2, none⟩ = some (.int .i64 A.C) ∧ w'.cell? ⟨w.heap.size + 1, 0, none⟩ = some (.int .i64 B.K) ∧ w'.cell? ⟨w.heap.size + 1, 1, none⟩ = some (.slice ab B.n cb) ∧ w'.cell? ⟨w.heap.size + 1, 2, none⟩ = some (.int .i64 B.C) ∧ Below wc.heap.size wc w') (exact keep6 hrA3 hrB3 (by assumption))
          (first | (go_at_call 21; (first | ((with_reducible refine (Za.out k PA.out _ (hA3.out.all hd)).mono ?_); rintro e wx ⟨va, rfl, hSa, hBx⟩; replace hd := hd.trans (hBx.mono hd.size); obtain ⟨ava, cva, rfl⟩ := hSa.slice; have HSa := Lib.hid hSa.at; clear hSa) | ((with_reducible refine (Zb.out k PB.out _ (hB3.out.all hd)).mono ?_); rintro e wy ⟨vb, rfl, hSb, hBy⟩; replace hd := hd.trans (hBy.mono hd.size); obtain ⟨avb, cvb, rfl⟩ := hSb.slice; have HSb := Lib.hid hSb.at; clear hSb))) | (go_at_call 20; ((with_reducible refine (Same_any _ _ A.num' B.num' (A.at k) (B.at k) _ (HSa.out.all hBy) HSb.out NA.out NB.out).mono ?_); rintro e wz ⟨rfl, hBz⟩; replace hd := hd.trans (hBz.mono hd.size))))
        have Hbz := Lib.hid (Hbc.out.trans (hd.mono Hbc.out.size))
        clear hd
        rcases hsame : sameSp A.num' (A.at k) B.num' (B.at k) with _ | _
        · have Hn := Lib.hid (show ¬ Ext A B from fun h => by have := h.2 k (by rw [HSA.out]; exact hltk); rw [hsame] at this; cases this)
          go_wp2
          go_ret
          exact ⟨false, rfl, by simp [Hn.out], hB1.trans (Hbz.out.mono hB1.size)⟩
        · have Hsame := Lib.hid hsame; clear hsame
          go_wp2_with fail
          go_roundw
          case rel => exact ⟨k + 1, by omega, by go_num, fun p hp => if h : p = k then by rw [h]; exact Hsame.out else Hq.out p (by omega), Hbz.out⟩
          case measure => simp [intOf]; omega
      · have hx : ¬ (k : Int) < SA := hltk
        have He := Lib.hid (show Ext A B from ⟨by rw [HSA.out, HSB.out]; omega, fun p hp => Hq.out p (by rw [HSA.out] at hp; omega)⟩)
        clear hltk
        go_wp2
        go_ret
        exact ⟨true, rfl, by simp [He.out], hB1.trans (Hbc.out.mono hB1.size)⟩

end Go.Proofs.Ytlbohmfhdchabaa
