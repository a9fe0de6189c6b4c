/- Span: the reference's Peers. -/
import Derived.Test.YtlbohmfhdchabaaSpnR5
namespace Go.Proofs.Ytlbohmfhdchabaa
open Go.RowKit
attribute [local go_sem ↓] Go.wp_at_zero Go.wp_at_succ

set_option maxRecDepth 8000 in
set_option maxHeartbeats 4000000 in
theorem rPeers_any (L : Lay) (sl : Value) (s : Int × Int) (w : World) (hs : IArg w sl L.n L.M) (hR : L.Right) (hh : L.has s = true) :
    Calls Try.prog 36 #[layV L sl, spotA s] w fun e w' => ∃ v, e = .returned v ∧ Spots w' w.heap.size v (L.peersN s) (peersF s) ∧ Below w.heap.size w w' := by
  obtain ⟨x, y⟩ := s
  obtain ⟨hW, hr, hr2, hB⟩ := spot_setup x y hs
  obtain ⟨c0, c1, c2⟩ := row3_cells hr
  obtain ⟨b0, b1⟩ := row2_cells hr2
  obtain ⟨a, cap, rfl⟩ := hs.slice
  have HS := Lib.hid (show SpAt w L a cap x y _ from ⟨⟨hr, hW, hB⟩, hr2⟩)
  have HR := Lib.hid hR
  have Hh := Lib.hid hh
  have hn := hR.nle
  obtain ⟨hx0, hxn, -, -⟩ := has_iff.1 hh
  dsimp only at hx0 hxn
  clear hs hW hr hr2 hB hR hh
  unfold layV spotA
  go_enter Try.func36, Try.ntmps36
  go_wp2_with fail
  generalize (w.alloc (.cells #[.int .i64 L.K, .slice a L.n cap, .int .i64 L.C] 24)).alloc (.cells #[.int .i64 x, .int .i64 y] 45) = W at *
  refine (rPage_any L _ (x, y) W HS.out.arg HR.out Hh.out).mono ?_
  rintro e w1 ⟨rfl, hb⟩
  replace HS := Lib.hid (HS.out.all hb)
  clear c0 c1 c2 b0 b1 hb
  obtain ⟨c0, c1, c2, b0, b1⟩ := HS.out.cells
  generalize hrole : (L.page (x, y)).2 = role at *
  generalize hpg : (L.page (x, y)).1 = pg at *
  clear hpg
  by_cases hfree : role = 4 ∨ ¬ (L.K = 4 ∨ L.K = 5)
  · have hN : L.peersN (x, y) = 0 := by unfold Lay.peersN; rw [hrole, if_pos hfree]
    have HN := Lib.hid hN; clear hN
    have Hrole := Lib.hid hrole; clear hrole
    have hfin : ∀ f, Spots w1 w.heap.size (.slice none 0 0) (L.peersN (x, y)) f := fun f => by rw [HN.out]; exact Spots.nil _ _ _
    have Hfin := Lib.hid hfin; clear hfin
    by_cases h4 : role = 4
    · have e4 : (role == 4) = true := by rw [beq_iff_eq]; exact h4
      clear h4 hfree
      go_wp2
      go_ret
      exact ⟨_, rfl, Hfin.out _, HS.out.bel⟩
    · have e4 : (role == 4) = false := by rw [beq_eq_false_iff_ne]; exact h4
      have k4 : (L.K != 4) = true := by rw [bne_iff_ne]; exact fun h => hfree.elim h4 (fun hh => hh (.inl h))
      have k5 : (L.K != 5) = true := by rw [bne_iff_ne]; exact fun h => hfree.elim h4 (fun hh => hh (.inr h))
      clear h4 hfree
      go_wp2
      go_ret
      exact ⟨_, rfl, Hfin.out _, HS.out.bel⟩
  · have hN : L.peersN (x, y) = L.n - 1 := by unfold Lay.peersN; rw [hrole, if_neg hfree]
    have HN := Lib.hid hN; clear hN
    have Hrole := Lib.hid hrole; clear hrole
    have e4 : (role == 4) = false := by rw [beq_eq_false_iff_ne]; exact fun h => hfree (.inl h)
    have k45 : ((L.K != 4) = false) ∨ ((L.K != 4) = true ∧ (L.K != 5) = false) := by
      by_cases h4 : L.K = 4
      · left; rw [bne_eq_false_iff_eq]; exact h4
      · right
        refine ⟨by rw [bne_iff_ne]; exact h4, ?_⟩
        rw [bne_eq_false_iff_eq]
        exact Classical.byContradiction fun h5 => hfree (.inr (fun h => h.elim h4 h5))
    clear hfree
    have hc0 : peersC x 0 = 0 := by unfold peersC; split <;> omega
    have Hc0 := Lib.hid hc0; clear hc0
    rcases k45 with k4 | ⟨k4, k5⟩
    all_goals
      go_wp2_with fail
      clear c0 c1 c2 b0 b1
      go_loopw [8, 7] (fun t u W' => ∃ k : Nat, k ≤ L.n ∧ t = .int .i64 k ∧ Spots W' w1.heap.size u (peersC x k) (peersF (x, y)) ∧ Below w1.heap.size w1 W') (fun t _ _ => L.n - (intOf t).toNat)
      case atStart => exact ⟨0, by omega, rfl, by rw [Hc0.out]; exact Spots.nil _ _ _, Below.refl _ _⟩
      case round =>
        obtain ⟨k, hk, rfl, hSp, hb⟩ := hrel
        obtain ⟨av, cv, rfl⟩ := hSp.slice
        have HSp := Lib.hid hSp; clear hSp
        have HSk := Lib.hid (HS.out.all hb)
        have Hb := Lib.hid hb; clear hb
        obtain ⟨c0, c1, c2, b0, b1⟩ := HSk.out.cells
        by_cases hlt : k < L.n
        · by_cases hkx : (k : Int) = x
          · have ex : ((k : Int) != x) = false := by rw [bne_eq_false_iff_eq]; exact hkx
            have hcc : peersC x (k + 1) = peersC x k := by unfold peersC; split <;> split <;> omega
            have Hcc := Lib.hid hcc; clear hcc hkx
            go_wp2_with fail
            go_roundw
            case rel => exact ⟨k + 1, by omega, by go_num, by rw [Hcc.out]; exact HSp.out, Hb.out⟩
            case measure => simp [intOf]; omega
          · have ex : ((k : Int) != x) = true := by rw [bne_iff_ne]; exact hkx
            have hcc : peersC x (k + 1) = peersC x k + 1 ∧ ((k : Int), y) = peersF (x, y) (peersC x k) ∧ peersC x k ≤ 6 := by
              unfold peersC peersF
              dsimp only
              refine ⟨by split <;> split <;> omega, ?_, by split <;> omega⟩
              refine Prod.ext ?_ rfl
              dsimp only
              repeat' split
              all_goals omega
            have hc6 := hcc.2.2
            have Hcc := Lib.hid hcc; clear hcc hkx
            generalize hcd : peersC x k = c at *
            have Hcd := Lib.hid hcd; clear hcd
            go_wp2_with (with_reducible refine stopB .append ?_)
            refine Hold.go ?_
            refine wpList_append_sp rfl _ _ rfl w1.heap.size _ c (peersF (x, y)) rfl (HSp.out.alloc _) wr.heap.size 0 1 1 (fun _ => ((k : Int), y)) rfl (cells1 wr _ _) (by omega) (by have := Hb.out.size; simp; omega) ?_
            intro v' W3 hS' hgr
            have hb3 := (HSp.out.alloc _).below (Hb.out.alloc Hb.out.size (.cells #[.int .i64 k, .int .i64 y] 45)) (by have := Hb.out.size; simp; omega) hgr
            obtain ⟨a', cap', rfl⟩ := hS'.slice
            have Hn := Lib.hid (And.intro (hS'.snoc Hcc.out.2.1) hb3)
            clear hS' hgr hb3
            go_wp2
            go_roundw
            case rel => exact ⟨k + 1, by omega, by go_num, by rw [Hcc.out.1]; exact Hn.out.1, Hn.out.2⟩
            case measure => simp [intOf]; omega
        · obtain rfl : k = L.n := by omega
          have hcn : peersC x L.n = L.n - 1 := by unfold peersC; split <;> omega
          have Hcn := Lib.hid hcn; clear hcn
          have hq : Spots wr w1.heap.size (.slice av (peersC x L.n) cv) (L.peersN (x, y)) (peersF (x, y)) := by
            have := HSp.out
            rw [HN.out, ← Hcn.out]
            exact this
          have Hq := Lib.hid hq; clear hq
          go_wp2_with fail
          go_ret
          exact ⟨_, rfl, Hq.out.mono HS.out.bel.size, HS.out.bel.trans (Hb.out.mono HS.out.bel.size)⟩

end Go.Proofs.Ytlbohmfhdchabaa
