/- Span: the reference's Members. -/
import Derived.Test.YtlbohmfhdchabaaSpnR7
namespace Go.Proofs.Ytlbohmfhdchabaa
open Go.RowKit
attribute [local go_sem ↓] Go.wp_at_zero Go.wp_at_succ

set_option maxRecDepth 8000 in
set_option maxHeartbeats 8000000 in
theorem rMembers_any (L : Lay) (sl : Value) (r : Int) (w : World) (hs : IArg w sl L.n L.M) (hR : L.Right) (hr : 0 ≤ r ∧ r < L.regn) :
    Calls Try.prog 32 #[layV L sl, .int .i64 r] w fun e w' => ∃ v, e = .returned v ∧ Spots w' w.heap.size v (L.n * L.memM r) (nthSpot (r * L.C) (L.memM r)) ∧ Below w.heap.size w w' := by
  obtain ⟨hW, hrow, hB⟩ := lay_setup hs
  obtain ⟨c0, c1, c2⟩ := row3_cells hrow
  obtain ⟨a, cap, rfl⟩ := hs.slice
  have HL := Lib.hid (show LayAt w L a cap _ from ⟨hrow, hW, hB⟩)
  have HR := Lib.hid hR
  have hC := hR.chunk
  have hn := hR.nle
  have hrb := Lay.reg_bound hR hr
  have hml := mem_len hR hr
  have hmr := mem_ref hR hr
  have hrC : (r + 1) * L.C = r * L.C + L.C := by rw [Int.add_mul, Int.one_mul]
  have hMM : (L.memM r : Int) = L.memB r - r * L.C := by unfold Lay.memM; omega
  have hM64 : L.memM r ≤ 64 := hml.1
  have hlo0 : 0 ≤ r * L.C ∧ r * L.C ≤ 5000 := by omega
  have hhi : (r + 1) * L.C ≤ 5000 := by omega
  have hhi2 : r * L.C ≤ (r + 1) * L.C ∧ (r + 1) * L.C ≤ r * L.C + 64 := by omega
  have hr0 : 0 ≤ r ∧ r ≤ 4096 := by omega
  -- what the test of the inner loop says
  have htest : ∀ d : Nat, r * L.C + d < (r + 1) * L.C → (d < L.memM r ↔ (L.K = 5 ∨ r * L.C + d < L.m)) := fun d hd => by
    by_cases h5 : L.K = 5
    · have := hmr.1 h5
      constructor
      · intro _; exact .inl h5
      · intro _; omega
    · obtain ⟨-, hb⟩ := hmr.2.1 h5
      constructor
      · intro hlt; right; split at hb <;> omega
      · rintro (h | h)
        · exact absurd h h5
        · split at hb <;> omega
  have htop : L.memB r ≤ (r + 1) * L.C := hmr.2.2.2
  have hMtop : r * L.C + L.memM r ≤ (r + 1) * L.C := by omega
  have Htest := Lib.hid htest; clear htest
  have Hleast := Lib.hid (fun W (hW : IArg W (.slice a L.n cap) L.n L.M) => rLeast_any L _ W hW (by omega) (by omega))
  unfold layV at Hleast
  have hn6 : L.n ≤ 6 := hn.2
  clear hmr htop hMM hrC hml hrb hr hs hW hrow hB hR
  generalize hM : L.memM r = M at *
  have HM := Lib.hid hM; clear hM
  unfold layV
  go_enter Try.func32, Try.ntmps32
  go_wp2_with fail
  generalize w.alloc (.cells #[.int .i64 L.K, .slice a L.n cap, .int .i64 L.C] 24) = W at *
  clear c0 c1 c2
  go_loopw [6, 5] (fun t u W' => ∃ i : Nat, i ≤ L.n ∧ t = .int .i64 i ∧ Spots W' W.heap.size u (i * M) (nthSpot (r * L.C) M) ∧ Below W.heap.size W W') (fun t _ _ => L.n - (intOf t).toNat)
  case atStart => exact ⟨0, by omega, rfl, by rw [Nat.zero_mul]; exact Spots.nil _ _ _, Below.refl _ _⟩
  case round =>
    obtain ⟨i, hi, rfl, hSp, hb⟩ := hrel
    obtain ⟨av, cv, rfl⟩ := hSp.slice
    have HSp := Lib.hid hSp; clear hSp
    have HLr := Lib.hid (HL.out.all hb)
    have Hb := Lib.hid hb; clear hb
    obtain ⟨c0, c1, c2⟩ := HLr.out.cells
    by_cases hlt : i < L.n
    · have hiM : i * M ≤ 384 := Nat.le_trans (Nat.mul_le_mul (show i ≤ 6 by omega) hM64) (by decide)
      have hsucc : (i + 1) * M = i * M + M := Nat.succ_mul i M
      have Hsucc := Lib.hid hsucc; clear hsucc
      have hnth : ∀ d, d < M → nthSpot (r * L.C) M (i * M + d) = ((i : Int), r * L.C + (d : Int)) := fun d hd => nthSpot_at _ hd
      have Hnth := Lib.hid hnth; clear hnth
      generalize hq : i * M = iM at *
      have Hq := Lib.hid hq; clear hq
      go_wp2_with fail
      clear c0 c1 c2
      go_loopw [7, 5] (fun t u W' => ∃ d : Nat, r * L.C + d ≤ (r + 1) * L.C ∧ t = .int .i64 (r * L.C + d) ∧ Spots W' W.heap.size u (iM + min d M) (nthSpot (r * L.C) M) ∧ Below W.heap.size W W') (fun t _ _ => ((r + 1) * L.C - intOf t).toNat)
      case atStart => exact ⟨0, by omega, by simp, by rw [Nat.zero_min]; exact HSp.out, Hb.out⟩
      case round =>
        obtain ⟨d, hd, rfl, hSd, hbd⟩ := hrel
        obtain ⟨ad, cd, rfl⟩ := hSd.slice
        have HSd := Lib.hid hSd; clear hSd
        have HLd := Lib.hid (HL.out.all hbd)
        have Hbd := Lib.hid hbd; clear hbd
        obtain ⟨c0, c1, c2⟩ := HLd.out.cells
        by_cases hlt2 : r * L.C + d < (r + 1) * L.C
        · have ht := Htest.out d hlt2
          by_cases hdM : d < M
          · have hmin : min d M = d := by omega
            have hmin2 : min (d + 1) M = d + 1 := by omega
            have HSd' := Lib.hid (show Spots wr W.heap.size (.slice ad (iM + d) cd) (iM + d) (nthSpot (r * L.C) M) from by have := HSd.out; rw [hmin] at this; exact this)
            rw [hmin]
            have Hmin2 := Lib.hid hmin2
            have hor := ht.1 hdM
            clear HSd hmin hmin2 ht
            by_cases h5 : L.K = 5
            · have b5 : (L.K == 5) = true := by rw [beq_iff_eq]; exact h5
              clear h5 hor
              go_wp2_with (with_reducible refine stopB .append ?_)
              refine Hold.go ?_
              refine wpList_append_sp rfl _ _ rfl W.heap.size _ (iM + d) (nthSpot (r * L.C) M) rfl (HSd'.out.alloc _) wr.heap.size 0 1 1 (fun _ => ((i : Int), r * L.C + d)) rfl (cells1 wr _ _) (by omega) (by have := Hbd.out.size; simp; omega) ?_
              intro v' W3 hS' hgr
              have hb3 := (HSd'.out.alloc _).below (Hbd.out.alloc Hbd.out.size (.cells #[.int .i64 i, .int .i64 (r * L.C + d)] 45)) (by have := Hbd.out.size; simp; omega) hgr
              obtain ⟨a', cap', rfl⟩ := hS'.slice
              have Hn := Lib.hid (And.intro (hS'.snoc (Hnth.out d hdM).symm) hb3)
              clear hS' hgr hb3
              go_wp2
              go_roundw
              case rel => exact ⟨d + 1, by omega, by go_num, by rw [Hmin2.out]; exact Hn.out.1, Hn.out.2⟩
              case measure => simp [intOf]; omega
            · have b5 : (L.K == 5) = false := by rw [beq_eq_false_iff_ne]; exact h5
              have hlm : r * L.C + d < L.m := hor.resolve_left h5
              clear h5 hor
              go_wp2_with fail
              refine (Hleast.out _ HLd.out.arg).mono ?_
              rintro e w2 ⟨rfl, hb2⟩
              have HS2 := Lib.hid (HSd'.out.all hb2)
              have Hb2 := Lib.hid (Hbd.out.trans (hb2.mono Hbd.out.size))
              clear c0 c1 c2 HSd' Hbd hb2
              go_wp2_with (with_reducible refine stopB .append ?_)
              refine Hold.go ?_
              refine wpList_append_sp rfl _ _ rfl W.heap.size _ (iM + d) (nthSpot (r * L.C) M) rfl (HS2.out.alloc _) w2.heap.size 0 1 1 (fun _ => ((i : Int), r * L.C + d)) rfl (cells1 w2 _ _) (by omega) (by have := Hb2.out.size; simp; omega) ?_
              intro v' W3 hS' hgr
              have hb3 := (HS2.out.alloc _).below (Hb2.out.alloc Hb2.out.size (.cells #[.int .i64 i, .int .i64 (r * L.C + d)] 45)) (by have := Hb2.out.size; simp; omega) hgr
              obtain ⟨a', cap', rfl⟩ := hS'.slice
              have Hn := Lib.hid (And.intro (hS'.snoc (Hnth.out d hdM).symm) hb3)
              clear hS' hgr hb3
              go_wp2
              go_roundw
              case rel => exact ⟨d + 1, by omega, by go_num, by rw [Hmin2.out]; exact Hn.out.1, Hn.out.2⟩
              case measure => simp [intOf]; omega
          · have hmin : min d M = M := by omega
            have hmin2 : min (d + 1) M = M := by omega
            have hno := fun h => hdM (ht.2 h)
            have h5 : ¬ L.K = 5 := fun h => hno (.inl h)
            have b5 : (L.K == 5) = false := by rw [beq_eq_false_iff_ne]; exact h5
            have hlm : ¬ r * L.C + d < L.m := fun h => hno (.inr h)
            have HSd' := Lib.hid (show Spots wr W.heap.size (.slice ad (iM + M) cd) (iM + M) (nthSpot (r * L.C) M) from by have := HSd.out; rw [hmin] at this; exact this)
            rw [hmin]
            have Hmin2 := Lib.hid hmin2
            clear HSd hmin hmin2 ht h5 hno
            go_wp2_with fail
            refine (Hleast.out _ HLd.out.arg).mono ?_
            rintro e w2 ⟨rfl, hb2⟩
            have HS2 := Lib.hid (HSd'.out.all hb2)
            have Hb2 := Lib.hid (Hbd.out.trans (hb2.mono Hbd.out.size))
            clear c0 c1 c2 HSd' Hbd hb2
            go_wp2
            go_roundw
            case rel => exact ⟨d + 1, by omega, by go_num, by rw [Hmin2.out]; exact HS2.out, Hb2.out⟩
            case measure => simp [intOf]; omega
        · have hmin : min d M = M := by omega
          have HSd' := Lib.hid (show Spots wr W.heap.size (.slice ad (iM + M) cd) (iM + M) (nthSpot (r * L.C) M) from by have := HSd.out; rw [hmin] at this; exact this)
          rw [hmin]
          clear HSd hmin
          go_wp2_with fail
          go_roundw
          case rel => exact ⟨i + 1, by omega, by go_num, by rw [Hsucc.out]; exact HSd'.out, Hbd.out⟩
          case measure => simp [intOf]; omega
    · obtain rfl : i = L.n := by omega
      have Hfin := Lib.hid (And.intro HSp.out Hb.out)
      go_wp2_with fail
      go_ret
      exact ⟨_, rfl, Hfin.out.1.mono HL.out.bel.size, HL.out.bel.trans (Hfin.out.2.mono HL.out.bel.size)⟩

end Go.Proofs.Ytlbohmfhdchabaa
