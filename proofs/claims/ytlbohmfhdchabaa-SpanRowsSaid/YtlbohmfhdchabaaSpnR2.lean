/- Span: the reference's Place. -/
import Derived.Test.YtlbohmfhdchabaaSpnR1
namespace Go.Proofs.Ytlbohmfhdchabaa
open Go.RowKit

theorem ediv_two {p C n : Int} (hC : 0 ≤ C) : p / (C * n) = p / C / n := (Int.ediv_ediv_of_nonneg hC).symm

set_option maxHeartbeats 4000000 in
theorem rPlace_any (L : Lay) (sl : Value) (p : Int) (w : World) (hs : IArg w sl L.n L.M) (hR : L.Right) (hp : 0 ≤ p ∧ p < L.size) :
    Calls Try.prog 21 #[layV L sl, .int .i64 p] w (PlaceR L p w) := by
  obtain ⟨hW, hr, hB⟩ := lay_setup hs
  have hn := hR.nle
  have hC := hR.chunk
  have hsz := hR.sizes
  have hp2 : 0 ≤ p ∧ p ≤ 1000000 := by omega
  obtain ⟨a, cap, rfl⟩ := hs.slice
  have HW := Lib.hid hW; clear hW hs
  have HR := Lib.hid hR; clear hR
  obtain ⟨c0, c1, c2⟩ := row3_cells hr
  have hC0 : ¬ L.C = 0 := by omega
  have hn0 : ¬ L.n = 0 := by omega
  have hn1 : (1 : Int) ≤ L.n := by omega
  have hge := hB.size
  have hWs : (w.alloc (.cells #[.int .i64 L.K, .slice a L.n cap, .int .i64 L.C] 24)).heap.size = w.heap.size + 1 := by simp
  have HWs := Lib.hid hWs; clear hWs
  unfold layV
  go_enter Try.func21, Try.ntmps21
  have hkind := HR.out.kind
  obtain hK | hK | hK | hK | hK : L.K = 1 ∨ L.K = 2 ∨ L.K = 3 ∨ L.K = 4 ∨ L.K = 5 := by omega
  · have b2 : (L.K == 2) = false := by rw [hK]; rfl
    have b3 : (L.K == 3) = false := by rw [hK]; rfl
    have b4 : (L.K == 4) = false := by rw [hK]; rfl
    have b5 : (L.K == 5) = false := by rw [hK]; rfl
    have hs : L.num' = 1 ∧ (fun i => L.at p i) = fun _ => (0, p) := by
      constructor
      · unfold Lay.num'; rw [hK]; rfl
      · funext i; unfold Lay.at; rw [hK]; rfl
    have Hs := Lib.hid hs; clear hs hK hkind
    go_wp2_with fail
    generalize w.alloc (.cells #[.int .i64 L.K, .slice a L.n cap, .int .i64 L.C] 24) = W at *
    go_ret
    refine ⟨_, rfl, ?_, hB.alloc hge _⟩
    have h1 := spots1 W 0 p
    rw [HWs.out] at h1
    rw [Hs.out.1]
    exact (h1.mono (by omega)).congr fun i _ => (congrFun Hs.out.2 i).symm
  · have b2 : (L.K == 2) = true := by rw [hK]; rfl
    have b3 : (L.K == 3) = false := by rw [hK]; rfl
    have b4 : (L.K == 4) = false := by rw [hK]; rfl
    have b5 : (L.K == 5) = false := by rw [hK]; rfl
    have hs : L.num' = 1 ∧ (fun i => L.at p i) = fun _ => (((catI L.M p L.n : Nat) : Int), p - sumI L.M (catI L.M p L.n)) := by
      constructor
      · unfold Lay.num'; rw [hK]; rfl
      · funext i; unfold Lay.at; rw [hK]; rfl
    have hz : L.size = sumI L.M L.n := by unfold Lay.size; rw [hK]; rfl
    rw [hz] at hp hsz
    have Hs := Lib.hid hs; clear hs hz hK hkind
    obtain ⟨b, off, cap1, heq, hcells⟩ : ∃ b off cap1, Value.slice a L.n cap = .slice (some ⟨b, off, none⟩) L.n cap1 ∧ Cells (w.alloc (.cells #[.int .i64 L.K, .slice a L.n cap, .int .i64 L.C] 24)) b off L.n (intsV L.M) := by
      rcases HW.out with ⟨h0, _⟩ | ⟨b, off, cap1, heq, h0, hcap, hmax, hcells, hrange⟩
      · omega
      · exact ⟨b, off, cap1, heq, hcells⟩
    simp only [Value.slice.injEq, true_and] at heq
    obtain ⟨rfl, rfl⟩ := heq
    have HC := Lib.hid hcells; clear hcells
    have Hm := Lib.hid HR.out.mem
    go_wp2_with fail
    go_loop [7, 1] (fun t u => ∃ k : Nat, k < L.n ∧ t = .int .i64 k ∧ u = .int .i64 (p - sumI L.M k) ∧ sumI L.M k ≤ p) (fun t _ => L.n - (intOf t).toNat)
    case atStart => exact ⟨0, by omega, rfl, by simp [sumI], by simp [sumI]; omega⟩
    case round =>
      obtain ⟨k, hk, rfl, rfl, hle⟩ := hrel
      have hcell := HC.out k hk
      unfold intsV at hcell
      have hMk := Hm.out k hk
      have hs0 := (sumI_bound L.M 1 4096 k (fun i hi => Hm.out i (by omega))).1
      have e1 : p - sumI L.M k - L.M k = p - sumI L.M (k + 1) := by simp only [sumI]; omega
      rcases hlt : decide (L.M k ≤ p - sumI L.M k) with _ | _
      · have hlt' : ¬ L.M k ≤ p - sumI L.M k := of_decide_eq_false hlt
        have hcat : catI L.M p L.n = k := catI_eq L.M p hk (fun i hi => (Hm.out i hi).1) hle (by simp only [sumI]; omega)
        have Hcat := Lib.hid hcat; clear hcat e1
        go_wp2
        go_ret
        have h1 := spots1 (w.alloc (.cells #[.int .i64 L.K, .slice (some ⟨b, off, none⟩) L.n cap, .int .i64 L.C] 24)) k (p - sumI L.M k)
        rw [World.size_alloc] at h1
        refine ⟨_, rfl, ?_, hB.alloc hge _⟩
        rw [Hs.out.1]
        refine (h1.mono (by omega)).congr fun i _ => ?_
        rw [congrFun Hs.out.2 i, Hcat.out]
      · have hlt' : L.M k ≤ p - sumI L.M k := of_decide_eq_true hlt
        have hkn : k + 1 < L.n := by
          refine Classical.byContradiction fun h => ?_
          have hx : L.n = k + 1 := by omega
          rw [hx] at hp
          simp only [sumI] at hp
          omega
        have E1 := Lib.hid e1; clear e1
        go_wp2_with fail
        go_round
        case rel => exact ⟨k + 1, by omega, by go_num, by rw [E1.out], by simp only [sumI]; omega⟩
        case measure => simp [intOf]; omega
  · have b2 : (L.K == 2) = false := by rw [hK]; rfl
    have b3 : (L.K == 3) = true := by rw [hK]; rfl
    have b4 : (L.K == 4) = false := by rw [hK]; rfl
    have b5 : (L.K == 5) = false := by rw [hK]; rfl
    have hs : L.num' = 1 ∧ (fun i => L.at p i) = fun _ => (p / L.C % L.n, p / L.C / L.n * L.C + p % L.C) := by
      constructor
      · unfold Lay.num'; rw [hK]; rfl
      · funext i; unfold Lay.at; rw [hK]; rfl
    have Hs := Lib.hid hs; clear hs hK hkind hp hsz
    obtain ⟨q1, q2, q3, q4⟩ := quot_facts p L.C hp2 (by omega)
    obtain ⟨q5, q6, q7, q8⟩ := quot_facts (p / L.C) L.n (by omega) (by omega)
    have q9 := quot_mul (p / L.C) L.n L.C q2.1 (by omega) (by omega)
    have Q4 := Lib.hid q4; clear q4 q8
    have hcn := mul_bound (a := L.C) (b := L.n) (x := 64) (y := 6) (by omega) (by omega)
    have hcn1 : 1 * 1 ≤ L.C * (L.n : Int) := Int.mul_le_mul (by omega) (by omega) (by omega) (by omega)
    have hdd : p / (L.C * L.n) = p / L.C / L.n := ediv_two (by omega)
    have hcn0 : ¬ L.C * (L.n : Int) = 0 := by omega
    have w0 : IntKind.i64.wrap (Int.tdiv p L.C) = p / L.C := IntWalk.i64_quo _ _ (by omega)
    have w1 : IntKind.i64.wrap (L.C * L.n) = L.C * L.n := IntWalk.i64_in _ (by omega)
    have w2 : IntKind.i64.wrap (Int.tdiv p (L.C * L.n)) = p / L.C / L.n := by rw [IntWalk.i64_quo _ _ (by omega), hdd]
    have w3 : IntKind.i64.wrap (p / L.C / L.n * L.C) = p / L.C / L.n * L.C := IntWalk.i64_in _ (by have := Q4.out; omega)
    have w4 : IntKind.i64.wrap (p / L.C / L.n * L.C + p % L.C) = p / L.C / L.n * L.C + p % L.C := IntWalk.i64_in _ (by have := Q4.out; omega)
    go_upto_region 11 with fail
    generalize w.alloc (.cells #[.int .i64 L.K, .slice a L.n cap, .int .i64 L.C] 24) = W at *
    have hd : Below W.heap.size W W.drew := (Below.refl _ W).drew
    go_region_held (fun w' => Below W.heap.size W w') (first | exact hd | exact below_alloc1 hd _) (fail)
    go_wp2
    go_ret
    have h1 := (spots1 W (p / L.C % L.n) (p / L.C / L.n * L.C + p % L.C)).drewN 1
    refine ⟨_, rfl, ?_, hB.trans ((below_alloc1 (Below.refl _ W) _).drew.mono hge)⟩
    rw [Hs.out.1]
    exact (Spots.mono h1 hge).congr fun i _ => (congrFun Hs.out.2 i).symm
  · have b2 : (L.K == 2) = false := by rw [hK]; rfl
    have b3 : (L.K == 3) = false := by rw [hK]; rfl
    have b4 : (L.K == 4) = true := by rw [hK]; rfl
    have b5 : (L.K == 5) = false := by rw [hK]; rfl
    have hs : L.num' = L.n ∧ L.at p = fun i : Nat => ((i : Int), p) := by
      constructor
      · unfold Lay.num'; rw [hK]; rfl
      · funext i; unfold Lay.at; rw [hK]; rfl
    have Hs := Lib.hid hs; clear hs hK hkind hp hsz
    go_wp2_with fail
    generalize w.alloc (.cells #[.int .i64 L.K, .slice a L.n cap, .int .i64 L.C] 24) = W at *
    have hW0 : Spots W w.heap.size (.slice none 0 0) 0 (fun i : Nat => ((i : Int), p)) ∧ Below w.heap.size w W := ⟨Spots.nil _ _ _, hB⟩
    have HW0 := Lib.hid hW0; clear hW0 c0 c1 c2
    go_loopw [9, 8] (fun t u W => ∃ k : Nat, k ≤ L.n ∧ t = .int .i64 k ∧ Spots W w.heap.size u k (fun i : Nat => ((i : Int), p)) ∧ Below w.heap.size w W) (fun t _ _ => L.n - (intOf t).toNat)
    case atStart => exact ⟨0, by omega, rfl, HW0.out⟩
    case round =>
      obtain ⟨k, hk, rfl, hS, hb⟩ := hrel
      obtain ⟨a', c', rfl⟩ := hS.slice
      have HS := Lib.hid hS
      have Hb := Lib.hid hb; clear hS hb
      by_cases hlt : k < L.n
      · go_wp2_with (with_reducible refine stopB .append ?_)
        refine Hold.go ?_
        refine wpList_append_sp rfl _ _ rfl w.heap.size _ k (fun i : Nat => ((i : Int), p)) rfl (HS.out.alloc _) wr.heap.size 0 1 1 (fun _ => ((k : Int), p)) rfl (cells1 wr _ _) (by omega) (by have := Hb.out.size; simp; omega) ?_
        intro v' W3 hS' hgr
        have hb3 := (HS.out.alloc _).below (Hb.out.alloc Hb.out.size (.cells #[.int .i64 k, .int .i64 p] 45)) (by have := Hb.out.size; simp; omega) hgr
        obtain ⟨a3, c3, rfl⟩ := hS'.slice
        have Hn := Lib.hid (And.intro (hS'.snoc rfl) hb3)
        clear hS' hgr hb3
        go_wp2
        go_roundw
        case rel => exact ⟨k + 1, by omega, by go_num, Hn.out⟩
        case measure => simp [intOf]; omega
      · obtain rfl : k = L.n := by omega
        go_wp2
        go_ret
        exact ⟨_, rfl, by rw [Hs.out.1, Hs.out.2]; exact HS.out, Hb.out⟩
  · have b2 : (L.K == 2) = false := by rw [hK]; rfl
    have b3 : (L.K == 3) = false := by rw [hK]; rfl
    have b4 : (L.K == 4) = false := by rw [hK]; rfl
    have b5 : (L.K == 5) = true := by rw [hK]; rfl
    have hs : L.num' = 2 ∧ ∀ i, L.at p i = if i = 0 then ((p / L.C / (L.n - 1) % L.n + 1 + p / L.C % (L.n - 1)) % L.n, p / L.C / (L.n - 1) * L.C + p % L.C) else (p / L.C / (L.n - 1) % L.n, p / L.C / (L.n - 1) * L.C + p % L.C) := by
      constructor
      · unfold Lay.num'; rw [hK]; rfl
      · intro i; unfold Lay.at; rw [hK]; rfl
    have hn3 : (3 : Int) ≤ L.n := by have := HR.out.num.1; unfold Lay.lo at this; rw [hK] at this; exact this
    have Hs := Lib.hid hs; clear hs hK hkind hp hsz
    obtain ⟨q1, q2, q3, q4⟩ := quot_facts p L.C hp2 (by omega)
    obtain ⟨q5, q6, q7, q8⟩ := quot_facts (p / L.C) (L.n - 1) (by omega) (by omega)
    obtain ⟨r5, r6, r7, r8⟩ := quot_facts (p / L.C / (L.n - 1)) L.n (by omega) (by omega)
    obtain ⟨s5, s6, s7, s8⟩ := quot_facts (p / L.C / (L.n - 1) % L.n + 1 + p / L.C % (L.n - 1)) L.n (by omega) (by omega)
    have q9 := quot_mul (p / L.C) (L.n - 1) L.C q2.1 (by omega) (by omega)
    have q10 : p / L.C / (L.n - 1) * L.C + p % L.C ≤ p := by omega
    have hn4 : ¬ ((L.n : Int) - 1 = 0) := by omega
    clear q4 q8 r8 s8
    have hcn := mul_bound (a := L.C) (b := (L.n : Int) - 1) (x := 64) (y := 6) (by omega) (by omega)
    have hcn1 : 1 * 1 ≤ L.C * ((L.n : Int) - 1) := Int.mul_le_mul (by omega) (by omega) (by omega) (by omega)
    have hdd : p / (L.C * (L.n - 1)) = p / L.C / (L.n - 1) := ediv_two (by omega)
    go_wp2_with fail
    go_ret
    have h1 := spots2 (w.alloc (.cells #[.int .i64 L.K, .slice a L.n cap, .int .i64 L.C] 24)) ((p / L.C / (L.n - 1) % L.n + 1 + p / L.C % (L.n - 1)) % L.n) (p / L.C / (L.n - 1) * L.C + p % L.C) (p / L.C / (L.n - 1) % L.n) (p / L.C / (L.n - 1) * L.C + p % L.C)
    rw [World.size_alloc] at h1
    refine ⟨_, rfl, ?_, hB.alloc hge _⟩
    rw [Hs.out.1]
    exact (h1.mono (Nat.le_add_right _ 1)).congr fun i _ => (Hs.out.2 i).symm

end Go.Proofs.Ytlbohmfhdchabaa
