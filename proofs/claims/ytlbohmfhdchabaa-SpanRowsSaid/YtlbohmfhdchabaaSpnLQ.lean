/- Span: the law SpanRegions. -/
import Derived.Test.YtlbohmfhdchabaaSpnLJ
import Derived.Test.YtlbohmfhdchabaaSpnR8
namespace Go.Proofs.Ytlbohmfhdchabaa
open Go.RowKit

theorem Region_rng (L : Lay) (sl : Value) (p : Int) (w : World) (hs : IArg w sl L.n L.M) (hR : L.Right) (hp : ¬ (0 ≤ p ∧ p < L.size)) :
    Calls Try.prog 29 #[layV L sl, .int .i64 p] w fun e w' => e = .returned (.tuple #[.int .i64 0, .int .i64 24]) ∧ Below w.heap.size w w' :=
  (Region_any L sl p w hs).mono fun e w' h => by
    obtain ⟨(⟨-, h1, h2, -⟩ | ⟨-, -, rfl⟩ | ⟨hx, -⟩), hb⟩ := h
    · exact absurd ⟨h1, h2⟩ hp
    · exact ⟨rfl, hb⟩
    · exact absurd hR hx
theorem Region_bad (L : Lay) (sl : Value) (p : Int) (w : World) (hs : IArg w sl L.n L.M) (hR : ¬ L.Right) :
    Calls Try.prog 29 #[layV L sl, .int .i64 p] w fun e w' => e = .returned (.tuple #[.int .i64 0, .int .i64 1]) ∧ Below w.heap.size w w' :=
  (Region_any L sl p w hs).mono fun e w' h => by
    obtain ⟨(⟨hx, -⟩ | ⟨hx, -⟩ | ⟨-, rfl⟩), hb⟩ := h
    · exact absurd hx hR
    · exact absurd hx hR
    · exact ⟨rfl, hb⟩
theorem Members_rng (L : Lay) (sl : Value) (p : Int) (w : World) (hs : IArg w sl L.n L.M) (hR : L.Right) (hp : ¬ (0 ≤ p ∧ p < L.regn)) :
    Calls Try.prog 28 #[layV L sl, .int .i64 p] w fun e w' => e = .returned (.tuple #[.slice none 0 0, .int .i64 24]) ∧ Below w.heap.size w w' :=
  (Members_any L sl p w hs).mono fun e w' h => by
    obtain ⟨(⟨-, h1, h2, -⟩ | ⟨-, -, rfl⟩ | ⟨hx, -⟩), hb⟩ := h
    · exact absurd ⟨h1, h2⟩ hp
    · exact ⟨rfl, hb⟩
    · exact absurd hR hx
theorem Members_bad (L : Lay) (sl : Value) (p : Int) (w : World) (hs : IArg w sl L.n L.M) (hR : ¬ L.Right) :
    Calls Try.prog 28 #[layV L sl, .int .i64 p] w fun e w' => e = .returned (.tuple #[.slice none 0 0, .int .i64 1]) ∧ Below w.heap.size w w' :=
  (Members_any L sl p w hs).mono fun e w' h => by
    obtain ⟨(⟨hx, -⟩ | ⟨hx, -⟩ | ⟨-, rfl⟩), hb⟩ := h
    · exact absurd hx hR
    · exact absurd hx hR
    · exact ⟨rfl, hb⟩
theorem Region_ok (L : Lay) (sl : Value) (p : Int) (w : World) (hs : IArg w sl L.n L.M) (hR : L.Right) (hp : 0 ≤ p ∧ p < L.size) :
    Calls Try.prog 29 #[layV L sl, .int .i64 p] w fun e w' => e = .returned (.tuple #[.int .i64 (L.reg p), .int .i64 0]) ∧ Below w.heap.size w w' :=
  (Region_any L sl p w hs).mono fun e w' h => by
    obtain ⟨(⟨-, -, -, rfl⟩ | ⟨-, hx, -⟩ | ⟨hx, -⟩), hb⟩ := h
    · exact ⟨rfl, hb⟩
    · exact absurd hp hx
    · exact absurd hR hx
theorem Members_ok (L : Lay) (sl : Value) (p : Int) (w : World) (hs : IArg w sl L.n L.M) (hR : L.Right) (hp : 0 ≤ p ∧ p < L.regn) :
    Calls Try.prog 28 #[layV L sl, .int .i64 p] w fun e w' => ∃ v, e = .returned (.tuple #[v, .int .i64 0]) ∧ Spots w' w.heap.size v (L.n * L.memM p) (nthSpot (p * L.C) (L.memM p)) ∧ Below w.heap.size w w' :=
  (Members_any L sl p w hs).mono fun e w' h => by
    obtain ⟨(⟨-, -, -, v, rfl, hS⟩ | ⟨-, hx, -⟩ | ⟨hx, -⟩), hb⟩ := h
    · exact ⟨v, rfl, hS, hb⟩
    · exact absurd hp hx
    · exact absurd hR hx
theorem Regions_ok (L : Lay) (sl : Value) (w : World) (hs : IArg w sl L.n L.M) (hR : L.Right) :
    Calls Try.prog 27 #[layV L sl] w fun e w' => e = .returned (.tuple #[.int .i64 L.regn, .int .i64 0]) ∧ Below w.heap.size w w' :=
  (Regions_any L sl w hs).mono fun e w' h => by
    obtain ⟨(⟨-, rfl⟩ | ⟨hx, -⟩), hb⟩ := h
    · exact ⟨rfl, hb⟩
    · exact absurd hR hx
theorem Regions_bad (L : Lay) (sl : Value) (w : World) (hs : IArg w sl L.n L.M) (hR : ¬ L.Right) :
    Calls Try.prog 27 #[layV L sl] w fun e w' => e = .returned (.tuple #[.int .i64 0, .int .i64 1]) ∧ Below w.heap.size w w' :=
  (Regions_any L sl w hs).mono fun e w' h => by
    obtain ⟨(⟨hx, -⟩ | ⟨-, rfl⟩), hb⟩ := h
    · exact absurd hx hR
    · exact ⟨rfl, hb⟩

set_option maxRecDepth 8000 in
set_option maxHeartbeats 16000000 in
theorem SpanRegions_any (L : Lay) (sl : Value) (p r : Int) (w : World) (hs : IArg w sl L.n L.M) : Calls Try.prog 6 #[layV L sl, .int .i64 p, .int .i64 r] w (TrueR w) := by
  obtain ⟨hW, hr, hB⟩ := lay_setup hs
  obtain ⟨c0, c1, c2⟩ := row3_cells hr
  obtain ⟨a, cap, rfl⟩ := hs.slice
  have HL := Lib.hid (show LayAt w L a cap _ from ⟨hr, hW, hB⟩)
  clear hW hs hr hB
  unfold layV
  go_enter Try.func6, Try.ntmps6
  go_wp2_with fail
  generalize w.alloc (.cells #[.int .i64 L.K, .slice a L.n cap, .int .i64 L.C] 24) = W at *
  refine (few_any L _ W HL.out.arg).mono ?_
  rintro e w1 ⟨(⟨hF, rfl⟩ | ⟨hnF, rfl⟩), hb⟩
  rotate_left 1
  · clear hnF
    go_wp2_with fail
    refine (sanity_any _).mono ?_
    rintro e w2 ⟨rfl, hb2⟩
    go_wp2
    go_ret
    exact ⟨rfl, ((HL.out.all hb).all hb2).bel⟩
  have HF := Lib.hid hF; clear hF
  replace HL := Lib.hid (HL.out.all hb)
  clear c0 c1 c2 hb
  obtain ⟨c0, c1, c2⟩ := HL.out.cells
  by_cases hR : L.Right
  · have HR := Lib.hid hR; clear hR
    have hsz := HR.out.sizes
    have hrn := regn_bounds HR.out
    go_wp2_with fail
    refine (rCheck_ok L _ w1 HL.out.arg HF.out HR.out).mono ?_
    rintro e w2 ⟨rfl, hb⟩
    replace HL := Lib.hid (HL.out.all hb)
    clear c0 c1 c2 hb
    obtain ⟨c0, c1, c2⟩ := HL.out.cells
    by_cases hp : 0 ≤ p ∧ p < L.size
    · obtain ⟨hp0, hp1⟩ := hp
      go_wp2_with fail
      refine (Region_ok L _ p w2 HL.out.arg HR.out ⟨hp0, hp1⟩).mono ?_
      rintro e w3 ⟨rfl, hb⟩
      replace HL := Lib.hid (HL.out.all hb)
      clear c0 c1 c2 hb
      obtain ⟨c0, c1, c2⟩ := HL.out.cells
      go_wp2_with fail
      refine (Regions_ok L _ w3 HL.out.arg HR.out).mono ?_
      rintro e w4 ⟨rfl, hb⟩
      replace HL := Lib.hid (HL.out.all hb)
      clear c0 c1 c2 hb
      obtain ⟨c0, c1, c2⟩ := HL.out.cells
      by_cases hr : 0 ≤ r ∧ r < L.regn
      · obtain ⟨hr0, hr1⟩ := hr
        go_wp2_with fail
        refine (Members_ok L _ r w4 HL.out.arg HR.out ⟨hr0, hr1⟩).mono ?_
        rintro e w5 ⟨v, rfl, hP, hb⟩
        replace HL := Lib.hid (HL.out.all hb)
        clear c0 c1 c2 hb
        obtain ⟨c0, c1, c2⟩ := HL.out.cells
        obtain ⟨av, cv, rfl⟩ := hP.slice
        have HP := Lib.hid hP.at; clear hP
        have hmm := mem_len HR.out ⟨hr0, hr1⟩
        go_wp2_with fail
        refine (rRegions_any L _ w5 HL.out.arg HR.out).mono ?_
        rintro e w6 ⟨rfl, hb⟩
        replace HL := Lib.hid (HL.out.all hb)
        replace HP := Lib.hid (HP.out.all hb)
        clear c0 c1 c2 hb
        obtain ⟨c0, c1, c2⟩ := HL.out.cells
        rw [← regn_ref HR.out]
        go_wp2_with fail
        refine (rSize_any L _ w6 HL.out.arg HR.out).mono ?_
        rintro e w7 ⟨rfl, hb⟩
        replace HL := Lib.hid (HL.out.all hb)
        replace HP := Lib.hid (HP.out.all hb)
        clear c0 c1 c2 hb
        obtain ⟨c0, c1, c2⟩ := HL.out.cells
        go_wp2_with fail
        refine (rRegion_any L _ p w7 HL.out.arg HR.out ⟨hp0, hp1⟩).mono ?_
        rintro e w8 ⟨rfl, hb⟩
        replace HL := Lib.hid (HL.out.all hb)
        replace HP := Lib.hid (HP.out.all hb)
        clear c0 c1 c2 hb
        obtain ⟨c0, c1, c2⟩ := HL.out.cells
        rw [← reg_ref HR.out ⟨hp0, hp1⟩]
        go_wp2_with fail
        refine (sanity_any w8).mono ?_
        rintro e w9 ⟨rfl, hb⟩
        replace HL := Lib.hid (HL.out.all hb)
        replace HP := Lib.hid (HP.out.all hb)
        clear c0 c1 c2 hb
        obtain ⟨c0, c1, c2⟩ := HL.out.cells
        go_wp2_with fail
        refine (rMembers_any L _ r w9 HL.out.arg HR.out ⟨hr0, hr1⟩).mono ?_
        rintro e w10 ⟨u, rfl, hQ, hb⟩
        replace HL := Lib.hid (HL.out.all hb)
        replace HP := Lib.hid (HP.out.all hb)
        clear c0 c1 c2 hb
        obtain ⟨c0, c1, c2⟩ := HL.out.cells
        obtain ⟨au, cu, rfl⟩ := hQ.slice
        have HQ := Lib.hid hQ.at; clear hQ
        go_wp2_with fail
        refine (Same_any _ _ _ _ _ _ w10 HP.out HQ.out (by omega) (by omega)).mono ?_
        rintro e w11 ⟨rfl, hb⟩
        replace HL := Lib.hid (HL.out.all hb)
        replace HP := Lib.hid (HP.out.all hb)
        replace HQ := Lib.hid (HQ.out.all hb)
        clear c0 c1 c2 hb
        obtain ⟨c0, c1, c2⟩ := HL.out.cells
        rw [sameSp_true rfl (fun _ _ => rfl)]
        go_wp2
        go_ret
        exact ⟨rfl, HL.out.bel⟩
      · have hrd : r < 0 ∨ (0 ≤ r ∧ L.regn ≤ r) := by omega
        have Hr := Lib.hid hr; clear hr
        go_wp2_with fail
        refine (Members_rng L _ r w4 HL.out.arg HR.out Hr.out).mono ?_
        rintro e w5 ⟨rfl, hb⟩
        replace HL := Lib.hid (HL.out.all hb)
        clear c0 c1 c2 hb
        obtain ⟨c0, c1, c2⟩ := HL.out.cells
        go_wp2_with fail
        refine (rRegions_any L _ w5 HL.out.arg HR.out).mono ?_
        rintro e w6 ⟨rfl, hb⟩
        replace HL := Lib.hid (HL.out.all hb)
        clear c0 c1 c2 hb
        obtain ⟨c0, c1, c2⟩ := HL.out.cells
        rw [← regn_ref HR.out]
        go_wp2_with fail
        refine (rSize_any L _ w6 HL.out.arg HR.out).mono ?_
        rintro e w7 ⟨rfl, hb⟩
        replace HL := Lib.hid (HL.out.all hb)
        clear c0 c1 c2 hb
        obtain ⟨c0, c1, c2⟩ := HL.out.cells
        go_wp2_with fail
        refine (rRegion_any L _ p w7 HL.out.arg HR.out ⟨hp0, hp1⟩).mono ?_
        rintro e w8 ⟨rfl, hb⟩
        replace HL := Lib.hid (HL.out.all hb)
        clear c0 c1 c2 hb
        obtain ⟨c0, c1, c2⟩ := HL.out.cells
        rw [← reg_ref HR.out ⟨hp0, hp1⟩]
        rcases hrd with hrd | ⟨hr0, hr1⟩
        · skip
          go_wp2_with fail
          refine (sanity_any w8).mono ?_
          rintro e w9 ⟨rfl, hb⟩
          replace HL := Lib.hid (HL.out.all hb)
          clear c0 c1 c2 hb
          obtain ⟨c0, c1, c2⟩ := HL.out.cells
          go_wp2
          go_ret
          exact ⟨rfl, HL.out.bel⟩
        · skip
          go_wp2_with fail
          refine (sanity_any w8).mono ?_
          rintro e w9 ⟨rfl, hb⟩
          replace HL := Lib.hid (HL.out.all hb)
          clear c0 c1 c2 hb
          obtain ⟨c0, c1, c2⟩ := HL.out.cells
          go_wp2
          go_ret
          exact ⟨rfl, HL.out.bel⟩
    · have hpd : p < 0 ∨ (0 ≤ p ∧ L.size ≤ p) := by omega
      have Hp := Lib.hid hp; clear hp
      go_wp2_with fail
      refine (Region_rng L _ p w2 HL.out.arg HR.out Hp.out).mono ?_
      rintro e w3 ⟨rfl, hb⟩
      replace HL := Lib.hid (HL.out.all hb)
      clear c0 c1 c2 hb
      obtain ⟨c0, c1, c2⟩ := HL.out.cells
      go_wp2_with fail
      refine (Regions_ok L _ w3 HL.out.arg HR.out).mono ?_
      rintro e w4 ⟨rfl, hb⟩
      replace HL := Lib.hid (HL.out.all hb)
      clear c0 c1 c2 hb
      obtain ⟨c0, c1, c2⟩ := HL.out.cells
      by_cases hr : 0 ≤ r ∧ r < L.regn
      · obtain ⟨hr0, hr1⟩ := hr
        go_wp2_with fail
        refine (Members_ok L _ r w4 HL.out.arg HR.out ⟨hr0, hr1⟩).mono ?_
        rintro e w5 ⟨v, rfl, hP, hb⟩
        replace HL := Lib.hid (HL.out.all hb)
        clear c0 c1 c2 hb
        obtain ⟨c0, c1, c2⟩ := HL.out.cells
        obtain ⟨av, cv, rfl⟩ := hP.slice
        have HP := Lib.hid hP.at; clear hP
        have hmm := mem_len HR.out ⟨hr0, hr1⟩
        go_wp2_with fail
        refine (rRegions_any L _ w5 HL.out.arg HR.out).mono ?_
        rintro e w6 ⟨rfl, hb⟩
        replace HL := Lib.hid (HL.out.all hb)
        replace HP := Lib.hid (HP.out.all hb)
        clear c0 c1 c2 hb
        obtain ⟨c0, c1, c2⟩ := HL.out.cells
        rw [← regn_ref HR.out]
        rcases hpd with hpd | ⟨hp0, hp1⟩
        · skip
          go_wp2_with fail
          refine (sanity_any w6).mono ?_
          rintro e w7 ⟨rfl, hb⟩
          replace HL := Lib.hid (HL.out.all hb)
          replace HP := Lib.hid (HP.out.all hb)
          clear c0 c1 c2 hb
          obtain ⟨c0, c1, c2⟩ := HL.out.cells
          go_wp2_with fail
          refine (rMembers_any L _ r w7 HL.out.arg HR.out ⟨hr0, hr1⟩).mono ?_
          rintro e w8 ⟨u, rfl, hQ, hb⟩
          replace HL := Lib.hid (HL.out.all hb)
          replace HP := Lib.hid (HP.out.all hb)
          clear c0 c1 c2 hb
          obtain ⟨c0, c1, c2⟩ := HL.out.cells
          obtain ⟨au, cu, rfl⟩ := hQ.slice
          have HQ := Lib.hid hQ.at; clear hQ
          go_wp2_with fail
          refine (Same_any _ _ _ _ _ _ w8 HP.out HQ.out (by omega) (by omega)).mono ?_
          rintro e w9 ⟨rfl, hb⟩
          replace HL := Lib.hid (HL.out.all hb)
          replace HP := Lib.hid (HP.out.all hb)
          replace HQ := Lib.hid (HQ.out.all hb)
          clear c0 c1 c2 hb
          obtain ⟨c0, c1, c2⟩ := HL.out.cells
          rw [sameSp_true rfl (fun _ _ => rfl)]
          go_wp2
          go_ret
          exact ⟨rfl, HL.out.bel⟩
        · skip
          go_wp2_with fail
          refine (rSize_any L _ w6 HL.out.arg HR.out).mono ?_
          rintro e w7 ⟨rfl, hb⟩
          replace HL := Lib.hid (HL.out.all hb)
          replace HP := Lib.hid (HP.out.all hb)
          clear c0 c1 c2 hb
          obtain ⟨c0, c1, c2⟩ := HL.out.cells
          go_wp2_with fail
          refine (sanity_any w7).mono ?_
          rintro e w8 ⟨rfl, hb⟩
          replace HL := Lib.hid (HL.out.all hb)
          replace HP := Lib.hid (HP.out.all hb)
          clear c0 c1 c2 hb
          obtain ⟨c0, c1, c2⟩ := HL.out.cells
          go_wp2_with fail
          refine (rMembers_any L _ r w8 HL.out.arg HR.out ⟨hr0, hr1⟩).mono ?_
          rintro e w9 ⟨u, rfl, hQ, hb⟩
          replace HL := Lib.hid (HL.out.all hb)
          replace HP := Lib.hid (HP.out.all hb)
          clear c0 c1 c2 hb
          obtain ⟨c0, c1, c2⟩ := HL.out.cells
          obtain ⟨au, cu, rfl⟩ := hQ.slice
          have HQ := Lib.hid hQ.at; clear hQ
          go_wp2_with fail
          refine (Same_any _ _ _ _ _ _ w9 HP.out HQ.out (by omega) (by omega)).mono ?_
          rintro e w10 ⟨rfl, hb⟩
          replace HL := Lib.hid (HL.out.all hb)
          replace HP := Lib.hid (HP.out.all hb)
          replace HQ := Lib.hid (HQ.out.all hb)
          clear c0 c1 c2 hb
          obtain ⟨c0, c1, c2⟩ := HL.out.cells
          rw [sameSp_true rfl (fun _ _ => rfl)]
          go_wp2
          go_ret
          exact ⟨rfl, HL.out.bel⟩
      · have hrd : r < 0 ∨ (0 ≤ r ∧ L.regn ≤ r) := by omega
        have Hr := Lib.hid hr; clear hr
        go_wp2_with fail
        refine (Members_rng L _ r w4 HL.out.arg HR.out Hr.out).mono ?_
        rintro e w5 ⟨rfl, hb⟩
        replace HL := Lib.hid (HL.out.all hb)
        clear c0 c1 c2 hb
        obtain ⟨c0, c1, c2⟩ := HL.out.cells
        go_wp2_with fail
        refine (rRegions_any L _ w5 HL.out.arg HR.out).mono ?_
        rintro e w6 ⟨rfl, hb⟩
        replace HL := Lib.hid (HL.out.all hb)
        clear c0 c1 c2 hb
        obtain ⟨c0, c1, c2⟩ := HL.out.cells
        rw [← regn_ref HR.out]
        rcases hpd with hpd | ⟨hp0, hp1⟩
        · skip
          rcases hrd with hrd | ⟨hr0, hr1⟩
          · skip
            go_wp2_with fail
            refine (sanity_any w6).mono ?_
            rintro e w7 ⟨rfl, hb⟩
            replace HL := Lib.hid (HL.out.all hb)
            clear c0 c1 c2 hb
            obtain ⟨c0, c1, c2⟩ := HL.out.cells
            go_wp2
            go_ret
            exact ⟨rfl, HL.out.bel⟩
          · skip
            go_wp2_with fail
            refine (sanity_any w6).mono ?_
            rintro e w7 ⟨rfl, hb⟩
            replace HL := Lib.hid (HL.out.all hb)
            clear c0 c1 c2 hb
            obtain ⟨c0, c1, c2⟩ := HL.out.cells
            go_wp2
            go_ret
            exact ⟨rfl, HL.out.bel⟩
        · skip
          go_wp2_with fail
          refine (rSize_any L _ w6 HL.out.arg HR.out).mono ?_
          rintro e w7 ⟨rfl, hb⟩
          replace HL := Lib.hid (HL.out.all hb)
          clear c0 c1 c2 hb
          obtain ⟨c0, c1, c2⟩ := HL.out.cells
          rcases hrd with hrd | ⟨hr0, hr1⟩
          · skip
            go_wp2_with fail
            refine (sanity_any w7).mono ?_
            rintro e w8 ⟨rfl, hb⟩
            replace HL := Lib.hid (HL.out.all hb)
            clear c0 c1 c2 hb
            obtain ⟨c0, c1, c2⟩ := HL.out.cells
            go_wp2
            go_ret
            exact ⟨rfl, HL.out.bel⟩
          · skip
            go_wp2_with fail
            refine (sanity_any w7).mono ?_
            rintro e w8 ⟨rfl, hb⟩
            replace HL := Lib.hid (HL.out.all hb)
            clear c0 c1 c2 hb
            obtain ⟨c0, c1, c2⟩ := HL.out.cells
            go_wp2
            go_ret
            exact ⟨rfl, HL.out.bel⟩
  · have HR := Lib.hid hR; clear hR
    go_wp2_with fail
    refine (rCheck_bad L _ w1 HL.out.arg HF.out HR.out).mono ?_
    rintro e w2 ⟨rfl, hb⟩
    replace HL := Lib.hid (HL.out.all hb)
    clear c0 c1 c2 hb
    obtain ⟨c0, c1, c2⟩ := HL.out.cells
    go_wp2_with fail
    refine (Region_bad L _ p w2 HL.out.arg HR.out).mono ?_
    rintro e w3 ⟨rfl, hb⟩
    replace HL := Lib.hid (HL.out.all hb)
    clear c0 c1 c2 hb
    obtain ⟨c0, c1, c2⟩ := HL.out.cells
    go_wp2_with fail
    refine (Regions_bad L _ w3 HL.out.arg HR.out).mono ?_
    rintro e w4 ⟨rfl, hb⟩
    replace HL := Lib.hid (HL.out.all hb)
    clear c0 c1 c2 hb
    obtain ⟨c0, c1, c2⟩ := HL.out.cells
    go_wp2_with fail
    refine (Members_bad L _ r w4 HL.out.arg HR.out).mono ?_
    rintro e w5 ⟨rfl, hb⟩
    replace HL := Lib.hid (HL.out.all hb)
    clear c0 c1 c2 hb
    obtain ⟨c0, c1, c2⟩ := HL.out.cells
    go_wp2_with fail
    refine (sanity_any w5).mono ?_
    rintro e w6 ⟨rfl, hb⟩
    replace HL := Lib.hid (HL.out.all hb)
    clear c0 c1 c2 hb
    obtain ⟨c0, c1, c2⟩ := HL.out.cells
    go_wp2
    go_ret
    exact ⟨rfl, HL.out.bel⟩

end Go.Proofs.Ytlbohmfhdchabaa
