/- Span: the law SpanPlaces. -/
import Derived.Test.YtlbohmfhdchabaaSpnLE
import Derived.Test.YtlbohmfhdchabaaSpnR4
import Derived.Test.YtlbohmfhdchabaaSpnBox
import Derived.Test.YtlbohmfhdchabaaSpnLO
import Derived.Test.YtlbohmfhdchabaaSpnLN
namespace Go.Proofs.Ytlbohmfhdchabaa
open Go.RowKit

theorem rCheck_ok (L : Lay) (sl : Value) (w : World) (hs : IArg w sl L.n L.M) (hF : L.Few) (hR : L.Right) :
    Calls Try.prog 14 #[layV L sl] w fun e w' => e = .returned (.int .i64 0) ∧ Below w.heap.size w w' :=
  (rCheck_any L sl w hs (by have := hF.1; omega)).mono fun e w' h => by
    obtain ⟨(⟨-, rfl⟩ | ⟨hx, -⟩), hb⟩ := h
    · exact ⟨rfl, hb⟩
    · exact absurd hR hx
theorem rCheck_bad (L : Lay) (sl : Value) (w : World) (hs : IArg w sl L.n L.M) (hF : L.Few) (hR : ¬ L.Right) :
    Calls Try.prog 14 #[layV L sl] w fun e w' => e = .returned (.int .i64 1) ∧ Below w.heap.size w w' :=
  (rCheck_any L sl w hs (by have := hF.1; omega)).mono fun e w' h => by
    obtain ⟨(⟨hx, -⟩ | ⟨-, rfl⟩), hb⟩ := h
    · exact absurd hx hR
    · exact ⟨rfl, hb⟩
theorem Check_ok (L : Lay) (sl : Value) (w : World) (hs : IArg w sl L.n L.M) (hR : L.Right) :
    Calls Try.prog 18 #[layV L sl] w fun e w' => e = .returned (.int .i64 0) ∧ Below w.heap.size w w' :=
  (Check_any L sl w hs).mono fun e w' h => by
    obtain ⟨(⟨-, rfl⟩ | ⟨hx, -⟩), hb⟩ := h
    · exact ⟨rfl, hb⟩
    · exact absurd hR hx
theorem Check_bad (L : Lay) (sl : Value) (w : World) (hs : IArg w sl L.n L.M) (hR : ¬ L.Right) :
    Calls Try.prog 18 #[layV L sl] w fun e w' => e = .returned (.int .i64 1) ∧ Below w.heap.size w w' :=
  (Check_any L sl w hs).mono fun e w' h => by
    obtain ⟨(⟨hx, -⟩ | ⟨-, rfl⟩), hb⟩ := h
    · exact absurd hx hR
    · exact ⟨rfl, hb⟩
theorem Size_right (L : Lay) (sl : Value) (w : World) (hs : IArg w sl L.n L.M) (hR : L.Right) :
    Calls Try.prog 15 #[layV L sl] w fun e w' => e = .returned (.tuple #[.int .i64 L.size, .int .i64 0]) ∧ Below w.heap.size w w' :=
  (Size_any L sl w hs).mono fun e w' h => by
    obtain ⟨(⟨-, rfl⟩ | ⟨hx, -⟩), hb⟩ := h
    · exact ⟨rfl, hb⟩
    · exact absurd hR hx
theorem Size_bad (L : Lay) (sl : Value) (w : World) (hs : IArg w sl L.n L.M) (hR : ¬ L.Right) :
    Calls Try.prog 15 #[layV L sl] w fun e w' => e = .returned (.tuple #[.int .i64 0, .int .i64 1]) ∧ Below w.heap.size w w' :=
  (Size_any L sl w hs).mono fun e w' h => by
    obtain ⟨(⟨hx, -⟩ | ⟨-, rfl⟩), hb⟩ := h
    · exact absurd hx hR
    · exact ⟨rfl, hb⟩
theorem Place_rng (L : Lay) (sl : Value) (p : Int) (w : World) (hs : IArg w sl L.n L.M) (hR : L.Right) (hp : ¬ (0 ≤ p ∧ p < L.size)) :
    Calls Try.prog 16 #[layV L sl, .int .i64 p] w fun e w' => e = .returned (.tuple #[.slice none 0 0, .int .i64 24]) ∧ Below w.heap.size w w' :=
  (Place_any L sl p w hs).mono fun e w' h => by
    obtain ⟨(⟨-, h1, h2, -⟩ | ⟨-, -, rfl⟩ | ⟨hx, -⟩), hb⟩ := h
    · exact absurd ⟨h1, h2⟩ hp
    · exact ⟨rfl, hb⟩
    · exact absurd hR hx
theorem Place_bad (L : Lay) (sl : Value) (p : Int) (w : World) (hs : IArg w sl L.n L.M) (hR : ¬ L.Right) :
    Calls Try.prog 16 #[layV L sl, .int .i64 p] w fun e w' => e = .returned (.tuple #[.slice none 0 0, .int .i64 1]) ∧ Below w.heap.size w w' :=
  (Place_any L sl p w hs).mono fun e w' h => by
    obtain ⟨(⟨hx, -⟩ | ⟨hx, -⟩ | ⟨-, rfl⟩), hb⟩ := h
    · exact absurd hx hR
    · exact absurd hx hR
    · exact ⟨rfl, hb⟩
theorem Row_ok (L : Lay) (sl : Value) (p : Int) (w : World) (hs : IArg w sl L.n L.M) (hR : L.Right) (hp : 0 ≤ p ∧ p < L.size) :
    Calls Try.prog 17 #[layV L sl, .int .i64 p] w fun e w' => ∃ v, e = .returned (.tuple #[v, .int .i64 0]) ∧ Own w' w.heap.size 3 v L.rowN (intsV (L.rowF p)) ∧ Below w.heap.size w w' :=
  (Row_any L sl p w hs).mono fun e w' h => by
    obtain ⟨(⟨-, -, -, v, rfl, hS⟩ | ⟨-, hx, -⟩ | ⟨hx, -⟩), hb⟩ := h
    · exact ⟨v, rfl, hS, hb⟩
    · exact absurd hp hx
    · exact absurd hR hx
theorem Row_rng (L : Lay) (sl : Value) (p : Int) (w : World) (hs : IArg w sl L.n L.M) (hR : L.Right) (hp : ¬ (0 ≤ p ∧ p < L.size)) :
    Calls Try.prog 17 #[layV L sl, .int .i64 p] w fun e w' => e = .returned (.tuple #[.slice none 0 0, .int .i64 24]) ∧ Below w.heap.size w w' :=
  (Row_any L sl p w hs).mono fun e w' h => by
    obtain ⟨(⟨-, h1, h2, -⟩ | ⟨-, -, rfl⟩ | ⟨hx, -⟩), hb⟩ := h
    · exact absurd ⟨h1, h2⟩ hp
    · exact ⟨rfl, hb⟩
    · exact absurd hR hx
theorem Row_bad (L : Lay) (sl : Value) (p : Int) (w : World) (hs : IArg w sl L.n L.M) (hR : ¬ L.Right) :
    Calls Try.prog 17 #[layV L sl, .int .i64 p] w fun e w' => e = .returned (.tuple #[.slice none 0 0, .int .i64 1]) ∧ Below w.heap.size w w' :=
  (Row_any L sl p w hs).mono fun e w' h => by
    obtain ⟨(⟨hx, -⟩ | ⟨hx, -⟩ | ⟨-, rfl⟩), hb⟩ := h
    · exact absurd hx hR
    · exact absurd hx hR
    · exact ⟨rfl, hb⟩

set_option maxRecDepth 8000 in
set_option maxHeartbeats 16000000 in
theorem SpanPlaces_any (L : Lay) (sl : Value) (p : Int) (w : World) (hs : IArg w sl L.n L.M) : Calls Try.prog 3 #[layV L sl, .int .i64 p] w (TrueR w) := by
  obtain ⟨hW, hr, hB⟩ := lay_setup hs
  obtain ⟨c0, c1, c2⟩ := row3_cells hr
  obtain ⟨a, cap, rfl⟩ := hs.slice
  have HL := Lib.hid (show LayAt w L a cap _ from ⟨hr, hW, hB⟩)
  clear hW hs hr hB
  unfold layV
  go_enter Try.func3, Try.ntmps3
  go_wp2_with fail
  generalize w.alloc (.cells #[.int .i64 L.K, .slice a L.n cap, .int .i64 L.C] 24) = W at *
  refine (few_any L _ W HL.out.arg).mono ?_
  rintro e w1 ⟨(⟨hF, rfl⟩ | ⟨hnF, rfl⟩), hb⟩
  rotate_left 1
  · clear hnF
    go_wp2_with fail
    refine (sanity_any _).mono ?_
    rintro e w2 ⟨rfl, hb2⟩
    go_wp2
    go_ret
    exact ⟨rfl, ((HL.out.all hb).all hb2).bel⟩
  have HF := Lib.hid hF; clear hF
  replace HL := Lib.hid (HL.out.all hb)
  clear c0 c1 c2 hb
  obtain ⟨c0, c1, c2⟩ := HL.out.cells
  go_wp2_with fail
  by_cases hR : L.Right
  · have HR := Lib.hid hR; clear hR
    refine (rCheck_ok L _ w1 HL.out.arg HF.out HR.out).mono ?_
    rintro e w2 ⟨rfl, hb⟩
    replace HL := Lib.hid (HL.out.all hb)
    clear c0 c1 c2 hb
    obtain ⟨c0, c1, c2⟩ := HL.out.cells
    have hsz := HR.out.sizes
    go_wp2_with fail
    refine (Size_right L _ w2 HL.out.arg HR.out).mono ?_
    rintro e w3 ⟨rfl, hb⟩
    replace HL := Lib.hid (HL.out.all hb)
    clear c0 c1 c2 hb
    obtain ⟨c0, c1, c2⟩ := HL.out.cells
    go_wp2_with fail
    by_cases hp : 0 ≤ p ∧ p < L.size
    · obtain ⟨hp0, hp1⟩ := hp
      refine (Place_ok L _ p w3 HL.out.arg HR.out ⟨hp0, hp1⟩).mono ?_
      rintro e w4 ⟨v, rfl, hS, hb⟩
      replace HL := Lib.hid (HL.out.all hb)
      clear c0 c1 c2 hb
      obtain ⟨c0, c1, c2⟩ := HL.out.cells
      have HS := Lib.hid hS.at; clear hS
      go_wp2_with fail
      refine (Row_ok L _ p w4 HL.out.arg HR.out ⟨hp0, hp1⟩).mono ?_
      rintro e w5 ⟨u, rfl, hO, hb⟩
      replace HL := Lib.hid (HL.out.all hb)
      replace HS := Lib.hid (HS.out.all hb)
      clear c0 c1 c2 hb
      obtain ⟨c0, c1, c2⟩ := HL.out.cells
      have HO := Lib.hid hO.intsAt; clear hO
      go_wp2_with fail
      refine (Check_ok L _ w5 HL.out.arg HR.out).mono ?_
      rintro e w6 ⟨rfl, hb⟩
      replace HL := Lib.hid (HL.out.all hb)
      replace HS := Lib.hid (HS.out.all hb)
      replace HO := Lib.hid (HO.out.all hb)
      clear c0 c1 c2 hb
      obtain ⟨c0, c1, c2⟩ := HL.out.cells
      go_wp2_with fail
      refine (rSize_any L _ w6 HL.out.arg HR.out).mono ?_
      rintro e w7 ⟨rfl, hb⟩
      replace HL := Lib.hid (HL.out.all hb)
      replace HS := Lib.hid (HS.out.all hb)
      replace HO := Lib.hid (HO.out.all hb)
      clear c0 c1 c2 hb
      obtain ⟨c0, c1, c2⟩ := HL.out.cells
      go_wp2_with fail
      refine (sanity_any _).mono ?_
      rintro e w8 ⟨rfl, hb⟩
      replace HL := Lib.hid (HL.out.all hb)
      replace HS := Lib.hid (HS.out.all hb)
      replace HO := Lib.hid (HO.out.all hb)
      clear c0 c1 c2 hb
      obtain ⟨c0, c1, c2⟩ := HL.out.cells
      obtain ⟨a1, cap1, rfl⟩ := HS.out.slice
      obtain ⟨a2, cap2, rfl⟩ := HO.out.slice
      go_wp2_with fail
      refine (rPlace_any L _ p w8 HL.out.arg HR.out ⟨hp0, hp1⟩).mono ?_
      rintro e w9 ⟨v9, rfl, hS9, hb⟩
      replace HL := Lib.hid (HL.out.all hb)
      replace HS := Lib.hid (HS.out.all hb)
      replace HO := Lib.hid (HO.out.all hb)
      clear c0 c1 c2 hb
      obtain ⟨c0, c1, c2⟩ := HL.out.cells
      have hn6 := HR.out.num_six
      have hr6 := (row_len HR.out).2
      obtain ⟨a9, cap9, rfl⟩ := hS9.slice
      have HS9 := Lib.hid hS9.at; clear hS9
      go_wp2_with fail
      refine (Same_any _ _ _ _ _ _ w9 HS.out HS9.out (by omega) (by omega)).mono ?_
      rintro e w10 ⟨rfl, hb⟩
      rw [sameSp_true rfl (fun _ _ => rfl)]
      replace HL := Lib.hid (HL.out.all hb)
      replace HO := Lib.hid (HO.out.all hb)
      clear c0 c1 c2 hb HS HS9
      obtain ⟨c0, c1, c2⟩ := HL.out.cells
      go_wp2_with fail
      refine (rRow_any L _ p w10 HL.out.arg HR.out ⟨hp0, hp1⟩).mono ?_
      rintro e w11 ⟨v11, rfl, hO11, hb⟩
      replace HL := Lib.hid (HL.out.all hb)
      replace HO := Lib.hid (HO.out.all hb)
      clear c0 c1 c2 hb
      obtain ⟨a11, cap11, rfl⟩ := hO11.slice
      have HO11 := Lib.hid hO11.intsAt; clear hO11
      go_wp2_with fail
      refine (sameInts_any _ _ _ _ _ _ w11 HO.out HO11.out (by omega) (by omega)).mono ?_
      rintro e w12 ⟨rfl, hb⟩
      rw [sameIn_true rfl (fun _ _ => rfl)]
      replace HL := Lib.hid (HL.out.all hb)
      clear hb
      go_wp2
      go_ret
      exact ⟨rfl, HL.out.bel⟩
    · have hpd : p < 0 ∨ L.size ≤ p := by omega
      have Hp := Lib.hid hp; clear hp
      refine (Place_rng L _ p w3 HL.out.arg HR.out Hp.out).mono ?_
      rintro e w4 ⟨rfl, hb⟩
      replace HL := Lib.hid (HL.out.all hb)
      clear c0 c1 c2 hb
      obtain ⟨c0, c1, c2⟩ := HL.out.cells
      go_wp2_with fail
      refine (Row_rng L _ p w4 HL.out.arg HR.out Hp.out).mono ?_
      rintro e w5 ⟨rfl, hb⟩
      replace HL := Lib.hid (HL.out.all hb)
      clear c0 c1 c2 hb
      obtain ⟨c0, c1, c2⟩ := HL.out.cells
      go_wp2_with fail
      refine (Check_ok L _ w5 HL.out.arg HR.out).mono ?_
      rintro e w6 ⟨rfl, hb⟩
      replace HL := Lib.hid (HL.out.all hb)
      clear c0 c1 c2 hb
      obtain ⟨c0, c1, c2⟩ := HL.out.cells
      go_wp2_with fail
      refine (rSize_any L _ w6 HL.out.arg HR.out).mono ?_
      rintro e w7 ⟨rfl, hb⟩
      replace HL := Lib.hid (HL.out.all hb)
      clear c0 c1 c2 hb
      obtain ⟨c0, c1, c2⟩ := HL.out.cells
      by_cases hp0 : p < 0
      · clear hpd
        go_wp2_with fail
        refine (sanity_any _).mono ?_
        rintro e w8 ⟨rfl, hb⟩
        replace HL := Lib.hid (HL.out.all hb)
        clear c0 c1 c2 hb
        go_wp2
        go_ret
        exact ⟨rfl, HL.out.bel⟩
      · have hp1 : L.size ≤ p := by omega
        clear hpd
        go_wp2_with fail
        refine (sanity_any _).mono ?_
        rintro e w8 ⟨rfl, hb⟩
        replace HL := Lib.hid (HL.out.all hb)
        clear c0 c1 c2 hb
        go_wp2
        go_ret
        exact ⟨rfl, HL.out.bel⟩
  · have HR := Lib.hid hR; clear hR
    refine (rCheck_bad L _ w1 HL.out.arg HF.out HR.out).mono ?_
    rintro e w2 ⟨rfl, hb⟩
    replace HL := Lib.hid (HL.out.all hb)
    clear c0 c1 c2 hb
    obtain ⟨c0, c1, c2⟩ := HL.out.cells
    go_wp2_with fail
    refine (Size_bad L _ w2 HL.out.arg HR.out).mono ?_
    rintro e w3 ⟨rfl, hb⟩
    replace HL := Lib.hid (HL.out.all hb)
    clear c0 c1 c2 hb
    obtain ⟨c0, c1, c2⟩ := HL.out.cells
    go_wp2_with fail
    refine (Place_bad L _ p w3 HL.out.arg HR.out).mono ?_
    rintro e w4 ⟨rfl, hb⟩
    replace HL := Lib.hid (HL.out.all hb)
    clear c0 c1 c2 hb
    obtain ⟨c0, c1, c2⟩ := HL.out.cells
    go_wp2_with fail
    refine (Row_bad L _ p w4 HL.out.arg HR.out).mono ?_
    rintro e w5 ⟨rfl, hb⟩
    replace HL := Lib.hid (HL.out.all hb)
    clear c0 c1 c2 hb
    obtain ⟨c0, c1, c2⟩ := HL.out.cells
    go_wp2_with fail
    refine (Check_bad L _ w5 HL.out.arg HR.out).mono ?_
    rintro e w6 ⟨rfl, hb⟩
    replace HL := Lib.hid (HL.out.all hb)
    clear c0 c1 c2 hb
    obtain ⟨c0, c1, c2⟩ := HL.out.cells
    go_wp2_with fail
    refine (sanity_any _).mono ?_
    rintro e w7 ⟨rfl, hb⟩
    replace HL := Lib.hid (HL.out.all hb)
    clear c0 c1 c2 hb
    go_wp2
    go_ret
    exact ⟨rfl, HL.out.bel⟩

end Go.Proofs.Ytlbohmfhdchabaa
