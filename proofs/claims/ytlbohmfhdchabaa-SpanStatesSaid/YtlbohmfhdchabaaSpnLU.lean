/- Span: the law SpanStates. -/
import Derived.Test.YtlbohmfhdchabaaSpnLJ
import Derived.Test.YtlbohmfhdchabaaSpnR9
namespace Go.Proofs.Ytlbohmfhdchabaa
open Go.RowKit

/-- Two layouts in their boxes, and a list of bools. -/
structure Lay2 (w0 : World) (A : Lay) (aa : Option Addr) (ca : Nat) (B : Lay) (ab : Option Addr) (cb : Nat) (v : Value) (n : Nat) (f : Nat → Bool) (W : World) : Prop where
  rowA : RowAt W w0.heap.size 24 3 3 (st3 (.int .i64 A.K) (.slice aa A.n ca) (.int .i64 A.C))
  rowB : RowAt W (w0.heap.size + 1) 24 3 3 (st3 (.int .i64 B.K) (.slice ab B.n cb) (.int .i64 B.C))
  argA : IArg W (.slice aa A.n ca) A.n A.M
  argB : IArg W (.slice ab B.n cb) B.n B.M
  arg : BArg W v n f
  bel : Below w0.heap.size w0 W
theorem Lay2.all {w0 W W' : World} {A B : Lay} {aa ab : Option Addr} {ca cb n : Nat} {v : Value} {f : Nat → Bool} (h : Lay2 w0 A aa ca B ab cb v n f W) (hb : Below W.heap.size W W') : Lay2 w0 A aa ca B ab cb v n f W' :=
  ⟨h.rowA.all hb, h.rowB.all hb, h.argA.all hb, h.argB.all hb, h.arg.all hb, h.bel.trans (hb.mono h.bel.size)⟩
theorem Lay2.cells {w0 W : World} {A B : Lay} {aa ab : Option Addr} {ca cb n : Nat} {v : Value} {f : Nat → Bool} (h : Lay2 w0 A aa ca B ab cb v n f W) :
    W.cell? ⟨w0.heap.size, 0, none⟩ = some (.int .i64 A.K) ∧ W.cell? ⟨w0.heap.size, 1, none⟩ = some (.slice aa A.n ca) ∧ W.cell? ⟨w0.heap.size, 2, none⟩ = some (.int .i64 A.C) ∧
    W.cell? ⟨w0.heap.size + 1, 0, none⟩ = some (.int .i64 B.K) ∧ W.cell? ⟨w0.heap.size + 1, 1, none⟩ = some (.slice ab B.n cb) ∧ W.cell? ⟨w0.heap.size + 1, 2, none⟩ = some (.int .i64 B.C) := by
  obtain ⟨h1, h2, h3⟩ := row3_cells h.rowA
  obtain ⟨h4, h5, h6⟩ := row3_cells h.rowB
  exact ⟨h1, h2, h3, h4, h5, h6⟩

theorem State_ok (L : Lay) (sl v : Value) (f : Nat → Bool) (w : World) (hs : IArg w sl L.n L.M) (hv : BArg w v L.n f) (hR : L.Right) :
    Calls Try.prog 37 #[layV L sl, v] w fun e w' => e = .returned (.tuple #[.int .i64 (L.state (cntB f L.n)), .int .i64 0]) ∧ Below w.heap.size w w' :=
  (State_any L sl v L.n f w hs hv (by have := hR.nle; omega)).mono fun e w' h => by
    obtain ⟨(⟨-, -, rfl⟩ | ⟨hx, -⟩), hb⟩ := h
    · exact ⟨rfl, hb⟩
    · exact absurd ⟨hR, rfl⟩ hx
theorem State_bad (L : Lay) (sl v : Value) (n : Nat) (f : Nat → Bool) (w : World) (hs : IArg w sl L.n L.M) (hv : BArg w v n f) (hn : n ≤ 1000) (hx : ¬ (L.Right ∧ n = L.n)) :
    Calls Try.prog 37 #[layV L sl, v] w fun e w' => e = .returned (.tuple #[.int .i64 0, .int .i64 1]) ∧ Below w.heap.size w w' :=
  (State_any L sl v n f w hs hv hn).mono fun e w' h => by
    obtain ⟨(⟨h1, h2, -⟩ | ⟨-, rfl⟩), hb⟩ := h
    · exact absurd ⟨h1, h2⟩ hx
    · exact ⟨rfl, hb⟩
theorem Extends_ok (A B : Lay) (sa sb : Value) (w : World) (ha : IArg w sa A.n A.M) (hb : IArg w sb B.n B.M) (hA : A.Right) (hB : B.Right) :
    Calls Try.prog 38 #[layV A sa, layV B sb] w fun e w' => ∃ x, e = .returned (.tuple #[.bool x, .int .i64 0]) ∧ (x = true ↔ Ext A B) ∧ Below w.heap.size w w' :=
  (Extends_any A B sa sb w ha hb).mono fun e w' h => by
    obtain ⟨(⟨-, -, h3, rfl⟩ | ⟨-, -, h3, rfl⟩ | ⟨h1, -⟩), hb⟩ := h
    · exact ⟨true, rfl, by simp [h3], hb⟩
    · exact ⟨false, rfl, by simp [h3], hb⟩
    · exact absurd ⟨hA, hB⟩ h1
theorem Extends_bad (A B : Lay) (sa sb : Value) (w : World) (ha : IArg w sa A.n A.M) (hb : IArg w sb B.n B.M) (hx : ¬ (A.Right ∧ B.Right)) :
    Calls Try.prog 38 #[layV A sa, layV B sb] w fun e w' => e = .returned (.tuple #[.bool false, .int .i64 1]) ∧ Below w.heap.size w w' :=
  (Extends_any A B sa sb w ha hb).mono fun e w' h => by
    obtain ⟨(⟨h1, h2, -⟩ | ⟨h1, h2, -⟩ | ⟨-, rfl⟩), hb⟩ := h
    · exact absurd ⟨h1, h2⟩ hx
    · exact absurd ⟨h1, h2⟩ hx
    · exact ⟨rfl, hb⟩

set_option maxRecDepth 8000 in
set_option maxHeartbeats 16000000 in
theorem SpanStates_any (A : Lay) (sa : Value) (B : Lay) (sb : Value) (v : Value) (n : Nat) (f : Nat → Bool) (w : World) (ha : IArg w sa A.n A.M) (hb : IArg w sb B.n B.M) (hv : BArg w v n f) :
    Calls Try.prog 9 #[layV A sa, layV B sb, v] w (TrueR w) := by
  obtain ⟨hA, hB, hrA, hrB, hBel⟩ := two_setup ha hb
  obtain ⟨a0, a1, a2⟩ := row3_cells hrA
  obtain ⟨b0, b1, b2⟩ := row3_cells hrB
  obtain ⟨aa, ca, rfl⟩ := ha.slice
  obtain ⟨ab, cb, rfl⟩ := hb.slice
  have hvW := hv.all hBel
  obtain ⟨av, cv, rfl⟩ := hv.slice
  have HS := Lib.hid (show Lay2 w A aa ca B ab cb (.slice av n cv) n f _ from ⟨hrA, hrB, hA, hB, hvW, hBel⟩)
  clear hA hB hrA hrB hBel hvW ha hb hv
  unfold layV
  go_enter Try.func9, Try.ntmps9
  go_wp2_with fail
  generalize (w.alloc (.cells #[.int .i64 A.K, .slice aa A.n ca, .int .i64 A.C] 24)).alloc (.cells #[.int .i64 B.K, .slice ab B.n cb, .int .i64 B.C] 24) = W at *
  refine (few_any A _ W HS.out.argA).mono ?_
  rintro e w1 ⟨(⟨hF, rfl⟩ | ⟨hnF, rfl⟩), hb⟩
  rotate_left 1
  · clear hnF
    replace HS := Lib.hid (HS.out.all hb)
    clear a0 a1 a2 b0 b1 b2 hb
    obtain ⟨a0, a1, a2, b0, b1, b2⟩ := HS.out.cells
    go_wp2_with fail
    refine (sanity_any _).mono ?_
    rintro e ws ⟨rfl, hbs⟩
    go_wp2
    go_ret
    exact ⟨rfl, (HS.out.all hbs).bel⟩
  have HFA := Lib.hid hF; clear hF
  replace HS := Lib.hid (HS.out.all hb)
  clear a0 a1 a2 b0 b1 b2 hb
  obtain ⟨a0, a1, a2, b0, b1, b2⟩ := HS.out.cells
  go_wp2_with fail
  refine (few_any B _ w1 HS.out.argB).mono ?_
  rintro e w2 ⟨(⟨hF, rfl⟩ | ⟨hnF, rfl⟩), hb⟩
  rotate_left 1
  · clear hnF
    replace HS := Lib.hid (HS.out.all hb)
    clear a0 a1 a2 b0 b1 b2 hb
    obtain ⟨a0, a1, a2, b0, b1, b2⟩ := HS.out.cells
    go_wp2_with fail
    refine (sanity_any _).mono ?_
    rintro e ws ⟨rfl, hbs⟩
    go_wp2
    go_ret
    exact ⟨rfl, (HS.out.all hbs).bel⟩
  have HFB := Lib.hid hF; clear hF
  replace HS := Lib.hid (HS.out.all hb)
  clear a0 a1 a2 b0 b1 b2 hb
  obtain ⟨a0, a1, a2, b0, b1, b2⟩ := HS.out.cells
  by_cases hn20 : 20 < n
  · skip
    go_wp2_with fail
    refine (sanity_any _).mono ?_
    rintro e ws ⟨rfl, hbs⟩
    go_wp2
    go_ret
    exact ⟨rfl, (HS.out.all hbs).bel⟩
  have hn21 : n ≤ 20 := by omega
  clear hn20
  by_cases hA : A.Right
  · have RA := Lib.hid hA; clear hA
    by_cases hn : n = A.n
    · subst hn
      have hnn : ((A.n : Int) != A.n) = false := by rw [bne_eq_false_iff_eq]
      by_cases hB : B.Right
      · have RB := Lib.hid hB; clear hB
        go_wp2_with fail
        refine (rCheck_ok A _ w2 HS.out.argA HFA.out RA.out).mono ?_
        rintro e w3 ⟨rfl, hb⟩
        replace HS := Lib.hid (HS.out.all hb)
        clear a0 a1 a2 b0 b1 b2 hb
        obtain ⟨a0, a1, a2, b0, b1, b2⟩ := HS.out.cells
        go_wp2_with fail
        refine (State_ok A _ _ f w3 HS.out.argA HS.out.arg RA.out).mono ?_
        rintro e w4 ⟨rfl, hb⟩
        replace HS := Lib.hid (HS.out.all hb)
        clear a0 a1 a2 b0 b1 b2 hb
        obtain ⟨a0, a1, a2, b0, b1, b2⟩ := HS.out.cells
        go_wp2_with fail
        refine (Extends_ok A B _ _ w4 HS.out.argA HS.out.argB RA.out RB.out).mono ?_
        rintro e w5 ⟨x, rfl, hx, hb⟩
        replace HS := Lib.hid (HS.out.all hb)
        clear a0 a1 a2 b0 b1 b2 hb
        obtain ⟨a0, a1, a2, b0, b1, b2⟩ := HS.out.cells
        have Hxx := Lib.hid hx; clear hx
        go_wp2_with fail
        refine (rState_any A _ _ f w5 HS.out.argA HS.out.arg RA.out).mono ?_
        rintro e w6 ⟨rfl, hb⟩
        replace HS := Lib.hid (HS.out.all hb)
        clear a0 a1 a2 b0 b1 b2 hb
        obtain ⟨a0, a1, a2, b0, b1, b2⟩ := HS.out.cells
        go_wp2_with fail
        refine (rCheck_ok A _ w6 HS.out.argA HFA.out RA.out).mono ?_
        rintro e w7 ⟨rfl, hb⟩
        replace HS := Lib.hid (HS.out.all hb)
        clear a0 a1 a2 b0 b1 b2 hb
        obtain ⟨a0, a1, a2, b0, b1, b2⟩ := HS.out.cells
        go_wp2_with fail
        refine (rCheck_ok B _ w7 HS.out.argB HFB.out RB.out).mono ?_
        rintro e w8 ⟨rfl, hb⟩
        replace HS := Lib.hid (HS.out.all hb)
        clear a0 a1 a2 b0 b1 b2 hb
        obtain ⟨a0, a1, a2, b0, b1, b2⟩ := HS.out.cells
        go_wp2_with fail
        refine (sanity_any w8).mono ?_
        rintro e w9 ⟨rfl, hb⟩
        replace HS := Lib.hid (HS.out.all hb)
        clear a0 a1 a2 b0 b1 b2 hb
        obtain ⟨a0, a1, a2, b0, b1, b2⟩ := HS.out.cells
        go_wp2_with fail
        refine (rExtends_any A B _ _ w9 HS.out.argA HS.out.argB RA.out RB.out).mono ?_
        rintro e w10 ⟨y, rfl, hy, hb⟩
        replace HS := Lib.hid (HS.out.all hb)
        clear a0 a1 a2 b0 b1 b2 hb
        obtain ⟨a0, a1, a2, b0, b1, b2⟩ := HS.out.cells
        obtain rfl : x = y := by have h1 := Hxx.out; rw [← hy] at h1; cases x <;> cases y <;> simp_all
        clear hy Hxx
        go_wp2
        go_ret
        exact ⟨rfl, HS.out.bel⟩
      · have RB := Lib.hid hB; clear hB
        have Hy := Lib.hid (show ¬ (A.Right ∧ B.Right) from fun h => RB.out h.2)
        go_wp2_with fail
        refine (rCheck_ok A _ w2 HS.out.argA HFA.out RA.out).mono ?_
        rintro e w3 ⟨rfl, hb⟩
        replace HS := Lib.hid (HS.out.all hb)
        clear a0 a1 a2 b0 b1 b2 hb
        obtain ⟨a0, a1, a2, b0, b1, b2⟩ := HS.out.cells
        go_wp2_with fail
        refine (State_ok A _ _ f w3 HS.out.argA HS.out.arg RA.out).mono ?_
        rintro e w4 ⟨rfl, hb⟩
        replace HS := Lib.hid (HS.out.all hb)
        clear a0 a1 a2 b0 b1 b2 hb
        obtain ⟨a0, a1, a2, b0, b1, b2⟩ := HS.out.cells
        go_wp2_with fail
        refine (Extends_bad A B _ _ w4 HS.out.argA HS.out.argB Hy.out).mono ?_
        rintro e w5 ⟨rfl, hb⟩
        replace HS := Lib.hid (HS.out.all hb)
        clear a0 a1 a2 b0 b1 b2 hb
        obtain ⟨a0, a1, a2, b0, b1, b2⟩ := HS.out.cells
        go_wp2_with fail
        refine (rState_any A _ _ f w5 HS.out.argA HS.out.arg RA.out).mono ?_
        rintro e w6 ⟨rfl, hb⟩
        replace HS := Lib.hid (HS.out.all hb)
        clear a0 a1 a2 b0 b1 b2 hb
        obtain ⟨a0, a1, a2, b0, b1, b2⟩ := HS.out.cells
        go_wp2_with fail
        refine (rCheck_ok A _ w6 HS.out.argA HFA.out RA.out).mono ?_
        rintro e w7 ⟨rfl, hb⟩
        replace HS := Lib.hid (HS.out.all hb)
        clear a0 a1 a2 b0 b1 b2 hb
        obtain ⟨a0, a1, a2, b0, b1, b2⟩ := HS.out.cells
        go_wp2_with fail
        refine (rCheck_bad B _ w7 HS.out.argB HFB.out RB.out).mono ?_
        rintro e w8 ⟨rfl, hb⟩
        replace HS := Lib.hid (HS.out.all hb)
        clear a0 a1 a2 b0 b1 b2 hb
        obtain ⟨a0, a1, a2, b0, b1, b2⟩ := HS.out.cells
        go_wp2_with fail
        refine (sanity_any w8).mono ?_
        rintro e w9 ⟨rfl, hb⟩
        replace HS := Lib.hid (HS.out.all hb)
        clear a0 a1 a2 b0 b1 b2 hb
        obtain ⟨a0, a1, a2, b0, b1, b2⟩ := HS.out.cells
        go_wp2
        go_ret
        exact ⟨rfl, HS.out.bel⟩
    · have hnn : ((n : Int) != A.n) = true := by rw [bne_iff_ne]; omega
      have Hx := Lib.hid (show ¬ (A.Right ∧ n = A.n) from fun h => hn h.2)
      clear hn
      by_cases hB : B.Right
      · have RB := Lib.hid hB; clear hB
        go_wp2_with fail
        refine (rCheck_ok A _ w2 HS.out.argA HFA.out RA.out).mono ?_
        rintro e w3 ⟨rfl, hb⟩
        replace HS := Lib.hid (HS.out.all hb)
        clear a0 a1 a2 b0 b1 b2 hb
        obtain ⟨a0, a1, a2, b0, b1, b2⟩ := HS.out.cells
        go_wp2_with fail
        refine (State_bad A _ _ n f w3 HS.out.argA HS.out.arg (by omega) Hx.out).mono ?_
        rintro e w4 ⟨rfl, hb⟩
        replace HS := Lib.hid (HS.out.all hb)
        clear a0 a1 a2 b0 b1 b2 hb
        obtain ⟨a0, a1, a2, b0, b1, b2⟩ := HS.out.cells
        go_wp2_with fail
        refine (Extends_ok A B _ _ w4 HS.out.argA HS.out.argB RA.out RB.out).mono ?_
        rintro e w5 ⟨x, rfl, hx, hb⟩
        replace HS := Lib.hid (HS.out.all hb)
        clear a0 a1 a2 b0 b1 b2 hb
        obtain ⟨a0, a1, a2, b0, b1, b2⟩ := HS.out.cells
        have Hxx := Lib.hid hx; clear hx
        go_wp2_with fail
        refine (rCheck_ok A _ w5 HS.out.argA HFA.out RA.out).mono ?_
        rintro e w6 ⟨rfl, hb⟩
        replace HS := Lib.hid (HS.out.all hb)
        clear a0 a1 a2 b0 b1 b2 hb
        obtain ⟨a0, a1, a2, b0, b1, b2⟩ := HS.out.cells
        go_wp2_with fail
        refine (rCheck_ok B _ w6 HS.out.argB HFB.out RB.out).mono ?_
        rintro e w7 ⟨rfl, hb⟩
        replace HS := Lib.hid (HS.out.all hb)
        clear a0 a1 a2 b0 b1 b2 hb
        obtain ⟨a0, a1, a2, b0, b1, b2⟩ := HS.out.cells
        go_wp2_with fail
        refine (sanity_any w7).mono ?_
        rintro e w8 ⟨rfl, hb⟩
        replace HS := Lib.hid (HS.out.all hb)
        clear a0 a1 a2 b0 b1 b2 hb
        obtain ⟨a0, a1, a2, b0, b1, b2⟩ := HS.out.cells
        go_wp2_with fail
        refine (rExtends_any A B _ _ w8 HS.out.argA HS.out.argB RA.out RB.out).mono ?_
        rintro e w9 ⟨y, rfl, hy, hb⟩
        replace HS := Lib.hid (HS.out.all hb)
        clear a0 a1 a2 b0 b1 b2 hb
        obtain ⟨a0, a1, a2, b0, b1, b2⟩ := HS.out.cells
        obtain rfl : x = y := by have h1 := Hxx.out; rw [← hy] at h1; cases x <;> cases y <;> simp_all
        clear hy Hxx
        go_wp2
        go_ret
        exact ⟨rfl, HS.out.bel⟩
      · have RB := Lib.hid hB; clear hB
        have Hy := Lib.hid (show ¬ (A.Right ∧ B.Right) from fun h => RB.out h.2)
        go_wp2_with fail
        refine (rCheck_ok A _ w2 HS.out.argA HFA.out RA.out).mono ?_
        rintro e w3 ⟨rfl, hb⟩
        replace HS := Lib.hid (HS.out.all hb)
        clear a0 a1 a2 b0 b1 b2 hb
        obtain ⟨a0, a1, a2, b0, b1, b2⟩ := HS.out.cells
        go_wp2_with fail
        refine (State_bad A _ _ n f w3 HS.out.argA HS.out.arg (by omega) Hx.out).mono ?_
        rintro e w4 ⟨rfl, hb⟩
        replace HS := Lib.hid (HS.out.all hb)
        clear a0 a1 a2 b0 b1 b2 hb
        obtain ⟨a0, a1, a2, b0, b1, b2⟩ := HS.out.cells
        go_wp2_with fail
        refine (Extends_bad A B _ _ w4 HS.out.argA HS.out.argB Hy.out).mono ?_
        rintro e w5 ⟨rfl, hb⟩
        replace HS := Lib.hid (HS.out.all hb)
        clear a0 a1 a2 b0 b1 b2 hb
        obtain ⟨a0, a1, a2, b0, b1, b2⟩ := HS.out.cells
        go_wp2_with fail
        refine (rCheck_ok A _ w5 HS.out.argA HFA.out RA.out).mono ?_
        rintro e w6 ⟨rfl, hb⟩
        replace HS := Lib.hid (HS.out.all hb)
        clear a0 a1 a2 b0 b1 b2 hb
        obtain ⟨a0, a1, a2, b0, b1, b2⟩ := HS.out.cells
        go_wp2_with fail
        refine (rCheck_bad B _ w6 HS.out.argB HFB.out RB.out).mono ?_
        rintro e w7 ⟨rfl, hb⟩
        replace HS := Lib.hid (HS.out.all hb)
        clear a0 a1 a2 b0 b1 b2 hb
        obtain ⟨a0, a1, a2, b0, b1, b2⟩ := HS.out.cells
        go_wp2_with fail
        refine (sanity_any w7).mono ?_
        rintro e w8 ⟨rfl, hb⟩
        replace HS := Lib.hid (HS.out.all hb)
        clear a0 a1 a2 b0 b1 b2 hb
        obtain ⟨a0, a1, a2, b0, b1, b2⟩ := HS.out.cells
        go_wp2
        go_ret
        exact ⟨rfl, HS.out.bel⟩
  · have RA := Lib.hid hA; clear hA
    have Hx := Lib.hid (show ¬ (A.Right ∧ n = A.n) from fun h => RA.out h.1)
    have Hy := Lib.hid (show ¬ (A.Right ∧ B.Right) from fun h => RA.out h.1)
    go_wp2_with fail
    refine (rCheck_bad A _ w2 HS.out.argA HFA.out RA.out).mono ?_
    rintro e w3 ⟨rfl, hb⟩
    replace HS := Lib.hid (HS.out.all hb)
    clear a0 a1 a2 b0 b1 b2 hb
    obtain ⟨a0, a1, a2, b0, b1, b2⟩ := HS.out.cells
    go_wp2_with fail
    refine (State_bad A _ _ n f w3 HS.out.argA HS.out.arg (by omega) Hx.out).mono ?_
    rintro e w4 ⟨rfl, hb⟩
    replace HS := Lib.hid (HS.out.all hb)
    clear a0 a1 a2 b0 b1 b2 hb
    obtain ⟨a0, a1, a2, b0, b1, b2⟩ := HS.out.cells
    go_wp2_with fail
    refine (Extends_bad A B _ _ w4 HS.out.argA HS.out.argB Hy.out).mono ?_
    rintro e w5 ⟨rfl, hb⟩
    replace HS := Lib.hid (HS.out.all hb)
    clear a0 a1 a2 b0 b1 b2 hb
    obtain ⟨a0, a1, a2, b0, b1, b2⟩ := HS.out.cells
    go_wp2_with fail
    refine (rCheck_bad A _ w5 HS.out.argA HFA.out RA.out).mono ?_
    rintro e w6 ⟨rfl, hb⟩
    replace HS := Lib.hid (HS.out.all hb)
    clear a0 a1 a2 b0 b1 b2 hb
    obtain ⟨a0, a1, a2, b0, b1, b2⟩ := HS.out.cells
    go_wp2_with fail
    refine (sanity_any w6).mono ?_
    rintro e w7 ⟨rfl, hb⟩
    replace HS := Lib.hid (HS.out.all hb)
    clear a0 a1 a2 b0 b1 b2 hb
    obtain ⟨a0, a1, a2, b0, b1, b2⟩ := HS.out.cells
    go_wp2
    go_ret
    exact ⟨rfl, HS.out.bel⟩

end Go.Proofs.Ytlbohmfhdchabaa
