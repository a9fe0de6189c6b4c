/- Span: the law SpanSpots. -/
import Derived.Test.YtlbohmfhdchabaaSpnLJ
import Derived.Test.YtlbohmfhdchabaaSpnR6
namespace Go.Proofs.Ytlbohmfhdchabaa
open Go.RowKit

theorem Page_rng (L : Lay) (sl : Value) (s : Int × Int) (w : World) (hs : IArg w sl L.n L.M) (hR : L.Right) (hh : L.has s = false) :
    Calls Try.prog 24 #[layV L sl, spotA s] w fun e w' => e = .returned (.tuple #[.int .i64 0, .int .i64 0, .int .i64 24]) ∧ Below w.heap.size w w' :=
  (Page_any L sl s w hs).mono fun e w' h => by
    obtain ⟨(⟨-, hx, -⟩ | ⟨-, -, rfl⟩ | ⟨hx, -⟩), hb⟩ := h
    · rw [hh] at hx; cases hx
    · exact ⟨rfl, hb⟩
    · exact absurd hR hx
theorem Page_bad (L : Lay) (sl : Value) (s : Int × Int) (w : World) (hs : IArg w sl L.n L.M) (hR : ¬ L.Right) :
    Calls Try.prog 24 #[layV L sl, spotA s] w fun e w' => e = .returned (.tuple #[.int .i64 0, .int .i64 0, .int .i64 1]) ∧ Below w.heap.size w w' :=
  (Page_any L sl s w hs).mono fun e w' h => by
    obtain ⟨(⟨hx, -⟩ | ⟨hx, -⟩ | ⟨-, rfl⟩), hb⟩ := h
    · exact absurd hx hR
    · exact absurd hx hR
    · exact ⟨rfl, hb⟩
theorem Peers_rng (L : Lay) (sl : Value) (s : Int × Int) (w : World) (hs : IArg w sl L.n L.M) (hR : L.Right) (hh : L.has s = false) :
    Calls Try.prog 33 #[layV L sl, spotA s] w fun e w' => e = .returned (.tuple #[.slice none 0 0, .int .i64 24]) ∧ Below w.heap.size w w' :=
  (Peers_any L sl s w hs).mono fun e w' h => by
    obtain ⟨(⟨-, hx, -⟩ | ⟨-, -, rfl⟩ | ⟨hx, -⟩), hb⟩ := h
    · rw [hh] at hx; cases hx
    · exact ⟨rfl, hb⟩
    · exact absurd hR hx
theorem Peers_bad (L : Lay) (sl : Value) (s : Int × Int) (w : World) (hs : IArg w sl L.n L.M) (hR : ¬ L.Right) :
    Calls Try.prog 33 #[layV L sl, spotA s] w fun e w' => e = .returned (.tuple #[.slice none 0 0, .int .i64 1]) ∧ Below w.heap.size w w' :=
  (Peers_any L sl s w hs).mono fun e w' h => by
    obtain ⟨(⟨hx, -⟩ | ⟨hx, -⟩ | ⟨-, rfl⟩), hb⟩ := h
    · exact absurd hx hR
    · exact absurd hx hR
    · exact ⟨rfl, hb⟩
theorem peersN_six {L : Lay} (h : L.Right) (s : Int × Int) : L.peersN s ≤ 6 := by
  have := h.nle
  unfold Lay.peersN
  split <;> omega

set_option maxRecDepth 8000 in
set_option maxHeartbeats 16000000 in
theorem SpanSpots_any (L : Lay) (sl : Value) (s : Int × Int) (w : World) (hs : IArg w sl L.n L.M) : Calls Try.prog 8 #[layV L sl, spotA s] w (TrueR w) := by
  obtain ⟨x, y⟩ := s
  obtain ⟨hW, hr, hr2, hB⟩ := spot_setup x y hs
  obtain ⟨c0, c1, c2⟩ := row3_cells hr
  obtain ⟨b0, b1⟩ := row2_cells hr2
  obtain ⟨a, cap, rfl⟩ := hs.slice
  have HS := Lib.hid (show SpAt w L a cap x y _ from ⟨⟨hr, hW, hB⟩, hr2⟩)
  clear hs hW hr hr2 hB
  unfold layV spotA
  go_enter Try.func8, Try.ntmps8
  go_wp2_with fail
  generalize (w.alloc (.cells #[.int .i64 L.K, .slice a L.n cap, .int .i64 L.C] 24)).alloc (.cells #[.int .i64 x, .int .i64 y] 45) = W at *
  refine (few_any L _ W HS.out.arg).mono ?_
  rintro e w1 ⟨(⟨hF, rfl⟩ | ⟨hnF, rfl⟩), hb⟩
  rotate_left 1
  · clear hnF
    go_wp2_with fail
    refine (sanity_any _).mono ?_
    rintro e w2 ⟨rfl, hb2⟩
    go_wp2
    go_ret
    exact ⟨rfl, ((HS.out.all hb).all hb2).bel⟩
  have HF := Lib.hid hF; clear hF
  replace HS := Lib.hid (HS.out.all hb)
  clear c0 c1 c2 b0 b1 hb
  obtain ⟨c0, c1, c2, b0, b1⟩ := HS.out.cells
  by_cases hR : L.Right
  · have HR := Lib.hid hR; clear hR
    go_wp2_with fail
    refine (rCheck_ok L _ w1 HS.out.arg HF.out HR.out).mono ?_
    rintro e w2 ⟨rfl, hb⟩
    replace HS := Lib.hid (HS.out.all hb)
    clear c0 c1 c2 b0 b1 hb
    obtain ⟨c0, c1, c2, b0, b1⟩ := HS.out.cells
    rcases hhas : L.has (x, y) with _ | _
    · have Hh := Lib.hid hhas; clear hhas
      go_wp2_with fail
      refine (Page_rng L _ (x, y) w2 HS.out.arg HR.out Hh.out).mono ?_
      rintro e w3 ⟨rfl, hb⟩
      replace HS := Lib.hid (HS.out.all hb)
      clear c0 c1 c2 b0 b1 hb
      obtain ⟨c0, c1, c2, b0, b1⟩ := HS.out.cells
      go_wp2_with fail
      refine (Peers_rng L _ (x, y) w3 HS.out.arg HR.out Hh.out).mono ?_
      rintro e w4 ⟨rfl, hb⟩
      replace HS := Lib.hid (HS.out.all hb)
      clear c0 c1 c2 b0 b1 hb
      obtain ⟨c0, c1, c2, b0, b1⟩ := HS.out.cells
      go_wp2_with fail
      refine (rHas_any L _ (x, y) w4 HS.out.arg).mono ?_
      rintro e w5 ⟨rfl, hb⟩
      replace HS := Lib.hid (HS.out.all hb)
      clear c0 c1 c2 b0 b1 hb
      obtain ⟨c0, c1, c2, b0, b1⟩ := HS.out.cells
      rw [Hh.out]
      go_wp2_with fail
      refine (sanity_any w5).mono ?_
      rintro e w6 ⟨rfl, hb⟩
      replace HS := Lib.hid (HS.out.all hb)
      clear c0 c1 c2 b0 b1 hb
      obtain ⟨c0, c1, c2, b0, b1⟩ := HS.out.cells
      go_wp2
      go_ret
      exact ⟨rfl, HS.out.bel⟩
    · have Hh := Lib.hid hhas; clear hhas
      go_wp2_with fail
      refine (Page_ok L _ (x, y) w2 HS.out.arg HR.out Hh.out).mono ?_
      rintro e w3 ⟨rfl, hb⟩
      replace HS := Lib.hid (HS.out.all hb)
      clear c0 c1 c2 b0 b1 hb
      obtain ⟨c0, c1, c2, b0, b1⟩ := HS.out.cells
      generalize hpg : L.page (x, y) = pg at *
      have Hpg := Lib.hid hpg; clear hpg
      go_wp2_with fail
      refine (Peers_ok L _ (x, y) w3 HS.out.arg HR.out Hh.out).mono ?_
      rintro e w4 ⟨v, rfl, hP, hb⟩
      replace HS := Lib.hid (HS.out.all hb)
      clear c0 c1 c2 b0 b1 hb
      obtain ⟨c0, c1, c2, b0, b1⟩ := HS.out.cells
      obtain ⟨av, cv, rfl⟩ := hP.slice
      have HP := Lib.hid hP.at; clear hP
      go_wp2_with fail
      refine (rHas_any L _ (x, y) w4 HS.out.arg).mono ?_
      rintro e w5 ⟨rfl, hb⟩
      replace HS := Lib.hid (HS.out.all hb)
      replace HP := Lib.hid (HP.out.all hb)
      clear c0 c1 c2 b0 b1 hb
      obtain ⟨c0, c1, c2, b0, b1⟩ := HS.out.cells
      rw [Hh.out]
      go_wp2_with fail
      refine (rPage_any L _ (x, y) w5 HS.out.arg HR.out Hh.out).mono ?_
      rintro e w6 ⟨rfl, hb⟩
      replace HS := Lib.hid (HS.out.all hb)
      replace HP := Lib.hid (HP.out.all hb)
      clear c0 c1 c2 b0 b1 hb
      obtain ⟨c0, c1, c2, b0, b1⟩ := HS.out.cells
      rw [Hpg.out]
      go_wp2_with fail
      refine (sanity_any w6).mono ?_
      rintro e w7 ⟨rfl, hb⟩
      replace HS := Lib.hid (HS.out.all hb)
      replace HP := Lib.hid (HP.out.all hb)
      clear c0 c1 c2 b0 b1 hb
      obtain ⟨c0, c1, c2, b0, b1⟩ := HS.out.cells
      go_wp2_with fail
      refine (rPeers_any L _ (x, y) w7 HS.out.arg HR.out Hh.out).mono ?_
      rintro e w8 ⟨u, rfl, hQ, hb⟩
      replace HS := Lib.hid (HS.out.all hb)
      replace HP := Lib.hid (HP.out.all hb)
      clear c0 c1 c2 b0 b1 hb
      obtain ⟨c0, c1, c2, b0, b1⟩ := HS.out.cells
      obtain ⟨au, cu, rfl⟩ := hQ.slice
      have HQ := Lib.hid hQ.at; clear hQ
      have hpn := peersN_six HR.out (x, y)
      go_wp2_with fail
      refine (Same_any _ _ _ _ _ _ w8 HP.out HQ.out (by omega) (by omega)).mono ?_
      rintro e w9 ⟨rfl, hb⟩
      replace HS := Lib.hid (HS.out.all hb)
      replace HP := Lib.hid (HP.out.all hb)
      replace HQ := Lib.hid (HQ.out.all hb)
      clear c0 c1 c2 b0 b1 hb
      obtain ⟨c0, c1, c2, b0, b1⟩ := HS.out.cells
      rw [sameSp_true rfl (fun _ _ => rfl)]
      go_wp2
      go_ret
      exact ⟨rfl, HS.out.bel⟩
  · have HR := Lib.hid hR; clear hR
    go_wp2_with fail
    refine (rCheck_bad L _ w1 HS.out.arg HF.out HR.out).mono ?_
    rintro e w2 ⟨rfl, hb⟩
    replace HS := Lib.hid (HS.out.all hb)
    clear c0 c1 c2 b0 b1 hb
    obtain ⟨c0, c1, c2, b0, b1⟩ := HS.out.cells
    go_wp2_with fail
    refine (Page_bad L _ (x, y) w2 HS.out.arg HR.out).mono ?_
    rintro e w3 ⟨rfl, hb⟩
    replace HS := Lib.hid (HS.out.all hb)
    clear c0 c1 c2 b0 b1 hb
    obtain ⟨c0, c1, c2, b0, b1⟩ := HS.out.cells
    go_wp2_with fail
    refine (Peers_bad L _ (x, y) w3 HS.out.arg HR.out).mono ?_
    rintro e w4 ⟨rfl, hb⟩
    replace HS := Lib.hid (HS.out.all hb)
    clear c0 c1 c2 b0 b1 hb
    obtain ⟨c0, c1, c2, b0, b1⟩ := HS.out.cells
    go_wp2_with fail
    refine (sanity_any w4).mono ?_
    rintro e w5 ⟨rfl, hb⟩
    replace HS := Lib.hid (HS.out.all hb)
    clear c0 c1 c2 b0 b1 hb
    obtain ⟨c0, c1, c2, b0, b1⟩ := HS.out.cells
    go_wp2
    go_ret
    exact ⟨rfl, HS.out.bel⟩

end Go.Proofs.Ytlbohmfhdchabaa
