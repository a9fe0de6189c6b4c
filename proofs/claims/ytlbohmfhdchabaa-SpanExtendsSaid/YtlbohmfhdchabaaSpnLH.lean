/- Span: Extends. -/
import Derived.Test.YtlbohmfhdchabaaSpnLB
import Derived.Test.YtlbohmfhdchabaaSpanP
namespace Go.Proofs.Ytlbohmfhdchabaa
open Go.RowKit

/-- Each page of a lies at the same spots by b. -/
def Ext (a b : Lay) : Prop := a.size ≤ b.size ∧ ∀ p : Nat, (p : Int) < a.size → sameSp a.num' (a.at p) b.num' (b.at p) = true

def ExtP (a b : Lay) (w : World) (e : Ending) (w' : World) : Prop :=
  ((a.Right ∧ b.Right ∧ Ext a b ∧ e = .returned (.tuple #[.bool true, .int .i64 0])) ∨ (a.Right ∧ b.Right ∧ ¬ Ext a b ∧ e = .returned (.tuple #[.bool false, .int .i64 0])) ∨
   (¬ (a.Right ∧ b.Right) ∧ e = .returned (.tuple #[.bool false, .int .i64 1]))) ∧ Below w.heap.size w w'

theorem of_ok (L : Lay) (a : Option Addr) (cap : Nat) (w : World) (hs : IArg w (.slice a L.n cap) L.n L.M) (hR : L.Right) :
    Calls Try.prog 42 #[.agg #[.int .i64 L.K, .slice a L.n cap, .int .i64 L.C]] w fun e w' => ∃ g, e = .returned (.pointer (some ⟨g, 0, none⟩)) ∧ Geo w' g L (.slice a L.n cap) ∧ Below w.heap.size w w' :=
  (of_any L _ w hs).mono fun e w' h => by
    obtain ⟨hB, (⟨_, g, rfl, hge, hrow⟩ | ⟨hn, _⟩)⟩ := h
    · exact ⟨g, rfl, ⟨hR, hrow, hs.all hB⟩, hB⟩
    · exact absurd hR hn
theorem of_nil (L : Lay) (a : Option Addr) (cap : Nat) (w : World) (hs : IArg w (.slice a L.n cap) L.n L.M) (hR : ¬ L.Right) :
    Calls Try.prog 42 #[.agg #[.int .i64 L.K, .slice a L.n cap, .int .i64 L.C]] w fun e w' => e = .returned (.pointer none) ∧ Below w.heap.size w w' :=
  (of_any L _ w hs).mono fun e w' h => by
    obtain ⟨hB, (⟨hx, _⟩ | ⟨_, rfl⟩)⟩ := h
    · exact absurd hx hR
    · exact ⟨rfl, hB⟩

theorem Lay.num_le {L : Lay} (h : L.Right) : L.num' ≤ 6 := by
  have := h.nle
  unfold Lay.num'
  repeat' split
  all_goals omega

theorem two_setup {w : World} {A B : Lay} {sa sb : Value} (ha : IArg w sa A.n A.M) (hb : IArg w sb B.n B.M) :
    IArg ((w.alloc (.cells #[.int .i64 A.K, sa, .int .i64 A.C] 24)).alloc (.cells #[.int .i64 B.K, sb, .int .i64 B.C] 24)) sa A.n A.M ∧
    IArg ((w.alloc (.cells #[.int .i64 A.K, sa, .int .i64 A.C] 24)).alloc (.cells #[.int .i64 B.K, sb, .int .i64 B.C] 24)) sb B.n B.M ∧
    RowAt ((w.alloc (.cells #[.int .i64 A.K, sa, .int .i64 A.C] 24)).alloc (.cells #[.int .i64 B.K, sb, .int .i64 B.C] 24)) w.heap.size 24 3 3 (st3 (.int .i64 A.K) sa (.int .i64 A.C)) ∧
    RowAt ((w.alloc (.cells #[.int .i64 A.K, sa, .int .i64 A.C] 24)).alloc (.cells #[.int .i64 B.K, sb, .int .i64 B.C] 24)) (w.heap.size + 1) 24 3 3 (st3 (.int .i64 B.K) sb (.int .i64 B.C)) ∧
    Below w.heap.size w ((w.alloc (.cells #[.int .i64 A.K, sa, .int .i64 A.C] 24)).alloc (.cells #[.int .i64 B.K, sb, .int .i64 B.C] 24)) := by
  have h1 := lay_setup ha
  have h2 := lay_setup (hb.all h1.2.2)
  rw [World.size_alloc] at h2
  have hB : Below w.heap.size w ((w.alloc (.cells #[.int .i64 A.K, sa, .int .i64 A.C] 24)).alloc (.cells #[.int .i64 B.K, sb, .int .i64 B.C] 24)) := h1.2.2.alloc (by simp) _
  exact ⟨ha.all hB, hb.all hB, h1.2.1.alloc _, h2.2.1, hB⟩

theorem keep6 {w w' : World} {g h : Nat} {e : TypeId} {a b c x y z : Value} (h1 : RowAt w g e 3 3 (st3 a b c)) (h2 : RowAt w h e 3 3 (st3 x y z)) (hq : Below w.heap.size w w') :
    w'.cell? ⟨g, 0, none⟩ = some a ∧ w'.cell? ⟨g, 1, none⟩ = some b ∧ w'.cell? ⟨g, 2, none⟩ = some c ∧ w'.cell? ⟨h, 0, none⟩ = some x ∧ w'.cell? ⟨h, 1, none⟩ = some y ∧ w'.cell? ⟨h, 2, none⟩ = some z ∧ Below w.heap.size w w' := by
  obtain ⟨a1, a2, a3, _⟩ := keep3 h1 hq
  obtain ⟨b1, b2, b3, _⟩ := keep3 h2 hq
  exact ⟨a1, a2, a3, b1, b2, b3, hq⟩

set_option maxHeartbeats 8000000 in
theorem Extends_any (A B : Lay) (sa sb : Value) (w : World) (ha : IArg w sa A.n A.M) (hb : IArg w sb B.n B.M) : Calls Try.prog 38 #[layV A sa, layV B sb] w (ExtP A B w) := by
  obtain ⟨hA, hB, hrA, hrB, hBel⟩ := two_setup ha hb
  obtain ⟨aa, ca, rfl⟩ := ha.slice
  obtain ⟨ab, cb, rfl⟩ := hb.slice
  have HA := Lib.hid hA; clear hA ha
  have HB := Lib.hid hB; clear hB hb
  unfold layV
  go_enter Try.func38, Try.ntmps38
  go_upto_region 1 with fail
  generalize (w.alloc (.cells #[.int .i64 A.K, .slice aa A.n ca, .int .i64 A.C] 24)).alloc (.cells #[.int .i64 B.K, .slice ab B.n cb, .int .i64 B.C] 24) = W at *
  have hd : Below W.heap.size W W.drew := (Below.refl _ W).drew
  by_cases hRA : A.Right
  · by_cases hRB : B.Right
    · go_region_held (fun w' => w'.cell? ⟨w.heap.size, 0, none⟩ = some (.int .i64 A.K) ∧ w'.cell? ⟨w.heap.size, 1, none⟩ = some (.slice aa A.n ca) ∧ w'.cell? ⟨w.heap.size, 2, none⟩ = some (.int .i64 A.C) ∧ w'.cell? ⟨w.heap.size + 1, 0, none⟩ = some (.int .i64 B.K) ∧ w'.cell? ⟨w.heap.size + 1, 1, none⟩ = some (.slice ab B.n cb) ∧ w'.cell? ⟨w.heap.size + 1, 2, none⟩ = some (.int .i64 B.C) ∧ Below W.heap.size W w') (exact keep6 hrA hrB (by assumption))
        (first | ((with_reducible refine (of_ok A aa ca _ (HA.out.all hd) hRA).mono ?_); rintro e wa ⟨ga, rfl, hga, hBa⟩; have HGa := Lib.hid hga; clear hga; replace hd := hd.trans (hBa.mono hd.size)) | ((with_reducible refine (of_ok B ab cb _ (HB.out.all hd) hRB).mono ?_); rintro e wb ⟨gb, rfl, hgb, hBb⟩; have HGb := Lib.hid hgb; clear hgb; replace hd := hd.trans (hBb.mono hd.size)))
      have hga := HGa.out.all hBb
      have hgb := HGb.out
      have hBw := hBel.trans (hd.mono hBel.size)
      have hmA := method_size hRA.kind
      have heA := enter_size hRA.kind
      have hmB := method_size hRB.kind
      have heB := enter_size hRB.kind
      have hpA := method_place hRA.kind
      have hqA := enter_place hRA.kind
      have hpB := method_place hRB.kind
      have hqB := enter_place hRB.kind
      clear HGa HGb hd hBa hBb
      have Hga := Lib.hid hga; clear hga
      have Hgb := Lib.hid hgb; clear hgb
      have RA := Lib.hid hRA
      have RB := Lib.hid hRB
      go_upto_region 4 with fail
      have hd : Below wb.heap.size wb wb.drew := (Below.refl _ wb).drew
      go_region_held (fun w' => w'.cell? ⟨ga, 6, none⟩ = some (.iface (kindT A.K) (.agg #[])) ∧ w'.cell? ⟨gb, 6, none⟩ = some (.iface (kindT B.K) (.agg #[])) ∧ Below wb.heap.size wb w') (exact ⟨(Hga.out.all (by assumption)).cells.2.2.2.2.2.2, (Hgb.out.all (by assumption)).cells.2.2.2.2.2.2, by assumption⟩)
        (first | ((with_reducible refine (size_any B _ gb _ (Hgb.out.all hd)).mono ?_); rintro e wc ⟨rfl, hBc⟩; replace hd := hd.trans (hBc.mono hd.size)) | ((with_reducible refine (size_any A _ ga _ (Hga.out.all hd)).mono ?_); rintro e wd ⟨rfl, hBd⟩; replace hd := hd.trans (hBd.mono hd.size)))
      have Hga2 := Lib.hid (Hga.out.all hd)
      have Hgb2 := Lib.hid (Hgb.out.all hd)
      have hBd2 := hBw.trans (hd.mono hBw.size)
      have hszA := RA.out.sizes
      have hszA1 : 0 ≤ A.size := by
        refine Classical.byContradiction fun h => ?_
        have := RA.out.mle
        have := RA.out.kle
        have := RA.out.nle
        have h1 := Int.mul_nonneg (show 0 ≤ (A.n : Int) by omega) (show 0 ≤ A.k by omega)
        have h2 := Int.mul_nonneg (show 0 ≤ (A.n : Int) - 1 by omega) (show 0 ≤ A.k by omega)
        have h3 := (sumI_bound A.M 1 4096 A.n (fun i hi => RA.out.mem i hi)).1
        unfold Lay.size at h
        repeat' split at h
        all_goals omega
      clear Hga Hgb hd hBw
      generalize hSA : A.size = SA at *
      generalize hSB : B.size = SB at *
      have HSA := Lib.hid hSA; clear hSA
      have HSB := Lib.hid hSB; clear hSB
      by_cases hlt : SB < SA
      · have Hn := Lib.hid (show ¬ Ext A B from fun h => by have := h.1; rw [HSA.out, HSB.out] at this; omega)
        go_wp2
        exact bodyPost_ret (v := .tuple #[.bool false, .int .i64 0]) (by simp [results, Try.results38, go_sem]) rfl ⟨.inr (.inl ⟨RA.out, RB.out, Hn.out, rfl⟩), hBd2⟩
      · have hlt' : ¬ SB < SA := hlt
        have g6 := Hga2.out.cells.2.2.2.2.2.2
        go_wp2_with fail
        refine (size_any A _ ga _ Hga2.out).mono ?_
        rintro e we ⟨rfl, hBe⟩
        rw [HSA.out]
        have Hga3 := Lib.hid (Hga2.out.all hBe)
        have Hgb3 := Lib.hid (Hgb2.out.all hBe)
        have hBe2 := hBd2.trans (hBe.mono hBd2.size)
        clear Hga2 Hgb2 hBe g6 hmA heA hmB heB hBd2
        go_wp2_with fail
        go_loopw [38] (fun t W => ∃ k : Nat, (k : Int) ≤ SA ∧ t = .int .i64 k ∧ (∀ p : Nat, p < k → sameSp A.num' (A.at p) B.num' (B.at p) = true) ∧ Below we.heap.size we W) (fun t _ => (SA - intOf t).toNat)
        case atStart => exact ⟨0, by omega, rfl, fun p hp => absurd hp (by omega), Below.refl _ _⟩
        case round =>
          obtain ⟨k, hk, rfl, hq, hbl⟩ := hrel
          have Hq := Lib.hid hq; clear hq
          by_cases hltk : (k : Int) < SA
          · have hgA := Lib.hid (Hga3.out.all hbl)
            have hgB := Lib.hid (Hgb3.out.all hbl)
            have Hbl := Lib.hid hbl; clear hbl
            have hpA1 : 0 ≤ (k : Int) ∧ (k : Int) < A.size := ⟨by omega, by rw [HSA.out]; exact hltk⟩
            have hpB1 : 0 ≤ (k : Int) ∧ (k : Int) < B.size := ⟨by omega, by rw [HSB.out]; omega⟩
            have PA := Lib.hid hpA1; clear hpA1
            have PB := Lib.hid hpB1; clear hpB1
            have hnA : A.num' ≤ 1000000 := Nat.le_trans (Lay.num_le RA.out) (by decide)
            have hnB : B.num' ≤ 1000000 := Nat.le_trans (Lay.num_le RB.out) (by decide)
            have NA := Lib.hid hnA; clear hnA
            have NB := Lib.hid hnB; clear hnB
            go_upto_region 9 with fail
            have hd : Below wr.heap.size wr wr.drew := (Below.refl _ wr).drew
            go_region_held (fun w' => w'.cell? ⟨ga, 6, none⟩ = some (.iface (kindT A.K) (.agg #[])) ∧ w'.cell? ⟨gb, 6, none⟩ = some (.iface (kindT B.K) (.agg #[])) ∧ Below wr.heap.size wr w') (exact ⟨(hgA.out.all (by assumption)).cells.2.2.2.2.2.2, (hgB.out.all (by assumption)).cells.2.2.2.2.2.2, by assumption⟩)
              (first | ((with_reducible refine (place_any A _ ga k _ (hgA.out.all hd) PA.out).mono ?_); rintro e wx ⟨va, rfl, hSa, hBx⟩; replace hd := hd.trans (hBx.mono hd.size); obtain ⟨ava, cva, rfl⟩ := hSa.slice; have HSa := Lib.hid hSa.at; clear hSa) | ((with_reducible refine (place_any B _ gb k _ (hgB.out.all hd) PB.out).mono ?_); rintro e wy ⟨vb, rfl, hSb, hBy⟩; replace hd := hd.trans (hBy.mono hd.size); obtain ⟨avb, cvb, rfl⟩ := hSb.slice; have HSb := Lib.hid hSb.at; clear hSb) | (go_at_call 50; refine (Equal_any _ _ A.num' B.num' (A.at k) (B.at k) _ (HSa.out.all hBy) HSb.out NA.out NB.out).mono ?_; rintro e wz ⟨rfl, hBz⟩; replace hd := hd.trans (hBz.mono hd.size)))
            have Hbz := Lib.hid (Hbl.out.trans (hd.mono Hbl.out.size))
            clear hd
            rcases hsame : sameSp A.num' (A.at k) B.num' (B.at k) with _ | _
            · have Hn := Lib.hid (show ¬ Ext A B from fun h => by have := h.2 k (by rw [HSA.out]; exact hltk); rw [hsame] at this; cases this)
              go_wp2
              exact bodyPost_ret (v := .tuple #[.bool false, .int .i64 0]) (by simp [results, Try.results38, go_sem]) rfl ⟨.inr (.inl ⟨RA.out, RB.out, Hn.out, rfl⟩), hBe2.trans (Hbz.out.mono hBe2.size)⟩
            · have Hsame := Lib.hid hsame; clear hsame
              go_wp2_with fail
              go_roundw
              case rel => exact ⟨k + 1, by omega, by go_num, fun p hp => if h : p = k then by rw [h]; exact Hsame.out else Hq.out p (by omega), Hbz.out⟩
              case measure => simp [intOf]; omega
          · have hx : ¬ (k : Int) < SA := hltk
            have He := Lib.hid (show Ext A B from ⟨by rw [HSA.out, HSB.out]; omega, fun p hp => Hq.out p (by rw [HSA.out] at hp; omega)⟩)
            have Hb2 := Lib.hid (hBe2.trans (hbl.mono hBe2.size)); clear hbl
            go_wp2
            exact bodyPost_ret (v := .tuple #[.bool true, .int .i64 0]) (by simp [results, Try.results38, go_sem]) rfl ⟨.inl ⟨RA.out, RB.out, He.out, rfl⟩, Hb2.out⟩
    · have done := True.intro
      go_region_held (fun w' => w'.cell? ⟨w.heap.size, 0, none⟩ = some (.int .i64 A.K) ∧ w'.cell? ⟨w.heap.size, 1, none⟩ = some (.slice aa A.n ca) ∧ w'.cell? ⟨w.heap.size, 2, none⟩ = some (.int .i64 A.C) ∧ w'.cell? ⟨w.heap.size + 1, 0, none⟩ = some (.int .i64 B.K) ∧ w'.cell? ⟨w.heap.size + 1, 1, none⟩ = some (.slice ab B.n cb) ∧ w'.cell? ⟨w.heap.size + 1, 2, none⟩ = some (.int .i64 B.C) ∧ Below W.heap.size W w') (exact keep6 hrA hrB (by assumption))
        (first | ((with_reducible refine (of_ok A aa ca _ (HA.out.all hd) hRA).mono ?_); rintro e wa ⟨ga, rfl, hga, hBa⟩; clear hga; replace hd := hd.trans (hBa.mono hd.size)) | ((with_reducible refine (of_nil B ab cb _ (HB.out.all hd) hRB).mono ?_); rintro e wb ⟨rfl, hBb⟩; replace hd := hd.trans (hBb.mono hd.size)))
      go_wp2
      exact bodyPost_ret (v := .tuple #[.bool false, .int .i64 1]) (by simp [results, Try.results38, go_sem]) rfl ⟨.inr (.inr ⟨fun h => hRB h.2, rfl⟩), hBel.trans (hd.mono hBel.size)⟩

  · by_cases hRB : B.Right
    · have done := True.intro
      go_region_held (fun w' => w'.cell? ⟨w.heap.size, 0, none⟩ = some (.int .i64 A.K) ∧ w'.cell? ⟨w.heap.size, 1, none⟩ = some (.slice aa A.n ca) ∧ w'.cell? ⟨w.heap.size, 2, none⟩ = some (.int .i64 A.C) ∧ w'.cell? ⟨w.heap.size + 1, 0, none⟩ = some (.int .i64 B.K) ∧ w'.cell? ⟨w.heap.size + 1, 1, none⟩ = some (.slice ab B.n cb) ∧ w'.cell? ⟨w.heap.size + 1, 2, none⟩ = some (.int .i64 B.C) ∧ Below W.heap.size W w') (exact keep6 hrA hrB (by assumption))
        (first | ((with_reducible refine (of_nil A aa ca _ (HA.out.all hd) hRA).mono ?_); rintro e wa ⟨rfl, hBa⟩; replace hd := hd.trans (hBa.mono hd.size)) | ((with_reducible refine (of_ok B ab cb _ (HB.out.all hd) hRB).mono ?_); rintro e wb ⟨gb, rfl, hgb, hBb⟩; clear hgb; replace hd := hd.trans (hBb.mono hd.size)))
      go_wp2
      exact bodyPost_ret (v := .tuple #[.bool false, .int .i64 1]) (by simp [results, Try.results38, go_sem]) rfl ⟨.inr (.inr ⟨fun h => hRA h.1, rfl⟩), hBel.trans (hd.mono hBel.size)⟩

    · have done := True.intro
      go_region_held (fun w' => w'.cell? ⟨w.heap.size, 0, none⟩ = some (.int .i64 A.K) ∧ w'.cell? ⟨w.heap.size, 1, none⟩ = some (.slice aa A.n ca) ∧ w'.cell? ⟨w.heap.size, 2, none⟩ = some (.int .i64 A.C) ∧ w'.cell? ⟨w.heap.size + 1, 0, none⟩ = some (.int .i64 B.K) ∧ w'.cell? ⟨w.heap.size + 1, 1, none⟩ = some (.slice ab B.n cb) ∧ w'.cell? ⟨w.heap.size + 1, 2, none⟩ = some (.int .i64 B.C) ∧ Below W.heap.size W w') (exact keep6 hrA hrB (by assumption))
        (first | ((with_reducible refine (of_nil A aa ca _ (HA.out.all hd) hRA).mono ?_); rintro e wa ⟨rfl, hBa⟩; replace hd := hd.trans (hBa.mono hd.size)) | ((with_reducible refine (of_nil B ab cb _ (HB.out.all hd) hRB).mono ?_); rintro e wb ⟨rfl, hBb⟩; replace hd := hd.trans (hBb.mono hd.size)))
      go_wp2
      exact bodyPost_ret (v := .tuple #[.bool false, .int .i64 1]) (by simp [results, Try.results38, go_sem]) rfl ⟨.inr (.inr ⟨fun h => hRA h.1, rfl⟩), hBel.trans (hd.mono hBel.size)⟩

end Go.Proofs.Ytlbohmfhdchabaa
