/- Span: the law SpanRebuilt. -/
import Derived.Test.YtlbohmfhdchabaaSpnLC
import Derived.Test.YtlbohmfhdchabaaSpnLD
namespace Go.Proofs.Ytlbohmfhdchabaa
open Go.RowKit

theorem info_boolI : (Try.prog.info? 4).map (fun i => (i.zero, i.size, i.bytes)) = some (some (.bool false), 1, 1) := by kernel_rfl

/-- What a law returns. -/
def TrueR (w : World) (e : Ending) (w' : World) : Prop := e = .returned (.bool true) ∧ Below w.heap.size w w'

/-- What a region reads that loads a layout and a spot of a list. -/
theorem keep_peer {w w' : World} {g b : Nat} {e : TypeId} {x y z : Value} {n : Nat} {f : Nat → Int × Int} {i : Nat} (h : RowAt w g e 3 3 (st3 x y z)) (hc : Cells w b 0 (n * 2) (spotV f)) (hi : i < n) (hq : Below w.heap.size w w') :
    w'.cell? ⟨g, 0, none⟩ = some x ∧ w'.cell? ⟨g, 1, none⟩ = some y ∧ w'.cell? ⟨g, 2, none⟩ = some z ∧ w'.cell? ⟨b, i * 2, none⟩ = some (.int .i64 (f i).1) ∧ w'.cell? ⟨b, i * 2 + 1, none⟩ = some (.int .i64 (f i).2) ∧ Below w.heap.size w w' := by
  obtain ⟨h1, h2, h3, h4⟩ := keep3 h hq
  obtain ⟨h5, h6⟩ := cells_spot (hc.all hq) hi
  rw [Nat.zero_add] at h5 h6
  exact ⟨h1, h2, h3, h5, h6, h4⟩

theorem Page_ok (L : Lay) (sl : Value) (s : Int × Int) (w : World) (hs : IArg w sl L.n L.M) (hR : L.Right) (hh : L.has s = true) :
    Calls Try.prog 24 #[layV L sl, spotA s] w fun e w' => e = .returned (.tuple #[.int .i64 (L.page s).1, .int .i64 (L.page s).2, .int .i64 0]) ∧ Below w.heap.size w w' :=
  (Page_any L sl s w hs).mono fun e w' h => by
    obtain ⟨(⟨-, -, rfl⟩ | ⟨-, hx, -⟩ | ⟨hx, -⟩), hb⟩ := h
    · exact ⟨rfl, hb⟩
    · rw [hh] at hx; cases hx
    · exact absurd hR hx
theorem Peers_ok (L : Lay) (sl : Value) (s : Int × Int) (w : World) (hs : IArg w sl L.n L.M) (hR : L.Right) (hh : L.has s = true) :
    Calls Try.prog 33 #[layV L sl, spotA s] w fun e w' => ∃ v, e = .returned (.tuple #[v, .int .i64 0]) ∧ Spots w' w.heap.size v (L.peersN s) (peersF s) ∧ Below w.heap.size w w' :=
  (Peers_any L sl s w hs).mono fun e w' h => by
    obtain ⟨(⟨-, -, v, rfl, hS⟩ | ⟨-, hx, -⟩ | ⟨hx, -⟩), hb⟩ := h
    · exact ⟨v, rfl, hS, hb⟩
    · rw [hh] at hx; cases hx
    · exact absurd hR hx
theorem Place_ok (L : Lay) (sl : Value) (p : Int) (w : World) (hs : IArg w sl L.n L.M) (hR : L.Right) (hp : 0 ≤ p ∧ p < L.size) :
    Calls Try.prog 16 #[layV L sl, .int .i64 p] w fun e w' => ∃ v, e = .returned (.tuple #[v, .int .i64 0]) ∧ Spots w' w.heap.size v L.num' (L.at p) ∧ Below w.heap.size w w' :=
  (Place_any L sl p w hs).mono fun e w' h => by
    obtain ⟨(⟨-, -, -, v, rfl, hS⟩ | ⟨-, hx, -⟩ | ⟨hx, -⟩), hb⟩ := h
    · exact ⟨v, rfl, hS, hb⟩
    · exact absurd hp hx
    · exact absurd hR hx

set_option maxRecDepth 8000 in
set_option maxHeartbeats 16000000 in
theorem SpanRebuilt_any (L : Lay) (sl : Value) (m : Int) (w : World) (hs : IArg w sl L.n L.M) : Calls Try.prog 10 #[layV L sl, .int .i64 m] w (TrueR w) := by
  obtain ⟨hW, hr, hB⟩ := lay_setup hs
  obtain ⟨c0, c1, c2⟩ := row3_cells hr
  obtain ⟨a, cap, rfl⟩ := hs.slice
  have HW := Lib.hid hW; clear hW hs
  unfold layV
  go_enter Try.func10, Try.ntmps10
  go_wp2_with fail
  generalize w.alloc (.cells #[.int .i64 L.K, .slice a L.n cap, .int .i64 L.C] 24) = W at *
  refine (few_any L _ W HW.out).mono ?_
  rintro e w1 ⟨(⟨hF, rfl⟩ | ⟨hnF, rfl⟩), hb⟩
  rotate_left 1
  · clear hnF
    go_wp2_with fail
    refine (sanity_any _).mono ?_
    rintro e w2 ⟨rfl, hb2⟩
    go_wp2
    go_ret
    exact ⟨rfl, hB.trans ((hb.trans (hb2.mono hb.size)).mono hB.size)⟩
  have HF := Lib.hid hF; clear hF
  have hr1 := hr.all hb
  have HW1 := Lib.hid (HW.out.all hb)
  have hB1 := hB.trans (hb.mono hB.size)
  obtain ⟨d0, d1, d2⟩ := row3_cells hr1
  clear c0 c1 c2 hr hb hB HW
  go_wp2_with fail
  refine (Check_any L _ w1 HW1.out).mono ?_
  rintro e w2 ⟨(⟨hR, rfl⟩ | ⟨hnR, rfl⟩), hb⟩
  rotate_left 1
  · clear hnR
    go_wp2_with fail
    refine (sanity_any _).mono ?_
    rintro e w3 ⟨rfl, hb3⟩
    go_wp2
    go_ret
    exact ⟨rfl, hB1.trans ((hb.trans (hb3.mono hb.size)).mono hB1.size)⟩
  have HR := Lib.hid hR; clear hR
  have hr2 := hr1.all hb
  have HW2 := Lib.hid (HW1.out.all hb)
  have hB2 := hB1.trans (hb.mono hB1.size)
  obtain ⟨c0, c1, c2⟩ := row3_cells hr2
  clear d0 d1 d2 hr1 hb hB1 HW1
  rcases hm0 : decide (m < 0) with _ | _
  rotate_left 1
  · have hm0' : m < 0 := of_decide_eq_true hm0
    go_wp2_with fail
    refine (sanity_any _).mono ?_
    rintro e w3 ⟨rfl, hb3⟩
    go_wp2
    go_ret
    exact ⟨rfl, hB2.trans (hb3.mono hB2.size)⟩
  have hm0' : ¬ m < 0 := of_decide_eq_false hm0
  rcases hmn : decide ((L.n : Int) ≤ m) with _ | _
  rotate_left 1
  · have hmn' : (L.n : Int) ≤ m := of_decide_eq_true hmn
    go_wp2_with fail
    refine (sanity_any _).mono ?_
    rintro e w3 ⟨rfl, hb3⟩
    go_wp2
    go_ret
    exact ⟨rfl, hB2.trans (hb3.mono hB2.size)⟩
  have hmn' : ¬ (L.n : Int) ≤ m := of_decide_eq_false hmn
  clear hm0 hmn
  obtain ⟨j, rfl⟩ : ∃ j : Nat, m = j := ⟨m.toNat, by omega⟩
  have hj : j < L.n := by omega
  have hn := HR.out.nle
  obtain ⟨w3, hmk, hrow, hb3, hs3⟩ := make_o (P := Try.prog) 51 4 _ _ Try.underlying51 info_boolI rfl (by decide) .i64 L.n (by omega) w2
  have hmk : (Instr.makeSlice 51 (.int .i64 L.n) (.int .i64 L.n)).run Try.prog w2 = _ := hmk
  have hrow4 := (hrow.set j (.bool true))
  have e3 := hrow.cell (i := j) hj
  have f3 := hrow.frozen j
  have hb4 : Below w2.heap.size w2 (w3.setCell ⟨w2.heap.size, j, none⟩ (.bool true)) := hb3.setCell (Nat.le_refl _) _
  have hr4 := hr2.all hb4
  have HW4 := Lib.hid (HW2.out.all hb4)
  have hB4 := hB2.trans (hb4.mono hB2.size)
  have hbv : BArg (w3.setCell ⟨w2.heap.size, j, none⟩ (.bool true)) (.slice (some ⟨w2.heap.size, 0, none⟩) L.n L.n) L.n (fun i => decide (i = j)) :=
    .inr ⟨_, 0, _, rfl, by omega, (hrow4.congr fun i hi => by
      unfold boolsV
      by_cases h : i = j
      · rw [if_pos h]; simp [h]
      · rw [if_neg h]; simp [h]).reads⟩
  have HBV := Lib.hid hbv; clear hbv
  have hc1 : cntB (fun i => decide (i = j)) L.n = 1 := by rw [cntB_one, if_pos hj]
  have hst := state_one HR.out
  rw [← hc1] at hst
  obtain ⟨k0, k1, k2⟩ := row3_cells hr4
  have Hst := Lib.hid hst; clear hst hc1 hrow hrow4
  go_wp2_with fail
  clear hmk e3 f3 k0 k1 k2 c0 c1 c2
  generalize w3.setCell ⟨w2.heap.size, j, none⟩ (.bool true) = w4 at *
  refine (State_any L _ _ L.n _ w4 HW4.out HBV.out (by omega)).mono ?_
  rintro e w5 ⟨(⟨-, -, rfl⟩ | ⟨hx, -⟩), hb5⟩
  rotate_left 1
  · exact absurd ⟨HR.out, rfl⟩ hx
  rw [Hst.out]
  have hr5 := hr4.all hb5
  have HW5 := Lib.hid (HW4.out.all hb5)
  have hB5 := hB4.trans (hb5.mono hB4.size)
  obtain ⟨c0, c1, c2⟩ := row3_cells hr5
  clear hb5 hr4 hB4 HW4 HBV Hst
  have hsf : L.safe = (L.K == 4 || L.K == 5) := rfl
  have Hsf := Lib.hid hsf; clear hsf
  rcases hk4 : (L.K == 4) with _ | _ <;> rcases hk5 : (L.K == 5) with _ | _
  rotate_left 3
  · rw [beq_iff_eq] at hk4 hk5; omega
  · have hsafe := Hsf.out
    rw [hk4, hk5] at hsafe
    simp at hsafe
    have Hsafe := Lib.hid hsafe
    rw [hsafe]
    clear hsafe
    go_wp2_with fail
    clear c0 c1 c2
    go_loopw [9] (fun t W => ∃ k : Nat, (k : Int) ≤ L.M j ∧ t = .int .i64 k ∧ Below w5.heap.size w5 W) (fun t _ => (L.M j - intOf t).toNat)
    case atStart => exact ⟨0, by have := (HR.out.mem j hj).1; omega, rfl, Below.refl _ _⟩
    case round =>
      obtain ⟨k, hk, rfl, hbl⟩ := hrel
      have hrk := hr5.all hbl
      obtain ⟨z0, z1, z2⟩ := row3_cells hrk
      have HWk := Lib.hid (HW5.out.all hbl)
      rcases HWk.out with ⟨h0, _⟩ | ⟨b, off, cap1, heq, h0, hcap, hmax, hcells, hrange⟩
      · omega
      simp only [Value.slice.injEq, true_and] at heq
      obtain ⟨rfl, rfl⟩ := heq
      have hcell : wr.cell? ⟨b, off + j, none⟩ = some (.int .i64 (L.M j)) := hcells j hj
      clear hcells hrange
      have Hbl := Lib.hid hbl; clear hbl
      have hMj : L.M j ≤ 4096 := (HR.out.mem j hj).2
      by_cases hlt : (k : Int) < L.M j
      · have hhas : L.has ((j : Int), (k : Int)) = true := has_iff.2 ⟨by simp, by simp; omega, by simp, by simpa using hlt⟩
        have Hhas := Lib.hid hhas; clear hhas
        go_upto_region 12 with fail
        have hd : Below wr.heap.size wr wr.drew := (Below.refl _ wr).drew
        go_region_held (fun w' => w'.cell? ⟨w.heap.size, 0, none⟩ = some (.int .i64 L.K) ∧ w'.cell? ⟨w.heap.size, 1, none⟩ = some (.slice (some ⟨b, off, none⟩) L.n cap) ∧ w'.cell? ⟨w.heap.size, 2, none⟩ = some (.int .i64 L.C) ∧ Below wr.heap.size wr w') (exact keep3 hrk (by assumption))
          (first | (go_at_call 25; refine (spot_any j k _).mono ?_; rintro e wa ⟨rfl, hbz⟩; replace hd := hd.trans (hbz.mono hd.size)) | (go_at_call 24; refine (Page_ok L _ ((j : Int), (k : Int)) _ (HWk.out.all hd) HR.out Hhas.out).mono ?_; rintro e wp ⟨rfl, hbz⟩; replace hd := hd.trans (hbz.mono hd.size)))
        have hrp := hrk.all hd
        have HWp := Lib.hid (HWk.out.all hd)
        have Hbp := Lib.hid (Hbl.out.trans (hd.mono Hbl.out.size))
        clear z0 z1 z2 hrk HWk Hbl hd hcell
        go_upto_region 13 with fail
        have hd : Below wp.heap.size wp wp.drew := (Below.refl _ wp).drew
        go_region_held (fun w' => w'.cell? ⟨w.heap.size, 0, none⟩ = some (.int .i64 L.K) ∧ w'.cell? ⟨w.heap.size, 1, none⟩ = some (.slice (some ⟨b, off, none⟩) L.n cap) ∧ w'.cell? ⟨w.heap.size, 2, none⟩ = some (.int .i64 L.C) ∧ Below wp.heap.size wp w') (exact keep3 hrp (by assumption))
          (first | (go_at_call 25; refine (spot_any j k _).mono ?_; rintro e wa ⟨rfl, hbz⟩; replace hd := hd.trans (hbz.mono hd.size)) | (go_at_call 33; refine (Peers_ok L _ ((j : Int), (k : Int)) _ (HWp.out.all hd) HR.out Hhas.out).mono ?_; rintro e wq ⟨v, rfl, hS, hbz⟩; obtain ⟨av, cv, rfl⟩ := hS.slice; have HS := Lib.hid hS; clear hS; replace hd := hd.trans (hbz.mono hd.size)))
        have hrq := hrp.all hd
        have HWq := Lib.hid (HWp.out.all hd)
        have Hbq := Lib.hid (Hbp.out.trans (hd.mono Hbp.out.size))
        clear hrp HWp Hbp hd
        have hpn := peersN_pos HR.out ((j : Int), (k : Int))
        rw [Hsafe.out] at hpn
        have Hpo := Lib.hid (fun i hi => peer_ok HR.out Hhas.out (i := i) hi)
        obtain ⟨z0, z1, z2⟩ := row3_cells hrq
        have hcell : wq.cell? ⟨b, off + j, none⟩ = some (.int .i64 (L.M j)) := by
          rcases HWq.out with ⟨h0, _⟩ | ⟨b', off', cap', heq, h0, hcap, hmax, hcells, hrange⟩
          · omega
          simp only [Value.slice.injEq, true_and, Option.some.injEq, Addr.mk.injEq, and_true] at heq
          obtain ⟨⟨rfl, rfl⟩, rfl⟩ := heq
          exact hcells j hj
        have hnl : L.peersN ((j : Int), (k : Int)) ≤ 6 := by
          unfold Lay.peersN
          split <;> omega
        have Hrq := Lib.hid hrq; clear hrq
        generalize hN : L.peersN ((j : Int), (k : Int)) = N at *
        have HN := Lib.hid hN; clear hN
        generalize hrole : (L.page ((j : Int), (k : Int))).2 = role at *
        have Hrole := Lib.hid hrole; clear hrole
        have hN0 : N = 0 := by
          refine Classical.byContradiction fun h => ?_
          have hx : decide (0 < (N : Int)) = true := decide_eq_true (by omega)
          rw [hx] at hpn
          simp at hpn
        subst hN0
        clear hpn
        go_wp2_with fail
        go_loop [15] (fun t => t = .int .i64 0) (fun t => 0)
        case atStart => rfl
        case round =>
          obtain rfl := hrel
          go_wp2_with fail
          go_roundw
          case rel => exact ⟨k + 1, by omega, by go_num, Hbq.out⟩
          case measure => simp [intOf]; omega
      · have hlt' : ¬ (k : Int) < L.M j := hlt
        clear hlt
        go_wp2_with fail
        refine (sanity_any _).mono ?_
        rintro e w6 ⟨rfl, hb6⟩
        go_wp2
        go_ret
        exact ⟨rfl, hB5.trans ((Hbl.out.trans (hb6.mono Hbl.out.size)).mono hB5.size)⟩
  all_goals
    have hsafe := Hsf.out
    rw [hk4, hk5] at hsafe
    simp at hsafe
    have Hsafe := Lib.hid hsafe
    rw [hsafe]
    clear hsafe
    go_wp2_with fail
    clear c0 c1 c2
    go_loopw [9] (fun t W => ∃ k : Nat, (k : Int) ≤ L.M j ∧ t = .int .i64 k ∧ Below w5.heap.size w5 W) (fun t _ => (L.M j - intOf t).toNat)
    case atStart => exact ⟨0, by have := (HR.out.mem j hj).1; omega, rfl, Below.refl _ _⟩
    case round =>
      obtain ⟨k, hk, rfl, hbl⟩ := hrel
      have hrk := hr5.all hbl
      obtain ⟨z0, z1, z2⟩ := row3_cells hrk
      have HWk := Lib.hid (HW5.out.all hbl)
      rcases HWk.out with ⟨h0, _⟩ | ⟨b, off, cap1, heq, h0, hcap, hmax, hcells, hrange⟩
      · omega
      simp only [Value.slice.injEq, true_and] at heq
      obtain ⟨rfl, rfl⟩ := heq
      have hcell : wr.cell? ⟨b, off + j, none⟩ = some (.int .i64 (L.M j)) := hcells j hj
      clear hcells hrange
      have Hbl := Lib.hid hbl; clear hbl
      have hMj : L.M j ≤ 4096 := (HR.out.mem j hj).2
      by_cases hlt : (k : Int) < L.M j
      · have hhas : L.has ((j : Int), (k : Int)) = true := has_iff.2 ⟨by simp, by simp; omega, by simp, by simpa using hlt⟩
        have Hhas := Lib.hid hhas; clear hhas
        go_upto_region 12 with fail
        have hd : Below wr.heap.size wr wr.drew := (Below.refl _ wr).drew
        go_region_held (fun w' => w'.cell? ⟨w.heap.size, 0, none⟩ = some (.int .i64 L.K) ∧ w'.cell? ⟨w.heap.size, 1, none⟩ = some (.slice (some ⟨b, off, none⟩) L.n cap) ∧ w'.cell? ⟨w.heap.size, 2, none⟩ = some (.int .i64 L.C) ∧ Below wr.heap.size wr w') (exact keep3 hrk (by assumption))
          (first | (go_at_call 25; refine (spot_any j k _).mono ?_; rintro e wa ⟨rfl, hbz⟩; replace hd := hd.trans (hbz.mono hd.size)) | (go_at_call 24; refine (Page_ok L _ ((j : Int), (k : Int)) _ (HWk.out.all hd) HR.out Hhas.out).mono ?_; rintro e wp ⟨rfl, hbz⟩; replace hd := hd.trans (hbz.mono hd.size)))
        have hrp := hrk.all hd
        have HWp := Lib.hid (HWk.out.all hd)
        have Hbp := Lib.hid (Hbl.out.trans (hd.mono Hbl.out.size))
        clear z0 z1 z2 hrk HWk Hbl hd hcell
        go_upto_region 13 with fail
        have hd : Below wp.heap.size wp wp.drew := (Below.refl _ wp).drew
        go_region_held (fun w' => w'.cell? ⟨w.heap.size, 0, none⟩ = some (.int .i64 L.K) ∧ w'.cell? ⟨w.heap.size, 1, none⟩ = some (.slice (some ⟨b, off, none⟩) L.n cap) ∧ w'.cell? ⟨w.heap.size, 2, none⟩ = some (.int .i64 L.C) ∧ Below wp.heap.size wp w') (exact keep3 hrp (by assumption))
          (first | (go_at_call 25; refine (spot_any j k _).mono ?_; rintro e wa ⟨rfl, hbz⟩; replace hd := hd.trans (hbz.mono hd.size)) | (go_at_call 33; refine (Peers_ok L _ ((j : Int), (k : Int)) _ (HWp.out.all hd) HR.out Hhas.out).mono ?_; rintro e wq ⟨v, rfl, hS, hbz⟩; obtain ⟨av, cv, rfl⟩ := hS.slice; have HS := Lib.hid hS; clear hS; replace hd := hd.trans (hbz.mono hd.size)))
        have hrq := hrp.all hd
        have HWq := Lib.hid (HWp.out.all hd)
        have Hbq := Lib.hid (Hbp.out.trans (hd.mono Hbp.out.size))
        clear hrp HWp Hbp hd
        have hpn := peersN_pos HR.out ((j : Int), (k : Int))
        rw [Hsafe.out] at hpn
        have Hpo := Lib.hid (fun i hi => peer_ok HR.out Hhas.out (i := i) hi)
        obtain ⟨z0, z1, z2⟩ := row3_cells hrq
        have hcell : wq.cell? ⟨b, off + j, none⟩ = some (.int .i64 (L.M j)) := by
          rcases HWq.out with ⟨h0, _⟩ | ⟨b', off', cap', heq, h0, hcap, hmax, hcells, hrange⟩
          · omega
          simp only [Value.slice.injEq, true_and, Option.some.injEq, Addr.mk.injEq, and_true] at heq
          obtain ⟨⟨rfl, rfl⟩, rfl⟩ := heq
          exact hcells j hj
        have hnl : L.peersN ((j : Int), (k : Int)) ≤ 6 := by
          unfold Lay.peersN
          split <;> omega
        have Hrq := Lib.hid hrq; clear hrq
        generalize hN : L.peersN ((j : Int), (k : Int)) = N at *
        have HN := Lib.hid hN; clear hN
        generalize hrole : (L.page ((j : Int), (k : Int))).2 = role at *
        have Hrole := Lib.hid hrole; clear hrole
        by_cases hN0 : N = 0
        · subst hN0
          have hr4 : role = 4 := by simpa using hpn
          subst hr4
          clear hpn
          go_wp2_with fail
          go_loop [15] (fun t => t = .int .i64 0) (fun t => 0)
          case atStart => rfl
          case round =>
            obtain rfl := hrel
            go_wp2_with fail
            go_roundw
            case rel => exact ⟨k + 1, by omega, by go_num, Hbq.out⟩
            case measure => simp [intOf]; omega
        · have hN1 : (0 : Int) < N := by omega
          have hr4 : (role != 4) = true := by
            rw [decide_eq_true hN1] at hpn
            simpa using hpn.symm
          clear hpn
          have hN1n : 0 < N := by omega
          have hr6 : ¬ role = 4 := by rw [bne_iff_ne] at hr4; exact hr4
          obtain ⟨gv, capv, hv, -, hrv, -, -⟩ := HS.out.row (by omega)
          simp only [Value.slice.injEq, true_and] at hv
          obtain ⟨rfl, rfl⟩ := hv
          have HC := Lib.hid hrv.reads; clear hrv HS
          go_wp2_with fail
          go_loopw [15] (fun t W => ∃ i : Nat, i ≤ N ∧ t = .int .i64 i ∧ Below wq.heap.size wq W) (fun t _ => N - (intOf t).toNat)
          case atStart => exact ⟨0, by omega, rfl, Below.refl _ _⟩
          case round =>
            obtain ⟨i, hi, rfl, hbi⟩ := hrel
            by_cases hlti : i < N
            · have hri := Hrq.out.all hbi
              have HWi := Lib.hid (HWq.out.all hbi)
              have HCi := Lib.hid (HC.out.all hbi)
              have Hbi := Lib.hid hbi; clear hbi
              obtain ⟨po1, po2, po3⟩ := Hpo.out i hlti
              have Po1 := Lib.hid po1; clear po1
              have hu1 : ((peersF ((j : Int), (k : Int)) i).1 == (j : Int)) = false := by rw [beq_eq_false_iff_ne]; exact po2
              have hu3 : ((L.page (peersF ((j : Int), (k : Int)) i)).2 == 4) = false := by rw [beq_eq_false_iff_ne]; exact po3
              clear po2 po3 z0 z1 z2 hcell
              generalize hu : peersF ((j : Int), (k : Int)) i = u at *
              have Hu := Lib.hid hu; clear hu
              go_upto_region 19 with fail
              have hd : Below wr.heap.size wr wr.drew := (Below.refl _ wr).drew
              have hkp := fun w' (hq : Below wr.heap.size wr w') => keep_peer hri HCi.out hlti hq
              rw [Hu.out] at hkp
              have Hkp := Lib.hid hkp; clear hkp
              go_region_held (fun w' => w'.cell? ⟨w.heap.size, 0, none⟩ = some (.int .i64 L.K) ∧ w'.cell? ⟨w.heap.size, 1, none⟩ = some (.slice (some ⟨b, off, none⟩) L.n cap) ∧ w'.cell? ⟨w.heap.size, 2, none⟩ = some (.int .i64 L.C) ∧ w'.cell? ⟨gv, i * 2, none⟩ = some (.int .i64 u.1) ∧ w'.cell? ⟨gv, i * 2 + 1, none⟩ = some (.int .i64 u.2) ∧ Below wr.heap.size wr w') (exact Hkp.out _ (by assumption))
                (first | (go_at_call 24; refine (Page_ok L _ u _ (HWi.out.all hd) HR.out Po1.out).mono ?_; rintro e wt ⟨rfl, hbz⟩; replace hd := hd.trans (hbz.mono hd.size)))
              obtain ⟨-, -, -, u0, -, -⟩ := Hkp.out _ hd
              have Hbt := Lib.hid (Hbi.out.trans (hd.mono Hbi.out.size))
              clear hd
              go_wp2_with fail
              go_roundw
              case rel => exact ⟨i + 1, by omega, by go_num, Hbt.out⟩
              case measure => simp [intOf]; omega
            · obtain rfl : i = N := by omega
              have Hbi := Lib.hid (Hbq.out.trans (hbi.mono Hbq.out.size)); clear hbi
              go_wp2_with fail
              go_roundw
              case rel => exact ⟨k + 1, by omega, by go_num, Hbi.out⟩
              case measure => simp [intOf]; omega
      · have hlt' : ¬ (k : Int) < L.M j := hlt
        clear hlt
        go_wp2_with fail
        refine (sanity_any _).mono ?_
        rintro e w6 ⟨rfl, hb6⟩
        go_wp2
        go_ret
        exact ⟨rfl, hB5.trans ((Hbl.out.trans (hb6.mono Hbl.out.size)).mono hB5.size)⟩

end Go.Proofs.Ytlbohmfhdchabaa
