/- Span: Collect, Members. -/
import Derived.Test.YtlbohmfhdchabaaSpanM
namespace Go.Proofs.Ytlbohmfhdchabaa
open Go.RowKit

set_option maxHeartbeats 1000000 in
theorem collect_any (B g n : Nat) (a b : Int) (m : Nat) (hm : m = (b - a).toNat) (hn : n ≤ 6) (hab : 0 ≤ a ∧ a ≤ 1000000 ∧ b ≤ 1000000) (w : World) (hrd : SpotsRd B g n a b w) (hlt : B + 2 < w.heap.size ∧ g < w.heap.size) :
    Calls Try.prog 47 #[.func (.func 56) #[] #[.pointer (some ⟨B, 0, none⟩), .pointer (some ⟨B + 1, 0, none⟩), .pointer (some ⟨B + 2, 0, none⟩)]] w (Collected w (n * m) (nthSpot a m)) := by
  have hc := appendSeq_any B g n a b m hm hn hab w hrd hlt
  have Hc := Lib.hid hc; clear hc hm hrd
  go_enter Try.func47, Try.ntmps47
  go_wp2_with fail
  refine Hc.out.mono ?_
  rintro e w' ⟨v, rfl, hS, hb⟩
  obtain ⟨av, cv, rfl⟩ := hS.slice
  have Hn := Lib.hid (And.intro hS hb); clear hS hb
  go_wp2
  go_ret
  exact ⟨_, rfl, Hn.out⟩

theorem spots_p (g n : Nat) (a b : Int) (w : World) (hc : w.cell? ⟨g, 3, none⟩ = some (.int .i64 n)) :
    Calls Try.prog 48 #[.pointer (some ⟨g, 0, none⟩), .int .i64 a, .int .i64 b] w fun e w' => e = .returned (.func (.func 56) #[] #[.pointer (some ⟨w.heap.size, 0, none⟩), .pointer (some ⟨w.heap.size + 1, 0, none⟩), .pointer (some ⟨w.heap.size + 2, 0, none⟩)]) ∧
      SpotsRd w.heap.size g n a b w' ∧ Below w.heap.size w w' ∧ w'.heap.size = w.heap.size + 3 ∧ g < w.heap.size :=
  (spots_any _ a b w _ rfl).mono fun e w' h => by
    obtain ⟨rfl, rfl⟩ := h
    have hg : g < w.heap.size := World.block_lt_of_cell? w ⟨g, 3, none⟩ hc
    have r1 := RowAt.new w #[.pointer (some ⟨g, 0, none⟩)] 65 (fun _ => .pointer (some ⟨g, 0, none⟩)) 1 (by simp) (one_cell rfl)
    have r2 := RowAt.new (w.alloc (.cells #[.pointer (some ⟨g, 0, none⟩)] 65)) #[.int .i64 a] 3 (fun _ => .int .i64 a) 1 (by simp) (one_cell rfl)
    have r3 := RowAt.new ((w.alloc (.cells #[.pointer (some ⟨g, 0, none⟩)] 65)).alloc (.cells #[.int .i64 a] 3)) #[.int .i64 b] 3 (fun _ => .int .i64 b) 1 (by simp) (one_cell rfl)
    have hb : Below w.heap.size w (((w.alloc (.cells #[.pointer (some ⟨g, 0, none⟩)] 65)).alloc (.cells #[.int .i64 a] 3)).alloc (.cells #[.int .i64 b] 3)) :=
      (((Below.refl _ w).alloc (Nat.le_refl _) _).alloc (by simp) _).alloc (by simp; omega) _
    simp only [World.size_alloc] at r2 r3
    exact ⟨rfl, ⟨((r1.alloc _).alloc _).cell (i := 0) (by omega), (r2.alloc _).cell (i := 0) (by omega), r3.cell (i := 0) (by omega), (hb.cell (p := ⟨g, 3, none⟩) hg).trans hc⟩, hb, by simp, hg⟩

/-- Up to which page of each member a region goes; how many pages of each member it has. -/
def Lay.memB (L : Lay) (r : Int) : Int := if L.regs < (r + 1) * L.C then L.regs else (r + 1) * L.C
def Lay.memM (L : Lay) (r : Int) : Nat := (L.memB r - r * L.C).toNat

def MembersP (L : Lay) (r : Int) (w : World) (e : Ending) (w' : World) : Prop :=
  ((L.Right ∧ 0 ≤ r ∧ r < L.regn ∧ ∃ v, e = .returned (.tuple #[v, .int .i64 0]) ∧ Spots w' w.heap.size v (L.n * L.memM r) (nthSpot (r * L.C) (L.memM r))) ∨
   (L.Right ∧ ¬ (0 ≤ r ∧ r < L.regn) ∧ e = .returned (.tuple #[.slice none 0 0, .int .i64 24])) ∨ (¬ L.Right ∧ e = .returned (.tuple #[.slice none 0 0, .int .i64 1]))) ∧ Below w.heap.size w w'

theorem Lay.reg_bound {L : Lay} (h : L.Right) {r : Int} (hr : 0 ≤ r ∧ r < L.regn) : 0 ≤ r * L.C ∧ r * L.C < L.regs ∧ r ≤ 4096 ∧ (r + 1) * L.C ≤ 5000 := by
  have h1 := h.regs
  have h2 := h.chunk
  have h3 := quot_facts (L.regs + L.C - 1) L.C (by omega) (by omega)
  have h4 : (r + 1) * L.C ≤ L.regn * L.C := Int.mul_le_mul_of_nonneg_right (by omega) (by omega)
  have h5 : r * L.C = (r + 1) * L.C - L.C := by rw [Int.add_mul]; omega
  have h6 : 0 ≤ r * L.C := Int.mul_nonneg hr.1 (by omega)
  have h7 : r * 1 ≤ r * L.C := Int.mul_le_mul_of_nonneg_left h2.1 hr.1
  unfold Lay.regn at h4
  omega

set_option maxHeartbeats 4000000 in
theorem Members_any (L : Lay) (sl : Value) (r : Int) (w : World) (hs : IArg w sl L.n L.M) : Calls Try.prog 28 #[layV L sl, .int .i64 r] w (MembersP L r w) := by
  obtain ⟨hW, hr, hB⟩ := lay_setup hs
  obtain ⟨c0, c1, c2⟩ := row3_cells hr
  obtain ⟨a, cap, rfl⟩ := hs.slice
  have HW := Lib.hid hW; clear hW hs
  unfold layV
  go_enter Try.func28, Try.ntmps28
  go_wp2_with fail
  generalize w.alloc (.cells #[.int .i64 L.K, .slice a L.n cap, .int .i64 L.C] 24) = W at *
  refine (Regions_any L _ W HW.out).mono ?_
  rintro e w4 ⟨(⟨hR, rfl⟩ | ⟨hnR, rfl⟩), hB4⟩
  · have HR := Lib.hid hR; clear hR
    obtain ⟨d0, d1, d2⟩ := row3_cells (hr.all hB4)
    rcases h1 : decide (r < 0) with _ | _
    · have h1' : ¬ r < 0 := of_decide_eq_false h1
      rcases h2 : decide (L.regn ≤ r) with _ | _
      · have h2' : ¬ L.regn ≤ r := of_decide_eq_false h2
        have hrr : 0 ≤ r ∧ r < L.regn := by omega
        have hbd := Lay.reg_bound HR.out hrr
        have Hrr := Lib.hid hrr; clear hrr
        go_wp2_with fail
        refine (of_any L _ w4 (HW.out.all hB4)).mono ?_
        rintro e w5 ⟨hB5, (⟨_, g, rfl, hge, hrow⟩ | ⟨hnR, rfl⟩)⟩
        rotate_left 1
        · exact absurd HR.out hnR
        have hg : Geo w5 g L (.slice a L.n cap) := ⟨HR.out, hrow, (HW.out.all hB4).all hB5⟩
        have hB' := hB.trans ((hB4.trans (hB5.mono hB4.size)).mono hB.size)
        have hgl := hg.row.lt
        have hn := hg.right.nle
        have hrg := hg.right.regs
        have Hg := Lib.hid hg; clear hg hrow
        have w1 : IntKind.i64.wrap (r * L.C) = r * L.C := IntWalk.i64_in _ (by omega)
        have w2 : IntKind.i64.wrap (r + 1) = r + 1 := IntWalk.i64_in _ (by omega)
        have w3 : IntKind.i64.wrap ((r + 1) * L.C) = (r + 1) * L.C := IntWalk.i64_in _ (by have := Int.mul_nonneg (show 0 ≤ r + 1 by omega) (show 0 ≤ L.C by have := HR.out.chunk; omega); omega)
        go_upto_region 7 with fail
        have hd : Below w5.heap.size w5 w5.drew := (Below.refl _ w5).drew
        rcases hmd : decide (L.regs < (r + 1) * L.C) with _ | _
        · have hlt : ¬ L.regs < (r + 1) * L.C := of_decide_eq_false hmd
          have hmm : L.memB r = (r + 1) * L.C := by unfold Lay.memB; rw [if_neg hlt]
          have hmB : 0 ≤ r * L.C ∧ r * L.C ≤ 1000000 ∧ L.memB r ≤ 1000000 := by omega
          clear hmm
          have HmB := Lib.hid hmB; clear hmB
          have hsz5 : w5.drew.heap.size = w5.heap.size := rfl
          go_region_held (fun w' => w'.cell? ⟨g, 2, none⟩ = some (.int .i64 L.C) ∧ Below w5.heap.size w5 w') (exact ⟨(Hg.out.all (by assumption)).cells.2.2.1, by assumption⟩)
            (first | (go_at_call 46; refine (regions_any L _ g _ (Hg.out.all hd)).mono ?_; rintro e w6 ⟨rfl, rfl⟩) | (go_at_call 48; refine (spots_p g L.n (r * L.C) (L.memB r) _ (Hg.out.all hd).cells.2.2.2.1).mono ?_; rintro e w7 ⟨rfl, hrd, hB7, hsz7, hgl7⟩; replace hd := hd.trans (hB7.mono hd.size); have Hrd := Lib.hid hrd; clear hrd) | (go_at_call 47; refine (collect_any _ g L.n (r * L.C) (L.memB r) (L.memM r) rfl (by omega) HmB.out _ Hrd.out ⟨by omega, by omega⟩).mono ?_; rintro e w8 ⟨v, rfl, hS, hB8⟩; have hd8 : w.heap.size ≤ _ := Nat.le_trans hB'.size hd.size; replace hd := hd.trans (hB8.mono hd.size); obtain ⟨av, cv, rfl⟩ := hS.slice; have HS := Lib.hid (hS.mono hd8); clear hS))
          go_wp2
          exact bodyPost_ret (v := .tuple #[.slice av (L.n * L.memM r) cv, .int .i64 0]) (by simp [results, Try.results28, go_sem]) rfl ⟨.inl ⟨HR.out, Hrr.out.1, Hrr.out.2, _, rfl, HS.out⟩, hB'.trans (hd.mono hB'.size)⟩
        · have hlt : L.regs < (r + 1) * L.C := of_decide_eq_true hmd
          have hmm : L.memB r = L.regs := by unfold Lay.memB; rw [if_pos hlt]
          have hmB : 0 ≤ r * L.C ∧ r * L.C ≤ 1000000 ∧ L.memB r ≤ 1000000 := by omega
          have hmq : L.memM r = (L.regs - r * L.C).toNat := by unfold Lay.memM; rw [hmm]
          rw [hmm] at hmB
          have Hmq := Lib.hid hmq
          clear hmm hmq
          have HmB := Lib.hid hmB; clear hmB
          have hsz5 : w5.drew.heap.size = w5.heap.size := rfl
          go_region_held (fun w' => w'.cell? ⟨g, 2, none⟩ = some (.int .i64 L.C) ∧ Below w5.heap.size w5 w') (exact ⟨(Hg.out.all (by assumption)).cells.2.2.1, by assumption⟩)
            (first | (go_at_call 46; refine (regions_any L _ g _ (Hg.out.all hd)).mono ?_; rintro e w6 ⟨rfl, rfl⟩) | (go_at_call 48; refine (spots_p g L.n (r * L.C) L.regs _ (Hg.out.all hd).cells.2.2.2.1).mono ?_; rintro e w7 ⟨rfl, hrd, hB7, hsz7, hgl7⟩; replace hd := hd.trans (hB7.mono hd.size); have Hrd := Lib.hid hrd; clear hrd) | (go_at_call 47; refine (collect_any _ g L.n (r * L.C) L.regs (L.memM r) Hmq.out (by omega) HmB.out _ Hrd.out ⟨by omega, by omega⟩).mono ?_; rintro e w8 ⟨v, rfl, hS, hB8⟩; have hd8 : w.heap.size ≤ _ := Nat.le_trans hB'.size hd.size; replace hd := hd.trans (hB8.mono hd.size); obtain ⟨av, cv, rfl⟩ := hS.slice; have HS := Lib.hid (hS.mono hd8); clear hS))
          go_wp2
          exact bodyPost_ret (v := .tuple #[.slice av (L.n * L.memM r) cv, .int .i64 0]) (by simp [results, Try.results28, go_sem]) rfl ⟨.inl ⟨HR.out, Hrr.out.1, Hrr.out.2, _, rfl, HS.out⟩, hB'.trans (hd.mono hB'.size)⟩
      · have h2' : L.regn ≤ r := of_decide_eq_true h2
        go_wp2
        exact bodyPost_ret (v := .tuple #[.slice none 0 0, .int .i64 24]) (by simp [results, Try.results28, go_sem]) rfl ⟨.inr (.inl ⟨HR.out, by omega, rfl⟩), hB.trans (hB4.mono hB.size)⟩
    · have h1' : r < 0 := of_decide_eq_true h1
      go_wp2
      exact bodyPost_ret (v := .tuple #[.slice none 0 0, .int .i64 24]) (by simp [results, Try.results28, go_sem]) rfl ⟨.inr (.inl ⟨HR.out, by omega, rfl⟩), hB.trans (hB4.mono hB.size)⟩
  · have HR := Lib.hid hnR; clear hnR
    go_wp2
    exact bodyPost_ret (v := .tuple #[.slice none 0 0, .int .i64 1]) (by simp [results, Try.results28, go_sem]) rfl ⟨.inr (.inr ⟨HR.out, rfl⟩), hB.trans (hB4.mono hB.size)⟩

end Go.Proofs.Ytlbohmfhdchabaa
