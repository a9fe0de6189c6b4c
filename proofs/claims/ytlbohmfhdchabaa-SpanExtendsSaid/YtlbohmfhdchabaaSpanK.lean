/- Span: Region, Row. -/
import Derived.Test.YtlbohmfhdchabaaSpanJ
namespace Go.Proofs.Ytlbohmfhdchabaa
open Go.RowKit

/-- The region of a page. -/
def Lay.reg (L : Lay) (p : Int) : Int := if L.regs = 0 then 0 else (L.at p 0).2 / L.C

def RegionP (L : Lay) (p : Int) (w : World) (e : Ending) (w' : World) : Prop :=
  ((L.Right ∧ 0 ≤ p ∧ p < L.size ∧ e = .returned (.tuple #[.int .i64 (L.reg p), .int .i64 0])) ∨
   (L.Right ∧ ¬ (0 ≤ p ∧ p < L.size) ∧ e = .returned (.tuple #[.int .i64 0, .int .i64 24])) ∨ (¬ L.Right ∧ e = .returned (.tuple #[.int .i64 0, .int .i64 1]))) ∧ Below w.heap.size w w'

theorem Lay.num_pos {L : Lay} (h : L.Right) : 0 < L.num' := by
  have := h.nle
  unfold Lay.num'
  repeat' split
  all_goals omega

theorem Lay.Right.sizes {L : Lay} (h : L.Right) : L.size ≤ 24576 := by
  have hn := h.nle
  have hk := h.kle
  have hm := h.mle
  have h1 := mul_bound (a := L.n) (b := L.k) (x := 6) (y := 4096) (by omega) (by omega)
  have h2 := mul_bound (a := (L.n : Int) - 1) (b := L.k) (x := 6) (y := 4096) (by omega) (by omega)
  have h3 := (sumI_bound L.M 1 4096 L.n (fun i hi => h.mem i (by omega))).2
  unfold Lay.size
  repeat' split
  all_goals omega

theorem Lay.at_bound {L : Lay} (h : L.Right) {p : Int} (hp : 0 ≤ p ∧ p < L.size) (hk : L.regs ≠ 0) : 0 ≤ (L.at p 0).2 ∧ (L.at p 0).2 ≤ p := by
  have hn := h.nle
  have hs := h.sizes
  have hC := h.chunk
  unfold Lay.regs at hk
  unfold Lay.at
  by_cases h4 : L.K = 4
  · rw [if_neg (by omega), if_neg (by omega), if_neg (by omega), if_pos h4]
    exact ⟨hp.1, Int.le_refl _⟩
  · by_cases h5 : L.K = 5
    · have hn3 : (3 : Int) ≤ L.n := by have := h.num.1; unfold Lay.lo at this; rw [h5] at this; exact this
      rw [if_neg (by omega), if_neg (by omega), if_neg (by omega), if_neg (by omega), if_pos rfl]
      obtain ⟨q1, q2, q3, q4⟩ := quot_facts p L.C (by omega) (by omega)
      have q9 := quot_mul (p / L.C) (L.n - 1) L.C q2.1 (by omega) (by omega)
      dsimp only
      omega
    · rw [if_neg h4, if_neg h5] at hk
      exact absurd rfl hk

set_option maxHeartbeats 4000000 in
theorem Region_any (L : Lay) (sl : Value) (p : Int) (w : World) (hs : IArg w sl L.n L.M) : Calls Try.prog 29 #[layV L sl, .int .i64 p] w (RegionP L p w) := by
  obtain ⟨hW, hr, hB⟩ := lay_setup hs
  obtain ⟨c0, c1, c2⟩ := row3_cells hr
  obtain ⟨a, cap, rfl⟩ := hs.slice
  have HW := Lib.hid hW; clear hW hs
  unfold layV
  go_enter Try.func29, Try.ntmps29
  go_wp2_with fail
  generalize w.alloc (.cells #[.int .i64 L.K, .slice a L.n cap, .int .i64 L.C] 24) = W at *
  refine (of_any L _ W HW.out).mono ?_
  rintro e w4 ⟨hB4, (⟨hR, g, rfl, hge, hrow⟩ | ⟨hnR, rfl⟩)⟩
  · have hg : Geo w4 g L (.slice a L.n cap) := ⟨hR, hrow, HW.out.all hB4⟩
    have Hg := Lib.hid hg
    have hme := method_place hR.kind
    have hen := enter_place hR.kind
    clear hg hR hrow
    go_wp2_with fail
    refine (in_any L _ g p w4 Hg.out).mono ?_
    rintro e w5 ⟨rfl, hB5⟩
    have hg5 := Hg.out.all hB5
    have hB' := hB.trans ((hB4.trans (hB5.mono hB4.size)).mono hB.size)
    obtain ⟨-, -, d2, -, -, -, c6⟩ := hg5.cells
    have hC := hg5.right.chunk
    have hC0 : ¬ L.C = 0 := by omega
    have Hg5 := Lib.hid hg5; clear hg5 Hg
    rcases in_dec (p := p) (s := L.size) with h | h
    · rw [h]
      have Hp := Lib.hid (in_true h); clear h
      go_wp2_with fail
      refine (regions_any L _ g w5 Hg5.out).mono ?_
      rintro e w6 ⟨rfl, rfl⟩
      by_cases h0 : L.regs = 0
      · have hv : L.reg p = 0 := by unfold Lay.reg; rw [if_pos h0]
        have Hv := Lib.hid hv; clear hv
        rw [h0]
        clear h0
        go_wp2
        exact bodyPost_ret (v := .tuple #[.int .i64 0, .int .i64 0]) (by simp [results, Try.results29, go_sem]) rfl ⟨.inl ⟨Hg5.out.right, Hp.out.1, Hp.out.2, by rw [Hv.out]⟩, hB'⟩
      · have hv : L.reg p = (L.at p 0).2 / L.C := by unfold Lay.reg; rw [if_neg h0]
        have hat := Lay.at_bound Hg5.out.right Hp.out h0
        have hsz := Hg5.out.right.sizes
        have hpp := Hp.out.2
        have hx : 0 ≤ (L.at p 0).2 ∧ (L.at p 0).2 ≤ 24576 := by omega
        clear hat hsz hpp
        have Hv := Lib.hid hv; clear hv
        have h0' : (L.regs == 0) = false := by rw [beq_eq_false_iff_ne]; exact h0
        clear h0
        go_upto_region 8 with fail
        have hd : Below w5.heap.size w5 w5.drew := (Below.refl _ w5).drew
        have hnp := Lay.num_pos Hg5.out.right
        go_region_with (first | (refine (place_any L _ g p _ (Hg5.out.all hd) Hp.out).mono ?_; rintro e w6 ⟨v, rfl, hS, hB6⟩; replace hd := hd.trans (hB6.mono hd.size); obtain ⟨gv, cv, rfl, -, hrv, -, -⟩ := hS.row (Lay.num_pos Hg5.out.right); have hcv := (cells_spot hrv.reads (i := 0) (Lay.num_pos Hg5.out.right)).2; have d6 := (Hg5.out.all hd).cells.2.2.1; clear hS))
        all_goals
          have hq : IntKind.i64.wrap (Int.tdiv (L.at p 0).2 L.C) = (L.at p 0).2 / L.C := IntWalk.i64_quo _ _ (by omega)
          go_wp2
          exact bodyPost_ret (v := .tuple #[.int .i64 ((L.at p 0).2 / L.C), .int .i64 0]) (by simp [results, Try.results29, go_sem, hq]) rfl ⟨.inl ⟨Hg5.out.right, Hp.out.1, Hp.out.2, by rw [Hv.out]⟩, hB'.trans (hd.mono hB'.size)⟩
    · rw [h]
      have Hp := Lib.hid (in_false h); clear h
      go_wp2
      exact bodyPost_ret (v := .tuple #[.int .i64 0, .int .i64 24]) (by simp [results, Try.results29, go_sem]) rfl ⟨.inr (.inl ⟨Hg5.out.right, Hp.out, rfl⟩), hB'⟩
  · have HR := Lib.hid hnR; clear hnR
    go_wp2
    exact bodyPost_ret (v := .tuple #[.int .i64 0, .int .i64 1]) (by simp [results, Try.results29, go_sem]) rfl ⟨.inr (.inr ⟨HR.out, rfl⟩), hB.trans (hB4.mono hB.size)⟩

/-- The row of a page. -/
def Lay.rowN (L : Lay) : Nat := if L.K = 5 then L.n - 1 else 1
def Lay.rowF (L : Lay) (p : Int) (d : Nat) : Int := if L.K = 5 then (p / L.C / (L.n - 1) * (L.n - 1) + d) * L.C + p % L.C else p

def RowP (L : Lay) (p : Int) (w : World) (e : Ending) (w' : World) : Prop :=
  ((L.Right ∧ 0 ≤ p ∧ p < L.size ∧ ∃ v, e = .returned (.tuple #[v, .int .i64 0]) ∧ Own w' w.heap.size 3 v L.rowN (intsV (L.rowF p))) ∨
   (L.Right ∧ ¬ (0 ≤ p ∧ p < L.size) ∧ e = .returned (.tuple #[.slice none 0 0, .int .i64 24])) ∨ (¬ L.Right ∧ e = .returned (.tuple #[.slice none 0 0, .int .i64 1]))) ∧ Below w.heap.size w w'

theorem Own.snoc {w : World} {B : Nat} {e : TypeId} {v : Value} {n : Nat} {f : Nat → Value} {s : Value} (h : Own w B e v (n + 1) (fun i => if i < n then f i else (fun _ => s) (i - n))) (hs : s = f n) : Own w B e v (n + 1) f :=
  h.congr fun i hi => by
    dsimp only
    by_cases hin : i < n
    · rw [if_pos hin]
    · obtain rfl : i = n := by omega
      rw [if_neg hin, hs]
theorem Own.slice {w : World} {B : Nat} {e : TypeId} {v : Value} {n : Nat} {f : Nat → Value} (h : Own w B e v n f) : ∃ a cap, v = .slice a n cap := by
  rcases h with ⟨rfl, rfl⟩ | ⟨g, cap, rfl, _⟩
  · exact ⟨_, _, rfl⟩
  · exact ⟨_, _, rfl⟩
theorem Own.belowG {w0 w w' : World} {B : Nat} {e : TypeId} {v : Value} {m : Nat} {f : Nat → Value} (h : Own w B e v m f) (hb : Below B w0 w) (hB : B ≤ w.heap.size) (hg : w.grownBy w' v.ownBlock) : Below B w0 w' :=
  hb.grown hg hB (fun k hk => by
    rcases h with ⟨rfl, _⟩ | ⟨g, cap, rfl, hB', _⟩
    · cases hk
    · cases hk; exact hB')

/-- A list of one number. -/
theorem own1 (w : World) (a : Int) : Own (w.alloc (.cells #[.int .i64 a] 3)) w.heap.size 3 (.slice (some ⟨w.heap.size, 0, none⟩) 1 1) 1 (intsV fun _ => a) :=
  .inr ⟨_, 1, rfl, Nat.le_refl _, RowAt.new w #[.int .i64 a] 3 (intsV fun _ => a) 1 (by simp) (one_cell rfl), by decide⟩
theorem cells1i (w : World) (a : Int) : Cells (w.alloc (.cells #[.int .i64 a] 3)) w.heap.size 0 1 (fun _ => .int .i64 a) :=
  (RowAt.new w #[.int .i64 a] 3 (fun _ => .int .i64 a) 1 (by simp) (one_cell rfl)).reads

set_option maxHeartbeats 4000000 in
theorem Row_any (L : Lay) (sl : Value) (p : Int) (w : World) (hs : IArg w sl L.n L.M) : Calls Try.prog 17 #[layV L sl, .int .i64 p] w (RowP L p w) := by
  obtain ⟨hW, hr, hB⟩ := lay_setup hs
  obtain ⟨c0, c1, c2⟩ := row3_cells hr
  obtain ⟨a, cap, rfl⟩ := hs.slice
  have HW := Lib.hid hW; clear hW hs
  unfold layV
  go_enter Try.func17, Try.ntmps17
  go_wp2_with fail
  generalize w.alloc (.cells #[.int .i64 L.K, .slice a L.n cap, .int .i64 L.C] 24) = W at *
  refine (of_any L _ W HW.out).mono ?_
  rintro e w4 ⟨hB4, (⟨hR, g, rfl, hge, hrow⟩ | ⟨hnR, rfl⟩)⟩
  · have hg : Geo w4 g L (.slice a L.n cap) := ⟨hR, hrow, HW.out.all hB4⟩
    have Hg := Lib.hid hg
    have r4 := hr.all hB4
    clear hg hR hrow
    go_wp2_with fail
    refine (in_any L _ g p w4 Hg.out).mono ?_
    rintro e w5 ⟨rfl, hB5⟩
    have hg5 := Hg.out.all hB5
    have hB' := hB.trans ((hB4.trans (hB5.mono hB4.size)).mono hB.size)
    have r5 := r4.all hB5
    obtain ⟨d0, -, -⟩ := row3_cells r5
    have Hg5 := Lib.hid hg5; clear hg5 Hg
    rcases in_dec (p := p) (s := L.size) with h | h
    · rw [h]
      have Hp := Lib.hid (in_true h); clear h
      by_cases h5 : L.K = 5
      · have hv : L.rowN = L.n - 1 ∧ L.rowF p = fun d : Nat => (p / L.C / (L.n - 1) * (L.n - 1) + d) * L.C + p % L.C := by
          constructor
          · unfold Lay.rowN; rw [if_pos h5]
          · funext d; unfold Lay.rowF; rw [if_pos h5]
        have hn3 : (3 : Int) ≤ L.n := by have := Hg5.out.right.num.1; unfold Lay.lo at this; rw [h5] at this; exact this
        have hn := Hg5.out.right.nle
        have hC := Hg5.out.right.chunk
        have hsz := Hg5.out.right.sizes
        have hpp := Hp.out
        have hp2 : 0 ≤ p ∧ p ≤ 1000000 := by omega
        clear hsz hpp
        have hk5 : (L.K != 5) = false := by rw [bne_eq_false_iff_eq]; exact h5
        clear h5
        have Hv := Lib.hid hv; clear hv
        obtain ⟨q1, q2, q3, q4⟩ := quot_facts p L.C hp2 (by omega)
        obtain ⟨q5, q6, q7, q8⟩ := quot_facts (p / L.C) (L.n - 1) (by omega) (by omega)
        have hn2 : (1 : Int) ≤ L.n := by omega
        have hn0 : ¬ L.n = 0 := by omega
        have hn1 : ¬ ((L.n : Int) - 1 = 0) := by omega
        have hC0 : ¬ L.C = 0 := by omega
        obtain ⟨-, -, e2, e3, -, -, -⟩ := Hg5.out.cells
        have hf : 0 ≤ p / L.C / (L.n - 1) * (L.n - 1) ∧ p / L.C / (L.n - 1) * (L.n - 1) ≤ 1000000 := ⟨Int.mul_nonneg q6.1 (by omega), by omega⟩
        clear q4 q8
        go_upto_region 8 with fail
        go_quiet (fail)
        have hg6 := Hg5.out.all (below_drewN _ w5 nq)
        have hB6 := hB'.trans (below_drewN _ w5 nq)
        clear r5 d0 e2 e3 hB5 hB'
        generalize w5.drewN nq = w6 at *
        obtain ⟨-, -, -, e3, -, -, -⟩ := hg6.cells
        go_wp2_with fail
        have Hg6 := Lib.hid hg6; clear hg6 e3
        have hW0 : Own w6 w6.heap.size 3 (.slice none 0 0) 0 (intsV fun d : Nat => (p / L.C / (L.n - 1) * (L.n - 1) + d) * L.C + p % L.C) ∧ Below w.heap.size w w6 ∧ Below w6.heap.size w6 w6 := ⟨Own.nil _ _ _ _, hB6, Below.refl _ _⟩
        have HW0 := Lib.hid hW0; clear hW0 hB6
        generalize hfirst : p / L.C / (L.n - 1) * (L.n - 1) = first at *
        have Hfirst := Lib.hid hfirst; clear hfirst
        clear q5 q6 q7 q1 q2 hn1 hn0
        go_loopw [57, 9] (fun t u W => ∃ k : Nat, k ≤ L.n - 1 ∧ t = .int .i64 k ∧ Own W w6.heap.size 3 u k (intsV fun d : Nat => (first + d) * L.C + p % L.C) ∧ Below w6.heap.size w6 W) (fun t _ _ => L.n - 1 - (intOf t).toNat)
        case atStart => exact ⟨0, by omega, rfl, HW0.out.1, HW0.out.2.2⟩
        case round =>
          obtain ⟨k, hk, rfl, hS, hb⟩ := hrel
          obtain ⟨a', c', rfl⟩ := hS.slice
          obtain ⟨-, -, e2, e3, -, -, -⟩ := (Hg6.out.all hb).cells
          have HS := Lib.hid hS
          have Hb := Lib.hid hb
          clear hS hb
          by_cases hlt : k < L.n - 1
          · have m2 := mul_bound (a := first + k) (b := L.C) (x := 2000000) (y := 64) (by omega) (by omega)
            go_wp2_with (with_reducible refine stopB .append ?_)
            refine Hold.go ?_
            refine wpList_append_o rfl _ _ 22 3 _ _ rfl Try.underlying22 info_int rfl w6.heap.size _ k (intsV fun d : Nat => (first + d) * L.C + p % L.C) rfl (HS.out.alloc _) wr.heap.size 0 1 1 (fun _ => .int .i64 ((first + k) * L.C + p % L.C)) rfl (cells1i wr _) (fun _ _ => rfl) (by omega) (by decide) (by have := Hb.out.size; simp; omega) ?_
            intro v' W3 hS' hgw _ _
            have hb3 := (HS.out.alloc (.cells #[.int .i64 ((first + k) * L.C + p % L.C)] 3)).belowG (Hb.out.alloc Hb.out.size _) (by have := Hb.out.size; simp; omega) hgw
            obtain ⟨a3, c3, rfl⟩ := hS'.slice
            have Hn := Lib.hid (And.intro (hS'.snoc rfl) hb3)
            clear hS' hgw hb3
            go_wp2
            go_roundw
            case rel => exact ⟨k + 1, by omega, by go_num, Hn.out⟩
            case measure => simp [intOf]; omega
          · obtain rfl : k = L.n - 1 := by omega
            have hx : ¬ ((L.n - 1 : Nat) : Int) < L.n - 1 := by omega
            go_wp2
            refine bodyPost_ret (v := .tuple #[.slice a' (L.n - 1) c', .int .i64 0]) (by simp [results, Try.results17, go_sem]) rfl ⟨.inl ⟨Hg5.out.right, Hp.out.1, Hp.out.2, _, rfl, ?_⟩, HW0.out.2.1.trans (Hb.out.mono HW0.out.2.1.size)⟩
            rw [Hv.out.1, Hv.out.2]
            exact HS.out.mono HW0.out.2.1.size
      · have hv : L.rowN = 1 ∧ L.rowF p = fun _ : Nat => p := by
          constructor
          · unfold Lay.rowN; rw [if_neg h5]
          · funext d; unfold Lay.rowF; rw [if_neg h5]
        have Hv := Lib.hid hv; clear hv
        have hk5 : (L.K == 5) = false := by rw [beq_eq_false_iff_ne]; exact h5
        have hk5' : (L.K != 5) = true := by rw [bne_iff_ne]; exact h5
        clear h5
        go_wp2
        refine bodyPost_ret (v := .tuple #[.slice (some ⟨w5.heap.size, 0, none⟩) 1 1, .int .i64 0]) (by simp [results, Try.results17, go_sem]) rfl ⟨.inl ⟨Hg5.out.right, Hp.out.1, Hp.out.2, _, rfl, ?_⟩, hB'.alloc hB'.size _⟩
        rw [Hv.out.1, Hv.out.2]
        exact (own1 w5 p).mono hB'.size
    · rw [h]
      have Hp := Lib.hid (in_false h); clear h
      go_wp2
      exact bodyPost_ret (v := .tuple #[.slice none 0 0, .int .i64 24]) (by simp [results, Try.results17, go_sem]) rfl ⟨.inr (.inl ⟨Hg5.out.right, Hp.out, rfl⟩), hB'⟩
  · have HR := Lib.hid hnR; clear hnR
    go_wp2
    exact bodyPost_ret (v := .tuple #[.slice none 0 0, .int .i64 1]) (by simp [results, Try.results17, go_sem]) rfl ⟨.inr (.inr ⟨HR.out, rfl⟩), hB.trans (hB4.mono hB.size)⟩

end Go.Proofs.Ytlbohmfhdchabaa
