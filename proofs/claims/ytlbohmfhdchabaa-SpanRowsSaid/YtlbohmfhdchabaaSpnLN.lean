/- Span: what the reference answers, in plain Lean: the first page at a spot, regions. -/
import Derived.Test.YtlbohmfhdchabaaSpnLF
import Derived.Test.YtlbohmfhdchabaaSpanN
namespace Go.Proofs.Ytlbohmfhdchabaa
open Go.RowKit

theorem page_role (L : Lay) (s : Int × Int) : (L.page s).2 = 1 ∨ (L.page s).2 = 4 ∨ (L.K = 4 ∧ (L.page s).2 = 2) ∨ (L.K ≠ 4 ∧ (L.page s).2 = 3) := by
  unfold Lay.page
  by_cases h1 : L.K = 1
  · rw [if_pos h1]; exact .inl rfl
  by_cases h2 : L.K = 2
  · rw [if_neg h1, if_pos h2]; exact .inl rfl
  by_cases h3 : L.K = 3
  · rw [if_neg h1, if_neg h2, if_pos h3]
    split
    · exact .inr (.inl rfl)
    · exact .inl rfl
  by_cases h4 : L.K = 4
  · rw [if_neg h1, if_neg h2, if_neg h3, if_pos h4]
    split
    · exact .inr (.inl rfl)
    · split
      · exact .inl rfl
      · exact .inr (.inr (.inl ⟨h4, rfl⟩))
  rw [if_neg h1, if_neg h2, if_neg h3, if_neg h4]
  split
  · exact .inr (.inl rfl)
  · split
    · exact .inr (.inr (.inr ⟨h4, rfl⟩))
    · exact .inl rfl

theorem page_free {L : Lay} {s : Int × Int} (h : (L.page s).2 = 4) : L.page s = (0, 4) := by
  revert h
  unfold Lay.page
  by_cases h1 : L.K = 1
  · rw [if_pos h1]; intro h; cases h
  by_cases h2 : L.K = 2
  · rw [if_neg h1, if_pos h2]; intro h; cases h
  by_cases h3 : L.K = 3
  · rw [if_neg h1, if_neg h2, if_pos h3]
    split
    · intro _; rfl
    · intro h; cases h
  by_cases h4 : L.K = 4
  · rw [if_neg h1, if_neg h2, if_neg h3, if_pos h4]
    split
    · intro _; rfl
    · split
      · intro h; cases h
      · intro h; cases h
  rw [if_neg h1, if_neg h2, if_neg h3, if_neg h4]
  split
  · intro _; rfl
  · split
    · intro h; cases h
    · intro h; cases h

/-- The first page that lies at a spot, as a search finds it. -/
theorem ref_page {L : Lay} (h : L.Right) {s : Int × Int} {p : Nat} {i : Nat} (hp : (p : Int) < L.size) (hi : i < L.num') (hat : L.at p i = s)
    (hbef : ∀ q : Nat, q < p → ∀ j, j < L.num' → L.at q j ≠ s) : L.page s = ((p : Int), if i = 0 then 1 else if L.K = 4 then 2 else 3) := by
  have hb := back h (p := p) ⟨by omega, hp⟩ hi
  have b1 := hb.has
  have b2 := hb.role
  have b3 := hb.first
  have b4 := hb.own
  have b5 := hb.par
  rw [hat] at b1 b2 b3 b4 b5
  obtain ⟨⟨f0, f1⟩, j, hj, f2⟩ := forth h b1 b2
  have hle : (L.page s).1 ≤ p := by
    by_cases h3 : (L.page s).2 = 3
    · exact b5 h3
    · rw [b4 h3]; exact Int.le_refl _
  have hge : ¬ (L.page s).1 < p := fun hlt => by
    have := hbef (L.page s).1.toNat (by omega) j hj
    rw [Int.toNat_of_nonneg f0] at this
    exact this f2
  have hfst : (L.page s).1 = p := by omega
  have hsnd : (L.page s).2 = if i = 0 then 1 else if L.K = 4 then 2 else 3 := by
    by_cases hi0 : i = 0
    · rw [if_pos hi0]; exact b3.1 hi0
    · rw [if_neg hi0]
      rcases page_role L s with hr | hr | ⟨hk, hr⟩ | ⟨hk, hr⟩
      · exact absurd (b3.2 hr) hi0
      · exact absurd hr b2
      · rw [if_pos hk]; exact hr
      · rw [if_neg hk]; exact hr
  exact Prod.ext hfst hsnd

theorem ref_none {L : Lay} (h : L.Right) {s : Int × Int} (hs : L.has s = true) (hno : ∀ q : Nat, (q : Int) < L.size → ∀ j, j < L.num' → L.at q j ≠ s) : L.page s = (0, 4) := by
  refine page_free ?_
  refine Classical.byContradiction fun hne => ?_
  obtain ⟨⟨f0, f1⟩, j, hj, f2⟩ := forth h hs hne
  have := hno (L.page s).1.toNat (by omega) j hj
  rw [Int.toNat_of_nonneg f0] at this
  exact this f2

/-- The reference's region of a page. -/
def Lay.rreg (L : Lay) (p : Int) : Int := if L.K = 4 then p / L.C else if L.K = 5 then p / (L.C * (L.n - 1)) else 0

theorem reg_ref {L : Lay} (h : L.Right) {p : Int} (hp : 0 ≤ p ∧ p < L.size) : L.reg p = L.rreg p := by
  have hC := h.chunk
  have hk := h.kind
  have hn := h.nle
  have hm := h.mle
  unfold Lay.reg Lay.rreg
  by_cases h4 : L.K = 4
  · have hr : L.regs = L.m := by unfold Lay.regs; rw [if_pos h4]
    have ha : L.at p 0 = (((0 : Nat) : Int), p) := by unfold Lay.at; rw [h4]; rfl
    rw [if_neg (by omega), if_pos h4, ha]
  · rw [if_neg h4]
    by_cases h5 : L.K = 5
    · have hw := h.whole (.inr h5)
      have hr : L.regs = L.k := by unfold Lay.regs; rw [if_neg h4, if_pos h5]
      have ha : (L.at p 0).2 = p / L.C / (L.n - 1) * L.C + p % L.C := by unfold Lay.at; rw [h5]; rfl
      rw [if_neg (by omega), if_pos h5, ha, (chunk_div (Int.emod_nonneg _ (by omega)) (Int.emod_lt_of_pos _ (by omega))).1, ← Int.ediv_ediv_of_nonneg (by omega)]
    · have hr : L.regs = 0 := by unfold Lay.regs; rw [if_neg h4, if_neg h5]
      rw [if_pos hr, if_neg h5]

/-- The reference's number of regions. -/
def Lay.rregn (L : Lay) : Int := if L.K = 4 ∨ L.K = 5 then L.rreg (L.size - 1) + 1 else 0

theorem regn_ref {L : Lay} (h : L.Right) : L.regn = L.rregn := by
  have hC := h.chunk
  have hk := h.kind
  have hn := h.nle
  have hm := h.mle
  have hkl := h.kle
  unfold Lay.regn Lay.rregn Lay.rreg
  by_cases h4 : L.K = 4
  · have hr : L.regs = L.m := by unfold Lay.regs; rw [if_pos h4]
    have hs : L.size = L.m := by unfold Lay.size; rw [h4]; rfl
    rw [if_pos (.inl h4), if_pos h4, hr, hs]
    rw [show L.m + L.C - 1 = (L.m - 1) + 1 * L.C from by omega, Int.add_mul_ediv_right _ _ (by omega)]
  · by_cases h5 : L.K = 5
    · have hw := h.whole (.inr h5)
      have hr : L.regs = L.k := by unfold Lay.regs; rw [if_neg h4, if_pos h5]
      have hs : L.size = (L.n - 1) * L.k := by unfold Lay.size; rw [h5]; rfl
      have hn3 : (3 : Int) ≤ L.n := by have := h.num.1; unfold Lay.lo at this; rw [h5] at this; exact this
      rw [if_pos (.inr h5), if_neg h4, if_pos h5, hr, hs]
      have hkk := hkl.2.2
      generalize L.m / L.C = T at *
      have e1 : L.k + L.C - 1 = T * L.C + (L.C - 1) := by omega
      have hCn : 0 < L.C * ((L.n : Int) - 1) := Int.mul_pos (by omega) (by omega)
      have e2' : ∀ N T C : Int, N * (T * C) - 1 = (C * N - 1) + (T - 1) * (C * N) := fun N T C => by
        rw [Int.sub_mul T 1, Int.one_mul, Int.mul_comm N, Int.mul_assoc]; omega
      have e2 : ((L.n : Int) - 1) * L.k - 1 = (L.C * (L.n - 1) - 1) + (T - 1) * (L.C * (L.n - 1)) := by
        rw [hkk, e2']
      rw [e1, (chunk_div (by omega) (by omega)).1, e2, Int.add_mul_ediv_right _ _ (by omega), Int.ediv_eq_zero_of_lt (by omega) (by omega)]
      omega
    · have hr : L.regs = 0 := by unfold Lay.regs; rw [if_neg h4, if_neg h5]
      rw [if_neg (by omega), hr, Int.ediv_eq_zero_of_lt (by omega) (by omega)]

/-- Of a region: its pages of each member are those that the reference takes. -/
theorem mem_ref {L : Lay} (h : L.Right) {r : Int} (hr : 0 ≤ r ∧ r < L.regn) :
    (L.K = 5 → L.memB r = (r + 1) * L.C) ∧ (L.K ≠ 5 → L.K = 4 ∧ L.memB r = if L.m < (r + 1) * L.C then L.m else (r + 1) * L.C) ∧ r * L.C < L.memB r ∧ L.memB r ≤ (r + 1) * L.C := by
  have hC := h.chunk
  have hk := h.kind
  have hkl := h.kle
  have hb := Lay.reg_bound h hr
  have hrC : (r + 1) * L.C = r * L.C + L.C := by rw [Int.add_mul, Int.one_mul]
  have hlast : r * L.C < L.memB r ∧ L.memB r ≤ (r + 1) * L.C := by
    unfold Lay.memB
    split <;> omega
  refine ⟨fun h5 => ?_, fun h5 => ?_, hlast.1, hlast.2⟩
  · have hrg : L.regs = L.k := by unfold Lay.regs; rw [h5]; rfl
    unfold Lay.memB
    rw [if_neg]
    rw [hrg, hkl.2.2] at hb ⊢
    have hlt : r < L.m / L.C := Int.lt_of_mul_lt_mul_right hb.2.1 (by omega)
    have := Int.mul_le_mul_of_nonneg_right (show r + 1 ≤ L.m / L.C by omega) (show 0 ≤ L.C by omega)
    omega
  · have h4 : L.K = 4 := by
      refine Classical.byContradiction fun h4 => ?_
      have : L.regs = 0 := by unfold Lay.regs; rw [if_neg h4, if_neg h5]
      omega
    have hrg : L.regs = L.m := by unfold Lay.regs; rw [if_pos h4]
    refine ⟨h4, ?_⟩
    unfold Lay.memB
    rw [hrg]

theorem Lay.Right.num_six {L : Lay} (h : L.Right) : L.num' ≤ 6 := by
  have := h.nle
  unfold Lay.num'
  repeat' split
  all_goals omega

end Go.Proofs.Ytlbohmfhdchabaa
