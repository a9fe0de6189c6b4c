/- Span: what the law SpanCovers asks, in plain Lean: counts of what is not free, and the spots of regions. -/
import Derived.Test.YtlbohmfhdchabaaSpnLN
import Derived.Test.YtlbohmfhdchabaaSpanP
namespace Go.Proofs.Ytlbohmfhdchabaa
open Go.RowKit

theorem cntB_congr {f g : Nat → Bool} : ∀ n, (∀ k, k < n → f k = g k) → cntB f n = cntB g n
  | 0, _ => rfl
  | n + 1, h => by simp only [cntB]; rw [cntB_congr n (fun k hk => h k (by omega)), h n (by omega)]
theorem cntB_none {f : Nat → Bool} : ∀ n, (∀ k, k < n → f k = false) → cntB f n = 0
  | 0, _ => rfl
  | n + 1, h => by simp only [cntB]; rw [cntB_none n (fun k hk => h k (by omega)), h n (by omega)]; rfl
theorem cntB_all {f : Nat → Bool} : ∀ n, (∀ k, k < n → f k = true) → cntB f n = n
  | 0, _ => rfl
  | n + 1, h => by simp only [cntB]; rw [cntB_all n (fun k hk => h k (by omega)), h n (by omega)]; rfl
theorem cntB_add (f : Nat → Bool) (a : Nat) : ∀ b, cntB f (a + b) = cntB f a + cntB (fun j => f (a + j)) b
  | 0 => rfl
  | b + 1 => by rw [Nat.add_succ]; simp only [cntB]; rw [cntB_add f a b]; omega
theorem cntB_cut {f : Nat → Bool} {a b : Nat} (hab : a ≤ b) (h : ∀ k, a ≤ k → k < b → f k = false) : cntB f b = cntB f a := by
  obtain ⟨c, rfl⟩ : ∃ c, b = a + c := ⟨b - a, by omega⟩
  rw [cntB_add, cntB_none c (fun k hk => h _ (by omega) (by omega))]
  omega
theorem cntB_chunks (g : Nat → Bool) {C : Nat} (hC : 0 < C) : ∀ T, cntB (fun k => g (k / C)) (T * C) = C * cntB g T
  | 0 => by rw [Nat.zero_mul]; rfl
  | T + 1 => by
    rw [Nat.succ_mul, cntB_add, cntB_chunks g hC T]
    have e : ∀ j, j < C → g ((T * C + j) / C) = g T := fun j hj => by
      rw [Nat.add_comm, Nat.add_mul_div_right _ _ hC, Nat.div_eq_of_lt hj, Nat.zero_add]
    simp only [cntB]
    rcases hg : g T with _ | _
    · rw [cntB_none C (fun j hj => by rw [e j hj, hg])]; simp
    · rw [cntB_all C (fun j hj => by rw [e j hj, hg])]; simp [Nat.mul_add]
theorem cntB_mod {n i : Nat} (hi : i < n) : ∀ T, cntB (fun S => decide (S % n = i)) T = T / n + if i < T % n then 1 else 0
  | 0 => by simp [cntB]
  | T + 1 => by
    simp only [cntB]
    rw [cntB_mod hi T]
    have hlt := Nat.mod_lt T (show n > 0 by omega)
    have hT : T = T % n + n * (T / n) := (Nat.mod_add_div T n).symm
    by_cases h : T % n + 1 < n
    · have e1 : (T + 1) / n = T / n := by
        conv => lhs; rw [hT, show T % n + n * (T / n) + 1 = (T % n + 1) + n * (T / n) from by omega, Nat.add_mul_div_left _ _ (by omega), Nat.div_eq_of_lt h]
        omega
      have e2 : (T + 1) % n = T % n + 1 := by
        conv => lhs; rw [hT, show T % n + n * (T / n) + 1 = (T % n + 1) + n * (T / n) from by omega, Nat.add_mul_mod_self_left, Nat.mod_eq_of_lt h]
      rw [e1, e2]
      simp only [decide_eq_true_eq]
      repeat' split
      all_goals omega
    · have hn : T % n + 1 = n := by omega
      have e1 : (T + 1) / n = T / n + 1 := by
        conv => lhs; rw [hT, show T % n + n * (T / n) + 1 = n + n * (T / n) from by omega, Nat.add_mul_div_left _ _ (by omega), Nat.div_self (by omega)]
        omega
      have e2 : (T + 1) % n = 0 := by
        conv => lhs; rw [hT, show T % n + n * (T / n) + 1 = n + n * (T / n) from by omega, Nat.add_mul_mod_self_left, Nat.mod_self]
      rw [e1, e2]
      simp only [decide_eq_true_eq]
      repeat' split
      all_goals omega

def Lay.usedF (L : Lay) (i : Nat) (k : Nat) : Bool := decide ((L.page ((i : Int), (k : Int))).2 ≠ 4)
def Lay.parF (L : Lay) (i : Nat) (k : Nat) : Bool := decide ((L.page ((i : Int), (k : Int))).2 = 3)
/-- How many pages of a member are not free; have a parity. -/
def Lay.used (L : Lay) (i : Nat) : Nat := cntB (L.usedF i) (L.M i).toNat
def Lay.pars (L : Lay) (i : Nat) : Nat := cntB (L.parF i) (L.M i).toNat

theorem page_three {L : Lay} (hK : L.K = 3) (s : Int × Int) : L.page s = if L.k ≤ s.2 then (0, 4) else ((s.2 / L.C * L.n + s.1) * L.C + s.2 % L.C, 1) := by
  unfold Lay.page; rw [hK]; rfl
theorem page_four {L : Lay} (hK : L.K = 4) (s : Int × Int) : L.page s = if L.m ≤ s.2 then (0, 4) else if s.1 = 0 then (s.2, 1) else (s.2, 2) := by
  unfold Lay.page; rw [hK]; rfl
theorem page_five {L : Lay} (hK : L.K = 5) (s : Int × Int) : L.page s = if L.k ≤ s.2 then (0, 4)
    else if (s.1 - s.2 / L.C % L.n + L.n) % L.n = 0 then (s.2 / L.C * (L.n - 1) * L.C + s.2 % L.C, 3)
    else ((s.2 / L.C * (L.n - 1) + (s.1 - s.2 / L.C % L.n + L.n) % L.n - 1) * L.C + s.2 % L.C, 1) := by
  unfold Lay.page; rw [hK]; rfl

/-- Of kinds with regions: what is not free is what lies in them. -/
theorem role_regs {L : Lay} (h : L.Right) (hK : L.K = 4 ∨ L.K = 5) (s : Int × Int) : (L.page s).2 ≠ 4 ↔ s.2 < L.regs := by
  rcases hK with hK | hK
  · rw [page_four hK]
    have : L.regs = L.m := by unfold Lay.regs; rw [if_pos hK]
    rw [this]
    split
    · constructor
      · intro h; exact absurd rfl h
      · omega
    · constructor
      · omega
      · intro _; split <;> (intro h; cases h)
  · rw [page_five hK]
    have : L.regs = L.k := by unfold Lay.regs; rw [hK]; rfl
    rw [this]
    split
    · constructor
      · intro h; exact absurd rfl h
      · omega
    · constructor
      · omega
      · intro _; split <;> (intro h; cases h)

theorem usedF_regs {L : Lay} (h : L.Right) (hK : L.K = 4 ∨ L.K = 5) (i k : Nat) : L.usedF i k = decide ((k : Int) < L.regs) := by
  unfold Lay.usedF
  exact decide_eq_decide.2 (role_regs h hK _)
theorem usedF_three {L : Lay} (hK : L.K = 3) (i k : Nat) : L.usedF i k = decide ((k : Int) < L.k) := by
  unfold Lay.usedF
  rw [page_three hK]
  split
  · rw [decide_eq_false (fun hx => hx rfl), decide_eq_false (by omega)]
  · rw [decide_eq_true (by intro hx; cases hx), decide_eq_true (by omega)]

theorem cntB_below {b : Int} {n : Int} (h0 : 0 ≤ b) (hb : b ≤ n) : cntB (fun k => decide ((k : Int) < b)) n.toNat = b.toNat := by
  rw [cntB_cut (a := b.toNat) (by omega) (fun k hk _ => decide_eq_false (by omega)), cntB_all _ (fun k hk => decide_eq_true (by omega))]

theorem used_regs {L : Lay} (h : L.Right) (hK : L.K = 4 ∨ L.K = 5) {i : Nat} (hi : i < L.n) : L.used i = L.regs.toNat := by
  have hm := L.m_le hi
  have hkl := h.kle
  have hml := h.mle
  unfold Lay.used
  rw [cntB_congr _ (fun k _ => usedF_regs h hK i k)]
  exact cntB_below h.regs.1 (by unfold Lay.regs; repeat' split; all_goals omega)
theorem used_three {L : Lay} (h : L.Right) (hK : L.K = 3) {i : Nat} (hi : i < L.n) : L.used i = L.k.toNat := by
  have hm := L.m_le hi
  have hkl := h.kle
  unfold Lay.used
  rw [cntB_congr _ (fun k _ => usedF_three hK i k)]
  exact cntB_below hkl.1 (by omega)

theorem par_mod {a n s : Int} (ha : 0 ≤ a ∧ a < n) (hs : 0 ≤ s ∧ s < n) : (a - s + n) % n = 0 ↔ s = a := by
  constructor
  · intro h
    by_cases hlt : a < s
    · rw [Int.emod_eq_of_lt (by omega) (by omega)] at h; omega
    · rw [mod_once (by omega) (by omega)] at h; omega
  · rintro rfl
    rw [Int.sub_self, Int.zero_add, Int.emod_self]

theorem parF_five {L : Lay} (h : L.Right) (hK : L.K = 5) {i : Nat} (hi : i < L.n) (k : Nat) : L.parF i k = (decide ((k : Int) < L.k) && decide (k / L.C.toNat % L.n = i)) := by
  have hC := h.chunk
  unfold Lay.parF
  rw [page_five hK]
  have e : ((k : Int) / L.C % L.n) = ((k / L.C.toNat % L.n : Nat) : Int) := by
    rw [Int.natCast_emod, Int.natCast_ediv, Int.toNat_of_nonneg (by omega)]
  split
  · rename_i hk
    have hk' : L.k ≤ (k : Int) := hk
    rw [decide_eq_false (by omega), decide_eq_false (by omega)]; rfl
  · rename_i hk
    have hk' : ¬ L.k ≤ (k : Int) := hk
    rw [decide_eq_true (p := (k : Int) < L.k) (by omega), Bool.true_and]
    have hlt := Nat.mod_lt (k / L.C.toNat) (show L.n > 0 by omega)
    have hp := par_mod (a := i) (n := L.n) (s := (k : Int) / L.C % L.n) (by omega) (by rw [e]; omega)
    by_cases hq : k / L.C.toNat % L.n = i
    · rw [if_pos (hp.2 (by rw [e, hq])), decide_eq_true rfl, decide_eq_true hq]
    · rw [if_neg (fun hx => hq (by have := hp.1 hx; rw [e] at this; omega)), decide_eq_false (by intro hx; cases hx), decide_eq_false hq]

theorem pars_five {L : Lay} (h : L.Right) (hK : L.K = 5) {i : Nat} (hi : i < L.n) : L.pars i = L.C.toNat * ((L.m / L.C).toNat / L.n + if i < (L.m / L.C).toNat % L.n then 1 else 0) := by
  have hm := L.m_le hi
  have hkl := h.kle
  have hC := h.chunk
  have hml := h.mle
  have hT : 0 ≤ L.m / L.C := Int.ediv_nonneg (by omega) (by omega)
  have hk : L.k.toNat = (L.m / L.C).toNat * L.C.toNat := by rw [hkl.2.2, Int.toNat_mul hT (by omega)]
  unfold Lay.pars
  rw [cntB_congr _ (fun k _ => parF_five h hK hi k), cntB_cut (a := L.k.toNat) (by omega) (fun k hk _ => by rw [decide_eq_false (by omega), Bool.false_and]),
    cntB_congr (g := fun k => decide (k / L.C.toNat % L.n = i)) _ (fun k hk => by rw [decide_eq_true (by omega), Bool.true_and]), hk, cntB_chunks (fun S => decide (S % L.n = i)) (by omega), cntB_mod hi]

theorem pars_three {L : Lay} (hK : L.K = 3) (i : Nat) : L.pars i = 0 := by
  unfold Lay.pars
  refine cntB_none _ fun k _ => ?_
  unfold Lay.parF
  rw [page_three hK]
  split <;> rfl

/-- Stripes and parity: as many pages of each member are not free, and their parities differ by one chunk at most. -/
theorem covers_even {L : Lay} (h : L.Right) (hK : L.K = 3 ∨ L.K = 5) {i : Nat} (hi : i < L.n) : L.used i = L.used 0 ∧ (L.pars i : Int) - L.pars 0 ≤ L.C ∧ (L.pars 0 : Int) - L.pars i ≤ L.C := by
  have hC := h.chunk
  rcases hK with hK | hK
  · rw [used_three h hK hi, used_three h hK (i := 0) (by omega), pars_three hK, pars_three hK]
    exact ⟨rfl, by omega, by omega⟩
  · rw [used_regs h (.inr hK) hi, used_regs h (.inr hK) (i := 0) (by omega), pars_five h hK hi, pars_five h hK (i := 0) (by omega)]
    refine ⟨rfl, ?_, ?_⟩
    all_goals
      rw [Nat.mul_add, Nat.mul_add]
      generalize L.C.toNat * ((L.m / L.C).toNat / L.n) = X
      repeat' split
      all_goals (simp only [Nat.mul_one, Nat.mul_zero]; omega)

def sumN (f : Nat → Nat) : Nat → Nat
  | 0 => 0
  | k + 1 => sumN f k + f k
theorem sumN_const {f : Nat → Nat} {c : Nat} : ∀ n, (∀ i, i < n → f i = c) → sumN f n = n * c
  | 0, _ => by simp [sumN]
  | n + 1, h => by simp only [sumN]; rw [sumN_const n (fun i hi => h i (by omega)), h n (by omega), Nat.succ_mul]

theorem covers_total {L : Lay} (h : L.Right) (hK : L.K = 4 ∨ L.K = 5) : sumN L.used L.n = L.n * L.regs.toNat :=
  sumN_const _ fun _ hi => used_regs h hK hi

/-- The spots of the first regions: how many, and which. -/
def Lay.bnd (L : Lay) (r : Nat) : Int := if L.regs < (r : Int) * L.C then L.regs else (r : Int) * L.C
structure MetS (L : Lay) (r : Nat) (N : Nat) (F : Nat → Int × Int) : Prop where
  len : N = L.n * (L.bnd r).toNat
  iff : ∀ s : Int × Int, (∃ j, j < N ∧ F j = s) ↔ (0 ≤ s.1 ∧ s.1 < L.n ∧ 0 ≤ s.2 ∧ s.2 < L.bnd r)

theorem MetS.zero {L : Lay} (h : L.Right) (F : Nat → Int × Int) : MetS L 0 0 F := by
  have hb : L.bnd 0 = 0 := by
    have := h.regs.1
    unfold Lay.bnd
    rw [show ((0 : Nat) : Int) * L.C = 0 from Int.zero_mul _]
    split <;> omega
  exact ⟨by rw [hb]; rfl, fun s => ⟨fun ⟨j, hj, _⟩ => absurd hj (by omega), fun hh => by rw [hb] at hh; omega⟩⟩

theorem MetS.step {L : Lay} (h : L.Right) {r N : Nat} {F : Nat → Int × Int} (hr : (r : Int) < L.regn) (hM : MetS L r N F) :
    MetS L (r + 1) (N + L.n * L.memM r) (fun i => if i < N then F i else nthSpot ((r : Int) * L.C) (L.memM r) (i - N)) := by
  have hC := h.chunk
  have hrb := Lay.reg_bound h (r := r) ⟨by omega, hr⟩
  have hmr := mem_ref h (r := r) ⟨by omega, hr⟩
  have hb : L.bnd r = (r : Int) * L.C := by unfold Lay.bnd; rw [if_neg (by omega)]
  have hb1 : L.bnd (r + 1) = L.memB r := by
    unfold Lay.bnd Lay.memB
    rw [show ((r + 1 : Nat) : Int) = (r : Int) + 1 from by omega]
  have hmm : (L.memM r : Int) = L.memB r - (r : Int) * L.C := by unfold Lay.memM; omega
  refine ⟨?_, fun s => ?_⟩
  · rw [hM.len, hb, hb1, ← Nat.mul_add]
    congr 1
    omega
  · constructor
    · rintro ⟨j, hj, hjs⟩
      split at hjs
      · rename_i hjN
        have := (hM.iff s).1 ⟨j, hjN, hjs⟩
        rw [hb] at this
        rw [hb1]
        omega
      · rename_i hjN
        subst hjs
        have hpos : 0 < L.memM r := by omega
        have hq : (j - N) / L.memM r < L.n := by
          rw [Nat.div_lt_iff_lt_mul hpos]; omega
        have hm := Nat.mod_lt (j - N) hpos
        unfold nthSpot
        rw [hb1]
        dsimp only
        generalize (j - N) / L.memM r = q at *
        generalize (j - N) % L.memM r = o at *
        omega
    · rintro ⟨h0, h1, h2, h3⟩
      rw [hb1] at h3
      by_cases hlt : s.2 < (r : Int) * L.C
      · obtain ⟨j, hj, hjs⟩ := (hM.iff s).2 ⟨h0, h1, h2, by rw [hb]; exact hlt⟩
        exact ⟨j, by omega, by rw [if_pos hj]; exact hjs⟩
      · have hjm : (s.2 - (r : Int) * L.C).toNat < L.memM r := by omega
        have hle : s.1.toNat * L.memM r + (s.2 - (r : Int) * L.C).toNat < L.n * L.memM r := by
          have : (s.1.toNat + 1) * L.memM r ≤ L.n * L.memM r := Nat.mul_le_mul_right _ (by omega)
          rw [Nat.succ_mul] at this
          omega
        refine ⟨N + (s.1.toNat * L.memM r + (s.2 - (r : Int) * L.C).toNat), by omega, ?_⟩
        rw [if_neg (by omega), Nat.add_sub_cancel_left, nthSpot_at _ hjm]
        exact Prod.ext (by dsimp only; omega) (by dsimp only; omega)

theorem MetS.done {L : Lay} (h : L.Right) : L.bnd L.regn.toNat = L.regs := by
  have hC := h.chunk
  have h0 := h.regs
  have h1 : 0 ≤ L.regn := Int.ediv_nonneg (by omega) (by omega)
  have h2 := Int.ediv_mul_add_emod (L.regs + L.C - 1) L.C
  have h3 := Int.emod_lt_of_pos (L.regs + L.C - 1) (b := L.C) (by omega)
  unfold Lay.bnd
  rw [Int.toNat_of_nonneg h1]
  have h4 : L.regn * L.C = (L.regs + L.C - 1) / L.C * L.C := rfl
  split <;> omega

theorem regn_pos {L : Lay} (h : L.Right) : 0 < L.regn ↔ (L.K = 4 ∨ L.K = 5) := by
  have hC := h.chunk
  have hm := h.mle
  have hkl := h.kle
  have hle : L.regs = 0 → L.regn = 0 := fun e => by unfold Lay.regn; rw [e, Int.ediv_eq_zero_of_lt (by omega) (by omega)]
  have hgt : 0 < L.regs → 0 < L.regn := fun e => by
    unfold Lay.regn
    have : 1 ≤ (L.regs + L.C - 1) / L.C := by
      rw [Int.le_ediv_iff_mul_le (by omega)]; omega
    omega
  constructor
  · intro hp
    refine Classical.byContradiction fun hn => ?_
    have : L.regs = 0 := by unfold Lay.regs; rw [if_neg (fun e => hn (.inl e)), if_neg (fun e => hn (.inr e))]
    have := hle this
    omega
  · rintro (hK | hK)
    · exact hgt (by unfold Lay.regs; rw [if_pos hK]; omega)
    · have hw := h.whole (.inr hK)
      exact hgt (by unfold Lay.regs; rw [hK]; show 0 < L.k; omega)

end Go.Proofs.Ytlbohmfhdchabaa
