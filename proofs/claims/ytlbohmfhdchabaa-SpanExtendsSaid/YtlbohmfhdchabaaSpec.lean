/- What a layout says, in plain Lean: no program in sight. -/
import Derived.Test.YtlbohmfhdchabaaBits
import Derived.Test.YtlbohmfhdchabaaGen
namespace Go.Proofs.Ytlbohmfhdchabaa
open Go.RowKit

/-- The least of M 0 .. M k. -/
def minI (M : Nat → Int) : Nat → Int
  | 0 => M 0
  | k + 1 => min (minI M k) (M (k + 1))
/-- The sum of M 0 .. M (k - 1). -/
def sumI (M : Nat → Int) : Nat → Int
  | 0 => 0
  | k + 1 => sumI M k + M k
/-- In which of n members a page lies, one behind the other. -/
def catI (M : Nat → Int) (p : Int) : Nat → Nat
  | 0 => 0
  | k + 1 => catI M p k + if sumI M (k + 1) ≤ p then 1 else 0

/-- A layout: kind, number of members, members, chunk. -/
structure Lay where
  K : Int
  n : Nat
  M : Nat → Int
  C : Int

def Lay.m (L : Lay) : Int := minI L.M (L.n - 1)
def Lay.k (L : Lay) : Int := L.m - L.m % L.C
def Lay.lo (L : Lay) : Int := if L.K = 1 then 1 else if L.K = 2 then 1 else if L.K = 3 then 2 else if L.K = 4 then 2 else 3
def Lay.hi (L : Lay) : Int := if L.K = 1 then 1 else 6
/-- Is it valid? -/
structure Lay.Right (L : Lay) : Prop where
  kind : 1 ≤ L.K ∧ L.K ≤ 5
  chunk : 1 ≤ L.C ∧ L.C ≤ 64
  num : L.lo ≤ L.n ∧ (L.n : Int) ≤ L.hi
  mem : ∀ i, i < L.n → 1 ≤ L.M i ∧ L.M i ≤ 4096
  whole : L.K = 3 ∨ L.K = 5 → L.k ≠ 0

def Lay.size (L : Lay) : Int :=
  if L.K = 1 then L.m else if L.K = 2 then sumI L.M L.n else if L.K = 3 then L.n * L.k else if L.K = 4 then L.m else (L.n - 1) * L.k
/-- On how many spots a page lies. -/
def Lay.num' (L : Lay) : Nat := if L.K = 4 then L.n else if L.K = 5 then 2 else 1
/-- The spots of a page: member and page. -/
def Lay.at (L : Lay) (p : Int) (i : Nat) : Int × Int :=
  if L.K = 1 then (0, p)
  else if L.K = 2 then ((catI L.M p L.n : Nat), p - sumI L.M (catI L.M p L.n))
  else if L.K = 3 then (p / L.C % L.n, p / L.C / L.n * L.C + p % L.C)
  else if L.K = 4 then ((i : Nat), p)
  else if i = 0 then ((p / L.C / (L.n - 1) % L.n + 1 + p / L.C % (L.n - 1)) % L.n, p / L.C / (L.n - 1) * L.C + p % L.C)
  else (p / L.C / (L.n - 1) % L.n, p / L.C / (L.n - 1) * L.C + p % L.C)
/-- The page of a spot, and its role. -/
def Lay.page (L : Lay) (s : Int × Int) : Int × Int :=
  if L.K = 1 then (s.2, 1)
  else if L.K = 2 then (s.2 + sumI L.M s.1.toNat, 1)
  else if L.K = 3 then if L.k ≤ s.2 then (0, 4) else ((s.2 / L.C * L.n + s.1) * L.C + s.2 % L.C, 1)
  else if L.K = 4 then if L.m ≤ s.2 then (0, 4) else if s.1 = 0 then (s.2, 1) else (s.2, 2)
  else if L.k ≤ s.2 then (0, 4)
  else if (s.1 - s.2 / L.C % L.n + L.n) % L.n = 0 then (s.2 / L.C * (L.n - 1) * L.C + s.2 % L.C, 3)
  else ((s.2 / L.C * (L.n - 1) + (s.1 - s.2 / L.C % L.n + L.n) % L.n - 1) * L.C + s.2 % L.C, 1)
def Lay.has (L : Lay) (s : Int × Int) : Bool := decide (0 ≤ s.1) && (decide (s.1 < L.n) && (decide (0 ≤ s.2) && decide (s.2 < L.M s.1.toNat)))
/-- How many pages of each member are in regions. -/
def Lay.regs (L : Lay) : Int := if L.K = 4 then L.m else if L.K = 5 then L.k else 0

theorem minI_le (M : Nat → Int) : ∀ k i, i ≤ k → minI M k ≤ M i
  | 0, i, h => by obtain rfl : i = 0 := by omega
                  exact Int.le_refl _
  | k + 1, i, h => by
    simp only [minI]
    by_cases hi : i = k + 1
    · subst hi; omega
    · have := minI_le M k i (by omega); omega
theorem minI_ge (M : Nat → Int) (x : Int) : ∀ k, (∀ i, i ≤ k → x ≤ M i) → x ≤ minI M k
  | 0, h => h 0 (by omega)
  | k + 1, h => by
    have h1 := minI_ge M x k (fun i hi => h i (by omega))
    have h2 := h (k + 1) (by omega)
    simp only [minI]; omega
theorem minI_ex (M : Nat → Int) : ∀ k, ∃ i, i ≤ k ∧ minI M k = M i
  | 0 => ⟨0, by omega, rfl⟩
  | k + 1 => by
    obtain ⟨i, hi, h⟩ := minI_ex M k
    simp only [minI]
    by_cases h2 : minI M k ≤ M (k + 1)
    · exact ⟨i, by omega, by omega⟩
    · exact ⟨k + 1, by omega, by omega⟩
theorem sumI_bound (M : Nat → Int) (a b : Int) : ∀ k, (∀ i, i < k → a ≤ M i ∧ M i ≤ b) → a * k ≤ sumI M k ∧ sumI M k ≤ b * k
  | 0, _ => by simp [sumI]
  | k + 1, h => by
    have h1 := sumI_bound M a b k (fun i hi => h i (by omega))
    have h2 := h k (by omega)
    simp only [sumI]
    rw [Int.natCast_add, Int.mul_add, Int.mul_add]
    omega
theorem sumI_mono (M : Nat → Int) {j k : Nat} (h : j ≤ k) (hM : ∀ i, i < k → 1 ≤ M i) : sumI M j ≤ sumI M k := by
  induction k with
  | zero => obtain rfl : j = 0 := by omega
            exact Int.le_refl _
  | succ k ih =>
    by_cases hj : j = k + 1
    · subst hj; exact Int.le_refl _
    · have h1 := ih (by omega) (fun i hi => hM i (by omega))
      have h2 := hM k (by omega)
      simp only [sumI]; omega
theorem catI_eq (M : Nat → Int) (p : Int) {j n : Nat} (hj : j < n) (hM : ∀ i, i < n → 1 ≤ M i) (h1 : sumI M j ≤ p) (h2 : p < sumI M (j + 1)) : catI M p n = j := by
  have hlo : ∀ k, k ≤ j → catI M p k = k := fun k => by
    induction k with
    | zero => intro _; rfl
    | succ k ih =>
      intro hk
      have := sumI_mono M (j := k + 1) (k := j) hk (fun i hi => hM i (by omega))
      simp only [catI]
      rw [ih (by omega), if_pos (by omega)]
  have h2' := h2
  have hhi : ∀ k, k ≤ n - j → catI M p (j + k) = j := fun k => by
    induction k with
    | zero => intro _; exact hlo j (Nat.le_refl _)
    | succ k ih =>
      intro hk
      have := sumI_mono M (j := j + 1) (k := j + k + 1) (by omega) (fun i hi => hM i (by omega))
      show catI M p (j + k) + (if sumI M (j + k + 1) ≤ p then 1 else 0) = j
      rw [ih (by omega), if_neg (by omega)]; rfl
  have := hhi (n - j) (by omega)
  rwa [show j + (n - j) = n from by omega] at this

theorem Lay.Right.nle {L : Lay} (h : L.Right) : 1 ≤ L.n ∧ L.n ≤ 6 := by
  have h1 := h.num
  have h2 := h.kind
  unfold Lay.lo Lay.hi at h1
  constructor
  · have : (1 : Int) ≤ L.n := by
      refine Int.le_trans ?_ h1.1
      repeat' split
      all_goals omega
    omega
  · have : (L.n : Int) ≤ 6 := by
      refine Int.le_trans h1.2 ?_
      repeat' split
      all_goals omega
    omega
theorem Lay.Right.mle {L : Lay} (h : L.Right) : 1 ≤ L.m ∧ L.m ≤ 4096 := by
  have hn := h.nle
  constructor
  · exact minI_ge _ _ _ (fun i hi => (h.mem i (by omega)).1)
  · exact Int.le_trans (minI_le _ _ 0 (by omega)) (h.mem 0 (by omega)).2
theorem Lay.m_le {L : Lay} {i : Nat} (hi : i < L.n) : L.m ≤ L.M i := minI_le _ _ _ (by omega)
theorem Lay.Right.kle {L : Lay} (h : L.Right) : 0 ≤ L.k ∧ L.k ≤ L.m ∧ L.k = L.m / L.C * L.C := by
  have hm := h.mle
  have hc := h.chunk
  have h1 := Int.emod_nonneg L.m (b := L.C) (by omega)
  have h2 := Int.emod_lt_of_pos L.m (b := L.C) (by omega)
  have h3 := Int.mul_nonneg (Int.ediv_nonneg (a := L.m) (b := L.C) (by omega) (by omega)) (show 0 ≤ L.C by omega)
  have h4 := Int.ediv_mul_add_emod L.m L.C
  unfold Lay.k
  exact ⟨by omega, by omega, by omega⟩

end Go.Proofs.Ytlbohmfhdchabaa
