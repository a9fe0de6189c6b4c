/- Span: what the law SpanRebuilt needs, in plain Lean. -/
import Derived.Test.YtlbohmfhdchabaaSpanP
namespace Go.Proofs.Ytlbohmfhdchabaa
open Go.RowKit

theorem role4_mirror {L : Lay} (hK : L.K = 4) (s : Int × Int) : (L.page s).2 = 4 ↔ L.m ≤ s.2 := by
  unfold Lay.page
  rw [if_neg (by omega), if_neg (by omega), if_neg (by omega), if_pos hK]
  constructor
  · intro h
    refine Classical.byContradiction fun hn => ?_
    rw [if_neg hn] at h
    split at h <;> simp at h
  · intro h
    rw [if_pos h]
theorem role4_parity {L : Lay} (hK : L.K = 5) (s : Int × Int) : (L.page s).2 = 4 ↔ L.k ≤ s.2 := by
  unfold Lay.page
  rw [if_neg (by omega), if_neg (by omega), if_neg (by omega), if_neg (by omega)]
  constructor
  · intro h
    refine Classical.byContradiction fun hn => ?_
    rw [if_neg hn] at h
    split at h <;> simp at h
  · intro h
    rw [if_pos h]

theorem has_iff {L : Lay} {s : Int × Int} : L.has s = true ↔ 0 ≤ s.1 ∧ s.1 < L.n ∧ 0 ≤ s.2 ∧ s.2 < L.M s.1.toNat := by
  unfold Lay.has
  simp only [Bool.and_eq_true, decide_eq_true_eq]

theorem Lay.Right.n2 {L : Lay} (h : L.Right) (hK : L.K = 4 ∨ L.K = 5) : 2 ≤ L.n := by
  have := h.num.1
  unfold Lay.lo at this
  rcases hK with hK | hK <;> rw [hK] at this <;> simp at this <;> omega

/-- Is it a layout from which a dead member can be rebuilt? -/
def Lay.safe (L : Lay) : Bool := L.K == 4 || L.K == 5
theorem safe_iff {L : Lay} : L.safe = true ↔ L.K = 4 ∨ L.K = 5 := by simp [Lay.safe]

theorem peersN_pos {L : Lay} (h : L.Right) (s : Int × Int) : decide (0 < (L.peersN s : Int)) = (L.safe && (L.page s).2 != 4) := by
  by_cases hK : L.K = 4 ∨ L.K = 5
  · have h2 := h.n2 hK
    rw [safe_iff.2 hK]
    unfold Lay.peersN
    by_cases hr : (L.page s).2 = 4
    · rw [if_pos (.inl hr), hr]; rfl
    · rw [if_neg (fun x => x.elim hr (fun x => x hK))]
      have : ((L.page s).2 != 4) = true := by rw [bne_iff_ne]; exact hr
      rw [this]
      simp; omega
  · have hs : L.safe = false := by
      rw [← Bool.not_eq_true, safe_iff]; exact hK
    rw [hs]
    unfold Lay.peersN
    rw [if_pos (.inr hK)]; rfl

theorem peer_ok {L : Lay} (h : L.Right) {s : Int × Int} (hs : L.has s = true) {i : Nat} (hi : i < L.peersN s) :
    L.has (peersF s i) = true ∧ (peersF s i).1 ≠ s.1 ∧ (L.page (peersF s i)).2 ≠ 4 := by
  unfold Lay.peersN at hi
  by_cases hr : (L.page s).2 = 4 ∨ ¬ (L.K = 4 ∨ L.K = 5)
  · rw [if_pos hr] at hi; omega
  rw [if_neg hr] at hi
  have hK : L.K = 4 ∨ L.K = 5 := Classical.byContradiction fun x => hr (.inr x)
  have hr4 : (L.page s).2 ≠ 4 := fun x => hr (.inl x)
  obtain ⟨h1, h2, h3, h4⟩ := has_iff.1 hs
  have hp2 : (peersF s i).2 = s.2 := rfl
  have hp1 : (peersF s i).1 ≠ s.1 ∧ 0 ≤ (peersF s i).1 ∧ (peersF s i).1 < L.n := by
    unfold peersF
    dsimp only
    split <;> omega
  have hb : s.2 < L.m := by
    rcases hK with hK | hK
    · exact Int.not_le.1 fun x => hr4 ((role4_mirror hK s).2 x)
    · have := Int.not_le.1 fun x => hr4 ((role4_parity hK s).2 x)
      have := h.kle; omega
  have hm : L.m ≤ L.M (peersF s i).1.toNat := Lay.m_le (by omega)
  refine ⟨has_iff.2 ⟨hp1.2.1, hp1.2.2, by rw [hp2]; exact h3, by rw [hp2]; omega⟩, hp1.1, ?_⟩
  rcases hK with hK | hK
  · intro x; exact hr4 ((role4_mirror hK s).2 (show L.m ≤ s.2 from (role4_mirror hK (peersF s i)).1 x))
  · intro x; exact hr4 ((role4_parity hK s).2 (show L.k ≤ s.2 from (role4_parity hK (peersF s i)).1 x))

theorem cntB_one (j : Nat) : ∀ n, cntB (fun i => decide (i = j)) n = if j < n then 1 else 0
  | 0 => by simp [cntB]
  | n + 1 => by
    simp only [cntB, cntB_one j n]
    have : (decide (n = j) = true) ↔ n = j := by simp
    simp only [this]
    split <;> split <;> split <;> omega

/-- With one dead member. -/
theorem state_one {L : Lay} (h : L.Right) : L.state 1 = if L.safe = true then 2 else 3 := by
  unfold Lay.state Lay.lost
  by_cases h4 : L.K = 4
  · have h2 := h.n2 (.inl h4)
    rw [if_pos (safe_iff.2 (.inl h4)), if_pos h4]
    simp; omega
  · by_cases h5 : L.K = 5
    · rw [if_pos (safe_iff.2 (.inr h5)), if_neg h4, if_pos h5]; simp
    · have hs : ¬ L.safe = true := by rw [safe_iff]; omega
      rw [if_neg hs, if_neg h4, if_neg h5]; simp

end Go.Proofs.Ytlbohmfhdchabaa
