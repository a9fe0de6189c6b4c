/- Span: what the law SpanRows asks of rows, in plain Lean. -/
import Derived.Test.YtlbohmfhdchabaaSpnR3
namespace Go.Proofs.Ytlbohmfhdchabaa
open Go.RowKit

/-- The members that are met with a row's first k pages, and with its parity. -/
def Lay.met (L : Lay) (p : Int) (k : Nat) (j : Nat) : Bool := (decide (L.K = 5) && decide ((L.at p 1).1 = j)) || anyB (fun d => decide ((L.at (L.rowF p d) 0).1 = j)) k

structure RowFacts (L : Lay) (p : Int) (d : Nat) : Prop where
  inn : 0 ≤ L.rowF p d ∧ L.rowF p d < L.size
  same : ∀ d', L.rowF (L.rowF p d) d' = L.rowF p d'
  reg : L.reg (L.rowF p d) = L.reg p
  mem : 0 ≤ (L.at (L.rowF p d) 0).1 ∧ (L.at (L.rowF p d) 0).1 < L.n
  fresh : L.met p d (L.at (L.rowF p d) 0).1.toNat = false

theorem mod_step {t n d : Int} (ht : 0 ≤ t ∧ t < n) (hd : 0 ≤ d ∧ d < n - 1) : (t + 1 + d) % n = if t + 1 + d < n then t + 1 + d else t + 1 + d - n := by
  split
  · exact Int.emod_eq_of_lt (by omega) (by omega)
  · exact mod_once (by omega) (by omega)

theorem at_mem {L : Lay} (h : L.Right) {p : Int} (hp : 0 ≤ p ∧ p < L.size) {i : Nat} (hi : i < L.num') : 0 ≤ (L.at p i).1 ∧ (L.at p i).1 < L.n := by
  obtain ⟨h1, h2, -⟩ := has_iff.1 (back h hp hi).has
  exact ⟨h1, h2⟩

theorem row_facts {L : Lay} (h : L.Right) {p : Int} (hp : 0 ≤ p ∧ p < L.size) {d : Nat} (hd : d < L.rowN) : RowFacts L p d := by
  by_cases hK : L.K = 5
  · have hn3 : (3 : Int) ≤ L.n := by have := h.num.1; unfold Lay.lo at this; rw [hK] at this; exact this
    have hC := h.chunk
    have hsz := h.sizes
    have hN : L.rowN = L.n - 1 := by unfold Lay.rowN; rw [if_pos hK]
    have hF : ∀ (q : Int) (d : Nat), L.rowF q d = (q / L.C / (L.n - 1) * (L.n - 1) + d) * L.C + q % L.C := fun q d => by unfold Lay.rowF; rw [if_pos hK]
    obtain ⟨-, p2, p3, p4⟩ := quot_facts p L.C (by omega) (by omega)
    obtain ⟨-, r2, r3, r4⟩ := quot_facts (p / L.C) (L.n - 1) (by omega) (by omega)
    have hin := row_in h hK hp hd
    have hc1 := fun d : Nat => chunk_div (S := p / L.C / (L.n - 1) * (L.n - 1) + d) p3.1 p3.2
    have hc2 := fun (d : Nat) (hd : d < L.rowN) => chunk_div (S := p / L.C / (L.n - 1)) (C := (L.n : Int) - 1) (o := d) (by omega) (by omega)
    have hnum : 0 < L.num' := Lay.num_pos h
    have hat0 : ∀ d, d < L.rowN → (L.at (L.rowF p d) 0) = ((p / L.C / (L.n - 1) % L.n + 1 + d) % L.n, p / L.C / (L.n - 1) * L.C + p % L.C) := fun d hd => by
      have ha : ∀ q, L.at q 0 = ((q / L.C / (L.n - 1) % L.n + 1 + q / L.C % (L.n - 1)) % L.n, q / L.C / (L.n - 1) * L.C + q % L.C) := fun q => by unfold Lay.at; rw [hK]; rfl
      rw [ha, hF, (hc1 d).1, (hc1 d).2, (hc2 d hd).1, (hc2 d hd).2]
    have hreg : ∀ q, L.reg q = if L.k = 0 then 0 else (L.at q 0).2 / L.C := fun q => by
      unfold Lay.reg
      have : L.regs = L.k := by unfold Lay.regs; rw [hK]; rfl
      rw [this]
    obtain ⟨e0, he0, hep⟩ := (row_iff h hK hp hp).1 rfl
    have ht : 0 ≤ p / L.C / (L.n - 1) % L.n ∧ p / L.C / (L.n - 1) % L.n < L.n := ⟨Int.emod_nonneg _ (by omega), Int.emod_lt_of_pos _ (by omega)⟩
    refine ⟨hin, fun d' => ?_, ?_, ?_, ?_⟩
    · rw [hF (L.rowF p d), hF p d, (hc1 d).1, (hc1 d).2, (hc2 d hd).1, hF p d']
    · rw [hreg, hreg]
      have e2 : L.at p 0 = L.at (L.rowF p e0) 0 := by rw [← hep]
      rw [e2, hat0 d hd, hat0 e0 he0]
    · rw [hat0 d hd]
      exact ⟨Int.emod_nonneg _ (by omega), Int.emod_lt_of_pos _ (by omega)⟩
    · unfold Lay.met
      rw [hat0 d hd, at_par hK]
      have hm := mod_step ht (d := d) (by omega)
      have hv : 0 ≤ (p / L.C / (L.n - 1) % L.n + 1 + d) % L.n := Int.emod_nonneg _ (by omega)
      rw [Bool.or_eq_false_iff]
      constructor
      · rw [decide_eq_true hK, Bool.true_and, decide_eq_false_iff_not]
        dsimp only
        generalize (p / L.C / (L.n - 1) % L.n + 1 + (d : Int)) % L.n = v at *
        generalize p / L.C / (L.n - 1) % L.n = t at *
        split at hm <;> omega
      · refine anyB_false.2 fun j hj => ?_
        rw [decide_eq_false_iff_not, hat0 j (by omega)]
        have hm2 := mod_step ht (d := j) (by omega)
        dsimp only
        generalize (p / L.C / (L.n - 1) % L.n + 1 + (d : Int)) % L.n = v at *
        generalize (p / L.C / (L.n - 1) % L.n + 1 + (j : Int)) % L.n = u at *
        generalize p / L.C / (L.n - 1) % L.n = t at *
        split at hm <;> split at hm2 <;> omega
  · have hN : L.rowN = 1 := by unfold Lay.rowN; rw [if_neg hK]
    have hF : ∀ (q : Int) (d : Nat), L.rowF q d = q := fun q d => by unfold Lay.rowF; rw [if_neg hK]
    have hd0 : d = 0 := by omega
    subst hd0
    refine ⟨by rw [hF]; exact hp, fun d' => by rw [hF, hF, hF], by rw [hF], by rw [hF]; exact at_mem h hp (Lay.num_pos h), ?_⟩
    unfold Lay.met
    rw [decide_eq_false hK, Bool.false_and, Bool.false_or]
    exact anyB_false.2 fun i hi => absurd hi (by omega)

theorem row_own {L : Lay} (h : L.Right) {p : Int} (hp : 0 ≤ p ∧ p < L.size) : ∃ d, d < L.rowN ∧ L.rowF p d = p := by
  by_cases hK : L.K = 5
  · obtain ⟨d, h1, h2⟩ := (row_iff h hK hp hp).1 rfl
    exact ⟨d, h1, h2.symm⟩
  · exact ⟨0, by unfold Lay.rowN; rw [if_neg hK]; decide, by unfold Lay.rowF; rw [if_neg hK]⟩

theorem row_len {L : Lay} (h : L.Right) : 1 ≤ L.rowN ∧ L.rowN ≤ 6 := by
  have hn := h.nle
  unfold Lay.rowN
  split
  · rename_i hK
    have hn3 : (3 : Int) ≤ L.n := by have := h.num.1; unfold Lay.lo at this; rw [hK] at this; exact this
    omega
  · omega

end Go.Proofs.Ytlbohmfhdchabaa
