/- Span: rows of parity, in plain Lean. -/
import Derived.Test.YtlbohmfhdchabaaSpnLF
import Derived.Test.YtlbohmfhdchabaaSpanK
namespace Go.Proofs.Ytlbohmfhdchabaa
open Go.RowKit

theorem at_par {L : Lay} (hK : L.K = 5) (q : Int) : L.at q 1 = (q / L.C / (L.n - 1) % L.n, q / L.C / (L.n - 1) * L.C + q % L.C) := by
  unfold Lay.at; rw [hK]; rfl

/-- The pages that share a parity page are those of a row. -/
theorem row_iff {L : Lay} (h : L.Right) (hK : L.K = 5) {p q : Int} (hp : 0 ≤ p ∧ p < L.size) (hq : 0 ≤ q ∧ q < L.size) :
    L.at q 1 = L.at p 1 ↔ ∃ d : Nat, d < L.rowN ∧ q = L.rowF p d := by
  have hn3 : (3 : Int) ≤ L.n := by have := h.num.1; unfold Lay.lo at this; rw [hK] at this; exact this
  have hC := h.chunk
  have hsz := h.sizes
  have hN : L.rowN = L.n - 1 := by unfold Lay.rowN; rw [if_pos hK]
  have hF : ∀ d : Nat, L.rowF p d = (p / L.C / (L.n - 1) * (L.n - 1) + d) * L.C + p % L.C := fun d => by unfold Lay.rowF; rw [if_pos hK]
  obtain ⟨-, p2, p3, p4⟩ := quot_facts p L.C (by omega) (by omega)
  obtain ⟨-, q2, q3, q4⟩ := quot_facts q L.C (by omega) (by omega)
  obtain ⟨-, r2, r3, r4⟩ := quot_facts (q / L.C) (L.n - 1) (by omega) (by omega)
  rw [at_par hK, at_par hK, hN]
  constructor
  · intro he
    have he2 : q / L.C / (L.n - 1) * L.C + q % L.C = p / L.C / (L.n - 1) * L.C + p % L.C := congrArg Prod.snd he
    have hd1 := chunk_div (S := q / L.C / (L.n - 1)) q3.1 q3.2
    have hd2 := chunk_div (S := p / L.C / (L.n - 1)) p3.1 p3.2
    rw [he2, hd2.1, hd2.2] at hd1
    refine ⟨(q / L.C % (L.n - 1)).toNat, by omega, ?_⟩
    rw [hF, Int.toNat_of_nonneg r3.1, hd1.1, r4, hd1.2, q4]
  · rintro ⟨d, hd, rfl⟩
    have hc1 := chunk_div (S := p / L.C / (L.n - 1) * (L.n - 1) + d) p3.1 p3.2
    have hc2 := chunk_div (S := p / L.C / (L.n - 1)) (C := (L.n : Int) - 1) (o := d) (by omega) (by omega)
    rw [hF, hc1.1, hc1.2, hc2.1]

/-- Rows rise, and lie within the volume. -/
theorem row_mono {L : Lay} (h : L.Right) (hK : L.K = 5) {p : Int} {d d' : Nat} (hd : d < d') : L.rowF p d < L.rowF p d' := by
  have hC := h.chunk
  unfold Lay.rowF
  rw [if_pos hK, if_pos hK]
  have : (p / L.C / (L.n - 1) * (L.n - 1) + (d : Int) + 1) * L.C ≤ (p / L.C / (L.n - 1) * (L.n - 1) + (d' : Int)) * L.C := Int.mul_le_mul_of_nonneg_right (by omega) (by omega)
  rw [Int.add_mul _ 1] at this
  omega

theorem row_in {L : Lay} (h : L.Right) (hK : L.K = 5) {p : Int} (hp : 0 ≤ p ∧ p < L.size) {d : Nat} (hd : d < L.rowN) : 0 ≤ L.rowF p d ∧ L.rowF p d < L.size := by
  have hn3 : (3 : Int) ≤ L.n := by have := h.num.1; unfold Lay.lo at this; rw [hK] at this; exact this
  have hC := h.chunk
  have hsz := h.sizes
  have hkl := h.kle
  have hN : L.rowN = L.n - 1 := by unfold Lay.rowN; rw [if_pos hK]
  have e3 : L.size = (L.n - 1) * L.k := by unfold Lay.size; rw [hK]; rfl
  obtain ⟨-, p2, p3, p4⟩ := quot_facts p L.C (by omega) (by omega)
  rw [hN] at hd
  have hkk : (L.n - 1 : Int) * L.k = L.m / L.C * (L.n - 1) * L.C := by
    have e := hkl.2.2
    generalize L.k = kk at *
    subst e
    rw [Int.mul_comm ((L.n : Int) - 1), Int.mul_assoc, Int.mul_assoc, Int.mul_comm L.C]
  have hR : p / L.C < L.m / L.C * (L.n - 1) := chunk_of_lt (by omega) (by rw [← hkk, ← e3]; exact hp.2)
  have hS : p / L.C / (L.n - 1) < L.m / L.C := chunk_of_lt (by omega) hR
  obtain ⟨-, r2, -, -⟩ := quot_facts (p / L.C) (L.n - 1) (by omega) (by omega)
  have h1 := chunk_lt (C := (L.n : Int) - 1) (o := (d : Int)) hS (by omega) (by omega)
  have h2 := chunk_lt (C := L.C) h1 p3.1 p3.2
  have h0 : 0 ≤ p / L.C / (L.n - 1) * (L.n - 1) := Int.mul_nonneg r2.1 (by omega)
  have h00 : 0 ≤ (p / L.C / (L.n - 1) * (L.n - 1) + (d : Int)) * L.C := Int.mul_nonneg (by omega) (by omega)
  rw [e3, hkk]
  unfold Lay.rowF
  rw [if_pos hK]
  omega

theorem row_hit {L : Lay} (h : L.Right) (hK : L.K = 5) {p : Int} {k c d : Nat} (hd : d < L.rowN) (hk : (k : Int) = L.rowF p d) (hc : c ≤ L.rowN) (hrel : ∀ d, d < L.rowN → (L.rowF p d < k ↔ d < c)) :
    c + 1 ≤ L.rowN ∧ (k : Int) = L.rowF p c ∧ ∀ d, d < L.rowN → (L.rowF p d < ((k + 1 : Nat) : Int) ↔ d < c + 1) := by
  have h1 : ¬ d < c := fun hx => by have := (hrel d hd).2 hx; omega
  have h2 : ¬ c < d := fun hx => by
    have h3 := row_mono h hK (p := p) hx
    have := (hrel c (by omega)).1 (by omega)
    omega
  obtain rfl : d = c := by omega
  refine ⟨by omega, hk, fun d' hd' => ?_⟩
  constructor
  · intro hlt
    refine Classical.byContradiction fun hn => ?_
    have := row_mono h hK (p := p) (d := d) (d' := d') (by omega)
    omega
  · intro hlt
    by_cases he : d' = d
    · subst he; omega
    · have := (hrel d' hd').2 (by omega); omega
theorem row_miss {L : Lay} {p : Int} {k c : Nat} (hno : ¬ ∃ d, d < L.rowN ∧ (k : Int) = L.rowF p d) (hrel : ∀ d, d < L.rowN → (L.rowF p d < k ↔ d < c)) :
    ∀ d, d < L.rowN → (L.rowF p d < ((k + 1 : Nat) : Int) ↔ d < c) := fun d hd => by
  have h1 := hrel d hd
  have h2 : (k : Int) ≠ L.rowF p d := fun he => hno ⟨d, hd, he⟩
  rw [← h1]
  omega

end Go.Proofs.Ytlbohmfhdchabaa
