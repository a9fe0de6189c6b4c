/- Span: a page's spots and a spot's page, in plain Lean. -/
import Derived.Test.YtlbohmfhdchabaaSpnLD
namespace Go.Proofs.Ytlbohmfhdchabaa
open Go.RowKit

theorem chunk_div {S C o : Int} (h0 : 0 ≤ o) (h1 : o < C) : (S * C + o) / C = S ∧ (S * C + o) % C = o := by
  constructor
  · rw [Int.add_comm, Int.add_mul_ediv_right _ _ (by omega), Int.ediv_eq_zero_of_lt h0 h1]; omega
  · rw [Int.add_comm, Int.add_mul_emod_self_right, Int.emod_eq_of_lt h0 h1]
theorem chunk_lt {S T C o : Int} (h : S < T) (h0 : 0 ≤ o) (h1 : o < C) : S * C + o < T * C := by
  have : (S + 1) * C ≤ T * C := Int.mul_le_mul_of_nonneg_right (by omega) (by omega)
  rw [Int.add_mul] at this
  omega
theorem chunk_of_lt {x T C : Int} (hC : 0 < C) (h : x < T * C) : x / C < T := Int.ediv_lt_of_lt_mul hC h
theorem mod_once {x n : Int} (h0 : n ≤ x) (h1 : x < 2 * n) : x % n = x - n := by
  have h : x = (x - n) + n := by omega
  conv => lhs; rw [h]
  rw [Int.add_emod_right, Int.emod_eq_of_lt (by omega) (by omega)]

theorem cat_ex (M : Nat → Int) (p : Int) : ∀ n, 0 ≤ p → p < sumI M n → ∃ j, j < n ∧ sumI M j ≤ p ∧ p < sumI M (j + 1)
  | 0, h0, h => by simp [sumI] at h; omega
  | n + 1, h0, h => by
    by_cases hn : p < sumI M n
    · obtain ⟨j, h1, h2⟩ := cat_ex M p n h0 hn
      exact ⟨j, by omega, h2⟩
    · exact ⟨n, by omega, by omega, h⟩

structure Back (L : Lay) (p : Int) (i : Nat) : Prop where
  has : L.has (L.at p i) = true
  role : (L.page (L.at p i)).2 ≠ 4
  first : (i = 0) ↔ (L.page (L.at p i)).2 = 1
  own : (L.page (L.at p i)).2 ≠ 3 → (L.page (L.at p i)).1 = p
  par : (L.page (L.at p i)).2 = 3 → (L.page (L.at p i)).1 ≤ p

theorem back_of {L : Lay} {p : Int} {i : Nat} {s r : Int × Int} (hs : L.at p i = s) (hr : L.page s = r) (h1 : L.has s = true) (h2 : r.2 ≠ 4) (h3 : (i = 0) ↔ r.2 = 1) (h4 : r.2 ≠ 3 → r.1 = p) (h5 : r.2 = 3 → r.1 ≤ p) : Back L p i := by
  subst hs
  exact ⟨h1, by rw [hr]; exact h2, by rw [hr]; exact h3, by rw [hr]; exact h4, by rw [hr]; exact h5⟩

theorem back {L : Lay} (h : L.Right) {p : Int} (hp : 0 ≤ p ∧ p < L.size) {i : Nat} (hi : i < L.num') : Back L p i := by
  have hk := h.kind
  have hn := h.nle
  have hC := h.chunk
  have hkl := h.kle
  have hml := h.mle
  have hsz := h.sizes
  have hp2 : 0 ≤ p ∧ p ≤ 1000000 := by omega
  obtain hK | hK | hK | hK | hK : L.K = 1 ∨ L.K = 2 ∨ L.K = 3 ∨ L.K = 4 ∨ L.K = 5 := by omega
  · have e1 : L.at p i = (0, p) := by unfold Lay.at; rw [if_pos hK]
    have e2 : L.page (0, p) = (p, 1) := by unfold Lay.page; rw [if_pos hK]
    have e3 : L.size = L.m := by unfold Lay.size; rw [if_pos hK]
    have e4 : L.num' = 1 := by unfold Lay.num'; rw [hK]; rfl
    have hm := Lay.m_le (L := L) (i := 0) (by omega)
    rw [e3] at hp
    exact back_of e1 e2 (has_iff.2 ⟨by simp, by simp; omega, hp.1, by show p < L.M 0; omega⟩) (by simp) (by simp; omega) (fun _ => rfl) (fun h => by simp at h)
  · have e3 : L.size = sumI L.M L.n := by unfold Lay.size; rw [hK]; rfl
    have e4 : L.num' = 1 := by unfold Lay.num'; rw [hK]; rfl
    rw [e3] at hp
    obtain ⟨j, hj, h1, h2⟩ := cat_ex L.M p L.n hp.1 hp.2
    have hcat := catI_eq L.M p hj (fun i hi => (h.mem i hi).1) h1 h2
    have e1 : L.at p i = ((j : Int), p - sumI L.M j) := by unfold Lay.at; rw [hK, hcat]; rfl
    have e2 : L.page ((j : Int), p - sumI L.M j) = (p, 1) := by
      unfold Lay.page; rw [hK]
      show (p - sumI L.M j + sumI L.M (j : Int).toNat, (1 : Int)) = _
      rw [Int.toNat_natCast]; congr 1; omega
    simp only [sumI] at h2
    exact back_of e1 e2 (has_iff.2 ⟨by simp, by simp; omega, by simp; omega, by show p - sumI L.M j < L.M (j : Int).toNat; rw [Int.toNat_natCast]; omega⟩) (by simp) (by simp; omega) (fun _ => rfl) (fun h => by simp at h)
  · have e3 : L.size = L.n * L.k := by unfold Lay.size; rw [hK]; rfl
    have e4 : L.num' = 1 := by unfold Lay.num'; rw [hK]; rfl
    rw [e3, hkl.2.2] at hp
    have e1 : L.at p i = (p / L.C % L.n, p / L.C / L.n * L.C + p % L.C) := by unfold Lay.at; rw [hK]; rfl
    obtain ⟨-, q2, q3, q4⟩ := quot_facts p L.C hp2 (by omega)
    have hR : p / L.C < L.m / L.C * L.n := chunk_of_lt (by omega) (by rw [Int.mul_assoc, Int.mul_comm (L.n : Int), ← Int.mul_assoc]; rw [Int.mul_comm (L.n : Int)] at hp; exact hp.2)
    have hS : p / L.C / L.n < L.m / L.C := chunk_of_lt (by omega) hR
    obtain ⟨-, r2, r3, r4⟩ := quot_facts (p / L.C) L.n (by omega) (by omega)
    have hlt := chunk_lt (C := L.C) hS q3.1 q3.2
    have hcd := chunk_div (S := p / L.C / L.n) q3.1 q3.2
    rw [← hkl.2.2] at hlt
    have e2 : L.page (p / L.C % L.n, p / L.C / L.n * L.C + p % L.C) = (p, 1) := by
      unfold Lay.page
      rw [hK]
      show (if L.k ≤ p / L.C / L.n * L.C + p % L.C then ((0 : Int), (4 : Int)) else (((p / L.C / L.n * L.C + p % L.C) / L.C * L.n + p / L.C % L.n) * L.C + (p / L.C / L.n * L.C + p % L.C) % L.C, (1 : Int))) = _
      rw [if_neg (by omega), hcd.1, hcd.2, r4, q4]
    have hm := Lay.m_le (L := L) (i := (p / L.C % L.n).toNat) (by omega)
    have h0 : 0 ≤ p / L.C / L.n * L.C := Int.mul_nonneg r2.1 (by omega)
    exact back_of e1 e2 (has_iff.2 ⟨r3.1, r3.2, by show 0 ≤ p / L.C / L.n * L.C + p % L.C; omega, by show p / L.C / L.n * L.C + p % L.C < L.M (p / L.C % L.n).toNat; omega⟩) (by simp) (by simp; omega) (fun _ => rfl) (fun h => by simp at h)
  · have e3 : L.size = L.m := by unfold Lay.size; rw [hK]; rfl
    have e4 : L.num' = L.n := by unfold Lay.num'; rw [hK]; rfl
    rw [e3] at hp
    have e1 : L.at p i = ((i : Int), p) := by unfold Lay.at; rw [hK]; rfl
    have hm := Lay.m_le (L := L) (i := i) (by omega)
    have hhas : L.has ((i : Int), p) = true := has_iff.2 ⟨by simp, by simp; omega, hp.1, by show p < L.M (i : Int).toNat; rw [Int.toNat_natCast]; omega⟩
    have e2 : L.page ((i : Int), p) = if (i : Int) = 0 then (p, 1) else (p, 2) := by
      unfold Lay.page; rw [hK]
      show (if L.m ≤ p then ((0 : Int), (4 : Int)) else if (i : Int) = 0 then (p, 1) else (p, 2)) = _
      rw [if_neg (by omega)]
    by_cases hi0 : i = 0
    · rw [if_pos (by omega)] at e2
      exact back_of e1 e2 hhas (by simp) (by simp [hi0]) (fun _ => rfl) (fun h => by simp at h)
    · rw [if_neg (by omega)] at e2
      exact back_of e1 e2 hhas (by simp) (by simp [hi0]) (fun _ => rfl) (fun h => by simp at h)
  · have e3 : L.size = (L.n - 1) * L.k := by unfold Lay.size; rw [hK]; rfl
    have e4 : L.num' = 2 := by unfold Lay.num'; rw [hK]; rfl
    have hn3 : (3 : Int) ≤ L.n := by have := h.num.1; unfold Lay.lo at this; rw [hK] at this; exact this
    rw [e3, hkl.2.2] at hp
    obtain ⟨-, q2, q3, q4⟩ := quot_facts p L.C hp2 (by omega)
    have hR : p / L.C < L.m / L.C * (L.n - 1) := chunk_of_lt (by omega) (by rw [Int.mul_assoc, Int.mul_comm ((L.n : Int) - 1), ← Int.mul_assoc]; rw [Int.mul_comm ((L.n : Int) - 1)] at hp; exact hp.2)
    have hS : p / L.C / (L.n - 1) < L.m / L.C := chunk_of_lt (by omega) hR
    obtain ⟨-, r2, r3, r4⟩ := quot_facts (p / L.C) (L.n - 1) (by omega) (by omega)
    obtain ⟨-, s2, s3, s4⟩ := quot_facts (p / L.C / (L.n - 1)) L.n (by omega) (by omega)
    have hlt := chunk_lt (C := L.C) hS q3.1 q3.2
    have hcd := chunk_div (S := p / L.C / (L.n - 1)) q3.1 q3.2
    rw [← hkl.2.2] at hlt
    have h0 : 0 ≤ p / L.C / (L.n - 1) * L.C := Int.mul_nonneg r2.1 (by omega)
    generalize hSS : p / L.C / (L.n - 1) = S at *
    generalize hdd : p / L.C % (L.n - 1) = d at *
    generalize hoo : p % L.C = o at *
    have hpage : ∀ a, L.page (a, S * L.C + o) = if (a - S % L.n + L.n) % L.n = 0 then (S * (L.n - 1) * L.C + o, 3) else ((S * (L.n - 1) + (a - S % L.n + L.n) % L.n - 1) * L.C + o, 1) := fun a => by
      unfold Lay.page
      rw [hK]
      show (if L.k ≤ S * L.C + o then ((0 : Int), (4 : Int)) else if (a - (S * L.C + o) / L.C % L.n + L.n) % L.n = 0 then ((S * L.C + o) / L.C * (L.n - 1) * L.C + (S * L.C + o) % L.C, 3) else (((S * L.C + o) / L.C * (L.n - 1) + (a - (S * L.C + o) / L.C % L.n + L.n) % L.n - 1) * L.C + (S * L.C + o) % L.C, 1)) = _
      rw [if_neg (by omega), hcd.1, hcd.2]
    have hq : L.at p i = if i = 0 then ((S % L.n + 1 + d) % L.n, S * L.C + o) else (S % L.n, S * L.C + o) := by
      unfold Lay.at
      rw [hK, hSS, hdd, hoo]; rfl
    have hhas : ∀ a, 0 ≤ a → a < (L.n : Int) → L.has (a, S * L.C + o) = true := fun a ha0 ha1 => by
      have hm := Lay.m_le (L := L) (i := a.toNat) (by omega)
      exact has_iff.2 ⟨ha0, ha1, by show 0 ≤ S * L.C + o; omega, by show S * L.C + o < L.M a.toNat; omega⟩
    by_cases hi0 : i = 0
    · rw [if_pos hi0] at hq
      have ha : 0 ≤ (S % L.n + 1 + d) % L.n ∧ (S % L.n + 1 + d) % L.n < L.n := ⟨Int.emod_nonneg _ (by omega), Int.emod_lt_of_pos _ (by omega)⟩
      have hmod : ((S % L.n + 1 + d) % L.n - S % L.n + L.n) % L.n = d + 1 := by
        by_cases hc : S % L.n + 1 + d < L.n
        · rw [Int.emod_eq_of_lt (by omega) hc, show S % L.n + 1 + d - S % L.n + L.n = (d + 1) + L.n from by omega, Int.add_emod_right, Int.emod_eq_of_lt (by omega) (by omega)]
        · rw [mod_once (x := S % L.n + 1 + d) (n := L.n) (by omega) (by omega), show S % L.n + 1 + d - L.n - S % L.n + L.n = d + 1 from by omega, Int.emod_eq_of_lt (by omega) (by omega)]
      have e2 := hpage ((S % L.n + 1 + d) % L.n)
      rw [hmod, if_neg (by omega), show S * (L.n - 1) + (d + 1) - 1 = S * (L.n - 1) + d from by omega, r4, q4] at e2
      exact back_of hq e2 (hhas _ ha.1 ha.2) (by simp) (by simp [hi0]) (fun _ => rfl) (fun h => by simp at h)
    · rw [if_neg hi0] at hq
      have e2 := hpage (S % L.n)
      have hmod : (S % L.n - S % L.n + L.n) % L.n = 0 := by rw [Int.sub_self, Int.zero_add, Int.emod_self]
      rw [if_pos hmod] at e2
      refine back_of hq e2 (hhas _ s3.1 s3.2) (by simp) (by simp [hi0]) (fun h => absurd rfl h) (fun _ => ?_)
      have hx : S * (L.n - 1) * L.C ≤ p / L.C * L.C := Int.mul_le_mul_of_nonneg_right (by omega) (by omega)
      show S * (L.n - 1) * L.C + o ≤ p
      omega

/-- Of each spot that is not free: its page is one, and the spot is one of its page's. -/
theorem forth {L : Lay} (h : L.Right) {s : Int × Int} (hs : L.has s = true) (hf : (L.page s).2 ≠ 4) : (0 ≤ (L.page s).1 ∧ (L.page s).1 < L.size) ∧ ∃ i, i < L.num' ∧ L.at (L.page s).1 i = s := by
  obtain ⟨a, b⟩ := s
  obtain ⟨h1, h2, h3, h4⟩ := has_iff.1 hs
  dsimp only at h1 h2 h3 h4
  have hk := h.kind
  have hn := h.nle
  have hC := h.chunk
  have hkl := h.kle
  have hml := h.mle
  have hmem := h.mem a.toNat (by omega)
  obtain ⟨-, q2, q3, q4⟩ := quot_facts b L.C (by omega) (by omega)
  obtain hK | hK | hK | hK | hK : L.K = 1 ∨ L.K = 2 ∨ L.K = 3 ∨ L.K = 4 ∨ L.K = 5 := by omega
  · have hn1 : L.n = 1 := by have := h.num; unfold Lay.lo Lay.hi at this; rw [hK] at this; simp at this; omega
    obtain rfl : a = 0 := by omega
    have e2 : L.page (0, b) = (b, 1) := by unfold Lay.page; rw [if_pos hK]
    have e3 : L.size = L.M 0 := by unfold Lay.size; rw [if_pos hK]; unfold Lay.m; rw [hn1]; rfl
    have e4 : L.num' = 1 := by unfold Lay.num'; rw [hK]; rfl
    have e1 : L.at b 0 = (0, b) := by unfold Lay.at; rw [if_pos hK]
    rw [e2, e3, e4]
    exact ⟨⟨h3, h4⟩, 0, by omega, e1⟩
  · obtain ⟨j, rfl⟩ : ∃ j : Nat, a = j := ⟨a.toNat, by omega⟩
    rw [Int.toNat_natCast] at h4
    have hj : j < L.n := by omega
    have e2 : L.page ((j : Int), b) = (b + sumI L.M j, 1) := by unfold Lay.page; rw [hK]; show (b + sumI L.M (j : Int).toNat, (1 : Int)) = _; rw [Int.toNat_natCast]
    have e3 : L.size = sumI L.M L.n := by unfold Lay.size; rw [hK]; rfl
    have e4 : L.num' = 1 := by unfold Lay.num'; rw [hK]; rfl
    have hmono := sumI_mono L.M (j := j + 1) (k := L.n) (by omega) (fun i hi => (h.mem i hi).1)
    have hsb := (sumI_bound L.M 1 4096 j (fun i hi => h.mem i (by omega))).1
    have hs1 : sumI L.M (j + 1) = sumI L.M j + L.M j := rfl
    have hcat := catI_eq L.M (b + sumI L.M j) hj (fun i hi => (h.mem i hi).1) (by omega) (by omega)
    have e1 : L.at (b + sumI L.M j) 0 = ((j : Int), b) := by
      unfold Lay.at; rw [hK, hcat]
      show ((j : Int), b + sumI L.M j - sumI L.M j) = _
      congr 1; omega
    rw [e2, e3, e4]
    exact ⟨⟨by show 0 ≤ b + sumI L.M j; omega, by show b + sumI L.M j < _; omega⟩, 0, by omega, e1⟩
  · have e3 : L.size = L.n * L.k := by unfold Lay.size; rw [hK]; rfl
    have e4 : L.num' = 1 := by unfold Lay.num'; rw [hK]; rfl
    have e2 : L.page (a, b) = if L.k ≤ b then (0, 4) else ((b / L.C * L.n + a) * L.C + b % L.C, 1) := by unfold Lay.page; rw [hK]; rfl
    by_cases hkb : L.k ≤ b
    · rw [e2, if_pos hkb] at hf; exact absurd rfl hf
    rw [if_neg hkb] at e2
    have hS : b / L.C < L.m / L.C := chunk_of_lt (by omega) (by rw [← hkl.2.2]; omega)
    have hR := chunk_lt (C := (L.n : Int)) (o := a) hS h1 h2
    have hq := chunk_lt (C := L.C) hR q3.1 q3.2
    have hcd := chunk_div (S := b / L.C * L.n + a) q3.1 q3.2
    have hcn := chunk_div (S := b / L.C) h1 h2
    have h0 : 0 ≤ b / L.C * L.n := Int.mul_nonneg q2.1 (by omega)
    have h00 : 0 ≤ (b / L.C * L.n + a) * L.C := Int.mul_nonneg (by omega) (by omega)
    have hsz : L.m / L.C * L.n * L.C = L.n * L.k := by
      have e := hkl.2.2
      generalize L.k = kk at *
      subst e
      rw [Int.mul_assoc, Int.mul_comm (L.n : Int) L.C, ← Int.mul_assoc, Int.mul_comm (L.n : Int)]
    have e1 : L.at ((b / L.C * L.n + a) * L.C + b % L.C) 0 = (a, b) := by
      unfold Lay.at; rw [hK]
      show (((b / L.C * L.n + a) * L.C + b % L.C) / L.C % L.n, ((b / L.C * L.n + a) * L.C + b % L.C) / L.C / L.n * L.C + ((b / L.C * L.n + a) * L.C + b % L.C) % L.C) = _
      rw [hcd.1, hcd.2, hcn.1, hcn.2, q4]
    rw [e2, e3, e4]
    exact ⟨⟨by show 0 ≤ (b / L.C * L.n + a) * L.C + b % L.C; omega, by show (b / L.C * L.n + a) * L.C + b % L.C < _; omega⟩, 0, by omega, e1⟩
  · have e3 : L.size = L.m := by unfold Lay.size; rw [hK]; rfl
    have e4 : L.num' = L.n := by unfold Lay.num'; rw [hK]; rfl
    have hmb : ¬ L.m ≤ b := fun x => hf ((role4_mirror hK (a, b)).2 x)
    have e2 : (L.page (a, b)).1 = b := by
      unfold Lay.page; rw [hK]
      show (if L.m ≤ b then ((0 : Int), (4 : Int)) else if a = 0 then (b, 1) else (b, 2)).1 = _
      rw [if_neg hmb]
      split <;> rfl
    rw [e2, e3, e4]
    refine ⟨⟨h3, by omega⟩, a.toNat, by omega, ?_⟩
    unfold Lay.at; rw [hK]
    show ((a.toNat : Int), b) = _
    congr 1; omega
  · have e3 : L.size = (L.n - 1) * L.k := by unfold Lay.size; rw [hK]; rfl
    have e4 : L.num' = 2 := by unfold Lay.num'; rw [hK]; rfl
    have hn3 : (3 : Int) ≤ L.n := by have := h.num.1; unfold Lay.lo at this; rw [hK] at this; exact this
    have hkb : ¬ L.k ≤ b := fun x => hf ((role4_parity hK (a, b)).2 x)
    have e2 : L.page (a, b) = if (a - b / L.C % L.n + L.n) % L.n = 0 then (b / L.C * (L.n - 1) * L.C + b % L.C, 3) else ((b / L.C * (L.n - 1) + (a - b / L.C % L.n + L.n) % L.n - 1) * L.C + b % L.C, 1) := by
      unfold Lay.page; rw [hK]
      show (if L.k ≤ b then ((0 : Int), (4 : Int)) else _) = _
      rw [if_neg hkb]
    have hS : b / L.C < L.m / L.C := chunk_of_lt (by omega) (by rw [← hkl.2.2]; omega)
    obtain ⟨-, s2, s3, s4⟩ := quot_facts (b / L.C) L.n (by omega) (by omega)
    have hat : ∀ d i, 0 ≤ d → d < (L.n : Int) - 1 → L.at ((b / L.C * (L.n - 1) + d) * L.C + b % L.C) i = if i = 0 then ((b / L.C % L.n + 1 + d) % L.n, b) else (b / L.C % L.n, b) := fun d i hd0 hd1 => by
      have hcd := chunk_div (S := b / L.C * (L.n - 1) + d) q3.1 q3.2
      have hcn := chunk_div (S := b / L.C) hd0 hd1
      unfold Lay.at; rw [hK]
      show (if i = 0 then ((((b / L.C * (L.n - 1) + d) * L.C + b % L.C) / L.C / (L.n - 1) % L.n + 1 + ((b / L.C * (L.n - 1) + d) * L.C + b % L.C) / L.C % (L.n - 1)) % L.n, ((b / L.C * (L.n - 1) + d) * L.C + b % L.C) / L.C / (L.n - 1) * L.C + ((b / L.C * (L.n - 1) + d) * L.C + b % L.C) % L.C) else (((b / L.C * (L.n - 1) + d) * L.C + b % L.C) / L.C / (L.n - 1) % L.n, ((b / L.C * (L.n - 1) + d) * L.C + b % L.C) / L.C / (L.n - 1) * L.C + ((b / L.C * (L.n - 1) + d) * L.C + b % L.C) % L.C)) = _
      rw [hcd.1, hcd.2, hcn.1, hcn.2, q4]
    have hin : ∀ d, 0 ≤ d → d < (L.n : Int) - 1 → 0 ≤ (b / L.C * (L.n - 1) + d) * L.C + b % L.C ∧ (b / L.C * (L.n - 1) + d) * L.C + b % L.C < (L.n - 1) * L.k := fun d hd0 hd1 => by
      have hR := chunk_lt (C := (L.n : Int) - 1) (o := d) hS hd0 hd1
      have hq := chunk_lt (C := L.C) hR q3.1 q3.2
      have h0 : 0 ≤ b / L.C * (L.n - 1) := Int.mul_nonneg q2.1 (by omega)
      have h00 : 0 ≤ (b / L.C * (L.n - 1) + d) * L.C := Int.mul_nonneg (by omega) (by omega)
      have hsz : L.m / L.C * (L.n - 1) * L.C = (L.n - 1) * L.k := by
        have e := hkl.2.2
        generalize L.k = kk at *
        subst e
        rw [Int.mul_assoc, Int.mul_comm ((L.n : Int) - 1) L.C, ← Int.mul_assoc, Int.mul_comm ((L.n : Int) - 1)]
      omega
    rw [e3, e4]
    have hx : 0 ≤ (a - b / L.C % L.n + L.n) % L.n ∧ (a - b / L.C % L.n + L.n) % L.n < L.n := ⟨Int.emod_nonneg _ (by omega), Int.emod_lt_of_pos _ (by omega)⟩
    by_cases hz : (a - b / L.C % L.n + L.n) % L.n = 0
    · rw [if_pos hz] at e2
      rw [e2]
      have ha : a = b / L.C % L.n := by
        by_cases hc : a < b / L.C % L.n
        · rw [Int.emod_eq_of_lt (by omega) (by omega)] at hz; omega
        · rw [mod_once (x := a - b / L.C % L.n + L.n) (n := L.n) (by omega) (by omega)] at hz; omega
      have h0 := hat 0 1 (by omega) (by omega)
      have hi0 := hin 0 (by omega) (by omega)
      rw [Int.add_zero] at h0 hi0
      refine ⟨hi0, 1, by omega, ?_⟩
      rw [h0, if_neg (by omega), ← ha]
    · rw [if_neg hz] at e2
      rw [e2]
      have h0 := hat ((a - b / L.C % L.n + L.n) % L.n - 1) 0 (by omega) (by omega)
      have hi0 := hin ((a - b / L.C % L.n + L.n) % L.n - 1) (by omega) (by omega)
      rw [← Int.add_sub_assoc] at h0 hi0
      refine ⟨hi0, 0, by omega, ?_⟩
      rw [h0, if_pos rfl]
      congr 1
      by_cases hc : a < b / L.C % L.n
      · rw [Int.emod_eq_of_lt (a := a - b / L.C % L.n + L.n) (by omega) (by omega), show b / L.C % L.n + 1 + (a - b / L.C % L.n + L.n - 1) = a + L.n from by omega, Int.add_emod_right, Int.emod_eq_of_lt h1 h2]
      · rw [mod_once (x := a - b / L.C % L.n + L.n) (n := L.n) (by omega) (by omega), show b / L.C % L.n + 1 + (a - b / L.C % L.n + L.n - L.n - 1) = a from by omega, Int.emod_eq_of_lt h1 h2]

end Go.Proofs.Ytlbohmfhdchabaa
