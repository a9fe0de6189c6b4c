/- Plain laws of a disk: what Crash leaves. -/
import Derived.Test.YtjhcaedfknhilaaPlayed
namespace Go.Proofs.Ytjhcaedfknhilaa
open Go.RowKit

theorem performs_law (D : Dsk) (A : Nat → Nat) (F : Nat → Nat → Int) (i : Nat) : ∀ k, ((D.performs A F k).sec i = D.sec i ∧ (D.performs A F k).bad i = D.bad i) ∨ ∃ j, j < k ∧ A j = i ∧ (D.performs A F k).sec i = F j ∧ (D.performs A F k).bad i = false
  | 0 => .inl ⟨rfl, rfl⟩
  | k + 1 => by
    by_cases h : i = A k
    · refine .inr ⟨k, by omega, h.symm, ?_, ?_⟩
      · show (fun j => if i = A k then F k j else (D.performs A F k).sec i j) = F k
        funext j
        rw [if_pos h]
      · show (if i = A k then false else (D.performs A F k).bad i) = false
        rw [if_pos h]
    · have h1 : (D.performs A F (k + 1)).sec i = (D.performs A F k).sec i := by
        show (fun j => if i = A k then F k j else (D.performs A F k).sec i j) = _
        funext j
        rw [if_neg h]
      have h2 : (D.performs A F (k + 1)).bad i = (D.performs A F k).bad i := by
        show (if i = A k then false else (D.performs A F k).bad i) = _
        rw [if_neg h]
      rw [h1, h2]
      rcases performs_law D A F i k with h3 | ⟨j, hj, h4⟩
      · exact .inl h3
      · exact .inr ⟨j, by omega, h4⟩
theorem crash_law (D : Dsk) (n : Nat) (f : Nat → Int) (hk : keepOk D.q n f) (i : Nat) :
    ((D.crash n f).sec i = D.sec i ∧ (D.crash n f).bad i = D.bad i) ∨ ∃ j, j < D.q ∧ D.qa j = i ∧ (D.crash n f).sec i = D.qb j ∧ (D.crash n f).bad i = false := by
  rcases performs_law D (fun k => D.qa (f k).toNat) (fun k => D.qb (f k).toNat) i n with h | ⟨j, hj, h1, h2, h3⟩
  · exact .inl h
  · have := (hk j hj).1
    exact .inr ⟨(f j).toNat, by omega, h1, h2, h3⟩
theorem crash_same (D : Dsk) (n : Nat) (f : Nat → Int) : (D.crash n f).n = D.n ∧ (D.crash n f).q = 0 ∧ (D.crash n f).dead = D.dead ∧ (D.crash n f).armed = false ∧ (D.crash n f).left = 0 := by
  obtain ⟨h1, _, _, _, h5, _⟩ := D.performs_same (fun k => D.qa (f k).toNat) (fun k => D.qb (f k).toNat) n
  exact ⟨h1, rfl, h5, rfl, rfl⟩
/-- The list of bad ones has a sector, if it is bad. -/
theorem in_bad (D : Dsk) (i : Nat) : (∃ k, k < (badL D D.n).length ∧ badF D D.n k = i) ↔ i < D.n ∧ D.bad i = true := by
  constructor
  · rintro ⟨k, hk, h⟩
    unfold badF at h
    rw [List.getD_eq_getElem?_getD, List.getElem?_eq_getElem hk, Option.getD_some] at h
    have h9 : (badL D D.n)[k] = i := by omega
    exact badL_mem (h9 ▸ List.getElem_mem hk)
  · rintro ⟨h1, h2⟩
    have hm : i ∈ badL D D.n := by
      unfold badL
      rw [List.mem_filter, List.mem_range]
      exact ⟨h1, h2⟩
    obtain ⟨k, hk, h⟩ := List.getElem_of_mem hm
    refine ⟨k, hk, ?_⟩
    unfold badF
    rw [List.getD_eq_getElem?_getD, List.getElem?_eq_getElem hk, Option.getD_some, h]

end Go.Proofs.Ytjhcaedfknhilaa
