/- Plain laws of a disk: disks that are the same stay so; State and Load. The reference: Has. -/
import Derived.Test.YtjhcaedfknhilaaRc16
import Derived.Test.YtjhcaedfknhilaaRc17
namespace Go.Proofs.Ytjhcaedfknhilaa
set_option linter.unusedVariables false
set_option linter.unusedSimpArgs false
open Go.RowKit

/-- Disks that are the same. -/
structure Dsk.Eqv (D E : Dsk) : Prop where
  n : E.n = D.n
  sec : ∀ i j, i < D.n → j < 64 → E.sec i j = D.sec i j
  bad : ∀ i, i < D.n → E.bad i = D.bad i
  q : E.q = D.q
  qa : ∀ i, i < D.q → E.qa i = D.qa i
  qb : ∀ i j, i < D.q → j < 64 → E.qb i j = D.qb i j
  dead : E.dead = D.dead
  armed : E.armed = D.armed
  left : E.left = D.left
theorem Dsk.Eqv.rfl' (D : Dsk) : D.Eqv D := ⟨rfl, fun _ _ _ _ => rfl, fun _ _ => rfl, rfl, fun _ _ => rfl, fun _ _ _ _ => rfl, rfl, rfl, rfl⟩
theorem Dsk.Eqv.symm {D E : Dsk} (h : D.Eqv E) : E.Eqv D :=
  ⟨h.n.symm, fun i j h1 h2 => (h.sec i j (h.n ▸ h1) h2).symm, fun i h1 => (h.bad i (h.n ▸ h1)).symm, h.q.symm, fun i h1 => (h.qa i (h.q ▸ h1)).symm, fun i j h1 h2 => (h.qb i j (h.q ▸ h1) h2).symm, h.dead.symm, h.armed.symm, h.left.symm⟩
theorem Dsk.Eqv.off {D E : Dsk} (h : D.Eqv E) : E.off = D.off := by unfold Dsk.off; rw [h.dead, h.armed, h.left]
theorem eqv_hasQ {a a' : Nat → Nat} {f f' : Nat → Nat → Int} (j : Nat) : ∀ k, (∀ i, i < k → a' i = a i) → (∀ i l, i < k → l < 64 → f' i l = f i l) → (hasQ a f j k = none ∧ hasQ a' f' j k = none) ∨ ∃ F F', hasQ a f j k = some F ∧ hasQ a' f' j k = some F' ∧ ∀ l, l < 64 → F' l = F l
  | 0, _, _ => .inl ⟨rfl, rfl⟩
  | k + 1, h1, h2 => by
    rw [hasQ, hasQ, h1 k (by omega)]
    by_cases h : a k = j
    · rw [if_pos h, if_pos h]
      exact .inr ⟨_, _, rfl, rfl, fun l hl => h2 k l (by omega) hl⟩
    · rw [if_neg h, if_neg h]
      exact eqv_hasQ j k (fun i hi => h1 i (by omega)) (fun i l hi hl => h2 i l (by omega) hl)
theorem Dsk.Eqv.has {D E : Dsk} (h : D.Eqv E) {j : Nat} (hj : j < D.n) : (D.has j = none ∧ E.has j = none) ∨ ∃ F F', D.has j = some F ∧ E.has j = some F' ∧ ∀ l, l < 64 → F' l = F l := by
  unfold Dsk.has
  rw [h.q, h.bad j hj]
  rcases eqv_hasQ j D.q h.qa h.qb with ⟨h1, h2⟩ | ⟨F, F', h1, h2, h3⟩
  · rw [h1, h2]
    rcases hb : D.bad j with _ | _
    · exact .inr ⟨_, _, rfl, rfl, fun l hl => h.sec j l hj hl⟩
    · exact .inl ⟨rfl, rfl⟩
  · rw [h1, h2]
    exact .inr ⟨_, _, rfl, rfl, h3⟩
theorem Dsk.Eqv.readOk {D E : Dsk} (h : D.Eqv E) {a m : Nat} (ha : a + m ≤ D.n) : readOk E a m ↔ readOk D a m := by
  constructor
  · intro h1 i hi
    obtain ⟨f, hf⟩ := h1 i hi
    rcases h.has (j := a + i) (by omega) with ⟨-, h3⟩ | ⟨F, F', h2, -⟩
    · rw [h3] at hf; cases hf
    · exact ⟨F, h2⟩
  · intro h1 i hi
    obtain ⟨f, hf⟩ := h1 i hi
    rcases h.has (j := a + i) (by omega) with ⟨h3, -⟩ | ⟨F, F', -, h2, -⟩
    · rw [h3] at hf; cases hf
    · exact ⟨F', h2⟩
theorem Dsk.Eqv.readI {D E : Dsk} (h : D.Eqv E) {a m k : Nat} (ha : a + m ≤ D.n) (hk : k < m * 64) : readI E a k = readI D a k := by
  unfold Proofs.Ytjhcaedfknhilaa.readI Dsk.hasF
  rcases h.has (j := a + k / 64) (by omega) with ⟨h2, h3⟩ | ⟨F, F', h2, h3, h4⟩
  · rw [h2, h3]
  · rw [h2, h3]
    exact h4 _ (by omega)
theorem Dsk.Eqv.perform {D E : Dsk} (h : D.Eqv E) (a : Nat) {f g : Nat → Int} (hf : ∀ l, l < 64 → g l = f l) : (D.perform a f).Eqv (E.perform a g) := by
  refine ⟨h.n, fun i j hi hj => ?_, fun i hi => ?_, h.q, h.qa, h.qb, h.dead, h.armed, h.left⟩
  · show (if i = a then g j else E.sec i j) = if i = a then f j else D.sec i j
    split
    · exact hf j hj
    · exact h.sec i j hi hj
  · show (if i = a then false else E.bad i) = if i = a then false else D.bad i
    split
    · rfl
    · exact h.bad i hi
theorem Dsk.Eqv.performs {D E : Dsk} (h : D.Eqv E) {A A' : Nat → Nat} {F F' : Nat → Nat → Int} : ∀ k, (∀ i, i < k → A' i = A i) → (∀ i l, i < k → l < 64 → F' i l = F i l) → (D.performs A F k).Eqv (E.performs A' F' k)
  | 0, _, _ => h
  | k + 1, h1, h2 => by
    show ((D.performs A F k).perform (A k) (F k)).Eqv ((E.performs A' F' k).perform (A' k) (F' k))
    rw [h1 k (by omega)]
    exact (Dsk.Eqv.performs h k (fun i hi => h1 i (by omega)) (fun i l hi hl => h2 i l (by omega) hl)).perform _ fun l hl => h2 k l (by omega) hl
theorem Dsk.Eqv.flushed {D E : Dsk} (h : D.Eqv E) : D.flushed.Eqv E.flushed :=
  ⟨h.n, h.sec, h.bad, rfl, fun i hi => absurd hi (Nat.not_lt_zero i), fun i j hi => absurd hi (Nat.not_lt_zero i), h.dead, h.armed, h.left⟩
theorem Dsk.Eqv.used {D E : Dsk} (h : D.Eqv E) : D.used.Eqv E.used :=
  ⟨h.n, h.sec, h.bad, h.q, h.qa, h.qb, h.dead, h.armed, by show (if E.armed then E.left - 1 else E.left) = if D.armed then D.left - 1 else D.left; rw [h.armed, h.left]⟩
theorem Dsk.Eqv.arm {D E : Dsk} (h : D.Eqv E) (b : Bool) (l : Int) : (D.arm b l).Eqv (E.arm b l) := ⟨h.n, h.sec, h.bad, h.q, h.qa, h.qb, h.dead, rfl, rfl⟩
theorem Dsk.Eqv.sync {D E : Dsk} (h : D.Eqv E) : D.sync.Eqv E.sync := by
  unfold Dsk.sync
  rw [h.q]
  exact (h.performs D.q h.qa h.qb).flushed.used
theorem Dsk.Eqv.crash {D E : Dsk} (h : D.Eqv E) {n : Nat} {f : Nat → Int} (hk : keepOk D.q n f) : (D.crash n f).Eqv (E.crash n f) := by
  have hi : ∀ i, i < n → (f i).toNat < D.q := fun i hi => by have := (hk i hi).1; omega
  exact ((h.performs n (fun i h1 => h.qa _ (hi i h1)) (fun i l h1 h2 => h.qb _ l (hi i h1) h2)).flushed).arm false 0
theorem Dsk.Eqv.write {D E : Dsk} (h : D.Eqv E) (a k : Nat) (f : Nat → Int) : (D.write a k f).Eqv (E.write a k f) := by
  refine Dsk.Eqv.used ⟨h.n, h.sec, h.bad, ?_, fun i hi => ?_, fun i j hi hj => ?_, h.dead, h.armed, h.left⟩
  · show E.q + k = D.q + k
    rw [h.q]
  · show (if i < E.q then E.qa i else a + (i - E.q)) = if i < D.q then D.qa i else a + (i - D.q)
    rw [h.q]
    split
    · exact h.qa i (by assumption)
    · rfl
  · show (if i < E.q then E.qb i j else f ((i - E.q) * 64 + j)) = if i < D.q then D.qb i j else f ((i - D.q) * 64 + j)
    rw [h.q]
    split
    · exact h.qb i j (by assumption) hj
    · rfl
theorem Dsk.Eqv.spoil {D E : Dsk} (h : D.Eqv E) (j : Nat) : (D.spoil j).Eqv (E.spoil j) :=
  ⟨h.n, h.sec, fun i hi => by show (decide (i = j) || E.bad i) = (decide (i = j) || D.bad i); rw [h.bad i hi], h.q, h.qa, h.qb, h.dead, h.armed, h.left⟩
theorem Dsk.Eqv.die {D E : Dsk} (h : D.Eqv E) : D.die.Eqv E.die := ⟨h.n, h.sec, h.bad, rfl, fun i hi => absurd hi (Nat.not_lt_zero i), fun i j hi => absurd hi (Nat.not_lt_zero i), rfl, rfl, rfl⟩
theorem Dsk.Eqv.inD {D E : Dsk} (h : D.Eqv E) (a m : Int) : inD E a m ↔ inD D a m := by unfold Proofs.Ytjhcaedfknhilaa.inD; rw [h.n]

/-- An act does the same on disks that are the same. -/
theorem does_same {D E D' E' : Dsk} {A : Deed} {c c' : Int} {n n' : Nat} {f f' : Nat → Int} (h : D.Eqv E) (hd : Does D A D' c n f) (he : Does E A E' c' n' f') : D'.Eqv E' ∧ c' = c ∧ n' = n ∧ ∀ k, k < n → f' k = f k := by
  have hin := h.inD
  have ho := h.off
  have hq := h.q
  have hn := h.n
  have hdd := h.dead
  have nk : ∀ {k : Nat}, k < 0 → f' k = f k := fun h9 => absurd h9 (Nat.not_lt_zero _)
  unfold Does at hd he
  rw [hin, hin, ho, hq, hn, hdd] at he
  rcases hd with ⟨k1, hd⟩ | ⟨k1, hd⟩ | ⟨k1, hd⟩ | ⟨k1, hd⟩ | ⟨k1, hd⟩ | ⟨k1, hd⟩ | ⟨k1, hd⟩ | ⟨k1, hd⟩ | ⟨k1, hd⟩ <;>
  rcases he with ⟨k2, he⟩ | ⟨k2, he⟩ | ⟨k2, he⟩ | ⟨k2, he⟩ | ⟨k2, he⟩ | ⟨k2, he⟩ | ⟨k2, he⟩ | ⟨k2, he⟩ | ⟨k2, he⟩ <;> try (exfalso; omega)
  · obtain ⟨rfl, hd⟩ := hd
    obtain ⟨rfl, he⟩ := he
    refine ⟨h, ?_⟩
    by_cases h1 : inD D' A.at' A.many
    · have h2 : A.at'.toNat + A.many.toNat ≤ D'.n := by obtain ⟨a1, a2, a3, a4⟩ := h1; omega
      have h3 := h.readOk h2
      rw [h3] at he
      rcases hd with ⟨h9, -⟩ | ⟨-, b1, rfl, rfl⟩ | ⟨-, b1, b2, rfl, rfl⟩ | ⟨-, b1, b2, rfl, rfl, rfl⟩
      · exact absurd h1 h9
      · rcases he with ⟨h9, -⟩ | ⟨-, e1, rfl, rfl⟩ | ⟨-, e1, e2, rfl, rfl⟩ | ⟨-, e1, e2, rfl, rfl, rfl⟩
        · exact absurd h1 h9
        · exact ⟨rfl, rfl, fun k => nk⟩
        · exact ⟨rfl, rfl, fun k => nk⟩
        · rw [b1] at e1; cases e1
      · rcases he with ⟨h9, -⟩ | ⟨-, e1, rfl, rfl⟩ | ⟨-, e1, e2, rfl, rfl⟩ | ⟨-, e1, e2, rfl, rfl, rfl⟩
        · exact absurd h1 h9
        · exact ⟨rfl, rfl, fun k => nk⟩
        · exact ⟨rfl, rfl, fun k => nk⟩
        · exact absurd e2 b2
      · rcases he with ⟨h9, -⟩ | ⟨-, e1, rfl, rfl⟩ | ⟨-, e1, e2, rfl, rfl⟩ | ⟨-, e1, e2, rfl, rfl, rfl⟩
        · exact absurd h1 h9
        · rw [b1] at e1; cases e1
        · exact absurd b2 e2
        · exact ⟨rfl, rfl, fun k hk => h.readI h2 hk⟩
    · rcases hd with ⟨-, rfl, rfl⟩ | ⟨h9, -⟩ | ⟨h9, -⟩ | ⟨h9, -⟩
      · rcases he with ⟨-, rfl, rfl⟩ | ⟨h9, -⟩ | ⟨h9, -⟩ | ⟨h9, -⟩
        · exact ⟨rfl, rfl, fun k => nk⟩
        all_goals exact absurd h9 h1
      all_goals exact absurd h9 h1
  · obtain ⟨rfl, hd⟩ := hd
    obtain ⟨rfl, he⟩ := he
    rcases hd with ⟨b1, rfl, rfl⟩ | ⟨b1, b2, hd⟩
    · rcases he with ⟨e1, rfl, rfl⟩ | ⟨e1, e2, he⟩
      · exact ⟨h, rfl, rfl, fun k => nk⟩
      · rcases b1 with b1 | b1
        · exact absurd e1 b1
        · exact absurd e2 b1
    · rcases he with ⟨e1, rfl, rfl⟩ | ⟨e1, e2, he⟩
      · rcases e1 with e1 | e1
        · exact absurd b1 e1
        · exact absurd b2 e1
      · rcases hd with ⟨c1, rfl, rfl⟩ | ⟨c1, c2, rfl, rfl⟩ | ⟨c1, c2, rfl, rfl⟩ <;> rcases he with ⟨g1, rfl, rfl⟩ | ⟨g1, g2, rfl, rfl⟩ | ⟨g1, g2, rfl, rfl⟩ <;> first
          | (rw [c1] at g1; cases g1; done)
          | exact absurd g2 c2
          | exact absurd c2 g2
          | exact ⟨h, rfl, rfl, fun k => nk⟩
          | exact ⟨h.write _ _ _, rfl, rfl, fun k => nk⟩
  · obtain ⟨rfl, hd⟩ := hd
    obtain ⟨rfl, he⟩ := he
    rcases hd with ⟨c1, rfl, rfl⟩ | ⟨c1, rfl, rfl⟩ <;> rcases he with ⟨g1, rfl, rfl⟩ | ⟨g1, rfl, rfl⟩ <;> first
      | (rw [c1] at g1; cases g1; done)
      | exact ⟨h, rfl, rfl, fun k => nk⟩
      | exact ⟨h.sync, rfl, rfl, fun k => nk⟩
  · obtain ⟨rfl, hd⟩ := hd
    obtain ⟨rfl, he⟩ := he
    rcases hd with ⟨c1, rfl, rfl⟩ | ⟨c1, rfl, rfl⟩ <;> rcases he with ⟨g1, rfl, rfl⟩ | ⟨g1, rfl, rfl⟩ <;> first
      | exact absurd g1 c1
      | exact absurd c1 g1
      | exact ⟨h, rfl, rfl, fun k => nk⟩
      | exact ⟨h.crash c1, rfl, rfl, fun k => nk⟩
  · obtain ⟨rfl, hd⟩ := hd
    obtain ⟨rfl, he⟩ := he
    rcases hd with ⟨c1, rfl, rfl⟩ | ⟨c1, c2, rfl, rfl⟩ <;> rcases he with ⟨g1, rfl, rfl⟩ | ⟨g1, g2, rfl, rfl⟩ <;> first
      | (exfalso; omega)
      | exact ⟨h, rfl, rfl, fun k => nk⟩
      | exact ⟨h.spoil _, rfl, rfl, fun k => nk⟩
  · obtain ⟨rfl, rfl, rfl⟩ := hd
    obtain ⟨rfl, rfl, rfl⟩ := he
    exact ⟨h.die, rfl, rfl, fun k => nk⟩
  · obtain ⟨rfl, rfl, rfl⟩ := hd
    obtain ⟨rfl, rfl, rfl⟩ := he
    exact ⟨Dsk.Eqv.rfl' _, rfl, rfl, fun k => nk⟩
  · obtain ⟨rfl, hd⟩ := hd
    obtain ⟨rfl, he⟩ := he
    rcases hd with ⟨c1, rfl, rfl⟩ | ⟨c1, c2, rfl, rfl⟩ | ⟨c1, c2, rfl, rfl⟩ <;> rcases he with ⟨g1, rfl, rfl⟩ | ⟨g1, g2, rfl, rfl⟩ | ⟨g1, g2, rfl, rfl⟩ <;> first
      | (exfalso; omega)
      | (rw [c2] at g2; cases g2; done)
      | exact ⟨h, rfl, rfl, fun k => nk⟩
      | exact ⟨h.arm _ _, rfl, rfl, fun k => nk⟩
  · obtain ⟨rfl, rfl, rfl⟩ := hd
    obtain ⟨rfl, rfl, rfl⟩ := he
    exact ⟨h, rfl, rfl, fun k => nk⟩
theorem runs_same {D E : Dsk} (h : D.Eqv E) {A : Nat → Deed} : ∀ {m : Nat} {D' E' : Dsk}, Runs D A m D' → Runs E A m E' → D'.Eqv E'
  | 0, _, _, h1, h2 => by rw [show _ = _ from h1, show _ = _ from h2]; exact h
  | m + 1, _, _, ⟨D1, c, n, f, h1, h2⟩, ⟨E1, c', n', f', h3, h4⟩ => (does_same (runs_same h h1 h3) h2 h4).1

/-- What is so of each disk that State can tell. -/
def Dsk.Good (D : Dsk) : Prop := (D.armed = true ∨ D.left = 0) ∧ ¬ (D.dead = true ∧ (D.armed = true ∨ 0 < D.q))
theorem performs_good {D : Dsk} {A : Nat → Nat} {F : Nat → Nat → Int} {k : Nat} (h : D.Good) : (D.performs A F k).Good := by
  obtain ⟨_, h2, _, _, h5, h6, h7⟩ := D.performs_same A F k
  unfold Dsk.Good
  rw [h2, h5, h6, h7]
  exact h
theorem does_good {D D' : Dsk} {A : Deed} {c : Int} {n : Nat} {f : Nat → Int} (hd : Does D A D' c n f) (h : D.Good) : D'.Good := by
  unfold Does at hd
  have used : ∀ {E : Dsk}, (E.armed = true ∨ E.left = 0) → E.dead = false → E.used.Good := fun {E} h1 h2 => by
    refine ⟨?_, fun h9 => ?_⟩
    · show E.armed = true ∨ (if E.armed then E.left - 1 else E.left) = 0
      rcases hb : E.armed with _ | _
      · rw [hb] at h1
        refine .inr ?_
        rcases h1 with h1 | h1
        · cases h1
        · simpa using h1
      · exact .inl rfl
    · have : E.dead = true := h9.1
      rw [h2] at this; cases this
  have dead : D.off = false → D.dead = false := fun ho => by
    rcases hb : D.dead with _ | _
    · rfl
    · unfold Dsk.off at ho; rw [hb] at ho; cases ho
  rcases hd with ⟨_, rfl, _⟩ | ⟨_, _, ⟨_, rfl, _⟩ | ⟨_, _, ⟨_, rfl, _⟩ | ⟨_, _, rfl, _⟩ | ⟨ho, _, rfl, _⟩⟩⟩ | ⟨_, _, ⟨_, rfl, _⟩ | ⟨ho, rfl, _⟩⟩ | ⟨_, _, ⟨_, rfl, _⟩ | ⟨_, rfl, _⟩⟩ | ⟨_, _, ⟨_, rfl, _⟩ | ⟨_, _, rfl, _⟩⟩ | ⟨_, _, rfl, _⟩ | ⟨_, _, rfl, _⟩ | ⟨_, _, ⟨_, rfl, _⟩ | ⟨_, _, rfl, _⟩ | ⟨_, hd, rfl, _⟩⟩ | ⟨_, _, rfl, _⟩
  · exact h
  · exact h
  · exact h
  · exact h
  · exact used h.1 (dead ho)
  · exact h
  · have h9 := (performs_good (A := D.qa) (F := D.qb) (k := D.q) h).1
    obtain ⟨_, _, _, _, h5, _⟩ := D.performs_same D.qa D.qb D.q
    exact used (E := (D.performs D.qa D.qb D.q).flushed) h9 (h5.trans (dead ho))
  · refine ⟨.inr rfl, fun h9 => ?_⟩
    rcases h9.2 with h10 | h10
    · cases h10
    · exact absurd h10 (Nat.lt_irrefl 0)
  · exact h
  · exact h
  · exact h
  · refine ⟨.inr rfl, fun h9 => ?_⟩
    rcases h9.2 with h10 | h10
    · cases h10
    · exact absurd h10 (Nat.lt_irrefl 0)
  · exact ⟨.inr rfl, fun h9 => by cases h9.1⟩
  · exact h
  · exact h
  · refine ⟨?_, fun h9 => ?_⟩
    · show decide (0 ≤ A.at') = true ∨ (if 0 ≤ A.at' then A.at' else 0) = 0
      by_cases h1 : 0 ≤ A.at'
      · exact .inl (decide_eq_true h1)
      · rw [if_neg h1]; exact .inr rfl
    · have : D.dead = true := h9.1
      rw [hd] at this; cases this
  · exact h
theorem runs_good {D : Dsk} (h : D.Good) {A : Nat → Deed} : ∀ {m : Nat} {D' : Dsk}, Runs D A m D' → D'.Good
  | 0, _, h1 => by rw [show _ = _ from h1]; exact h
  | m + 1, _, ⟨D1, c, n, f, h1, h2⟩ => does_good h2 (runs_good h h1)
theorem right_good {X : Dev} (h : X.Right) : X.dsk.Good := ⟨h.h2.2.1, h.h2.2.2⟩

theorem badL_sorted (D : Dsk) (i : Nat) : (badL D i).Pairwise (· < ·) := List.Pairwise.filter _ List.pairwise_lt_range
theorem badF_get (D : Dsk) (i k : Nat) (hk : k < (badL D i).length) : badF D i k = ((badL D i)[k] : Nat) := by
  unfold badF
  rw [List.getD_eq_getElem?_getD, List.getElem?_eq_getElem hk, Option.getD_some]
/-- What State tells is valid. -/
theorem dev_right {D : Dsk} (ho : D.Ok) (h : D.Good) : D.dev.Right := by
  refine ⟨⟨?_, ?_, ?_, ho.queue⟩, ⟨ho.left.1, h.1, h.2⟩, fun i hi => ?_, fun i hi => ?_⟩
  · show D.n * 64 % 64 = 0
    omega
  · show 1 ≤ D.n * 64 / 64
    have := ho.size.1
    omega
  · show D.n * 64 / 64 ≤ 4096
    have := ho.size.2
    omega
  · have hi2 : i < D.q := hi
    show 0 ≤ qaF D i ∧ qaF D i < (D.n * 64 / 64 : Nat) ∧ 64 = 64
    unfold qaF
    rw [if_pos hi2]
    have := ho.put i hi2
    omega
  · have hi2 : i < (badL D D.n).length := hi
    show 0 ≤ badF D D.n i ∧ badF D D.n i < (D.n * 64 / 64 : Nat) ∧ (i = 0 ∨ badF D D.n (i - 1) < badF D D.n i)
    rw [badF_get _ _ _ hi2]
    have h1 := badL_mem (List.getElem_mem hi2)
    refine ⟨by omega, by omega, ?_⟩
    by_cases h0 : i = 0
    · exact .inl h0
    · refine .inr ?_
      rw [badF_get _ _ _ (by omega)]
      have := List.pairwise_iff_getElem.1 (badL_sorted D D.n) (i - 1) i (by omega) hi2 (by omega)
      omega
/-- The disk of what State tells is the disk. -/
theorem dev_dsk (D : Dsk) : D.Eqv D.dev.dsk := by
  have hn : D.n * 64 / 64 = D.n := by omega
  refine ⟨hn, fun i j hi hj => ?_, fun i hi => ?_, rfl, fun i hi => ?_, fun i j hi hj => ?_, rfl, rfl, rfl⟩
  · show (if i < D.n * 64 / 64 then D.dev.data (i * 64 + j) else 0) = D.sec i j
    rw [hn, if_pos hi, data_dev D i j hj]
  · show metB D.dev.bad D.dev.m i = D.bad i
    rw [Bool.eq_iff_iff]
    have h9 := badAny_dev D i
    unfold badAny at h9
    unfold metB
    rw [h9]
    exact ⟨fun h => h.2, fun h => ⟨hi, h⟩⟩
  · show (qaF D i).toNat = D.qa i
    unfold qaF
    rw [if_pos hi]
    omega
  · show (if i < D.q then D.qb i j else 0) = D.qb i j
    rw [if_pos hi]
/-- What State tells of disks that are the same is the same. -/
theorem eqv_dev {D E : Dsk} (h : D.Eqv E) : D.dev.Same E.dev := by
  have hb : badL E E.n = badL D D.n := by
    unfold badL
    rw [h.n]
    exact List.filter_congr fun x hx => h.bad x (List.mem_range.1 hx)
  refine ⟨by show E.n * 64 = D.n * 64; rw [h.n], fun k hk => ?_, h.q, fun i hi => ?_, fun _ _ => rfl, fun i hi k hk => h.qb i k hi hk, by show (badL E E.n).length = _; rw [hb]; rfl, fun i _ => ?_, h.dead, h.armed, h.left⟩
  · have hk2 : k < D.n * 64 := hk
    exact h.sec (k / 64) (k % 64) (by omega) (by omega)
  · have hi2 : i < D.q := hi
    show qaF E i = qaF D i
    unfold qaF
    rw [h.q, if_pos hi2, if_pos hi2, h.qa i hi2]
  · show badF E E.n i = badF D D.n i
    unfold badF
    rw [hb]

end Go.Proofs.Ytjhcaedfknhilaa

namespace Go.Proofs.Ytjhcaedfknhilaa
set_option linter.unusedVariables false
set_option linter.unusedSimpArgs false
open Go.RowKit
attribute [local go_sem ↓] Go.wp_at_zero Go.wp_at_succ
attribute [-go_sem] loadCellsFrom storeCells
attribute [local go_sem] storeCells_one

/-- What Has returns. -/
def RefHasP (B : Nat) (D : Dsk) (j : Nat) (w : World) (e : Ending) (w' : World) : Prop :=
  (∃ v, (∃ f, D.has j = some f ∧ e = .returned (.tuple #[v, .bool true]) ∧ BArg B w' v 64 f) ∨ (D.has j = none ∧ v = .slice none 0 0 ∧ e = .returned (.tuple #[v, .bool false]))) ∧ Below w.heap.size w w'
theorem own_empty (w : World) (e : TypeId) (B : Nat) (hB : B ≤ w.heap.size) (f : Nat → Value) : Own (w.alloc (.cells #[] e)) B e (.slice (some ⟨w.heap.size, 0, none⟩) 0 0) 0 f :=
  .inr ⟨_, 0, rfl, hB, RowAt.new w #[] _ _ 0 (Nat.le_refl _) (fun i hi => absurd hi (Nat.not_lt_zero i)), Nat.zero_le _⟩
theorem cell_al {W : World} {b o : Nat} {v : Value} (x : Obj) (h : W.cell? ⟨b, o, none⟩ = some v) : (W.alloc x).cell? ⟨b, o, none⟩ = some v :=
  (((Below.refl _ W).alloc (Nat.le_refl _) x).cell (p := ⟨b, o, none⟩) (World.block_lt_of_cell? W ⟨b, o, none⟩ h)).trans h
theorem qa_dev {D : Dsk} {k : Nat} (h : k < D.q) : D.dev.qa k = D.qa k := by
  show qaF D k = _
  unfold qaF
  rw [if_pos h]

set_option maxRecDepth 100000 in
set_option maxHeartbeats 4000000 in
theorem Has_any {B : Nat} {dv qv bv : Value} {D : Dsk} (j : Nat) (w : World) (h : DevAt B w dv qv bv D.dev) (hok : D.Ok) (hj : j < D.n) :
    Calls Try.prog 66 #[devV dv qv bv D.dev, .int .i64 j] w (RefHasP B D j w) := by
  obtain ⟨dx, dc, rfl, -⟩ := h.data.slice
  obtain ⟨qx, qc, rfl, hqm⟩ := h.queue.slice
  obtain ⟨bx, bc, rfl, -⟩ := h.bad.slice
  have hr := row_six w (.slice dx D.dev.n dc) (.slice qx D.dev.q qc) (.slice bx D.dev.m bc) (.bool D.dev.dead) (.bool D.dev.armed) (.int .i64 D.dev.left) 31
  have hbl := (Below.refl _ w).alloc (Nat.le_refl w.heap.size) (.cells #[.slice dx D.dev.n dc, .slice qx D.dev.q qc, .slice bx D.dev.m bc, .bool D.dev.dead, .bool D.dev.armed, .int .i64 D.dev.left] 31)
  have HB := Lib.hid hbl
  have HD := Lib.hid (h.all hbl)
  have HR := Lib.hid hr
  have Hok := Lib.hid hok
  have hq : D.dev.q ≤ 65536 := hok.queue
  have hsz := hok.size
  clear hr h hbl hok hqm
  unfold devV
  go_enter Try.func66, Try.ntmps66
  go_upto_region 1 with fail
  generalize w.alloc (.cells #[.slice dx D.dev.n dc, .slice qx D.dev.q qc, .slice bx D.dev.m bc, .bool D.dev.dead, .bool D.dev.armed, .int .i64 D.dev.left] 31) = W at *
  obtain ⟨N, hN⟩ : ∃ N, D.n = N := ⟨_, rfl⟩
  have hN1 : D.dev.n = N * 64 := by rw [← hN]; rfl
  have HN1 := Lib.hid hN1
  rw [hN] at hj hsz
  have HN := Lib.hid hN
  obtain ⟨a0, a1, a2, -⟩ := cells6 HR.out
  have a0' : W.cell? ⟨w.heap.size, 0, none⟩ = some (.slice dx (N * 64) dc) := by rw [← hN1]; exact a0
  obtain ⟨q, hqq⟩ : ∃ q, D.dev.q = q := ⟨_, rfl⟩
  have Hq := Lib.hid hqq
  rw [hqq] at a1 hq
  have hw0 : IntKind.i64.wrap ((q : Int) - 1) = q - 1 := IntWalk.i64_in _ (by omega)
  clear hN hN1 hqq a0
  go_wp2_with fail
  go_loopw [6] (fun t wr => ∃ k : Nat, k ≤ q ∧ t = .int .i64 ((k : Int) - 1) ∧ W = wr ∧ hasQ D.qa D.qb j D.q = hasQ D.qa D.qb j k) (fun t _ => (intOf t + 1).toNat)
  case atStart => exact ⟨q, by omega, rfl, rfl, by rw [← Hq.out]; rfl⟩
  case round =>
    obtain ⟨k, hk, rfl, rfl, hfnd⟩ := hrel
    have Hf := Lib.hid hfnd
    clear hfnd
    rcases k with _ | k
    · have hdlt : decide (((0 : Nat) : Int) - 1 ≥ 0) = false := decide_eq_false (by omega)
      have hfnd : hasQ D.qa D.qb j D.q = none := Hf.out
      have Hf0 := Lib.hid hfnd
      clear hfnd
      go_wp2_with fail
      refine (In_b j W HD.out.bad).mono ?_
      rintro e w2 ⟨rfl, rfl⟩
      have hb := badAny_dev D j
      unfold badAny at hb
      rcases bool_cases (anyB (fun k => D.dev.bad k == (j : Int)) D.dev.m) with hx | hx
      · rw [hx] at hb ⊢
        have hbad : D.bad j = false := by
          rcases bool_cases (D.bad j) with h9 | h9
          · exact h9
          · have := hb.2 ⟨by rw [HN.out]; exact hj, h9⟩
            cases this
        have Hx := Lib.hid hx
        have Hb := Lib.hid hbad
        clear hx hb hbad
        obtain ⟨b, o, rfl, hcap, hcells⟩ := data_at HD.out HN1.out (by omega)
        have hc2 : Cells (W.alloc (.cells #[] 5)) b (o + j * 64) 64 (fun k => .int .u8 (D.sec j k)) := fun k hk => by
          have h9 := hcells (j * 64 + k) (by omega)
          rw [← Nat.add_assoc] at h9
          unfold byteF at h9
          rw [data_dev D j k hk] at h9
          exact cell_al _ h9
        have Hc := Lib.hid hc2
        have a3 := cell_al (.cells #[] 5) a0'
        clear hcells hc2
        go_wp2_with (with_reducible refine stopB .append ?_)
        refine Hold.go ?_
        refine wpList_append_o rfl _ _ 27 5 _ _ rfl Try.underlying27 info_u8d rfl 0 _ 0 (fun _ => undef) rfl (own_empty W 5 0 (Nat.zero_le _) _) b (o + j * 64) 64 (dc - j * 64) (fun k => .int .u8 (D.sec j k)) (congrArg (fun l => Value.slice (some ⟨b, o + j * 64, none⟩) l (dc - j * 64)) (show (j + 1) * 64 - j * 64 = 64 by omega)) Hc.out (fun _ _ => rfl) (by omega) (by decide) (Nat.zero_le _) ?_
        intro v9 w9 hown hgr _ _
        obtain ⟨x9, c9, rfl⟩ := Own.slice hown
        have hb9 : Below W.heap.size W w9 := ((Below.refl _ W).alloc (Nat.le_refl _) _).grown hgr (by simp) (fun k hk => by simp [Value.ownBlock, Act.eval] at hk; omega)
        have HN := Lib.hid (And.intro hown hb9)
        clear hown hgr hb9
        go_wp2
        refine bodyPost_ret (v := .tuple #[.slice x9 (0 + 64) c9, .bool true]) (by simp [results, Try.results66]) rfl ⟨⟨_, .inl ⟨D.sec j, ?_, rfl, ?_⟩⟩, HB.out.trans (HN.out.2.mono HB.out.size)⟩
        · unfold Dsk.has
          rw [Hf0.out, Hb.out]
          rfl
        · exact barg_own (B' := 0) (HN.out.1.congr fun i hi => by simp [byteF]) fun i => Hok.out.byte j i
      · rw [hx] at hb ⊢
        have hbad : D.bad j = true := (hb.1 rfl).2
        have Hx := Lib.hid hx
        have Hb := Lib.hid hbad
        clear hx hb hbad
        go_wp2_with fail
        refine bodyPost_ret (v := .tuple #[.slice none 0 0, .bool false]) (by simp [results, Try.results66]) rfl ⟨⟨_, .inr ⟨?_, rfl, rfl⟩⟩, HB.out⟩
        unfold Dsk.has
        rw [Hf0.out, Hb.out]
        rfl
    · have hdlt : decide ((((k + 1 : Nat) : Int) - 1) ≥ 0) = true := decide_eq_true (by omega)
      have hkk : ((k + 1 : Nat) : Int) - 1 = k := by omega
      rw [hkk] at hdlt ⊢
      clear hkk
      have hkq : k < D.q := by have := Hq.out; show k < D.dev.q; omega
      obtain ⟨b, o, c, uv, e1, d0, d1, hbytes⟩ := HD.out.queue.elem (i := k) hkq
      cases e1
      rw [qa_dev hkq] at d0
      obtain ⟨ux, uc, rfl, -⟩ := hbytes.slice
      obtain ⟨b8, o8, rfl, hcells⟩ := bytes_at hbytes (show 0 < 64 by decide)
      have Hkq := Lib.hid hkq
      have d1' : W.cell? ⟨b, o + k * 2 + 1, none⟩ = some (.slice (some ⟨b8, o8, none⟩) 64 uc) := d1
      have Hc := Lib.hid (show Cells (W.alloc (.cells #[] 5)) b8 o8 64 (byteF (D.qb k)) from hcells.all ((Below.refl _ W).alloc (Nat.le_refl _) _))
      clear hkq d1 hcells hbytes
      by_cases hqj : D.qa k = j
      · have g1 : ((D.qa k : Int) == (j : Int)) = true := beq_iff_eq.2 (by omega)
        have Hqj := Lib.hid hqj
        have a3 := cell_al (.cells #[] 5) a1
        have d3 := cell_al (.cells #[] 5) d1'
        clear hqj
        go_wp2_with (with_reducible refine stopB .append ?_)
        refine Hold.go ?_
        refine wpList_append_o rfl _ _ 27 5 _ _ rfl Try.underlying27 info_u8d rfl 0 _ 0 (fun _ => undef) rfl (own_empty W 5 0 (Nat.zero_le _) _) b8 o8 64 uc (byteF (D.qb k)) rfl Hc.out (fun _ _ => rfl) (by omega) (by decide) (Nat.zero_le _) ?_
        intro v9 w9 hown hgr _ _
        obtain ⟨x9, c9, rfl⟩ := Own.slice hown
        have hb9 : Below W.heap.size W w9 := ((Below.refl _ W).alloc (Nat.le_refl _) _).grown hgr (by simp) (fun k hk => by simp [Value.ownBlock, Act.eval] at hk; omega)
        have HN := Lib.hid (And.intro hown hb9)
        clear hown hgr hb9
        go_wp2
        refine bodyPost_ret (v := .tuple #[.slice x9 (0 + 64) c9, .bool true]) (by simp [results, Try.results66]) rfl ⟨⟨_, .inl ⟨D.qb k, ?_, rfl, ?_⟩⟩, HB.out.trans (HN.out.2.mono HB.out.size)⟩
        · unfold Dsk.has
          rw [Hf.out, hasQ, if_pos Hqj.out]
        · exact barg_own (B' := 0) (HN.out.1.congr fun i hi => by simp [byteF]) fun i => Hok.out.pbyte k i
      · have g1 : ((D.qa k : Int) == (j : Int)) = false := beq_eq_false_iff_ne.2 (by omega)
        have Hqj := Lib.hid hqj
        have hw1 : IntKind.i64.wrap ((k : Int) - 1) = k - 1 := IntWalk.i64_in _ (by omega)
        clear hqj
        go_wp2_with fail
        go_roundw
        case rel => exact ⟨k, by omega, by first | rfl | trivial, by first | rfl | trivial, by rw [Hf.out, hasQ, if_neg Hqj.out]⟩
        case measure => simp [intOf]

end Go.Proofs.Ytjhcaedfknhilaa
