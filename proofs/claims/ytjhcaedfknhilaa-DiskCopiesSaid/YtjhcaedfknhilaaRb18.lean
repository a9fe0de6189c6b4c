/- Plain laws of a disk: disks that are the same stay so; State and Load. DiskCopies. -/
import Derived.Test.YtjhcaedfknhilaaRb16
import Derived.Test.YtjhcaedfknhilaaRb17
namespace Go.Proofs.Ytjhcaedfknhilaa
open Go.RowKit

/-- Disks that are the same. -/
structure Dsk.Eqv (D E : Dsk) : Prop where
  n : E.n = D.n
  sec : ∀ i j, i < D.n → j < 64 → E.sec i j = D.sec i j
  bad : ∀ i, i < D.n → E.bad i = D.bad i
  q : E.q = D.q
  qa : ∀ i, i < D.q → E.qa i = D.qa i
  qb : ∀ i j, i < D.q → j < 64 → E.qb i j = D.qb i j
  dead : E.dead = D.dead
  armed : E.armed = D.armed
  left : E.left = D.left
theorem Dsk.Eqv.rfl' (D : Dsk) : D.Eqv D := ⟨rfl, fun _ _ _ _ => rfl, fun _ _ => rfl, rfl, fun _ _ => rfl, fun _ _ _ _ => rfl, rfl, rfl, rfl⟩
theorem Dsk.Eqv.symm {D E : Dsk} (h : D.Eqv E) : E.Eqv D :=
  ⟨h.n.symm, fun i j h1 h2 => (h.sec i j (h.n ▸ h1) h2).symm, fun i h1 => (h.bad i (h.n ▸ h1)).symm, h.q.symm, fun i h1 => (h.qa i (h.q ▸ h1)).symm, fun i j h1 h2 => (h.qb i j (h.q ▸ h1) h2).symm, h.dead.symm, h.armed.symm, h.left.symm⟩
theorem Dsk.Eqv.off {D E : Dsk} (h : D.Eqv E) : E.off = D.off := by unfold Dsk.off; rw [h.dead, h.armed, h.left]
theorem eqv_hasQ {a a' : Nat → Nat} {f f' : Nat → Nat → Int} (j : Nat) : ∀ k, (∀ i, i < k → a' i = a i) → (∀ i l, i < k → l < 64 → f' i l = f i l) → (hasQ a f j k = none ∧ hasQ a' f' j k = none) ∨ ∃ F F', hasQ a f j k = some F ∧ hasQ a' f' j k = some F' ∧ ∀ l, l < 64 → F' l = F l
  | 0, _, _ => .inl ⟨rfl, rfl⟩
  | k + 1, h1, h2 => by
    rw [hasQ, hasQ, h1 k (by omega)]
    by_cases h : a k = j
    · rw [if_pos h, if_pos h]
      exact .inr ⟨_, _, rfl, rfl, fun l hl => h2 k l (by omega) hl⟩
    · rw [if_neg h, if_neg h]
      exact eqv_hasQ j k (fun i hi => h1 i (by omega)) (fun i l hi hl => h2 i l (by omega) hl)
theorem Dsk.Eqv.has {D E : Dsk} (h : D.Eqv E) {j : Nat} (hj : j < D.n) : (D.has j = none ∧ E.has j = none) ∨ ∃ F F', D.has j = some F ∧ E.has j = some F' ∧ ∀ l, l < 64 → F' l = F l := by
  unfold Dsk.has
  rw [h.q, h.bad j hj]
  rcases eqv_hasQ j D.q h.qa h.qb with ⟨h1, h2⟩ | ⟨F, F', h1, h2, h3⟩
  · rw [h1, h2]
    rcases hb : D.bad j with _ | _
    · exact .inr ⟨_, _, rfl, rfl, fun l hl => h.sec j l hj hl⟩
    · exact .inl ⟨rfl, rfl⟩
  · rw [h1, h2]
    exact .inr ⟨_, _, rfl, rfl, h3⟩
theorem Dsk.Eqv.readOk {D E : Dsk} (h : D.Eqv E) {a m : Nat} (ha : a + m ≤ D.n) : readOk E a m ↔ readOk D a m := by
  constructor
  · intro h1 i hi
    obtain ⟨f, hf⟩ := h1 i hi
    rcases h.has (j := a + i) (by omega) with ⟨-, h3⟩ | ⟨F, F', h2, -⟩
    · rw [h3] at hf; cases hf
    · exact ⟨F, h2⟩
  · intro h1 i hi
    obtain ⟨f, hf⟩ := h1 i hi
    rcases h.has (j := a + i) (by omega) with ⟨h3, -⟩ | ⟨F, F', -, h2, -⟩
    · rw [h3] at hf; cases hf
    · exact ⟨F', h2⟩
theorem Dsk.Eqv.readI {D E : Dsk} (h : D.Eqv E) {a m k : Nat} (ha : a + m ≤ D.n) (hk : k < m * 64) : readI E a k = readI D a k := by
  unfold Proofs.Ytjhcaedfknhilaa.readI Dsk.hasF
  rcases h.has (j := a + k / 64) (by omega) with ⟨h2, h3⟩ | ⟨F, F', h2, h3, h4⟩
  · rw [h2, h3]
  · rw [h2, h3]
    exact h4 _ (by omega)
theorem Dsk.Eqv.perform {D E : Dsk} (h : D.Eqv E) (a : Nat) {f g : Nat → Int} (hf : ∀ l, l < 64 → g l = f l) : (D.perform a f).Eqv (E.perform a g) := by
  refine ⟨h.n, fun i j hi hj => ?_, fun i hi => ?_, h.q, h.qa, h.qb, h.dead, h.armed, h.left⟩
  · show (if i = a then g j else E.sec i j) = if i = a then f j else D.sec i j
    split
    · exact hf j hj
    · exact h.sec i j hi hj
  · show (if i = a then false else E.bad i) = if i = a then false else D.bad i
    split
    · rfl
    · exact h.bad i hi
theorem Dsk.Eqv.performs {D E : Dsk} (h : D.Eqv E) {A A' : Nat → Nat} {F F' : Nat → Nat → Int} : ∀ k, (∀ i, i < k → A' i = A i) → (∀ i l, i < k → l < 64 → F' i l = F i l) → (D.performs A F k).Eqv (E.performs A' F' k)
  | 0, _, _ => h
  | k + 1, h1, h2 => by
    show ((D.performs A F k).perform (A k) (F k)).Eqv ((E.performs A' F' k).perform (A' k) (F' k))
    rw [h1 k (by omega)]
    exact (Dsk.Eqv.performs h k (fun i hi => h1 i (by omega)) (fun i l hi hl => h2 i l (by omega) hl)).perform _ fun l hl => h2 k l (by omega) hl
theorem Dsk.Eqv.flushed {D E : Dsk} (h : D.Eqv E) : D.flushed.Eqv E.flushed :=
  ⟨h.n, h.sec, h.bad, rfl, fun i hi => absurd hi (Nat.not_lt_zero i), fun i j hi => absurd hi (Nat.not_lt_zero i), h.dead, h.armed, h.left⟩
theorem Dsk.Eqv.used {D E : Dsk} (h : D.Eqv E) : D.used.Eqv E.used :=
  ⟨h.n, h.sec, h.bad, h.q, h.qa, h.qb, h.dead, h.armed, by show (if E.armed then E.left - 1 else E.left) = if D.armed then D.left - 1 else D.left; rw [h.armed, h.left]⟩
theorem Dsk.Eqv.arm {D E : Dsk} (h : D.Eqv E) (b : Bool) (l : Int) : (D.arm b l).Eqv (E.arm b l) := ⟨h.n, h.sec, h.bad, h.q, h.qa, h.qb, h.dead, rfl, rfl⟩
theorem Dsk.Eqv.sync {D E : Dsk} (h : D.Eqv E) : D.sync.Eqv E.sync := by
  unfold Dsk.sync
  rw [h.q]
  exact (h.performs D.q h.qa h.qb).flushed.used
theorem Dsk.Eqv.crash {D E : Dsk} (h : D.Eqv E) {n : Nat} {f : Nat → Int} (hk : keepOk D.q n f) : (D.crash n f).Eqv (E.crash n f) := by
  have hi : ∀ i, i < n → (f i).toNat < D.q := fun i hi => by have := (hk i hi).1; omega
  exact ((h.performs n (fun i h1 => h.qa _ (hi i h1)) (fun i l h1 h2 => h.qb _ l (hi i h1) h2)).flushed).arm false 0
theorem Dsk.Eqv.write {D E : Dsk} (h : D.Eqv E) (a k : Nat) (f : Nat → Int) : (D.write a k f).Eqv (E.write a k f) := by
  refine Dsk.Eqv.used ⟨h.n, h.sec, h.bad, ?_, fun i hi => ?_, fun i j hi hj => ?_, h.dead, h.armed, h.left⟩
  · show E.q + k = D.q + k
    rw [h.q]
  · show (if i < E.q then E.qa i else a + (i - E.q)) = if i < D.q then D.qa i else a + (i - D.q)
    rw [h.q]
    split
    · exact h.qa i (by assumption)
    · rfl
  · show (if i < E.q then E.qb i j else f ((i - E.q) * 64 + j)) = if i < D.q then D.qb i j else f ((i - D.q) * 64 + j)
    rw [h.q]
    split
    · exact h.qb i j (by assumption) hj
    · rfl
theorem Dsk.Eqv.spoil {D E : Dsk} (h : D.Eqv E) (j : Nat) : (D.spoil j).Eqv (E.spoil j) :=
  ⟨h.n, h.sec, fun i hi => by show (decide (i = j) || E.bad i) = (decide (i = j) || D.bad i); rw [h.bad i hi], h.q, h.qa, h.qb, h.dead, h.armed, h.left⟩
theorem Dsk.Eqv.die {D E : Dsk} (h : D.Eqv E) : D.die.Eqv E.die := ⟨h.n, h.sec, h.bad, rfl, fun i hi => absurd hi (Nat.not_lt_zero i), fun i j hi => absurd hi (Nat.not_lt_zero i), rfl, rfl, rfl⟩
theorem Dsk.Eqv.inD {D E : Dsk} (h : D.Eqv E) (a m : Int) : inD E a m ↔ inD D a m := by unfold Proofs.Ytjhcaedfknhilaa.inD; rw [h.n]

/-- An act does the same on disks that are the same. -/
theorem does_same {D E D' E' : Dsk} {A : Deed} {c c' : Int} {n n' : Nat} {f f' : Nat → Int} (h : D.Eqv E) (hd : Does D A D' c n f) (he : Does E A E' c' n' f') : D'.Eqv E' ∧ c' = c ∧ n' = n ∧ ∀ k, k < n → f' k = f k := by
  have hin := h.inD
  have ho := h.off
  have hq := h.q
  have hn := h.n
  have hdd := h.dead
  have nk : ∀ {k : Nat}, k < 0 → f' k = f k := fun h9 => absurd h9 (Nat.not_lt_zero _)
  unfold Does at hd he
  rw [hin, hin, ho, hq, hn, hdd] at he
  rcases hd with ⟨k1, hd⟩ | ⟨k1, hd⟩ | ⟨k1, hd⟩ | ⟨k1, hd⟩ | ⟨k1, hd⟩ | ⟨k1, hd⟩ | ⟨k1, hd⟩ | ⟨k1, hd⟩ | ⟨k1, hd⟩ <;>
  rcases he with ⟨k2, he⟩ | ⟨k2, he⟩ | ⟨k2, he⟩ | ⟨k2, he⟩ | ⟨k2, he⟩ | ⟨k2, he⟩ | ⟨k2, he⟩ | ⟨k2, he⟩ | ⟨k2, he⟩ <;> try (exfalso; omega)
  · obtain ⟨rfl, hd⟩ := hd
    obtain ⟨rfl, he⟩ := he
    refine ⟨h, ?_⟩
    by_cases h1 : inD D' A.at' A.many
    · have h2 : A.at'.toNat + A.many.toNat ≤ D'.n := by obtain ⟨a1, a2, a3, a4⟩ := h1; omega
      have h3 := h.readOk h2
      rw [h3] at he
      rcases hd with ⟨h9, -⟩ | ⟨-, b1, rfl, rfl⟩ | ⟨-, b1, b2, rfl, rfl⟩ | ⟨-, b1, b2, rfl, rfl, rfl⟩
      · exact absurd h1 h9
      · rcases he with ⟨h9, -⟩ | ⟨-, e1, rfl, rfl⟩ | ⟨-, e1, e2, rfl, rfl⟩ | ⟨-, e1, e2, rfl, rfl, rfl⟩
        · exact absurd h1 h9
        · exact ⟨rfl, rfl, fun k => nk⟩
        · exact ⟨rfl, rfl, fun k => nk⟩
        · rw [b1] at e1; cases e1
      · rcases he with ⟨h9, -⟩ | ⟨-, e1, rfl, rfl⟩ | ⟨-, e1, e2, rfl, rfl⟩ | ⟨-, e1, e2, rfl, rfl, rfl⟩
        · exact absurd h1 h9
        · exact ⟨rfl, rfl, fun k => nk⟩
        · exact ⟨rfl, rfl, fun k => nk⟩
        · exact absurd e2 b2
      · rcases he with ⟨h9, -⟩ | ⟨-, e1, rfl, rfl⟩ | ⟨-, e1, e2, rfl, rfl⟩ | ⟨-, e1, e2, rfl, rfl, rfl⟩
        · exact absurd h1 h9
        · rw [b1] at e1; cases e1
        · exact absurd b2 e2
        · exact ⟨rfl, rfl, fun k hk => h.readI h2 hk⟩
    · rcases hd with ⟨-, rfl, rfl⟩ | ⟨h9, -⟩ | ⟨h9, -⟩ | ⟨h9, -⟩
      · rcases he with ⟨-, rfl, rfl⟩ | ⟨h9, -⟩ | ⟨h9, -⟩ | ⟨h9, -⟩
        · exact ⟨rfl, rfl, fun k => nk⟩
        all_goals exact absurd h9 h1
      all_goals exact absurd h9 h1
  · obtain ⟨rfl, hd⟩ := hd
    obtain ⟨rfl, he⟩ := he
    rcases hd with ⟨b1, rfl, rfl⟩ | ⟨b1, b2, hd⟩
    · rcases he with ⟨e1, rfl, rfl⟩ | ⟨e1, e2, he⟩
      · exact ⟨h, rfl, rfl, fun k => nk⟩
      · rcases b1 with b1 | b1
        · exact absurd e1 b1
        · exact absurd e2 b1
    · rcases he with ⟨e1, rfl, rfl⟩ | ⟨e1, e2, he⟩
      · rcases e1 with e1 | e1
        · exact absurd b1 e1
        · exact absurd b2 e1
      · rcases hd with ⟨c1, rfl, rfl⟩ | ⟨c1, c2, rfl, rfl⟩ | ⟨c1, c2, rfl, rfl⟩ <;> rcases he with ⟨g1, rfl, rfl⟩ | ⟨g1, g2, rfl, rfl⟩ | ⟨g1, g2, rfl, rfl⟩ <;> first
          | (rw [c1] at g1; cases g1; done)
          | exact absurd g2 c2
          | exact absurd c2 g2
          | exact ⟨h, rfl, rfl, fun k => nk⟩
          | exact ⟨h.write _ _ _, rfl, rfl, fun k => nk⟩
  · obtain ⟨rfl, hd⟩ := hd
    obtain ⟨rfl, he⟩ := he
    rcases hd with ⟨c1, rfl, rfl⟩ | ⟨c1, rfl, rfl⟩ <;> rcases he with ⟨g1, rfl, rfl⟩ | ⟨g1, rfl, rfl⟩ <;> first
      | (rw [c1] at g1; cases g1; done)
      | exact ⟨h, rfl, rfl, fun k => nk⟩
      | exact ⟨h.sync, rfl, rfl, fun k => nk⟩
  · obtain ⟨rfl, hd⟩ := hd
    obtain ⟨rfl, he⟩ := he
    rcases hd with ⟨c1, rfl, rfl⟩ | ⟨c1, rfl, rfl⟩ <;> rcases he with ⟨g1, rfl, rfl⟩ | ⟨g1, rfl, rfl⟩ <;> first
      | exact absurd g1 c1
      | exact absurd c1 g1
      | exact ⟨h, rfl, rfl, fun k => nk⟩
      | exact ⟨h.crash c1, rfl, rfl, fun k => nk⟩
  · obtain ⟨rfl, hd⟩ := hd
    obtain ⟨rfl, he⟩ := he
    rcases hd with ⟨c1, rfl, rfl⟩ | ⟨c1, c2, rfl, rfl⟩ <;> rcases he with ⟨g1, rfl, rfl⟩ | ⟨g1, g2, rfl, rfl⟩ <;> first
      | (exfalso; omega)
      | exact ⟨h, rfl, rfl, fun k => nk⟩
      | exact ⟨h.spoil _, rfl, rfl, fun k => nk⟩
  · obtain ⟨rfl, rfl, rfl⟩ := hd
    obtain ⟨rfl, rfl, rfl⟩ := he
    exact ⟨h.die, rfl, rfl, fun k => nk⟩
  · obtain ⟨rfl, rfl, rfl⟩ := hd
    obtain ⟨rfl, rfl, rfl⟩ := he
    exact ⟨Dsk.Eqv.rfl' _, rfl, rfl, fun k => nk⟩
  · obtain ⟨rfl, hd⟩ := hd
    obtain ⟨rfl, he⟩ := he
    rcases hd with ⟨c1, rfl, rfl⟩ | ⟨c1, c2, rfl, rfl⟩ | ⟨c1, c2, rfl, rfl⟩ <;> rcases he with ⟨g1, rfl, rfl⟩ | ⟨g1, g2, rfl, rfl⟩ | ⟨g1, g2, rfl, rfl⟩ <;> first
      | (exfalso; omega)
      | (rw [c2] at g2; cases g2; done)
      | exact ⟨h, rfl, rfl, fun k => nk⟩
      | exact ⟨h.arm _ _, rfl, rfl, fun k => nk⟩
  · obtain ⟨rfl, rfl, rfl⟩ := hd
    obtain ⟨rfl, rfl, rfl⟩ := he
    exact ⟨h, rfl, rfl, fun k => nk⟩
theorem runs_same {D E : Dsk} (h : D.Eqv E) {A : Nat → Deed} : ∀ {m : Nat} {D' E' : Dsk}, Runs D A m D' → Runs E A m E' → D'.Eqv E'
  | 0, _, _, h1, h2 => by rw [show _ = _ from h1, show _ = _ from h2]; exact h
  | m + 1, _, _, ⟨D1, c, n, f, h1, h2⟩, ⟨E1, c', n', f', h3, h4⟩ => (does_same (runs_same h h1 h3) h2 h4).1

/-- What is so of each disk that State can tell. -/
def Dsk.Good (D : Dsk) : Prop := (D.armed = true ∨ D.left = 0) ∧ ¬ (D.dead = true ∧ (D.armed = true ∨ 0 < D.q))
theorem performs_good {D : Dsk} {A : Nat → Nat} {F : Nat → Nat → Int} {k : Nat} (h : D.Good) : (D.performs A F k).Good := by
  obtain ⟨_, h2, _, _, h5, h6, h7⟩ := D.performs_same A F k
  unfold Dsk.Good
  rw [h2, h5, h6, h7]
  exact h
theorem does_good {D D' : Dsk} {A : Deed} {c : Int} {n : Nat} {f : Nat → Int} (hd : Does D A D' c n f) (h : D.Good) : D'.Good := by
  unfold Does at hd
  have used : ∀ {E : Dsk}, (E.armed = true ∨ E.left = 0) → E.dead = false → E.used.Good := fun {E} h1 h2 => by
    refine ⟨?_, fun h9 => ?_⟩
    · show E.armed = true ∨ (if E.armed then E.left - 1 else E.left) = 0
      rcases hb : E.armed with _ | _
      · rw [hb] at h1
        refine .inr ?_
        rcases h1 with h1 | h1
        · cases h1
        · simpa using h1
      · exact .inl rfl
    · have : E.dead = true := h9.1
      rw [h2] at this; cases this
  have dead : D.off = false → D.dead = false := fun ho => by
    rcases hb : D.dead with _ | _
    · rfl
    · unfold Dsk.off at ho; rw [hb] at ho; cases ho
  rcases hd with ⟨_, rfl, _⟩ | ⟨_, _, ⟨_, rfl, _⟩ | ⟨_, _, ⟨_, rfl, _⟩ | ⟨_, _, rfl, _⟩ | ⟨ho, _, rfl, _⟩⟩⟩ | ⟨_, _, ⟨_, rfl, _⟩ | ⟨ho, rfl, _⟩⟩ | ⟨_, _, ⟨_, rfl, _⟩ | ⟨_, rfl, _⟩⟩ | ⟨_, _, ⟨_, rfl, _⟩ | ⟨_, _, rfl, _⟩⟩ | ⟨_, _, rfl, _⟩ | ⟨_, _, rfl, _⟩ | ⟨_, _, ⟨_, rfl, _⟩ | ⟨_, _, rfl, _⟩ | ⟨_, hd, rfl, _⟩⟩ | ⟨_, _, rfl, _⟩
  · exact h
  · exact h
  · exact h
  · exact h
  · exact used h.1 (dead ho)
  · exact h
  · have h9 := (performs_good (A := D.qa) (F := D.qb) (k := D.q) h).1
    obtain ⟨_, _, _, _, h5, _⟩ := D.performs_same D.qa D.qb D.q
    exact used (E := (D.performs D.qa D.qb D.q).flushed) h9 (h5.trans (dead ho))
  · refine ⟨.inr rfl, fun h9 => ?_⟩
    rcases h9.2 with h10 | h10
    · cases h10
    · exact absurd h10 (Nat.lt_irrefl 0)
  · exact h
  · exact h
  · exact h
  · refine ⟨.inr rfl, fun h9 => ?_⟩
    rcases h9.2 with h10 | h10
    · cases h10
    · exact absurd h10 (Nat.lt_irrefl 0)
  · exact ⟨.inr rfl, fun h9 => by cases h9.1⟩
  · exact h
  · exact h
  · refine ⟨?_, fun h9 => ?_⟩
    · show decide (0 ≤ A.at') = true ∨ (if 0 ≤ A.at' then A.at' else 0) = 0
      by_cases h1 : 0 ≤ A.at'
      · exact .inl (decide_eq_true h1)
      · rw [if_neg h1]; exact .inr rfl
    · have : D.dead = true := h9.1
      rw [hd] at this; cases this
  · exact h
theorem runs_good {D : Dsk} (h : D.Good) {A : Nat → Deed} : ∀ {m : Nat} {D' : Dsk}, Runs D A m D' → D'.Good
  | 0, _, h1 => by rw [show _ = _ from h1]; exact h
  | m + 1, _, ⟨D1, c, n, f, h1, h2⟩ => does_good h2 (runs_good h h1)
theorem right_good {X : Dev} (h : X.Right) : X.dsk.Good := ⟨h.h2.2.1, h.h2.2.2⟩

theorem badL_sorted (D : Dsk) (i : Nat) : (badL D i).Pairwise (· < ·) := List.Pairwise.filter _ List.pairwise_lt_range
theorem badF_get (D : Dsk) (i k : Nat) (hk : k < (badL D i).length) : badF D i k = ((badL D i)[k] : Nat) := by
  unfold badF
  rw [List.getD_eq_getElem?_getD, List.getElem?_eq_getElem hk, Option.getD_some]
/-- What State tells is valid. -/
theorem dev_right {D : Dsk} (ho : D.Ok) (h : D.Good) : D.dev.Right := by
  refine ⟨⟨?_, ?_, ?_, ho.queue⟩, ⟨ho.left.1, h.1, h.2⟩, fun i hi => ?_, fun i hi => ?_⟩
  · show D.n * 64 % 64 = 0
    omega
  · show 1 ≤ D.n * 64 / 64
    have := ho.size.1
    omega
  · show D.n * 64 / 64 ≤ 4096
    have := ho.size.2
    omega
  · have hi2 : i < D.q := hi
    show 0 ≤ qaF D i ∧ qaF D i < (D.n * 64 / 64 : Nat) ∧ 64 = 64
    unfold qaF
    rw [if_pos hi2]
    have := ho.put i hi2
    omega
  · have hi2 : i < (badL D D.n).length := hi
    show 0 ≤ badF D D.n i ∧ badF D D.n i < (D.n * 64 / 64 : Nat) ∧ (i = 0 ∨ badF D D.n (i - 1) < badF D D.n i)
    rw [badF_get _ _ _ hi2]
    have h1 := badL_mem (List.getElem_mem hi2)
    refine ⟨by omega, by omega, ?_⟩
    by_cases h0 : i = 0
    · exact .inl h0
    · refine .inr ?_
      rw [badF_get _ _ _ (by omega)]
      have := List.pairwise_iff_getElem.1 (badL_sorted D D.n) (i - 1) i (by omega) hi2 (by omega)
      omega
/-- The disk of what State tells is the disk. -/
theorem dev_dsk (D : Dsk) : D.Eqv D.dev.dsk := by
  have hn : D.n * 64 / 64 = D.n := by omega
  refine ⟨hn, fun i j hi hj => ?_, fun i hi => ?_, rfl, fun i hi => ?_, fun i j hi hj => ?_, rfl, rfl, rfl⟩
  · show (if i < D.n * 64 / 64 then D.dev.data (i * 64 + j) else 0) = D.sec i j
    rw [hn, if_pos hi, data_dev D i j hj]
  · show metB D.dev.bad D.dev.m i = D.bad i
    rw [Bool.eq_iff_iff]
    have h9 := badAny_dev D i
    unfold badAny at h9
    unfold metB
    rw [h9]
    exact ⟨fun h => h.2, fun h => ⟨hi, h⟩⟩
  · show (qaF D i).toNat = D.qa i
    unfold qaF
    rw [if_pos hi]
    omega
  · show (if i < D.q then D.qb i j else 0) = D.qb i j
    rw [if_pos hi]
/-- What State tells of disks that are the same is the same. -/
theorem eqv_dev {D E : Dsk} (h : D.Eqv E) : D.dev.Same E.dev := by
  have hb : badL E E.n = badL D D.n := by
    unfold badL
    rw [h.n]
    exact List.filter_congr fun x hx => h.bad x (List.mem_range.1 hx)
  refine ⟨by show E.n * 64 = D.n * 64; rw [h.n], fun k hk => ?_, h.q, fun i hi => ?_, fun _ _ => rfl, fun i hi k hk => h.qb i k hi hk, by show (badL E E.n).length = _; rw [hb]; rfl, fun i _ => ?_, h.dead, h.armed, h.left⟩
  · have hk2 : k < D.n * 64 := hk
    exact h.sec (k / 64) (k % 64) (by omega) (by omega)
  · have hi2 : i < D.q := hi
    show qaF E i = qaF D i
    unfold qaF
    rw [h.q, if_pos hi2, if_pos hi2, h.qa i hi2]
  · show badF E E.n i = badF D D.n i
    unfold badF
    rw [hb]

end Go.Proofs.Ytjhcaedfknhilaa

namespace Go.Proofs.Ytjhcaedfknhilaa
open Go.RowKit
attribute [local go_sem ↓] Go.wp_at_zero Go.wp_at_succ
attribute [-go_sem] loadCellsFrom storeCells
attribute [local go_sem] storeCells_one

theorem Dsk.Eqv.trans {D E F : Dsk} (h : D.Eqv E) (h' : E.Eqv F) : D.Eqv F :=
  ⟨h'.n.trans h.n, fun i j h1 h2 => (h'.sec i j (h.n ▸ h1) h2).trans (h.sec i j h1 h2), fun i h1 => (h'.bad i (h.n ▸ h1)).trans (h.bad i h1), h'.q.trans h.q, fun i h1 => (h'.qa i (h.q ▸ h1)).trans (h.qa i h1), fun i j h1 h2 => (h'.qb i j (h.q ▸ h1) h2).trans (h.qb i j h1 h2), h'.dead.trans h.dead, h'.armed.trans h.armed, h'.left.trans h.left⟩
/-- Copy, in one form. -/
theorem copy_one {B g gs gb : Nat} {qv : Value} {D : Dsk} (w : World) (h : DiskIn B g gs gb qv D w) :
    Calls Try.prog 25 #[.pointer (some ⟨g, 0, none⟩)] w fun e w' => ∃ g' gs' gb' qv' E, e = .returned (.pointer (some ⟨g', 0, none⟩)) ∧ D.Eqv E ∧ DiskIn w.heap.size g' gs' gb' qv' E w' ∧ Below w.heap.size w w' :=
  (Copy_any w h).mono fun _ _ ⟨g', gs', gb', qv', cs, cb, he, hd, hb⟩ => ⟨g', gs', gb', qv', _, he, (⟨rfl, fun _ _ _ _ => rfl, fun _ _ => rfl, rfl, fun _ _ => rfl, fun _ _ _ _ => rfl, rfl, rfl, rfl⟩ : D.Eqv { D with cs := cs, cb := cb }), hd, hb⟩
/-- What stands at the head of a round of acts. -/
def ActsI (B g : Nat) (D : Dsk) (A : Nat → Deed) (w : World) (i : Nat) (wr : World) : Prop := ∃ gs gb qv E, Runs D A i E ∧ DiskIn B g gs gb qv E wr ∧ Below B w wr ∧ Calm w wr

set_option maxRecDepth 100000 in
set_option maxHeartbeats 8000000 in
theorem DiskCopies_any {B : Nat} {dv qv bv v kv : Value} {X : Dev} {m n : Nat} {A A2 : Nat → Deed} (w : World) (h : DevAt B w dv qv bv X) (hl : DList B w v m A) (hk : DList B w kv n A2) (hB : B ≤ w.heap.size) :
    Calls Try.prog 8 #[devV dv qv bv X, v, kv] w fun e w' => e = .returned (.bool true) ∧ Below w.heap.size w w' := by
  obtain ⟨dx, dc, rfl, -⟩ := h.data.slice
  obtain ⟨qx, qc, rfl, -⟩ := h.queue.slice
  obtain ⟨bx, bc, rfl, -⟩ := h.bad.slice
  obtain ⟨vx, vc, rfl, -⟩ := hl.slice
  obtain ⟨kx, kc, rfl, -⟩ := hk.slice
  have hr := row_six w (.slice dx X.n dc) (.slice qx X.q qc) (.slice bx X.m bc) (.bool X.dead) (.bool X.armed) (.int .i64 X.left) 31
  have hbl := (Below.refl _ w).alloc (Nat.le_refl w.heap.size) (.cells #[.slice dx X.n dc, .slice qx X.q qc, .slice bx X.m bc, .bool X.dead, .bool X.armed, .int .i64 X.left] 31)
  have HD := Lib.hid (h.all hbl)
  have HA := Lib.hid (hl.all hbl)
  have HK := Lib.hid (hk.all hbl)
  have HB := Lib.hid hbl
  have HR := Lib.hid hr
  have hB2 := Nat.le_trans hB hbl.size
  have hload := loadC_dev hr
  clear h hl hk hbl hr
  unfold devV
  go_enter Try.func8, Try.ntmps8
  go_upto_region 1 with fail
  generalize w.alloc (.cells #[.slice dx X.n dc, .slice qx X.q qc, .slice bx X.m bc, .bool X.dead, .bool X.armed, .int .i64 X.left] 31) = W at *
  go_wp2_with fail
  refine (few_any W HD.out).mono ?_
  rintro e w2 ⟨⟨b, rfl, -⟩, hb⟩
  have HD2 := Lib.hid (HD.out.all hb)
  have HA2 := Lib.hid (HA.out.all hb)
  have HK2 := Lib.hid (HK.out.all hb)
  have HR2 := Lib.hid (HR.out.all hb)
  have HB2 := Lib.hid (HB.out.trans (hb.mono HB.out.size))
  have hB3 := Nat.le_trans hB2 hb.size
  clear hload hb HD HA HK HR HB hB2
  rcases bool_cases b with rfl | rfl
  · go_wp2_with fail
    refine (sane_any w2).mono ?_
    rintro e w3 ⟨rfl, hb⟩
    go_wp2_with fail
    go_ret
    exact ⟨rfl, HB2.out.trans (hb.mono HB2.out.size)⟩
  go_wp2_with fail
  refine (short_any w2 HA2.out).mono ?_
  rintro e w2' ⟨⟨b, rfl, hsh⟩, rfl⟩
  rcases bool_cases b with rfl | rfl
  · go_wp2_with fail
    refine (sane_any w2).mono ?_
    rintro e w3 ⟨rfl, hb⟩
    go_wp2_with fail
    go_ret
    exact ⟨rfl, HB2.out.trans (hb.mono HB2.out.size)⟩
  have HS := Lib.hid (hsh.1 rfl)
  clear hsh
  go_wp2_with fail
  refine (short_any w2 HK2.out).mono ?_
  rintro e w2' ⟨⟨b, rfl, hsh⟩, rfl⟩
  rcases bool_cases b with rfl | rfl
  · go_wp2_with fail
    refine (sane_any w2).mono ?_
    rintro e w3 ⟨rfl, hb⟩
    go_wp2_with fail
    go_ret
    exact ⟨rfl, HB2.out.trans (hb.mono HB2.out.size)⟩
  have HS2 := Lib.hid (hsh.1 rfl)
  have hload := loadC_dev HR2.out
  clear hsh
  go_wp2_with fail
  refine (Right_any w2 HD2.out).mono ?_
  rintro e w3 ⟨⟨b, rfl, hright⟩, hb⟩
  have HD3 := Lib.hid (HD2.out.all hb)
  have HA3 := Lib.hid (HA2.out.all hb)
  have HK3 := Lib.hid (HK2.out.all hb)
  have HR3 := Lib.hid (HR2.out.all hb)
  have HB3 := Lib.hid (HB2.out.trans (hb.mono HB2.out.size))
  have hB4 := Nat.le_trans hB3 hb.size
  clear hload hb HD2 HA2 HK2 HR2 HB2 hB3
  rcases bool_cases b with rfl | rfl
  · go_wp2_with fail
    refine (sane_any w3).mono ?_
    rintro e w4 ⟨rfl, hb⟩
    go_wp2_with fail
    go_ret
    exact ⟨rfl, HB3.out.trans (hb.mono HB3.out.size)⟩
  have HX := Lib.hid (hright.1 rfl)
  clear hright
  have hload := loadC_dev HR3.out
  go_wp2_with fail
  refine (played_any w3 HD3.out HA3.out hB4 HX.out HS.out).mono ?_
  rintro e w4 ⟨g, gs, gb, qv4, D, rfl, hrun, hd, hb⟩
  have hs4 := hb.size
  have HG := Lib.hid (And.intro (runs_good (right_good HX.out) hrun) hd.ok)
  have H4 := Lib.hid hd
  have HK4 := Lib.hid (HK3.out.all hb)
  have HB4 := Lib.hid (HB3.out.trans (hb.mono HB3.out.size))
  have hk40 := HS2.out.2
  have hB5 := Nat.le_trans hB4 hs4
  clear hload hd hb hrun HD3 HA3 HR3 HK3 HS HX
  go_wp2_with fail
  refine (copy_one w4 H4.out).mono ?_
  rintro e w5 ⟨gc, gsc, gbc, qvc, C, rfl, heq, hd, hb⟩
  have HEq := Lib.hid heq
  have HC5 := Lib.hid hd
  have HW5 := Lib.hid hb
  have hs5 := hb.size
  clear hd hb heq
  obtain ⟨Y, hY⟩ : ∃ Y, D.dev = Y := ⟨_, rfl⟩
  have HY := Lib.hid hY
  clear hY
  obtain ⟨Z, hZ⟩ : ∃ Z, C.dev = Z := ⟨_, rfl⟩
  have HZ := Lib.hid hZ
  clear hZ
  have HYZ := Lib.hid (show Y.Same Z by rw [← HY.out, ← HZ.out]; exact eqv_dev HEq.out)
  have HH5 := Lib.hid (H4.out.all HW5.out)
  go_wp2_with fail
  refine (State_any w5 HH5.out).mono ?_
  rintro e w6 ⟨dv7, qv7, bv7, he, hd, hb⟩
  rw [HY.out] at he hd
  subst he
  obtain ⟨d7, dc7, rfl, -⟩ := hd.data.slice
  obtain ⟨q7, qc7, rfl, -⟩ := hd.queue.slice
  obtain ⟨b7, bc7, rfl, -⟩ := hd.bad.slice
  have hst := storeC_dev w6 #[.slice none 0 0, .slice none 0 0, .slice none 0 0, .bool false, .bool false, .int .i64 0] rfl _ _ _ _ _ _ (six_one (a := .slice d7 Y.n dc7) (b := .slice q7 Y.q qc7) (c := .slice b7 Y.m bc7) (d := .bool Y.dead) (e := .bool Y.armed) (f := .int .i64 Y.left) rfl rfl rfl rfl rfl rfl)
  have hr := row_six w6 (.slice d7 Y.n dc7) (.slice q7 Y.q qc7) (.slice b7 Y.m bc7) (.bool Y.dead) (.bool Y.armed) (.int .i64 Y.left) 31
  have hbx := (Below.refl _ w6).alloc (Nat.le_refl _) (.cells #[.slice d7 Y.n dc7, .slice q7 Y.q qc7, .slice b7 Y.m bc7, .bool Y.dead, .bool Y.armed, .int .i64 Y.left] 31)
  have hb6 : Below w5.heap.size w5 (w6.alloc (.cells #[.slice d7 Y.n dc7, .slice q7 Y.q qc7, .slice b7 Y.m bc7, .bool Y.dead, .bool Y.armed, .int .i64 Y.left] 31)) := hb.trans (hbx.mono hb.size)
  have HD7 := Lib.hid (hd.all hbx)
  have hz7 := hb6.size
  have HC7 := Lib.hid (HC5.out.all hb6)
  have HW7 := Lib.hid (HW5.out.trans (hb6.mono HW5.out.size))
  clear hd hb hbx hb6
  unfold devV
  go_upto_region 8 with fail
  clear hst
  generalize w6.alloc (.cells #[.slice d7 Y.n dc7, .slice q7 Y.q qc7, .slice b7 Y.m bc7, .bool Y.dead, .bool Y.armed, .int .i64 Y.left] 31) = w7 at *
  have HR7 := Lib.hid hr
  clear hr
  clear HC5 HW5 HH5
  go_wp2_with fail
  refine (State_any w7 HC7.out).mono ?_
  rintro e w8 ⟨dv9, qv9, bv9, he, hd, hb⟩
  rw [HZ.out] at he hd
  subst he
  obtain ⟨d9, dc9, rfl, -⟩ := hd.data.slice
  obtain ⟨q9, qc9, rfl, -⟩ := hd.queue.slice
  obtain ⟨b9, bc9, rfl, -⟩ := hd.bad.slice
  have hst := storeC_dev w8 #[.slice none 0 0, .slice none 0 0, .slice none 0 0, .bool false, .bool false, .int .i64 0] rfl _ _ _ _ _ _ (six_one (a := .slice d9 Z.n dc9) (b := .slice q9 Z.q qc9) (c := .slice b9 Z.m bc9) (d := .bool Z.dead) (e := .bool Z.armed) (f := .int .i64 Z.left) rfl rfl rfl rfl rfl rfl)
  have hr := row_six w8 (.slice d9 Z.n dc9) (.slice q9 Z.q qc9) (.slice b9 Z.m bc9) (.bool Z.dead) (.bool Z.armed) (.int .i64 Z.left) 31
  have hbx := (Below.refl _ w8).alloc (Nat.le_refl _) (.cells #[.slice d9 Z.n dc9, .slice q9 Z.q qc9, .slice b9 Z.m bc9, .bool Z.dead, .bool Z.armed, .int .i64 Z.left] 31)
  have hb6 : Below w7.heap.size w7 (w8.alloc (.cells #[.slice d9 Z.n dc9, .slice q9 Z.q qc9, .slice b9 Z.m bc9, .bool Z.dead, .bool Z.armed, .int .i64 Z.left] 31)) := hb.trans (hbx.mono hb.size)
  have HD9 := Lib.hid (hd.all hbx)
  have hz9 := hb6.size
  have HC9 := Lib.hid (HC7.out.all hb6)
  have HW9 := Lib.hid (HW7.out.trans (hb6.mono HW7.out.size))
  have HDs9 := Lib.hid (HD7.out.all hb6)
  have HRs9 := Lib.hid (HR7.out.all hb6)
  clear hd hb hbx hb6
  unfold devV
  go_upto_region 9 with fail
  clear hst
  generalize w8.alloc (.cells #[.slice d9 Z.n dc9, .slice q9 Z.q qc9, .slice b9 Z.m bc9, .bool Z.dead, .bool Z.armed, .int .i64 Z.left] 31) = w9 at *
  have HR9 := Lib.hid hr
  clear hr
  clear HC7 HW7 HD7 HR7
  have hl1 := loadC_dev HRs9.out
  have hl2 := loadC_dev HR9.out
  go_wp2_with fail
  refine (Same_yes w9 HDs9.out HD9.out HYZ.out).mono ?_
  rintro e wa ⟨rfl, hb⟩
  have hsa := hb.size
  have HCa := Lib.hid (HC9.out.all hb)
  have HWa := Lib.hid (HW9.out.trans (hb.mono HW9.out.size))
  have HDa := Lib.hid (HDs9.out.all hb)
  have HRa := Lib.hid (HRs9.out.all hb)
  clear hl1 hl2 hb HC9 HW9 HDs9 HRs9 HD9 HR9
  go_wp2_with fail
  go_loopw [13] (fun t wr => ∃ i : Nat, i ≤ n ∧ t = .int .i64 i ∧ ActsI w4.heap.size gc C A2 wa i wr) (fun t _ => n - (intOf t).toNat)
  case atStart => exact ⟨0, by omega, by go_num, _, _, _, C, rfl, HCa.out, Below.refl _ _, Calm.refl _⟩
  case round =>
    obtain ⟨i, hi, rfl, gsr, gbr, qvr, E, hrun, hd, hb, hcalm⟩ := hrel
    have HE := Lib.hid hrun
    have HDr := Lib.hid hd
    have HBr := Lib.hid hb
    have HCr := Lib.hid hcalm
    have hsr := hcalm.1
    clear hrun hd hb hcalm
    by_cases hlt : i < n
    · have hdlt : decide ((i : Int) < n) = true := decide_eq_true (by omega)
      obtain ⟨b, off, c, ub, uk, e1, d0, d1, d2, d3, d4, hdeed⟩ := (HK4.out.all (HWa.out.trans (HBr.out.mono (Nat.le_refl _)))).elem hlt
      cases e1
      have hld := loadC_5 d0 d1 d2 d3 d4
      have Hd := Lib.hid (hdeed.mono hB5)
      have hk := (HS2.out.1 i hlt).2
      clear d0 d1 d2 d3 d4 hdeed
      go_wp2_with fail
      refine (act_any wr HDr.out Hd.out (by omega)).mono ?_
      rintro e wy ⟨v3, c3, rfl, D', n', f', gs2, gb2, qv2, hdo, -, hd, hb, hcalm⟩
      have HN := Lib.hid (show ActsI w4.heap.size gc C A2 wa (i + 1) wy from ⟨gs2, gb2, qv2, D', ⟨E, c3, n', f', HE.out, hdo⟩, hd, HBr.out.trans hb, HCr.out.trans hcalm⟩)
      clear hld hdo hd hb hcalm
      go_wp2_with fail
      go_roundw
      case rel => exact ⟨i + 1, by omega, by go_num, HN.out⟩
      case measure => simp [intOf]; omega
    · obtain rfl : n = i := by omega
      have hdlt : decide ((n : Int) < n) = false := decide_eq_false (by omega)
      have HWr := Lib.hid (HWa.out.trans HBr.out)
      have HHr := Lib.hid (H4.out.all HWr.out)
      have HDsr := Lib.hid (HDa.out.keep (keeps_calm (HBr.out.mono hs4) HCr.out))
      have HRr := Lib.hid (RowAt.calm HRa.out HCr.out rfl)
      clear HCr HBr HWa HDa HRa HCa
      go_wp2_with fail
      refine (State_any wr HHr.out).mono ?_
      rintro e wb ⟨dvu, qvu, bvu, he, hd, hb⟩
      rw [HY.out] at he hd
      subst he
      obtain ⟨du, dcu, rfl, -⟩ := hd.data.slice
      obtain ⟨qu, qcu, rfl, -⟩ := hd.queue.slice
      obtain ⟨bu, bcu, rfl, -⟩ := hd.bad.slice
      have hst := storeC_dev wb #[.slice none 0 0, .slice none 0 0, .slice none 0 0, .bool false, .bool false, .int .i64 0] rfl _ _ _ _ _ _ (six_one (a := .slice du Y.n dcu) (b := .slice qu Y.q qcu) (c := .slice bu Y.m bcu) (d := .bool Y.dead) (e := .bool Y.armed) (f := .int .i64 Y.left) rfl rfl rfl rfl rfl rfl)
      have hr := row_six wb (.slice du Y.n dcu) (.slice qu Y.q qcu) (.slice bu Y.m bcu) (.bool Y.dead) (.bool Y.armed) (.int .i64 Y.left) 31
      have hbx := (Below.refl _ wb).alloc (Nat.le_refl _) (.cells #[.slice du Y.n dcu, .slice qu Y.q qcu, .slice bu Y.m bcu, .bool Y.dead, .bool Y.armed, .int .i64 Y.left] 31)
      have hb6 : Below wr.heap.size wr (wb.alloc (.cells #[.slice du Y.n dcu, .slice qu Y.q qcu, .slice bu Y.m bcu, .bool Y.dead, .bool Y.armed, .int .i64 Y.left] 31)) := hb.trans (hbx.mono hb.size)
      have HDu := Lib.hid (hd.all hbx)
      have hzu := hb6.size
      have HCc := Lib.hid (HDr.out.all hb6)
      have HWc := Lib.hid (HWr.out.trans (hb6.mono HWr.out.size))
      have HDc := Lib.hid (HDsr.out.all hb6)
      have HRc := Lib.hid (HRr.out.all hb6)
      clear hd hb hbx hb6
      unfold devV
      go_upto_region 16 with fail
      clear hst
      generalize wb.alloc (.cells #[.slice du Y.n dcu, .slice qu Y.q qcu, .slice bu Y.m bcu, .bool Y.dead, .bool Y.armed, .int .i64 Y.left] 31) = wc at *
      have HRu := Lib.hid hr
      clear hr
      clear HDr HWr HDsr HRr HHr
      have hl1 := loadC_dev HRc.out
      go_wp2_with fail
      refine (Load_any wc HDc.out (by have := HWc.out.size; omega)).mono ?_
      rintro e wd (⟨hno, -⟩ | ⟨-, go, gso, gbo, uvo, rfl, hd, hb⟩)
      · exact absurd (by rw [← HY.out]; exact dev_right HG.out.2 HG.out.1) hno
      have HOd := Lib.hid hd
      have HCd := Lib.hid (HCc.out.all hb)
      have HWd := Lib.hid (HWc.out.trans (hb.mono HWc.out.size))
      have HDd := Lib.hid (HDc.out.all hb)
      have HRd := Lib.hid (HRc.out.all hb)
      have HDu2 := Lib.hid (HDu.out.all hb)
      have HRu2 := Lib.hid (HRu.out.all hb)
      have hsd := hb.size
      have HLd := Lib.hid hb
      clear hd hb hl1 HWc HDc HRc HDu HRu
      have hl1 := loadC_dev HRd.out
      have hl2 := loadC_dev HRu2.out
      go_wp2_with fail
      refine (Same_yes wd HDd.out HDu2.out (Dev.Same.rfl' Y)).mono ?_
      rintro e we ⟨rfl, hb⟩
      have HOe := Lib.hid (HOd.out.all hb)
      have HCe := Lib.hid (HCd.out.all hb)
      have HWe := Lib.hid (HWd.out.trans (hb.mono HWd.out.size))
      have HLe := Lib.hid (HLd.out.trans (hb.mono HLd.out.size))
      have hse := hb.size
      clear hb hl1 hl2 HOd HCd HWd HDd HRd HDu2 HRu2 HLd
      have hcz := HCe.out.le
      obtain ⟨O, hO⟩ : ∃ O, Y.dsk = O := ⟨_, rfl⟩
      have HO := Lib.hid hO
      have HOe2 := Lib.hid (show DiskIn wc.heap.size go gso gbo uvo O we by rw [← hO]; exact HOe.out)
      clear hO HOe
      obtain ⟨wf, hwf⟩ : ∃ x, x = we := ⟨_, rfl⟩
      subst hwf
      go_wp2_with fail
      go_loopw [18] (fun t wr => ∃ i : Nat, i ≤ n ∧ t = .int .i64 i ∧ ActsI wc.heap.size go O A2 wf i wr) (fun t _ => n - (intOf t).toNat)
      case atStart => exact ⟨0, by omega, by go_num, _, _, _, O, rfl, HOe2.out, Below.refl _ _, Calm.refl _⟩
      case round =>
        obtain ⟨i, hi, rfl, gsr, gbr, qvr, E2, hrun, hd, hb, hcalm⟩ := hrel
        have HE2 := Lib.hid hrun
        have HDr := Lib.hid hd
        have HBr := Lib.hid hb
        have HCr := Lib.hid hcalm
        have hsr := hcalm.1
        clear hrun hd hb hcalm
        by_cases hlt : i < n
        · have hdlt : decide ((i : Int) < n) = true := decide_eq_true (by omega)
          obtain ⟨b, off, c, ub, uk, e1, d0, d1, d2, d3, d4, hdeed⟩ := (HK4.out.all (HWe.out.trans (HBr.out.mono (by omega)))).elem hlt
          cases e1
          have hld := loadC_5 d0 d1 d2 d3 d4
          have Hd := Lib.hid (hdeed.mono (B' := wc.heap.size) (by omega))
          have hk := (HS2.out.1 i hlt).2
          clear d0 d1 d2 d3 d4 hdeed
          go_wp2_with fail
          refine (act_any wr HDr.out Hd.out (by omega)).mono ?_
          rintro e wy ⟨v3, c3, rfl, D', n', f', gs2, gb2, qv2, hdo, -, hd, hb, hcalm⟩
          have HN := Lib.hid (show ActsI wc.heap.size go O A2 wf (i + 1) wy from ⟨gs2, gb2, qv2, D', ⟨E2, c3, n', f', HE2.out, hdo⟩, hd, HBr.out.trans hb, HCr.out.trans hcalm⟩)
          clear hld hdo hd hb hcalm
          go_wp2_with fail
          go_roundw
          case rel => exact ⟨i + 1, by omega, by go_num, HN.out⟩
          case measure => simp [intOf]; omega
        · obtain rfl : n = i := by omega
          have hdlt : decide ((n : Int) < n) = false := decide_eq_false (by omega)
          have HLr := Lib.hid (HLe.out.trans HBr.out)
          have HCr2 := Lib.hid (HCc.out.all HLr.out)
          have HWr := Lib.hid (HWe.out.trans (HBr.out.mono (by omega)))
          obtain ⟨P, hP⟩ : ∃ P, E.dev = P := ⟨_, rfl⟩
          have HP := Lib.hid hP
          obtain ⟨R, hR⟩ : ∃ R, E2.dev = R := ⟨_, rfl⟩
          have HR := Lib.hid hR
          have HPR := Lib.hid (show P.Same R by rw [← hP, ← hR]; exact eqv_dev (runs_same (HEq.out.symm.trans (by rw [← HO.out, ← HY.out]; exact dev_dsk D)) HE.out HE2.out))
          clear hP hR HCr HBr HLr HWe HLe
          go_wp2_with fail
          refine (State_any wr HCr2.out).mono ?_
          rintro e wg ⟨dvp, qvp, bvp, he, hd, hb⟩
          rw [HP.out] at he hd
          subst he
          obtain ⟨dp, dcp, rfl, -⟩ := hd.data.slice
          obtain ⟨qp, qcp, rfl, -⟩ := hd.queue.slice
          obtain ⟨bp, bcp, rfl, -⟩ := hd.bad.slice
          have hst := storeC_dev wg #[.slice none 0 0, .slice none 0 0, .slice none 0 0, .bool false, .bool false, .int .i64 0] rfl _ _ _ _ _ _ (six_one (a := .slice dp P.n dcp) (b := .slice qp P.q qcp) (c := .slice bp P.m bcp) (d := .bool P.dead) (e := .bool P.armed) (f := .int .i64 P.left) rfl rfl rfl rfl rfl rfl)
          have hr := row_six wg (.slice dp P.n dcp) (.slice qp P.q qcp) (.slice bp P.m bcp) (.bool P.dead) (.bool P.armed) (.int .i64 P.left) 31
          have hbx := (Below.refl _ wg).alloc (Nat.le_refl _) (.cells #[.slice dp P.n dcp, .slice qp P.q qcp, .slice bp P.m bcp, .bool P.dead, .bool P.armed, .int .i64 P.left] 31)
          have hb6 : Below wr.heap.size wr (wg.alloc (.cells #[.slice dp P.n dcp, .slice qp P.q qcp, .slice bp P.m bcp, .bool P.dead, .bool P.armed, .int .i64 P.left] 31)) := hb.trans (hbx.mono hb.size)
          have HDp := Lib.hid (hd.all hbx)
          have hzp := hb6.size
          have HOh := Lib.hid (HDr.out.all hb6)
          have HWh := Lib.hid (HWr.out.trans (hb6.mono HWr.out.size))
          clear hd hb hbx hb6
          unfold devV
          go_upto_region 24 with fail
          clear hst
          generalize wg.alloc (.cells #[.slice dp P.n dcp, .slice qp P.q qcp, .slice bp P.m bcp, .bool P.dead, .bool P.armed, .int .i64 P.left] 31) = wh at *
          have HRp := Lib.hid hr
          clear hr
          clear HCr2 HWr HDr
          go_wp2_with fail
          refine (State_any wh HOh.out).mono ?_
          rintro e wi ⟨dvr, qvr, bvr, he, hd, hb⟩
          rw [HR.out] at he hd
          subst he
          obtain ⟨dr, dcr, rfl, -⟩ := hd.data.slice
          obtain ⟨qr, qcr, rfl, -⟩ := hd.queue.slice
          obtain ⟨br, bcr, rfl, -⟩ := hd.bad.slice
          have hst := storeC_dev wi #[.slice none 0 0, .slice none 0 0, .slice none 0 0, .bool false, .bool false, .int .i64 0] rfl _ _ _ _ _ _ (six_one (a := .slice dr R.n dcr) (b := .slice qr R.q qcr) (c := .slice br R.m bcr) (d := .bool R.dead) (e := .bool R.armed) (f := .int .i64 R.left) rfl rfl rfl rfl rfl rfl)
          have hr := row_six wi (.slice dr R.n dcr) (.slice qr R.q qcr) (.slice br R.m bcr) (.bool R.dead) (.bool R.armed) (.int .i64 R.left) 31
          have hbx := (Below.refl _ wi).alloc (Nat.le_refl _) (.cells #[.slice dr R.n dcr, .slice qr R.q qcr, .slice br R.m bcr, .bool R.dead, .bool R.armed, .int .i64 R.left] 31)
          have hb6 : Below wh.heap.size wh (wi.alloc (.cells #[.slice dr R.n dcr, .slice qr R.q qcr, .slice br R.m bcr, .bool R.dead, .bool R.armed, .int .i64 R.left] 31)) := hb.trans (hbx.mono hb.size)
          have HDr := Lib.hid (hd.all hbx)
          have hzr := hb6.size
          have HWj := Lib.hid (HWh.out.trans (hb6.mono HWh.out.size))
          have HDp2 := Lib.hid (HDp.out.all hb6)
          have HRp2 := Lib.hid (HRp.out.all hb6)
          clear hd hb hbx hb6
          unfold devV
          go_upto_region 25 with fail
          clear hst
          generalize wi.alloc (.cells #[.slice dr R.n dcr, .slice qr R.q qcr, .slice br R.m bcr, .bool R.dead, .bool R.armed, .int .i64 R.left] 31) = wj at *
          have HRr := Lib.hid hr
          clear hr
          clear HOh HWh HDp HRp
          go_wp2_with fail
          refine (sane_any wj).mono ?_
          rintro e wk ⟨rfl, hb⟩
          have HWk := Lib.hid (HWj.out.trans (hb.mono HWj.out.size))
          have HDpk := Lib.hid (HDp2.out.all hb)
          have HDrk := Lib.hid (HDr.out.all hb)
          have hl1 := loadC_dev (HRp2.out.all hb)
          have hl2 := loadC_dev (HRr.out.all hb)
          clear hb
          go_wp2_with fail
          refine (Same_yes wk HDpk.out HDrk.out HPR.out).mono ?_
          rintro e wl ⟨rfl, hb⟩
          go_wp2_with fail
          go_ret
          exact ⟨rfl, HB4.out.trans ((HWk.out.trans (hb.mono HWk.out.size)).mono (Nat.le_trans HB3.out.size hs4))⟩

end Go.Proofs.Ytjhcaedfknhilaa
