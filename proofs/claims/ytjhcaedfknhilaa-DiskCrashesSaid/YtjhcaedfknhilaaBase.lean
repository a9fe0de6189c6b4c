/- General facts on memory and lists that the walks of this seat use: rows of cells that a call owns, cells that a slice reads. No program in sight. -/
import Derived.Test.YtjhcaedfknhilaaRows
import Derived.WalkKit
import Derived.WalkSpells
import Derived.WalkLawsBesides
import Derived.BigQuiet
import Derived.Deep.QuietTactic
import Derived.Lib.Hide
namespace Go.Proofs.Ytjhcaedfknhilaa
open Go.RowKit

/-- n cells of block b from offset o on hold f 0, f 1, .. -/
def Cells (w : World) (b o n : Nat) (f : Nat → Value) : Prop := ∀ i, i < n → w.cell? ⟨b, o + i, none⟩ = some (f i)

theorem Cells.lt {w : World} {b o n : Nat} {f : Nat → Value} (h : Cells w b o n f) (hn : 0 < n) : b < w.heap.size :=
  World.block_lt_of_cell? w ⟨b, o + 0, none⟩ (h 0 hn)

theorem Cells.below {w w' : World} {B b o n : Nat} {f : Nat → Value} (h : Cells w b o n f) (hb : Below B w w') (hB : b < B) : Cells w' b o n f :=
  fun i hi => (hb.cell (p := ⟨b, o + i, none⟩) hB).trans (h i hi)

/-- Whatever was there reads as it did. -/
theorem Cells.all {w w' : World} {b o n : Nat} {f : Nat → Value} (h : Cells w b o n f) (hb : Below w.heap.size w w') : Cells w' b o n f := by
  by_cases hn : 0 < n
  · exact h.below hb (h.lt hn)
  · exact fun i hi => absurd hi (by omega)

theorem Cells.congr {w : World} {b o n : Nat} {f g : Nat → Value} (h : Cells w b o n f) (hfg : ∀ i, i < n → f i = g i) : Cells w b o n g :=
  fun i hi => by rw [h i hi, hfg i hi]

theorem Cells.drop {w : World} {b o n : Nat} {f : Nat → Value} (h : Cells w b o n f) (k m : Nat) (hk : k + m ≤ n) : Cells w b (o + k) m (fun i => f (k + i)) :=
  fun i hi => by have := h (k + i) (by omega); rw [← Nat.add_assoc] at this; exact this

theorem Cells.take {w : World} {b o n : Nat} {f : Nat → Value} (h : Cells w b o n f) {m : Nat} (hm : m ≤ n) : Cells w b o m f :=
  fun i hi => h i (by omega)

theorem Cells.zero (w : World) (b o : Nat) (f : Nat → Value) : Cells w b o 0 f := fun i hi => absurd hi (by omega)

/-- Block g is a row of cap cells of type e, none frozen, whose first n hold f 0, f 1, .. -/
def RowAt (w : World) (g : Nat) (e : TypeId) (cap n : Nat) (f : Nat → Value) : Prop :=
  ∃ cur : Array Value, w.heap[g]? = some (.cells cur e (0, 0)) ∧ cur.size = cap ∧ n ≤ cap ∧ ∀ i, i < n → cur[i]? = some (f i)

theorem RowAt.lt {w : World} {g : Nat} {e : TypeId} {cap n : Nat} {f : Nat → Value} (h : RowAt w g e cap n f) : g < w.heap.size := by
  obtain ⟨cur, hg, _⟩ := h
  exact (Array.getElem?_eq_some_iff.1 hg).1

theorem RowAt.le {w : World} {g : Nat} {e : TypeId} {cap n : Nat} {f : Nat → Value} (h : RowAt w g e cap n f) : n ≤ cap := by
  obtain ⟨cur, _, _, hn, _⟩ := h; exact hn

theorem RowAt.cell {w : World} {g : Nat} {e : TypeId} {cap n : Nat} {f : Nat → Value} (h : RowAt w g e cap n f) {i : Nat} (hi : i < n) : w.cell? ⟨g, i, none⟩ = some (f i) := by
  obtain ⟨cur, hg, _, _, hc⟩ := h
  rw [cell_of_row w g i cur e (0, 0) hg]; exact hc i hi

theorem RowAt.reads {w : World} {g : Nat} {e : TypeId} {cap n : Nat} {f : Nat → Value} (h : RowAt w g e cap n f) : Cells w g 0 n f :=
  fun i hi => by rw [Nat.zero_add]; exact h.cell hi

theorem RowAt.ex {w : World} {g : Nat} {e : TypeId} {cap n : Nat} {f : Nat → Value} (h : RowAt w g e cap n f) {i : Nat} (hi : i < cap) : ∃ v, w.cell? ⟨g, i, none⟩ = some v := by
  obtain ⟨cur, hg, hs, _, _⟩ := h
  rw [cell_of_row w g i cur e (0, 0) hg]; exact ⟨_, Array.getElem?_eq_getElem (by omega)⟩

theorem RowAt.frozen {w : World} {g : Nat} {e : TypeId} {cap n : Nat} {f : Nat → Value} (h : RowAt w g e cap n f) (i : Nat) : w.frozen? ⟨g, i, none⟩ = false := by
  obtain ⟨cur, hg, _⟩ := h
  simp [World.frozen?, hg]

theorem RowAt.congr {w : World} {g : Nat} {e : TypeId} {cap n : Nat} {f f' : Nat → Value} (h : RowAt w g e cap n f) (hf : ∀ i, i < n → f i = f' i) : RowAt w g e cap n f' := by
  obtain ⟨cur, hg, hs, hn, hc⟩ := h
  exact ⟨cur, hg, hs, hn, fun i hi => by rw [hc i hi, hf i hi]⟩

theorem RowAt.take {w : World} {g : Nat} {e : TypeId} {cap n : Nat} {f : Nat → Value} (h : RowAt w g e cap n f) {m : Nat} (hm : m ≤ n) : RowAt w g e cap m f := by
  obtain ⟨cur, hg, hs, hn, hc⟩ := h
  exact ⟨cur, hg, hs, by omega, fun i hi => hc i (by omega)⟩

theorem RowAt.below {w w' : World} {B g : Nat} {e : TypeId} {cap n : Nat} {f : Nat → Value} (h : RowAt w g e cap n f) (hb : Below B w w') (hB : g < B) : RowAt w' g e cap n f := by
  obtain ⟨cur, hg, rest⟩ := h
  exact ⟨cur, (hb.block g hB).trans hg, rest⟩

theorem RowAt.all {w w' : World} {g : Nat} {e : TypeId} {cap n : Nat} {f : Nat → Value} (h : RowAt w g e cap n f) (hb : Below w.heap.size w w') : RowAt w' g e cap n f := h.below hb h.lt

theorem RowAt.alloc {w : World} {g : Nat} {e : TypeId} {cap n : Nat} {f : Nat → Value} (h : RowAt w g e cap n f) (o : Obj) : RowAt (w.alloc o) g e cap n f :=
  h.all ((Below.refl _ _).alloc (Nat.le_refl _) _)

theorem RowAt.drewN {w : World} {g : Nat} {e : TypeId} {cap n : Nat} {f : Nat → Value} (h : RowAt w g e cap n f) (k : Nat) : RowAt (w.drewN k) g e cap n f := by
  obtain ⟨cur, hg, rest⟩ := h
  exact ⟨cur, hg, rest⟩

theorem RowAt.set {w : World} {g : Nat} {e : TypeId} {cap n : Nat} {f : Nat → Value} (h : RowAt w g e cap n f) (i : Nat) (v : Value) :
    RowAt (w.setCell ⟨g, i, none⟩ v) g e cap n (fun j => if j = i then v else f j) := by
  obtain ⟨cur, hg, hs, hn, hc⟩ := h
  refine ⟨cur.setIfInBounds i v, ?_, by simpa using hs, hn, fun j hj => ?_⟩
  · simp only [World.setCell, Array.getElem?_modify, hg]; simp
  · by_cases hji : j = i
    · subst hji; simp [Array.getElem?_setIfInBounds]; omega
    · simp only [if_neg hji]; rw [Array.getElem?_setIfInBounds_ne (by omega)]; exact hc j hj

theorem RowAt.setOther {w : World} {g : Nat} {e : TypeId} {cap n : Nat} {f : Nat → Value} (h : RowAt w g e cap n f) (a : Addr) (v : Value) (ha : a.block ≠ g) : RowAt (w.setCell a v) g e cap n f := by
  obtain ⟨cur, hg, rest⟩ := h
  exact ⟨cur, (Below.heap_setCell w a v g (fun e => ha e.symm)).trans hg, rest⟩

theorem RowAt.new (w : World) (cur : Array Value) (e : TypeId) (f : Nat → Value) (n : Nat) (hn : n ≤ cur.size) (hc : ∀ i, i < n → cur[i]? = some (f i)) :
    RowAt (w.alloc (.cells cur e)) w.heap.size e cur.size n f :=
  ⟨cur, heap_alloc_new w _, rfl, hn, hc⟩

/-- From the law on append: what is owned is such a row. -/
theorem rowAt_of_owns {w : World} {B : Nat} {e : TypeId} {g n cap : Nat} {xs : List Value} {f : Nat → Value} (h : w.ownsRow B e 1 (.slice (some ⟨g, 0, none⟩) n cap) n xs) (hf : ∀ i, i < n → xs[i]? = some (f i)) :
    RowAt w g e cap n f ∧ cap ≤ maxLen := by
  rcases h.2 with ⟨h0, _⟩ | ⟨g', cap', cur, hv, hb, hg, hn, hm, hs, ht⟩
  · cases h0
  · simp only [Value.slice.injEq, Option.some.injEq, Addr.mk.injEq, and_true, true_and] at hv
    obtain ⟨rfl, rfl⟩ := hv
    refine ⟨⟨cur, hg, by omega, hn, fun i hi => ?_⟩, hm⟩
    rw [← hf i hi, ← ht, List.getElem?_take, if_pos (by omega), Array.getElem?_toList]

theorem owns_of_rowAt {w : World} {B : Nat} {e : TypeId} {g n cap : Nat} {f : Nat → Value} (h : RowAt w g e cap n f) (hB : B ≤ g) (hm : cap ≤ maxLen) :
    w.ownsRow B e 1 (.slice (some ⟨g, 0, none⟩) n cap) n ((List.range n).map f) := by
  obtain ⟨cur, hg, hs, hn, hc⟩ := h
  refine ⟨by simp, .inr ⟨g, cap, cur, rfl, hB, hg, hn, hm, by omega, ?_⟩⟩
  refine List.ext_getElem? fun i => ?_
  rw [List.getElem?_take]
  by_cases hi : i < n
  · rw [if_pos (by omega), Array.getElem?_toList, hc i hi]; simp [hi]
  · rw [if_neg (by omega)]; exact (List.getElem?_eq_none (by simp; omega)).symm

/-- A boolean search: is p true of one of 0 .. n-1? -/
def anyB (p : Nat → Bool) : Nat → Bool
  | 0 => false
  | n + 1 => anyB p n || p n

theorem anyB_true {p : Nat → Bool} {n : Nat} : anyB p n = true ↔ ∃ i, i < n ∧ p i = true := by
  induction n with
  | zero => simp [anyB]
  | succ n ih =>
    simp only [anyB, Bool.or_eq_true, ih]
    constructor
    · rintro (⟨i, h1, h2⟩ | h)
      · exact ⟨i, by omega, h2⟩
      · exact ⟨n, by omega, h⟩
    · rintro ⟨i, h1, h2⟩
      by_cases hi : i = n
      · subst hi; exact .inr h2
      · exact .inl ⟨i, by omega, h2⟩

theorem anyB_false {p : Nat → Bool} {n : Nat} : anyB p n = false ↔ ∀ i, i < n → p i = false := by
  rw [← Bool.not_eq_true, anyB_true]
  constructor
  · intro h i hi; rw [← Bool.not_eq_true]; exact fun hp => h ⟨i, hi, hp⟩
  · rintro h ⟨i, hi, hp⟩; rw [h i hi] at hp; cases hp

/-- The walk stands still at a goal behind this name. -/
def Hold (p : Prop) : Prop := p
theorem Hold.stop {p : Prop} (h : Hold p) : p := h
theorem Hold.go {p : Prop} (h : p) : Hold p := h

/-- The byte of a number. -/
def byteV (n : Int) : Value := .int .u8 n
def intV (n : Int) : Value := .int .i64 n

end Go.Proofs.Ytjhcaedfknhilaa
