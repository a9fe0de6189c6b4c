/- General facts on memory and lists that the walks of this seat use: rows of cells that a call owns, cells that a slice reads. No program in sight. Laws for single operations, at rows of cells given by functions: append, copy, clear, string(bytes); and the two steps of a walk over an operation whose run is known. -/
import Derived.Test.YtjhcaedfknhilaaRows
import Derived.WalkKit
import Derived.WalkSpells
import Derived.WalkLawsBesides
import Derived.BigQuiet
import Derived.Deep.QuietTactic
import Derived.Lib.Hide
import Derived.Maps.AppendAt
import Derived.Laws.CopyOwn
import Derived.Lib.SliceRun
import Derived.OwnWalkIn
import Derived.Laws.BytesArg
namespace Go.Proofs.Ytjhcaedfknhilaa
set_option linter.unusedVariables false
set_option linter.unusedSimpArgs false
open Go.RowKit

/-- n cells of block b from offset o on hold f 0, f 1, .. -/
def Cells (w : World) (b o n : Nat) (f : Nat → Value) : Prop := ∀ i, i < n → w.cell? ⟨b, o + i, none⟩ = some (f i)

theorem Cells.lt {w : World} {b o n : Nat} {f : Nat → Value} (h : Cells w b o n f) (hn : 0 < n) : b < w.heap.size :=
  World.block_lt_of_cell? w ⟨b, o + 0, none⟩ (h 0 hn)

theorem Cells.below {w w' : World} {B b o n : Nat} {f : Nat → Value} (h : Cells w b o n f) (hb : Below B w w') (hB : b < B) : Cells w' b o n f :=
  fun i hi => (hb.cell (p := ⟨b, o + i, none⟩) hB).trans (h i hi)

/-- Whatever was there reads as it did. -/
theorem Cells.all {w w' : World} {b o n : Nat} {f : Nat → Value} (h : Cells w b o n f) (hb : Below w.heap.size w w') : Cells w' b o n f := by
  by_cases hn : 0 < n
  · exact h.below hb (h.lt hn)
  · exact fun i hi => absurd hi (by omega)

theorem Cells.congr {w : World} {b o n : Nat} {f g : Nat → Value} (h : Cells w b o n f) (hfg : ∀ i, i < n → f i = g i) : Cells w b o n g :=
  fun i hi => by rw [h i hi, hfg i hi]

theorem Cells.drop {w : World} {b o n : Nat} {f : Nat → Value} (h : Cells w b o n f) (k m : Nat) (hk : k + m ≤ n) : Cells w b (o + k) m (fun i => f (k + i)) :=
  fun i hi => by have := h (k + i) (by omega); rw [← Nat.add_assoc] at this; exact this

theorem Cells.take {w : World} {b o n : Nat} {f : Nat → Value} (h : Cells w b o n f) {m : Nat} (hm : m ≤ n) : Cells w b o m f :=
  fun i hi => h i (by omega)

theorem Cells.zero (w : World) (b o : Nat) (f : Nat → Value) : Cells w b o 0 f := fun i hi => absurd hi (by omega)

/-- Block g is a row of cap cells of type e, none frozen, whose first n hold f 0, f 1, .. -/
def RowAt (w : World) (g : Nat) (e : TypeId) (cap n : Nat) (f : Nat → Value) : Prop :=
  ∃ cur : Array Value, w.heap[g]? = some (.cells cur e (0, 0)) ∧ cur.size = cap ∧ n ≤ cap ∧ ∀ i, i < n → cur[i]? = some (f i)

theorem RowAt.lt {w : World} {g : Nat} {e : TypeId} {cap n : Nat} {f : Nat → Value} (h : RowAt w g e cap n f) : g < w.heap.size := by
  obtain ⟨cur, hg, _⟩ := h
  exact (Array.getElem?_eq_some_iff.1 hg).1

theorem RowAt.le {w : World} {g : Nat} {e : TypeId} {cap n : Nat} {f : Nat → Value} (h : RowAt w g e cap n f) : n ≤ cap := by
  obtain ⟨cur, _, _, hn, _⟩ := h; exact hn

theorem RowAt.cell {w : World} {g : Nat} {e : TypeId} {cap n : Nat} {f : Nat → Value} (h : RowAt w g e cap n f) {i : Nat} (hi : i < n) : w.cell? ⟨g, i, none⟩ = some (f i) := by
  obtain ⟨cur, hg, _, _, hc⟩ := h
  rw [cell_of_row w g i cur e (0, 0) hg]; exact hc i hi

theorem RowAt.reads {w : World} {g : Nat} {e : TypeId} {cap n : Nat} {f : Nat → Value} (h : RowAt w g e cap n f) : Cells w g 0 n f :=
  fun i hi => by rw [Nat.zero_add]; exact h.cell hi

theorem RowAt.ex {w : World} {g : Nat} {e : TypeId} {cap n : Nat} {f : Nat → Value} (h : RowAt w g e cap n f) {i : Nat} (hi : i < cap) : ∃ v, w.cell? ⟨g, i, none⟩ = some v := by
  obtain ⟨cur, hg, hs, _, _⟩ := h
  rw [cell_of_row w g i cur e (0, 0) hg]; exact ⟨_, Array.getElem?_eq_getElem (by omega)⟩

theorem RowAt.frozen {w : World} {g : Nat} {e : TypeId} {cap n : Nat} {f : Nat → Value} (h : RowAt w g e cap n f) (i : Nat) : w.frozen? ⟨g, i, none⟩ = false := by
  obtain ⟨cur, hg, _⟩ := h
  simp [World.frozen?, hg]

theorem RowAt.congr {w : World} {g : Nat} {e : TypeId} {cap n : Nat} {f f' : Nat → Value} (h : RowAt w g e cap n f) (hf : ∀ i, i < n → f i = f' i) : RowAt w g e cap n f' := by
  obtain ⟨cur, hg, hs, hn, hc⟩ := h
  exact ⟨cur, hg, hs, hn, fun i hi => by rw [hc i hi, hf i hi]⟩

theorem RowAt.take {w : World} {g : Nat} {e : TypeId} {cap n : Nat} {f : Nat → Value} (h : RowAt w g e cap n f) {m : Nat} (hm : m ≤ n) : RowAt w g e cap m f := by
  obtain ⟨cur, hg, hs, hn, hc⟩ := h
  exact ⟨cur, hg, hs, by omega, fun i hi => hc i (by omega)⟩

theorem RowAt.below {w w' : World} {B g : Nat} {e : TypeId} {cap n : Nat} {f : Nat → Value} (h : RowAt w g e cap n f) (hb : Below B w w') (hB : g < B) : RowAt w' g e cap n f := by
  obtain ⟨cur, hg, rest⟩ := h
  exact ⟨cur, (hb.block g hB).trans hg, rest⟩

theorem RowAt.all {w w' : World} {g : Nat} {e : TypeId} {cap n : Nat} {f : Nat → Value} (h : RowAt w g e cap n f) (hb : Below w.heap.size w w') : RowAt w' g e cap n f := h.below hb h.lt

theorem RowAt.alloc {w : World} {g : Nat} {e : TypeId} {cap n : Nat} {f : Nat → Value} (h : RowAt w g e cap n f) (o : Obj) : RowAt (w.alloc o) g e cap n f :=
  h.all ((Below.refl _ _).alloc (Nat.le_refl _) _)

theorem RowAt.drewN {w : World} {g : Nat} {e : TypeId} {cap n : Nat} {f : Nat → Value} (h : RowAt w g e cap n f) (k : Nat) : RowAt (w.drewN k) g e cap n f := by
  obtain ⟨cur, hg, rest⟩ := h
  exact ⟨cur, hg, rest⟩

theorem RowAt.set {w : World} {g : Nat} {e : TypeId} {cap n : Nat} {f : Nat → Value} (h : RowAt w g e cap n f) (i : Nat) (v : Value) :
    RowAt (w.setCell ⟨g, i, none⟩ v) g e cap n (fun j => if j = i then v else f j) := by
  obtain ⟨cur, hg, hs, hn, hc⟩ := h
  refine ⟨cur.setIfInBounds i v, ?_, by simpa using hs, hn, fun j hj => ?_⟩
  · simp only [World.setCell, Array.getElem?_modify, hg]; simp
  · by_cases hji : j = i
    · subst hji; simp [Array.getElem?_setIfInBounds]; omega
    · simp only [if_neg hji]; rw [Array.getElem?_setIfInBounds_ne (by omega)]; exact hc j hj

theorem RowAt.setOther {w : World} {g : Nat} {e : TypeId} {cap n : Nat} {f : Nat → Value} (h : RowAt w g e cap n f) (a : Addr) (v : Value) (ha : a.block ≠ g) : RowAt (w.setCell a v) g e cap n f := by
  obtain ⟨cur, hg, rest⟩ := h
  exact ⟨cur, (Below.heap_setCell w a v g (fun e => ha e.symm)).trans hg, rest⟩

theorem RowAt.new (w : World) (cur : Array Value) (e : TypeId) (f : Nat → Value) (n : Nat) (hn : n ≤ cur.size) (hc : ∀ i, i < n → cur[i]? = some (f i)) :
    RowAt (w.alloc (.cells cur e)) w.heap.size e cur.size n f :=
  ⟨cur, heap_alloc_new w _, rfl, hn, hc⟩

/-- From the law on append: what is owned is such a row. -/
theorem rowAt_of_owns {w : World} {B : Nat} {e : TypeId} {g n cap : Nat} {xs : List Value} {f : Nat → Value} (h : w.ownsRow B e 1 (.slice (some ⟨g, 0, none⟩) n cap) n xs) (hf : ∀ i, i < n → xs[i]? = some (f i)) :
    RowAt w g e cap n f ∧ cap ≤ maxLen := by
  rcases h.2 with ⟨h0, _⟩ | ⟨g', cap', cur, hv, hb, hg, hn, hm, hs, ht⟩
  · cases h0
  · simp only [Value.slice.injEq, Option.some.injEq, Addr.mk.injEq, and_true, true_and] at hv
    obtain ⟨rfl, rfl⟩ := hv
    refine ⟨⟨cur, hg, by omega, hn, fun i hi => ?_⟩, hm⟩
    rw [← hf i hi, ← ht, List.getElem?_take, if_pos (by omega), Array.getElem?_toList]

theorem owns_of_rowAt {w : World} {B : Nat} {e : TypeId} {g n cap : Nat} {f : Nat → Value} (h : RowAt w g e cap n f) (hB : B ≤ g) (hm : cap ≤ maxLen) :
    w.ownsRow B e 1 (.slice (some ⟨g, 0, none⟩) n cap) n ((List.range n).map f) := by
  obtain ⟨cur, hg, hs, hn, hc⟩ := h
  refine ⟨by simp, .inr ⟨g, cap, cur, rfl, hB, hg, hn, hm, by omega, ?_⟩⟩
  refine List.ext_getElem? fun i => ?_
  rw [List.getElem?_take]
  by_cases hi : i < n
  · rw [if_pos (by omega), Array.getElem?_toList, hc i hi]; simp [hi]
  · rw [if_neg (by omega)]; exact (List.getElem?_eq_none (by simp; omega)).symm

/-- A boolean search: is p true of one of 0 .. n-1? -/
def anyB (p : Nat → Bool) : Nat → Bool
  | 0 => false
  | n + 1 => anyB p n || p n

theorem anyB_true {p : Nat → Bool} {n : Nat} : anyB p n = true ↔ ∃ i, i < n ∧ p i = true := by
  induction n with
  | zero => simp [anyB]
  | succ n ih =>
    simp only [anyB, Bool.or_eq_true, ih]
    constructor
    · rintro (⟨i, h1, h2⟩ | h)
      · exact ⟨i, by omega, h2⟩
      · exact ⟨n, by omega, h⟩
    · rintro ⟨i, h1, h2⟩
      by_cases hi : i = n
      · subst hi; exact .inr h2
      · exact .inl ⟨i, by omega, h2⟩

theorem anyB_false {p : Nat → Bool} {n : Nat} : anyB p n = false ↔ ∀ i, i < n → p i = false := by
  rw [← Bool.not_eq_true, anyB_true]
  constructor
  · intro h i hi; rw [← Bool.not_eq_true]; exact fun hp => h ⟨i, hi, hp⟩
  · rintro h ⟨i, hi, hp⟩; rw [h i hi] at hp; cases hp

/-- The walk stands still at a goal behind this name. -/
def Hold (p : Prop) : Prop := p
theorem Hold.stop {p : Prop} (h : Hold p) : p := h
theorem Hold.go {p : Prop} (h : p) : Hold p := h

/-- The byte of a number. -/
def byteV (n : Int) : Value := .int .u8 n
def intV (n : Int) : Value := .int .i64 n

end Go.Proofs.Ytjhcaedfknhilaa

namespace Go.Proofs.Ytjhcaedfknhilaa
set_option linter.unusedVariables false
set_option linter.unusedSimpArgs false
open Go.RowKit

section
variable {P : Program} {ops : Array Oper} {rest : List Oper} {o : Oper} {a : Act} {w w' : World} {Q : Exit → Act → World → Prop} {v : Value}

theorem wpList_val (hg : o.guard = none) (hrun : (execOp a.eval o).run P w = .ok (.value v) w') (h : wpList P ops Q rest (a.put o.dst v) w') : wpList P ops Q (o :: rest) a w :=
  wpList_plain hg fun K hK => by
    unfold Oper.wp
    rw [hrun]
    exact hK _ _ h

theorem wpListIn_val {F : Fence} {n : Nat} (hg : o.guard = none) (ha : ∀ f, o.about P w a.eval = some f → F.fn f) (hd : ∀ c, o.op ≠ .defer c) (hrun : (execOp a.eval o).run P w = .ok (.value v) w')
    (h : wpListIn F n P ops Q rest (a.put o.dst v) w') : wpListIn F n P ops Q (o :: rest) a w :=
  wpListIn_plain hg fun K hK => by
    unfold Oper.wpIn
    refine ⟨ha, ?_⟩
    rw [Oper.semAt_plain F _ _ hd, hrun]
    exact hK _ _ h
end

/-- nil, or a slice that lies in a row of the call's own, from block B on. -/
def Own (w : World) (B : Nat) (e : TypeId) (v : Value) (n : Nat) (f : Nat → Value) : Prop :=
  (v = .slice none 0 0 ∧ n = 0) ∨ ∃ g cap, v = .slice (some ⟨g, 0, none⟩) n cap ∧ B ≤ g ∧ RowAt w g e cap n f ∧ cap ≤ maxLen

theorem Own.nil (w : World) (B : Nat) (e : TypeId) (f : Nat → Value) : Own w B e (.slice none 0 0) 0 f := .inl ⟨rfl, rfl⟩

theorem Own.row {w : World} {B : Nat} {e : TypeId} {v : Value} {n : Nat} {f : Nat → Value} (h : Own w B e v n f) (hn : 0 < n) :
    ∃ g cap, v = .slice (some ⟨g, 0, none⟩) n cap ∧ B ≤ g ∧ RowAt w g e cap n f ∧ cap ≤ maxLen := by
  rcases h with ⟨_, h⟩ | h
  · omega
  · exact h

theorem Own.mono {w : World} {B B' : Nat} {e : TypeId} {v : Value} {n : Nat} {f : Nat → Value} (h : Own w B e v n f) (hB : B' ≤ B) : Own w B' e v n f := by
  rcases h with h | ⟨g, cap, hv, hb, rest⟩
  · exact .inl h
  · exact .inr ⟨g, cap, hv, by omega, rest⟩

theorem Own.congr {w : World} {B : Nat} {e : TypeId} {v : Value} {n : Nat} {f f' : Nat → Value} (h : Own w B e v n f) (hf : ∀ i, i < n → f i = f' i) : Own w B e v n f' := by
  rcases h with h | ⟨g, cap, hv, hb, hr, hm⟩
  · exact .inl h
  · exact .inr ⟨g, cap, hv, hb, hr.congr hf, hm⟩

theorem Own.all {w w' : World} {B : Nat} {e : TypeId} {v : Value} {n : Nat} {f : Nat → Value} (h : Own w B e v n f) (hb : Below w.heap.size w w') : Own w' B e v n f := by
  rcases h with h | ⟨g, cap, hv, hB, hr, hm⟩
  · exact .inl h
  · exact .inr ⟨g, cap, hv, hB, hr.all hb, hm⟩

theorem Own.owns {w : World} {B : Nat} {e : TypeId} {v : Value} {n : Nat} {f : Nat → Value} (h : Own w B e v n f) : w.ownsRow B e 1 v n ((List.range n).map f) := by
  rcases h with ⟨rfl, rfl⟩ | ⟨g, cap, rfl, hB, hr, hm⟩
  · exact World.ownsRow_nil w B e 1
  · exact owns_of_rowAt hr hB hm

theorem own_of_owns {w : World} {B : Nat} {e : TypeId} {v : Value} {n : Nat} {xs : List Value} {f : Nat → Value} (h : w.ownsRow B e 1 v n xs) (hf : ∀ i, i < n → xs[i]? = some (f i)) : Own w B e v n f := by
  have h' := h
  rcases h.2 with ⟨rfl, rfl⟩ | ⟨g, cap, cur, rfl, hB, _⟩
  · exact .inl ⟨rfl, rfl⟩
  · obtain ⟨hr, hm⟩ := rowAt_of_owns h' hf
    exact .inr ⟨g, cap, rfl, hB, hr, hm⟩

/-- append of m cells that a slice reads, to a slice of the call's own. -/
theorem append_o {P : Program} {w : World} {o : Oper} {a : Act} (s x : Operand) (t e : TypeId) (z : Value) (bytes : Nat)
    (hop : o.op = .call { callee := .builtin .append, args := #[s, x], argTypes := #[t, t] }) (ht : P.underlying t = some (.slice e))
    (hinfo : (P.info? e).map (fun i => (i.zero, i.size, i.bytes)) = some (some z, 1, bytes)) (hz : z.cells.size = 1)
    (B : Nat) (v : Value) (n : Nat) (f : Nat → Value) (hs : a.eval s = v) (hown : Own w B e v n f)
    (b off m c : Nat) (h : Nat → Value) (hx : a.eval x = .slice (some ⟨b, off, none⟩) m c) (hc : Cells w b off m h) (h1 : ∀ i, i < m → (h i).oneCell' = true)
    (hm : n + m ≤ 1000000000) (hby : bytes ≤ 1000) (hB : B ≤ w.heap.size) :
    ∃ v' w', (execOp a.eval o).run P w = .ok (.value v') w' ∧ Own w' B e v' (n + m) (fun i => if i < n then f i else h (i - n)) ∧ w.grownBy w' v.ownBlock ∧
      (v'.ownBlock = v.ownBlock ∨ v'.ownBlock = some w.heap.size) ∧ (v' = .slice none 0 0 ↔ v = .slice none 0 0 ∧ m = 0) := by
  obtain ⟨i0, hi, hz0, hz1, hz2⟩ := info_parts hinfo
  have hbytes : (n + m) * bytes ≤ 140737488355328 := by
    have h1 : (n + m) * bytes ≤ 1000000000 * 1000 := Nat.mul_le_mul hm hby
    omega
  obtain ⟨v', w', hr, h2, h3, h4, h5⟩ := run_append_own_at (P := P) w B t o.type e i0 z 1 bytes ht hi hz0 hz1 hz2 hz (by decide) v n _ hown.owns ⟨b, off, none⟩ m c ((List.range m).map h) (by simp)
    (fun j u hj => by
      have hjm : j < m := by
        rcases Nat.lt_or_ge j m with h | h
        · exact h
        · rw [List.getElem?_eq_none (by simpa using h)] at hj; cases hj
      have hadd : (⟨b, off, none⟩ : Addr).add j = ⟨b, off + j, none⟩ := by unfold Addr.add; split <;> simp_all
      rw [hadd, hc j hjm, ← hj]; simp [hjm])
    (fun u hu => by
      obtain ⟨i, hi, rfl⟩ := List.mem_map.1 hu
      exact h1 i (by simpa using hi)) (by simp only [maxLen]; omega) hbytes hB
  refine ⟨v', w', ?_, own_of_owns h2 (fun i hi => ?_), h3, h5, h4⟩
  · unfold execOp
    simp only [hop, resolve, invoke, builtin, Sem.run_bind, Sem.run_pure, Result.andThen_ok, List.map_toArray, List.map_cons, List.map_nil, hs, hx, hr]
  · rw [List.getElem?_append]
    simp only [List.length_map, List.length_range]
    by_cases hin : i < n
    · simp [hin]
    · simp only [if_neg hin]
      rw [List.getElem?_map, List.getElem?_range (by omega)]; rfl

/-- What is behind a write into block g: all other blocks are as they were. -/
def Wrote (w w' : World) (g : Nat) : Prop := w.grownBy w' (some g) ∧ w'.heap.size = w.heap.size

theorem Wrote.below {w0 w w' : World} {B g : Nat} (h : Wrote w w' g) (hb : Below B w0 w) (hB : B ≤ w.heap.size) (hg : B ≤ g) : Below B w0 w' :=
  hb.grown h.1 hB (fun k hk => by cases hk; exact hg)

theorem Wrote.block {w w' : World} {g : Nat} (h : Wrote w w' g) {k : Nat} (hk : k ≠ g) : w'.heap[k]? = w.heap[k]? := by
  rcases Nat.lt_or_ge k w.heap.size with hl | hl
  · exact h.1.block k hl (fun e => hk (by cases e; rfl))
  · rw [Array.getElem?_eq_none hl, Array.getElem?_eq_none (by rw [h.2]; exact hl)]

theorem RowAt.wrote {w w' : World} {g g' : Nat} {e : TypeId} {cap n : Nat} {f : Nat → Value} (h : RowAt w g e cap n f) (hw : Wrote w w' g') (hne : g ≠ g') : RowAt w' g e cap n f := by
  obtain ⟨cur, hg, rest⟩ := h
  exact ⟨cur, (hw.block hne).trans hg, rest⟩

theorem Cells.wrote {w w' : World} {b o n g : Nat} {f : Nat → Value} (h : Cells w b o n f) (hw : Wrote w w' g) (hne : b ≠ g) : Cells w' b o n f :=
  fun i hi => (World.cell?_of_block (a := ⟨b, o + i, none⟩) (hw.block hne)).trans (h i hi)

theorem wrote_setRow (w : World) (g : Nat) (cs : Array Value) : Wrote w (w.setRow g cs) g :=
  ⟨⟨rfl, rfl, rfl, by simp, fun k _ hk => setRow_other w g k cs (fun e => hk (by rw [e]))⟩, by simp⟩

theorem wrote_setCell (w : World) (a : Addr) (v : Value) : Wrote w (w.setCell a v) a.block :=
  ⟨⟨rfl, rfl, rfl, by simp [World.setCell], fun k _ hk => Below.heap_setCell w a v k (fun e => hk (by rw [e]))⟩, by simp [World.setCell]⟩

theorem Wrote.trans {w1 w2 w3 : World} {g : Nat} (h : Wrote w1 w2 g) (h' : Wrote w2 w3 g) : Wrote w1 w3 g :=
  ⟨⟨h'.1.os.trans h.1.os, h'.1.tape.trans h.1.tape, h'.1.output.trans h.1.output, Nat.le_trans h.1.size h'.1.size, fun k hk hne => (h'.1.block k (by rw [h.2]; exact hk) hne).trans (h.1.block k hk hne)⟩, h'.2.trans h.2⟩

theorem RowAt.setRow {w : World} {g : Nat} {e : TypeId} {cap n : Nat} {f : Nat → Value} (h : RowAt w g e cap n f) (cs : List Value) (off : Nat) (hoff : off + cs.length ≤ n) (cur : Array Value) (hg : w.heap[g]? = some (.cells cur e (0, 0))) :
    RowAt (w.setRow g (cur.toList.take off ++ cs ++ cur.toList.drop (off + cs.length)).toArray) g e cap n (fun i => if off ≤ i ∧ i < off + cs.length then cs.getD (i - off) (.bool false) else f i) := by
  obtain ⟨cur', hg', hs, hn, hc⟩ := h
  rw [hg] at hg'; simp only [Option.some.injEq, Obj.cells.injEq, and_true] at hg'
  subst hg'
  refine ⟨_, setRow_heap w g cur _ e _ hg, ?_, hn, fun i hi => ?_⟩
  · simp only [List.size_toArray, List.length_append, List.length_take, List.length_drop, Array.length_toList]; omega
  · simp only [List.getElem?_toArray]
    rw [List.getElem?_append]
    simp only [List.length_append, List.length_take, Array.length_toList]
    have hmin : min off cur.size = off := by omega
    rw [hmin]
    by_cases h1 : i < off + cs.length
    · rw [if_pos h1, List.getElem?_append]
      simp only [List.length_take, Array.length_toList, hmin]
      by_cases h2 : i < off
      · rw [if_pos h2, if_neg (by omega), List.getElem?_take, if_pos h2, Array.getElem?_toList]; exact hc i hi
      · rw [if_neg h2, if_pos (by omega), List.getD_eq_getElem?_getD, List.getElem?_eq_getElem (by omega)]; rfl
    · rw [if_neg h1, if_neg (by omega), List.getElem?_drop, Array.getElem?_toList]
      rw [show off + cs.length + (i - (off + cs.length)) = i from by omega]; exact hc i hi

/-- copy into a row of the call's own. -/
theorem copy_o {P : Program} {w : World} {o : Oper} {a : Act} (d s : Operand) (dT sT e : TypeId)
    (hop : o.op = .call { callee := .builtin .copy, args := #[d, s], argTypes := #[dT, sT] }) (ht : P.underlying dT = some (.slice e)) (hsz : (P.info? e).map (·.size) = some 1)
    (g off dLen dCap cap n : Nat) (f : Nat → Value) (hd : a.eval d = .slice (some ⟨g, off, none⟩) dLen dCap) (hrow : RowAt w g e cap n f)
    (b so sLen sCap : Nat) (h : Nat → Value) (hs : a.eval s = .slice (some ⟨b, so, none⟩) sLen sCap) (hc : Cells w b so sLen h) (h1 : ∀ i, i < sLen → (h i).oneCell' = true)
    (k : Nat) (hk : k = Nat.min sLen dLen) (hfit : off + k ≤ n) :
    ∃ w', (execOp a.eval o).run P w = .ok (.value (.int .i64 k)) w' ∧ RowAt w' g e cap n (fun i => if off ≤ i ∧ i < off + k then h (i - off) else f i) ∧ Wrote w w' g := by
  have hrow' := hrow
  obtain ⟨cur, hg, hsz', hn, _⟩ := hrow
  have hlen : ((List.range k).map h).length = k := by simp
  have hkl : k ≤ sLen := by rw [hk]; exact Nat.min_le_left _ _
  have hrun := run_copy_row (P := P) w dT sT o.type e g off dLen dCap ⟨b, so, none⟩ sLen sCap cur e ((List.range k).map h) ht hsz hg (by rw [hlen, hk])
    (fun j u hj => by
      have hjm : j < k := by
        rcases Nat.lt_or_ge j k with h | h
        · exact h
        · rw [List.getElem?_eq_none (by simpa using h)] at hj; cases hj
      have hadd : (⟨b, so, none⟩ : Addr).add j = ⟨b, so + j, none⟩ := by unfold Addr.add; split <;> simp_all
      rw [hadd, hc j (by omega), ← hj]; simp [hjm])
    (by rw [hlen]; omega)
    (fun u hu => by
      obtain ⟨i, hi, rfl⟩ := List.mem_map.1 hu
      exact h1 i (by have : i < k := by simpa using hi
                     omega))
  rw [hlen] at hrun
  refine ⟨w.setRow g (cur.toList.take off ++ (List.range k).map h ++ cur.toList.drop (off + k)).toArray, ?_, ?_, wrote_setRow w g _⟩
  rotate_left 1
  · have := hrow'.setRow ((List.range k).map h) off (by rw [hlen]; omega) cur hg
    rw [hlen] at this
    exact this.congr fun i hi => by
      by_cases hin : off ≤ i ∧ i < off + k
      · rw [if_pos hin, if_pos hin, List.getD_eq_getElem?_getD, List.getElem?_map, List.getElem?_range (by omega)]; rfl
      · rw [if_neg hin, if_neg hin]
  · unfold execOp
    simp only [hop, resolve, invoke, builtin, Sem.run_bind, Sem.run_pure, Result.andThen_ok, List.map_toArray, List.map_cons, List.map_nil, hd, hs, hrun]
    rfl

theorem setCells_one (w : World) (b o : Nat) (v : Value) (rest : List Value) : w.setCells b o (v :: rest) = (w.setCell ⟨b, o, none⟩ v).setCells b (o + 1) rest := rfl

theorem RowAt.setCells {g : Nat} {e : TypeId} {cap n : Nat} (vs : List Value) : ∀ {w : World} {f : Nat → Value} (off : Nat), RowAt w g e cap n f →
    RowAt (w.setCells g off vs) g e cap n (fun i => if off ≤ i ∧ i < off + vs.length then vs.getD (i - off) (.bool false) else f i) ∧ Wrote w (w.setCells g off vs) g := by
  induction vs with
  | nil =>
    intro w f off h
    refine ⟨h.congr fun i hi => ?_, ⟨rfl, rfl, rfl, Nat.le_refl _, fun _ _ _ => rfl⟩, rfl⟩
    rw [if_neg (by simp only [List.length_nil]; omega)]
  | cons v vs ih =>
    intro w f off h
    rw [setCells_one]
    obtain ⟨h2, h3⟩ := ih (off + 1) (h.set off v)
    refine ⟨h2.congr fun i hi => ?_, (wrote_setCell w ⟨g, off, none⟩ v).trans h3⟩
    by_cases h4 : i = off
    · subst h4; rw [if_neg (by omega)]; simp
    · by_cases h5 : off + 1 ≤ i ∧ i < off + 1 + vs.length
      · rw [if_pos h5, if_pos ⟨by omega, by simp only [List.length_cons]; omega⟩, show i - off = (i - (off + 1)) + 1 from by omega]; rfl
      · rw [if_neg h5, if_neg h4, if_neg (by simp only [List.length_cons]; omega)]

/-- clear of a slice of the call's own row. -/
theorem clear_o {P : Program} {w : World} {o : Oper} {a : Act} (s : Operand) (t e : TypeId) (z : Value)
    (hop : o.op = .call { callee := .builtin .clear, args := #[s], argTypes := #[t] }) (ht : P.underlying t = some (.slice e)) (hv : ∀ w, (zeroValue e).run P w = .ok z w) (hz : z.cells = #[z]) (h1 : z.oneCell' = true)
    (g off m c cap n : Nat) (f : Nat → Value) (hs : a.eval s = .slice (some ⟨g, off, none⟩) m c) (hm : 0 < m) (hrow : RowAt w g e cap n f) (hfit : off + m ≤ n) :
    ∃ w', (execOp a.eval o).run P w = .ok (.value (.tuple #[])) w' ∧ RowAt w' g e cap n (fun i => if off ≤ i ∧ i < off + m then z else f i) ∧ Wrote w w' g := by
  have hrun := Lib.run_clear_slice (P := P) w t e o.type z ht hv hz h1 g off m c hm (fun j hj => by rw [hrow.cell (i := off + j) (by omega)]; rfl) (fun j hj => hrow.frozen _)
  obtain ⟨h2, h3⟩ := RowAt.setCells (List.replicate m z) off hrow
  refine ⟨_, ?_, ?_, h3⟩
  rotate_left 1
  · exact h2.congr fun i hi => by
      simp only [List.length_replicate]
      by_cases hin : off ≤ i ∧ i < off + m
      · rw [if_pos hin, if_pos hin, List.getD_eq_getElem?_getD, List.getElem?_replicate, if_pos (by omega)]; rfl
      · rw [if_neg hin, if_neg hin]
  · unfold execOp
    simp only [hop, resolve, invoke, builtin, Sem.run_bind, Sem.run_pure, Result.andThen_ok, List.map_toArray, List.map_cons, List.map_nil, hs, hrun]

/-- string(b) of bytes. -/
def strF (n : Nat) (f : Nat → Int) : ByteArray := strOfNums ((List.range n).map f)

theorem strF_congr {n : Nat} {f g : Nat → Int} (h : ∀ i, i < n → f i = g i) : strF n f = strF n g := by
  unfold strF
  congr 1
  exact List.map_congr_left fun i hi => h i (by simpa using hi)

theorem strF_inj {n m : Nat} {f g : Nat → Int} (hf : ∀ i, i < n → 0 ≤ f i ∧ f i < 256) (hg : ∀ i, i < m → 0 ≤ g i ∧ g i < 256) (h : strF n f = strF m g) : n = m ∧ ∀ i, i < n → f i = g i := by
  have hs : n = m := by
    have := congrArg ByteArray.size h
    simpa [strF, strOfNums_size] using this
  subst hs
  refine ⟨rfl, fun i hi => ?_⟩
  have hd := congrArg (fun b : ByteArray => b.data.toList[i]?) h
  simp only [strF, strOfNums_data, List.getElem?_map, List.getElem?_range hi, Option.map_some, Option.some.injEq] at hd
  have h1 := congrArg UInt8.toNat hd
  have ha := hf i hi
  have hb := hg i hi
  rw [UInt8.toNat_ofNat', UInt8.toNat_ofNat'] at h1
  omega

theorem convert_cells {P : Program} (src e dst : TypeId) (hs : P.underlying src = some (.slice e)) (he : P.underlying e = some (.int .u8)) (hd : P.underlying dst = some .string) (b off n cap : Nat) (f : Nat → Int) (w : World)
    (hc : Cells w b off n (fun i => .int .u8 (f i))) : (convert src dst (.slice (some ⟨b, off, none⟩) n cap)).run P w = .ok (.string (strF n f)) w :=
  run_convert_bytes_arg (P := P) w src e hs he b off n cap ((List.range n).map f) (by simp) (fun i hi => by rw [hc i hi, List.getD_eq_getElem?_getD, List.getElem?_map, List.getElem?_range hi]; rfl) dst hd

theorem wpList_append_o {P : Program} {ops : Array Oper} {rest : List Oper} {o : Oper} {a : Act} {w : World} {Q : Exit → Act → World → Prop} (hg : o.guard = none) (s x : Operand) (t e : TypeId) (z : Value) (bytes : Nat)
    (hop : o.op = .call { callee := .builtin .append, args := #[s, x], argTypes := #[t, t] }) (ht : P.underlying t = some (.slice e))
    (hinfo : (P.info? e).map (fun i => (i.zero, i.size, i.bytes)) = some (some z, 1, bytes)) (hz : z.cells.size = 1)
    (B : Nat) (v : Value) (n : Nat) (f : Nat → Value) (hs : a.eval s = v) (hown : Own w B e v n f)
    (b off m c : Nat) (h : Nat → Value) (hx : a.eval x = .slice (some ⟨b, off, none⟩) m c) (hc : Cells w b off m h) (h1 : ∀ i, i < m → (h i).oneCell' = true)
    (hm : n + m ≤ 1000000000) (hby : bytes ≤ 1000) (hB : B ≤ w.heap.size)
    (hK : ∀ v' w', Own w' B e v' (n + m) (fun i => if i < n then f i else h (i - n)) → w.grownBy w' v.ownBlock → (v'.ownBlock = v.ownBlock ∨ v'.ownBlock = some w.heap.size) → (v' = .slice none 0 0 ↔ v = .slice none 0 0 ∧ m = 0) →
      wpList P ops Q rest (a.put o.dst v') w') : wpList P ops Q (o :: rest) a w := by
  obtain ⟨v', w', hr, h2, h3, h4, h5⟩ := append_o s x t e z bytes hop ht hinfo hz B v n f hs hown b off m c h hx hc h1 hm hby hB
  exact wpList_val hg hr (hK v' w' h2 h3 h4 h5)

theorem wpList_copy_o {P : Program} {ops : Array Oper} {rest : List Oper} {o : Oper} {a : Act} {w : World} {Q : Exit → Act → World → Prop} (hg : o.guard = none) (d s : Operand) (dT sT e : TypeId)
    (hop : o.op = .call { callee := .builtin .copy, args := #[d, s], argTypes := #[dT, sT] }) (ht : P.underlying dT = some (.slice e)) (hsz : (P.info? e).map (·.size) = some 1)
    (g off dLen dCap cap n : Nat) (f : Nat → Value) (hd : a.eval d = .slice (some ⟨g, off, none⟩) dLen dCap) (hrow : RowAt w g e cap n f)
    (b so sLen sCap : Nat) (h : Nat → Value) (hs : a.eval s = .slice (some ⟨b, so, none⟩) sLen sCap) (hc : Cells w b so sLen h) (h1 : ∀ i, i < sLen → (h i).oneCell' = true)
    (k : Nat) (hk : k = Nat.min sLen dLen) (hfit : off + k ≤ n)
    (hK : ∀ w', RowAt w' g e cap n (fun i => if off ≤ i ∧ i < off + k then h (i - off) else f i) → Wrote w w' g → wpList P ops Q rest (a.put o.dst (.int .i64 k)) w') : wpList P ops Q (o :: rest) a w := by
  obtain ⟨w', hr, h2, h3⟩ := copy_o d s dT sT e hop ht hsz g off dLen dCap cap n f hd hrow b so sLen sCap h hs hc h1 k hk hfit
  exact wpList_val hg hr (hK w' h2 h3)

theorem wpList_clear_o {P : Program} {ops : Array Oper} {rest : List Oper} {o : Oper} {a : Act} {w : World} {Q : Exit → Act → World → Prop} (hg : o.guard = none) (s : Operand) (t e : TypeId) (z : Value)
    (hop : o.op = .call { callee := .builtin .clear, args := #[s], argTypes := #[t] }) (ht : P.underlying t = some (.slice e)) (hv : ∀ w, (zeroValue e).run P w = .ok z w) (hz : z.cells = #[z]) (h1 : z.oneCell' = true)
    (g off m c cap n : Nat) (f : Nat → Value) (hs : a.eval s = .slice (some ⟨g, off, none⟩) m c) (hm : 0 < m) (hrow : RowAt w g e cap n f) (hfit : off + m ≤ n)
    (hK : ∀ w', RowAt w' g e cap n (fun i => if off ≤ i ∧ i < off + m then z else f i) → Wrote w w' g → wpList P ops Q rest (a.put o.dst (.tuple #[])) w') : wpList P ops Q (o :: rest) a w := by
  obtain ⟨w', hr, h2, h3⟩ := clear_o s t e z hop ht hv hz h1 g off m c cap n f hs hm hrow hfit
  exact wpList_val hg hr (hK w' h2 h3)

theorem wpListIn_append_o {F : Fence} {N : Nat} {P : Program} {ops : Array Oper} {rest : List Oper} {o : Oper} {a : Act} {w : World} {Q : Exit → Act → World → Prop} (hg : o.guard = none) (s x : Operand) (t e : TypeId) (z : Value) (bytes : Nat)
    (hop : o.op = .call { callee := .builtin .append, args := #[s, x], argTypes := #[t, t] }) (ht : P.underlying t = some (.slice e))
    (hinfo : (P.info? e).map (fun i => (i.zero, i.size, i.bytes)) = some (some z, 1, bytes)) (hz : z.cells.size = 1)
    (B : Nat) (v : Value) (n : Nat) (f : Nat → Value) (hs : a.eval s = v) (hown : Own w B e v n f)
    (b off m c : Nat) (h : Nat → Value) (hx : a.eval x = .slice (some ⟨b, off, none⟩) m c) (hc : Cells w b off m h) (h1 : ∀ i, i < m → (h i).oneCell' = true)
    (hm : n + m ≤ 1000000000) (hby : bytes ≤ 1000) (hB : B ≤ w.heap.size)
    (hK : ∀ v' w', Own w' B e v' (n + m) (fun i => if i < n then f i else h (i - n)) → w.grownBy w' v.ownBlock → (v'.ownBlock = v.ownBlock ∨ v'.ownBlock = some w.heap.size) → (v' = .slice none 0 0 ↔ v = .slice none 0 0 ∧ m = 0) →
      wpListIn F N P ops Q rest (a.put o.dst v') w') : wpListIn F N P ops Q (o :: rest) a w := by
  obtain ⟨v', w', hr, h2, h3, h4, h5⟩ := append_o s x t e z bytes hop ht hinfo hz B v n f hs hown b off m c h hx hc h1 hm hby hB
  exact wpListIn_val hg (by simp [Oper.about, hop, resolve, Target.leads, Sem.run_pure]) (by rw [hop]; intro c hc'; cases hc') hr (hK v' w' h2 h3 h4 h5)

theorem wpListIn_copy_o {F : Fence} {N : Nat} {P : Program} {ops : Array Oper} {rest : List Oper} {o : Oper} {a : Act} {w : World} {Q : Exit → Act → World → Prop} (hg : o.guard = none) (d s : Operand) (dT sT e : TypeId)
    (hop : o.op = .call { callee := .builtin .copy, args := #[d, s], argTypes := #[dT, sT] }) (ht : P.underlying dT = some (.slice e)) (hsz : (P.info? e).map (·.size) = some 1)
    (g off dLen dCap cap n : Nat) (f : Nat → Value) (hd : a.eval d = .slice (some ⟨g, off, none⟩) dLen dCap) (hrow : RowAt w g e cap n f)
    (b so sLen sCap : Nat) (h : Nat → Value) (hs : a.eval s = .slice (some ⟨b, so, none⟩) sLen sCap) (hc : Cells w b so sLen h) (h1 : ∀ i, i < sLen → (h i).oneCell' = true)
    (k : Nat) (hk : k = Nat.min sLen dLen) (hfit : off + k ≤ n)
    (hK : ∀ w', RowAt w' g e cap n (fun i => if off ≤ i ∧ i < off + k then h (i - off) else f i) → Wrote w w' g → wpListIn F N P ops Q rest (a.put o.dst (.int .i64 k)) w') : wpListIn F N P ops Q (o :: rest) a w := by
  obtain ⟨w', hr, h2, h3⟩ := copy_o d s dT sT e hop ht hsz g off dLen dCap cap n f hd hrow b so sLen sCap h hs hc h1 k hk hfit
  exact wpListIn_val hg (by simp [Oper.about, hop, resolve, Target.leads, Sem.run_pure]) (by rw [hop]; intro c hc'; cases hc') hr (hK w' h2 h3)

theorem wpListIn_clear_o {F : Fence} {N : Nat} {P : Program} {ops : Array Oper} {rest : List Oper} {o : Oper} {a : Act} {w : World} {Q : Exit → Act → World → Prop} (hg : o.guard = none) (s : Operand) (t e : TypeId) (z : Value)
    (hop : o.op = .call { callee := .builtin .clear, args := #[s], argTypes := #[t] }) (ht : P.underlying t = some (.slice e)) (hv : ∀ w, (zeroValue e).run P w = .ok z w) (hz : z.cells = #[z]) (h1 : z.oneCell' = true)
    (g off m c cap n : Nat) (f : Nat → Value) (hs : a.eval s = .slice (some ⟨g, off, none⟩) m c) (hm : 0 < m) (hrow : RowAt w g e cap n f) (hfit : off + m ≤ n)
    (hK : ∀ w', RowAt w' g e cap n (fun i => if off ≤ i ∧ i < off + m then z else f i) → Wrote w w' g → wpListIn F N P ops Q rest (a.put o.dst (.tuple #[])) w') : wpListIn F N P ops Q (o :: rest) a w := by
  obtain ⟨w', hr, h2, h3⟩ := clear_o s t e z hop ht hv hz h1 g off m c cap n f hs hm hrow hfit
  exact wpListIn_val hg (by simp [Oper.about, hop, resolve, Target.leads, Sem.run_pure]) (by rw [hop]; intro c hc'; cases hc') hr (hK w' h2 h3)

section stops
variable {F : Fence} {N : Nat} {P : Program} {ops : Array Oper} {rest : List Oper} {a : Act} {w : World} {Q : Exit → Act → World → Prop} {dst : Option Tmp} {ty : TypeId} {pos : String} {after : Array Edge} {g : Option (Nat × Bool)} {xs : Array Operand} {ts : Array TypeId}
/-- The walk stops ahead of a call of the builtin b: 'go_wp2_with (with_reducible refine stopB .copy ?_)'. -/
theorem stopB (b : Builtin) (h : Hold (wpList P ops Q (⟨dst, .call { callee := .builtin b, args := xs, argTypes := ts }, ty, pos, after, g⟩ :: rest) a w)) : wpList P ops Q (⟨dst, .call { callee := .builtin b, args := xs, argTypes := ts }, ty, pos, after, g⟩ :: rest) a w := h
theorem stopBIn (b : Builtin) (h : Hold (wpListIn F N P ops Q (⟨dst, .call { callee := .builtin b, args := xs, argTypes := ts }, ty, pos, after, g⟩ :: rest) a w)) : wpListIn F N P ops Q (⟨dst, .call { callee := .builtin b, args := xs, argTypes := ts }, ty, pos, after, g⟩ :: rest) a w := h
/-- The walk stops ahead of the operation whose result goes to temporary k. -/
theorem stopT {op : Op} (k : Nat) (h : Hold (wpList P ops Q (⟨some k, op, ty, pos, after, g⟩ :: rest) a w)) : wpList P ops Q (⟨some k, op, ty, pos, after, g⟩ :: rest) a w := h
theorem stopTIn {op : Op} (k : Nat) (h : Hold (wpListIn F N P ops Q (⟨some k, op, ty, pos, after, g⟩ :: rest) a w)) : wpListIn F N P ops Q (⟨some k, op, ty, pos, after, g⟩ :: rest) a w := h
end stops

end Go.Proofs.Ytjhcaedfknhilaa
