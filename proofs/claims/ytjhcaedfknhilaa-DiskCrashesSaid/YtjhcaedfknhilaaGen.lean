/- What every package's walks need: lists of numbers as arguments, small structs, numbers. -/
import Derived.Test.YtjhcaedfknhilaaRange
import Derived.Laws.MakeOwn
namespace Go.Proofs.Ytjhcaedfknhilaa
open Go.RowKit

theorem size_int : (Try.prog.info? 3).map (·.size) = some 1 := by kernel_rfl
theorem info_int : (Try.prog.info? 3).map (fun i => (i.zero, i.size, i.bytes)) = some (some (.int .i64 0), 1, 8) := by kernel_rfl
theorem info_bool : (Try.prog.info? 4).map (fun i => (i.zero, i.size, i.bytes)) = some (some (.bool false), 1, 1) := by kernel_rfl

theorem ret_i64 {a b : Int} (h : a = b) : Ending.returned (.int .i64 a) = .returned (.int .i64 b) := by rw [h]
theorem ret_bool {a b : Bool} (h : a = b) : Ending.returned (.bool a) = .returned (.bool b) := by rw [h]

def intsV (f : Nat → Int) (i : Nat) : Value := .int .i64 (f i)
theorem one_cell {cur : Array Value} {v : Value} (h : cur[0]? = some v) : ∀ i, i < 1 → cur[i]? = some ((fun _ => v) i) := fun i hi => by
  obtain rfl : i = 0 := by omega
  exact h
theorem RowAt.set1 {W : World} {g : Nat} {e : TypeId} {cap : Nat} {v : Value} (h : RowAt W g e cap 1 (fun _ => v)) (u : Value) : RowAt (W.setCell ⟨g, 0, none⟩ u) g e cap 1 (fun _ => u) :=
  (h.set 0 u).congr fun i hi => by
    obtain rfl : i = 0 := by omega
    rw [if_pos rfl]

theorem Own.wrote {w w' : World} {B g : Nat} {e : TypeId} {v : Value} {n : Nat} {f : Nat → Value} (h : Own w B e v n f) (hw : Wrote w w' g) (hg : g < B) : Own w' B e v n f := by
  rcases h with h | ⟨r, cap, rfl, hB, hrow, hm⟩
  · exact .inl h
  · exact .inr ⟨r, cap, rfl, hB, hrow.wrote hw (by omega), hm⟩

theorem make_o {P : Program} (t e : TypeId) (z : Value) (bytes : Nat) (ht : P.underlying t = some (.slice e)) (hinfo : (P.info? e).map (fun i => (i.zero, i.size, i.bytes)) = some (some z, 1, bytes)) (hz : z.cells = #[z])
    (hby : bytes ≤ 1000) (k : IntKind) (n : Nat) (hn : n ≤ 1000000) (w : World) :
    ∃ w1, (Instr.makeSlice t (.int k n) (.int k n)).run P w = .ok (.slice (some ⟨w.heap.size, 0, none⟩) n n) w1 ∧ RowAt w1 w.heap.size e n n (fun _ => z) ∧ Below w.heap.size w w1 ∧ w1.heap.size = w.heap.size + 1 := by
  obtain ⟨i, hi⟩ : ∃ i, P.info? e = some i := by
    cases h : P.info? e with
    | none => rw [h] at hinfo; cases hinfo
    | some i => exact ⟨i, rfl⟩
  rw [hi] at hinfo
  simp only [Option.map_some, Option.some.injEq, Prod.mk.injEq] at hinfo
  obtain ⟨hzero, hsize, hbytes⟩ := hinfo
  have hb2 : i.bytes * n ≤ 1000 * 1000000 := Nat.mul_le_mul (by omega) hn
  have hr := run_make (P := P) w t e i z ht hi hzero k k n n (by omega) (by omega) (by omega) (by omega)
  rw [hz, hsize, Nat.mul_one, Int.toNat_natCast] at hr
  refine ⟨_, hr, ?_, (Below.refl _ _).alloc (Nat.le_refl _) _, by simp⟩
  have := RowAt.new w (madeCells #[z] n) e (fun _ => z) n (by simp [size_madeCells]) (fun i hi => by simp [madeCells, hi, Nat.mod_one])
  simpa [size_madeCells] using this

theorem i64_of_wf {m : Int} (hm : (Lit.int .i64 m).wf = true) : -9223372036854775808 ≤ m ∧ m ≤ 9223372036854775807 := by
  simp [Lit.wf] at hm
  exact hm

theorem tmod_cases (m d : Int) (_ : 0 < d) : (0 ≤ m ∧ Int.tmod m d = m % d) ∨ (m < 0 ∧ Int.tmod m d = -((-m) % d)) := by
  by_cases h : 0 ≤ m
  · exact .inl ⟨h, Int.tmod_eq_emod_of_nonneg h⟩
  · refine .inr ⟨by omega, ?_⟩
    have := Int.neg_tmod (a := -m) (b := d)
    rw [Int.neg_neg] at this
    rw [this, Int.tmod_eq_emod_of_nonneg (by omega)]

/-- A list of numbers as an argument. -/
def IArg (w : World) (v : Value) (n : Nat) (f : Nat → Int) : Prop :=
  (n = 0 ∧ ∃ a cap, v = .slice a 0 cap) ∨ ∃ b off cap, v = .slice (some ⟨b, off, none⟩) n cap ∧ 0 < n ∧ n ≤ cap ∧ cap ≤ maxLen ∧ Cells w b off n (intsV f) ∧ ∀ i, i < n → -9223372036854775808 ≤ f i ∧ f i ≤ 9223372036854775807

theorem IArg.all {w w' : World} {v : Value} {n : Nat} {f : Nat → Int} (h : IArg w v n f) (hb : Below w.heap.size w w') : IArg w' v n f := by
  rcases h with h | ⟨b, off, cap, h1, h2, h3, h4, h5, h6⟩
  · exact .inl h
  · exact .inr ⟨b, off, cap, h1, h2, h3, h4, h5.all hb, h6⟩

theorem IArg.slice {w : World} {v : Value} {n : Nat} {f : Nat → Int} (h : IArg w v n f) : ∃ a cap, v = .slice a n cap := by
  rcases h with ⟨rfl, a, cap, rfl⟩ | ⟨b, off, cap, rfl, _⟩
  · exact ⟨_, _, rfl⟩
  · exact ⟨_, _, rfl⟩

/-- Two and three cells. -/
def st2 (a b : Value) (i : Nat) : Value := if i = 0 then a else b
def st3 (a b c : Value) (i : Nat) : Value := if i = 0 then a else if i = 1 then b else c
theorem row2 (w : World) (a b : Value) (e : TypeId) : RowAt (w.alloc (.cells #[a, b] e)) w.heap.size e 2 2 (st2 a b) :=
  RowAt.new w #[a, b] e (st2 a b) 2 (by simp) (fun i hi => by rcases i with _ | _ | i <;> first | rfl | omega)
theorem row3 (w : World) (a b c : Value) (e : TypeId) : RowAt (w.alloc (.cells #[a, b, c] e)) w.heap.size e 3 3 (st3 a b c) :=
  RowAt.new w #[a, b, c] e (st3 a b c) 3 (by simp) (fun i hi => by rcases i with _ | _ | _ | i <;> first | rfl | omega)

end Go.Proofs.Ytjhcaedfknhilaa
