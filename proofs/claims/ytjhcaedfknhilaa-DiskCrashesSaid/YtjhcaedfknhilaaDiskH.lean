/- Disk: sectors as values: equal or not. -/
import Derived.Test.YtjhcaedfknhilaaDiskG
import Derived.ChangeKeysEq
import Derived.Laws.StructEq
import Derived.Deep.MidRow
namespace Go.Proofs.Ytjhcaedfknhilaa
open Go.RowKit

/-- The bytes of a sector, as cells. -/
def secL (f : Nat → Int) : List Value := (List.range 64).map fun j => .int .u8 (f j)
theorem secL_len (f : Nat → Int) : (secL f).length = 64 := by simp [secL]
theorem secL_get (f : Nat → Int) {j : Nat} (hj : j < 64) : (secL f)[j]? = some (.int .u8 (f j)) := by simp [secL, hj]

theorem under_sec : Try.prog.underlying 79 = some (.array 64 5) := by kernel_rfl
theorem under_u8 : Try.prog.underlying 5 = some (.int .u8) := by kernel_rfl
theorem info_ex : ∃ i, Try.prog.info? 5 = some i := by
  cases h : Try.prog.info? 5 with
  | none => have : (Try.prog.info? 5).isSome = true := by kernel_rfl
            rw [h] at this; cases this
  | some i => exact ⟨i, rfl⟩
theorem cells_u8 : Try.prog.cellsOf 5 = 1 := by kernel_rfl

theorem part_u8 (f : Nat → Int) {j : Nat} (hj : j < 64) (w : World) : (part 5 (secL f).toArray j).run Try.prog w = .ok (.int .u8 (f j)) w := by
  have h1 : ((secL f).toArray)[j]? = some (.int .u8 (f j)) := by rw [List.getElem?_toArray]; exact secL_get f hj
  simp [part, isAgg, run_underlying under_u8, h1]

theorem eqItems_sec (f g : Nat → Int) (w : World) : ∀ is : List Nat, (∀ i ∈ is, i < 64) → (Op.eqItems 9999 5 1 (secL f).toArray (secL g).toArray is).run Try.prog w = .ok (is.all fun i => f i == g i) w
  | [], _ => by simp [Op.eqItems]
  | i :: is, h => by
    have hi := h i (by simp)
    have ih := eqItems_sec f g w is (fun k hk => h k (by simp [hk]))
    have e := run_equalIn_int (P := Try.prog) w 9998 5 .u8 .u8 (f i) (g i) under_u8
    simp only [Op.eqItems, Sem.run_bind, Nat.mul_one, part_u8 f hi w, part_u8 g hi w, Result.andThen_ok, e]
    rcases hb : (f i == g i) with _ | _
    · simp [hb]
    · simp [hb, ih]

def sameS (f g : Nat → Int) : Bool := (List.range 64).all fun i => f i == g i
theorem equal_sec (f g : Nat → Int) (w : World) : (Op.equalIn 10000 79 (.agg (secL f).toArray) (.agg (secL g).toArray)).run Try.prog w = .ok (sameS f g) w := by
  obtain ⟨i, hi⟩ := info_ex
  rw [run_equalIn_array w 9999 _ _ under_sec hi, cells_u8]
  exact eqItems_sec f g w _ (fun k hk => List.mem_range.1 hk)
theorem sameS_iff {f g : Nat → Int} : sameS f g = true ↔ ∀ j, j < 64 → f j = g j := by
  unfold sameS
  rw [List.all_eq_true]
  constructor
  · intro h j hj; simpa using h j (List.mem_range.2 hj)
  · intro h j hj; simpa using h j (List.mem_range.1 hj)

end Go.Proofs.Ytjhcaedfknhilaa
