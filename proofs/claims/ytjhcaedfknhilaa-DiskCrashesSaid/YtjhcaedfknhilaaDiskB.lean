/- Disk: rows of sectors; blank. -/
import Derived.Test.YtjhcaedfknhilaaDiskA
import Derived.Test.YtjhcaedfknhilaaGen
import Derived.Laws.MakeOwn
import Derived.Deep.Cut
import Derived.Deep.CutRange
import Derived.Deep.DrawnRows
import Derived.Deep.RegionHeld
namespace Go.Proofs.Ytjhcaedfknhilaa
open Go.RowKit
attribute [local go_sem ↓] Go.wp_at_zero Go.wp_at_succ

theorem info_sec : (Try.prog.info? 79).map (fun i => (i.zero.map (·.cells), i.size, i.bytes)) = some (some (Array.replicate 64 (.int .u8 0)), 64, 64) := by kernel_rfl
theorem info_boolD : (Try.prog.info? 4).map (fun i => (i.zero.map (·.cells), i.size, i.bytes)) = some (some (Array.replicate 1 (.bool false)), 1, 1) := by kernel_rfl

/-- make of n elements of k cells each, whose zero value is k times the same cell: for every world. -/
theorem make_k {P : Program} (t e : TypeId) (z : Value) (sz bytes : Nat) (ht : P.underlying t = some (.slice e)) (hinfo : (P.info? e).map (fun i => (i.zero.map (·.cells), i.size, i.bytes)) = some (some (Array.replicate sz z), sz, bytes)) (hs : 0 < sz)
    (hby : bytes ≤ 1000) (k : IntKind) (n : Nat) (hn : n ≤ 1000000) :
    ∃ cur : Array Value, cur.size = n * sz ∧ (∀ i, i < n * sz → cur[i]? = some z) ∧ ∀ w : World, (Instr.makeSlice t (.int k n) (.int k n)).run P w = .ok (.slice (some ⟨w.heap.size, 0, none⟩) n n) (w.alloc (.cells cur e)) := by
  obtain ⟨i, hi⟩ : ∃ i, P.info? e = some i := by
    cases h : P.info? e with
    | none => rw [h] at hinfo; cases hinfo
    | some i => exact ⟨i, rfl⟩
  rw [hi] at hinfo
  simp only [Option.map_some, Option.some.injEq, Prod.mk.injEq] at hinfo
  obtain ⟨hzero, hsize, hbytes⟩ := hinfo
  obtain ⟨zv, hzv, hcells⟩ : ∃ zv, i.zero = some zv ∧ zv.cells = Array.replicate sz z := by
    cases h : i.zero with
    | none => rw [h] at hzero; cases hzero
    | some zv => rw [h] at hzero; exact ⟨zv, rfl, by simpa using hzero⟩
  have hb2 : i.bytes * n ≤ 1000 * 1000000 := Nat.mul_le_mul (by omega) hn
  refine ⟨madeCells (Array.replicate sz z) (n * sz), by simp [size_madeCells], fun j hj => ?_, fun w => ?_⟩
  · simp [madeCells, hj, Nat.mod_lt _ hs]
  · have hr := run_make (P := P) w t e i zv ht hi hzv k k n n (by omega) (by omega) (by omega) (by omega)
    rw [hcells, hsize, Int.toNat_natCast] at hr
    exact hr

theorem row_of (w : World) (cur : Array Value) (e : TypeId) (f : Nat → Value) {n g : Nat} (hs : cur.size = n) (hc : ∀ i, i < n → cur[i]? = some (f i)) (hg : w.heap.size = g) : RowAt (w.alloc (.cells cur e)) g e n n f := by
  subst hs hg
  exact RowAt.new w cur e f _ (Nat.le_refl _) hc
theorem RowAt.drew {w : World} {g : Nat} {e : TypeId} {cap n : Nat} {f : Nat → Value} (h : RowAt w g e cap n f) : RowAt w.drew g e cap n f := h.all (Below.refl _ w).drew

theorem RowAt.neType {w : World} {g g' c c' n n' : Nat} {e e' : TypeId} {f f' : Nat → Value} (h : RowAt w g e c n f) (h' : RowAt w g' e' c' n' f') (he : e ≠ e') : g ≠ g' := by
  rintro rfl
  obtain ⟨cur, hg, _⟩ := h
  obtain ⟨cur', hg', _⟩ := h'
  rw [hg] at hg'
  injection hg' with hx
  injection hx with _ hy
  exact he hy

/-- A medium as a value. -/
def medV (gs gb n : Nat) : Value := .agg #[.slice (some ⟨gs, 0, none⟩) n n, .slice (some ⟨gb, 0, none⟩) n n]

set_option maxHeartbeats 1000000 in
theorem blank_any (n : Nat) (hn : n ≤ 4096) (w : World) :
    Calls Try.prog 34 #[.int .i64 n] w fun e w' => ∃ gs gb, e = .returned (medV gs gb n) ∧ w.heap.size ≤ gs ∧ w.heap.size ≤ gb ∧ gs ≠ gb ∧
      RowAt w' gs 79 (n * 64) (n * 64) (fun _ => .int .u8 0) ∧ RowAt w' gb 4 (n * 1) (n * 1) (fun _ => .bool false) ∧ Below w.heap.size w w' := by
  obtain ⟨c1, hs1, hc1, hm1⟩ := make_k (P := Try.prog) 69 79 _ _ _ Try.underlying69 info_sec (by decide) (by decide) .i64 n (by omega)
  obtain ⟨c2, hs2, hc2, hm2⟩ := make_k (P := Try.prog) 70 4 _ _ _ Try.underlying70 info_boolD (by decide) (by decide) .i64 n (by omega)
  have Hs1 := Lib.hid hs1; clear hs1
  have Hs2 := Lib.hid hs2; clear hs2
  have Hc1 := Lib.hid hc1; clear hc1
  have Hc2 := Lib.hid hc2; clear hc2
  go_enter Try.func34, Try.ntmps34
  go_upto_region 1 with fail
  go_region
  · have hr := (((row2 w (.slice (some ⟨w.heap.size + 1, 0, none⟩) n n) (.slice (some ⟨w.heap.size + 1 + 1, 0, none⟩) n n) 72).alloc (.cells c1 79)).alloc (.cells c2 4)).drew
    have e0 := hr.cell (i := 0) (by omega)
    have e1 := hr.cell (i := 1) (by omega)
    have rs := ((row_of (g := w.heap.size + 1) (w.alloc (.cells #[.slice (some ⟨w.heap.size + 1, 0, none⟩) n n, .slice (some ⟨w.heap.size + 1 + 1, 0, none⟩) n n] 72)) c1 79 (fun _ => .int .u8 0) Hs1.out Hc1.out (by simp)).alloc (.cells c2 4)).drew
    have rb := (row_of (g := w.heap.size + 1 + 1) ((w.alloc (.cells #[.slice (some ⟨w.heap.size + 1, 0, none⟩) n n, .slice (some ⟨w.heap.size + 1 + 1, 0, none⟩) n n] 72)).alloc (.cells c1 79)) c2 4 (fun _ => .bool false) Hs2.out Hc2.out (by simp)).drew
    go_wp2
    refine bodyPost_ret (v := medV (w.heap.size + 1) (w.heap.size + 1 + 1) n) (by simp [results, Try.results34, go_sem, e0, e1, medV, st2]) rfl ⟨_, _, rfl, ?_, ?_, ?_, rs, rb, ?_⟩
    · omega
    · omega
    · omega
    · exact ((((Below.refl _ w).alloc (Nat.le_refl _) _).alloc (by simp) _).alloc (by simp; omega) _).drew
  · have hr := (((row2 w (.slice (some ⟨w.heap.size + 1 + 1, 0, none⟩) n n) (.slice (some ⟨w.heap.size + 1, 0, none⟩) n n) 72).alloc (.cells c2 4)).alloc (.cells c1 79)).drew
    have e0 := hr.cell (i := 0) (by omega)
    have e1 := hr.cell (i := 1) (by omega)
    have rs := (row_of (g := w.heap.size + 1 + 1) ((w.alloc (.cells #[.slice (some ⟨w.heap.size + 1 + 1, 0, none⟩) n n, .slice (some ⟨w.heap.size + 1, 0, none⟩) n n] 72)).alloc (.cells c2 4)) c1 79 (fun _ => .int .u8 0) Hs1.out Hc1.out (by simp)).drew
    have rb := ((row_of (g := w.heap.size + 1) (w.alloc (.cells #[.slice (some ⟨w.heap.size + 1 + 1, 0, none⟩) n n, .slice (some ⟨w.heap.size + 1, 0, none⟩) n n] 72)) c2 4 (fun _ => .bool false) Hs2.out Hc2.out (by simp)).alloc (.cells c1 79)).drew
    go_wp2
    refine bodyPost_ret (v := medV (w.heap.size + 1 + 1) (w.heap.size + 1) n) (by simp [results, Try.results34, go_sem, e0, e1, medV, st2]) rfl ⟨_, _, rfl, ?_, ?_, ?_, rs, rb, ?_⟩
    · omega
    · omega
    · omega
    · exact ((((Below.refl _ w).alloc (Nat.le_refl _) _).alloc (by simp) _).alloc (by simp; omega) _).drew

end Go.Proofs.Ytjhcaedfknhilaa
