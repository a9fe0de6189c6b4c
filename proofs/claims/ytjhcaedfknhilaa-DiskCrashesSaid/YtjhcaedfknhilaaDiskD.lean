/- Disk: New. -/
import Derived.Test.YtjhcaedfknhilaaDiskC
namespace Go.Proofs.Ytjhcaedfknhilaa
open Go.RowKit
attribute [local go_sem ↓] Go.wp_at_zero Go.wp_at_succ

theorem row_new1 (w : World) (g : Nat) (v : Value) (e : TypeId) (hg : w.heap.size = g) : RowAt (w.alloc (.cells #[v] e)) g e 1 1 (fun _ => v) := by
  subst hg
  exact RowAt.new w #[v] e (fun _ => v) 1 (by simp) (one_cell rfl)

/-- A disk of zeros. -/
def Dsk.zero (n : Nat) : Dsk := ⟨n, fun _ _ => 0, fun _ => false, 0, fun _ => 0, fun _ _ => 0, false, false, 0, n, n⟩
theorem Dsk.zero_ok {n : Nat} (h : 1 ≤ n ∧ n ≤ 4096) : (Dsk.zero n).Ok :=
  ⟨h, fun _ _ => ⟨Int.le_refl 0, show (0 : Int) < 256 by decide⟩, Nat.zero_le _, fun i hi => absurd hi (Nat.not_lt_zero i), fun _ _ => ⟨Int.le_refl 0, show (0 : Int) < 256 by decide⟩, ⟨Int.le_refl 0, show (0 : Int) ≤ 9223372036854775807 by decide⟩⟩

theorem row_six (w : World) (a b c d e f : Value) (t : TypeId) : RowAt (w.alloc (.cells #[a, b, c, d, e, f] t)) w.heap.size t 6 6 (st6 a b c d e f) :=
  row_of w #[a, b, c, d, e, f] t _ rfl (fun i hi => by
    obtain rfl | rfl | rfl | rfl | rfl | rfl : i = 0 ∨ i = 1 ∨ i = 2 ∨ i = 3 ∨ i = 4 ∨ i = 5 := by omega
    all_goals rfl) rfl

set_option maxHeartbeats 2000000 in
theorem New_ok (n : Nat) (hn : 1 ≤ n ∧ n ≤ 4096) (w : World) : Calls Try.prog 9 #[.int .i64 n] w fun e w' => ∃ g gs gb, e = .returned (.tuple #[.pointer (some ⟨g, 0, none⟩), .int .i64 0]) ∧ DiskIn w.heap.size g gs gb (.slice none 0 0) (Dsk.zero n) w' ∧ Below w.heap.size w w' := by
  have hd2 : decide ((n : Int) ≤ 4096) = true := decide_eq_true (by omega)
  have ho1 := (row_new1 w w.heap.size (.pointer none) 22 rfl).alloc (.cells #[.int .i64 0] 23)
  have ho2 := row_new1 (w.alloc (.cells #[.pointer none] 22)) (w.heap.size + 1) (.int .i64 0) 23 (by simp)
  have hB2 : Below w.heap.size w ((w.alloc (.cells #[.pointer none] 22)).alloc (.cells #[.int .i64 0] 23)) := ((Below.refl _ w).alloc (Nat.le_refl _) _).alloc (by simp) _
  have hs2 : ((w.alloc (.cells #[.pointer none] 22)).alloc (.cells #[.int .i64 0] 23)).heap.size = w.heap.size + 2 := by simp
  have Hs2 := Lib.hid hs2; clear hs2
  go_enter_defers Try.func9, Try.ntmps9
  go_wp2_with fail
  refine (want_ok 1 _).mono ?_
  rintro e w1 ⟨rfl, rfl⟩
  go_wp2_with fail
  generalize (w.alloc (.cells #[.pointer none] 22)).alloc (.cells #[.int .i64 0] 23) = W at *
  refine (blank_any n hn.2 W).mono ?_
  rintro e w2 ⟨gs, gb, rfl, h1, h2, h3, h4, h5, hb⟩
  have ho1' := ho1.all hb
  have ho2' := ho2.all hb
  have hlt1 := ho1'.lt
  have hlt2 := ho2'.lt
  have x0 := ho1'.cell (i := 0) (by omega)
  have x1 := ho2'.cell (i := 0) (by omega)
  have f0 := ho1'.frozen 0
  have f1 := ho2'.frozen 0
  have hsz2 := Hs2.out
  have r0 := ((ho1'.set1 (.pointer (some ⟨w2.heap.size, 0, none⟩))).setOther ⟨w.heap.size + 1, 0, none⟩ (.int .i64 0) (by simp)).alloc (.cells #[.slice (some ⟨gs, 0, none⟩) n n, .slice (some ⟨gb, 0, none⟩) n n, .slice none 0 0, .bool false, .bool false, .int .i64 0] 76)
  have r1 := ((ho2'.setOther ⟨w.heap.size, 0, none⟩ (.pointer (some ⟨w2.heap.size, 0, none⟩)) (by simp)).set1 (.int .i64 0)).alloc (.cells #[.slice (some ⟨gs, 0, none⟩) n n, .slice (some ⟨gb, 0, none⟩) n n, .slice none 0 0, .bool false, .bool false, .int .i64 0] 76)
  have rg := row_six ((w2.setCell ⟨w.heap.size, 0, none⟩ (.pointer (some ⟨w2.heap.size, 0, none⟩))).setCell ⟨w.heap.size + 1, 0, none⟩ (.int .i64 0)) (.slice (some ⟨gs, 0, none⟩) n n) (.slice (some ⟨gb, 0, none⟩) n n) (.slice none 0 0) (.bool false) (.bool false) (.int .i64 0) 76
  have hs3 : ((w2.setCell ⟨w.heap.size, 0, none⟩ (.pointer (some ⟨w2.heap.size, 0, none⟩))).setCell ⟨w.heap.size + 1, 0, none⟩ (.int .i64 0)).heap.size = w2.heap.size := by simp [World.setCell]
  rw [hs3] at rg
  have rs := ((h4.setOther ⟨w.heap.size, 0, none⟩ (.pointer (some ⟨w2.heap.size, 0, none⟩)) (by simp; omega)).setOther ⟨w.heap.size + 1, 0, none⟩ (.int .i64 0) (by simp; omega)).alloc (.cells #[.slice (some ⟨gs, 0, none⟩) n n, .slice (some ⟨gb, 0, none⟩) n n, .slice none 0 0, .bool false, .bool false, .int .i64 0] 76)
  have rb := ((h5.setOther ⟨w.heap.size, 0, none⟩ (.pointer (some ⟨w2.heap.size, 0, none⟩)) (by simp; omega)).setOther ⟨w.heap.size + 1, 0, none⟩ (.int .i64 0) (by simp; omega)).alloc (.cells #[.slice (some ⟨gs, 0, none⟩) n n, .slice (some ⟨gb, 0, none⟩) n n, .slice none 0 0, .bool false, .bool false, .int .i64 0] 76)
  have hbz := (((hB2.trans (hb.mono hB2.size)).setCell (p := ⟨w.heap.size, 0, none⟩) (Nat.le_refl _) (.pointer (some ⟨w2.heap.size, 0, none⟩))).setCell (p := ⟨w.heap.size + 1, 0, none⟩) (Nat.le_succ _) (.int .i64 0)).alloc (by rw [hs3]; omega) (.cells #[.slice (some ⟨gs, 0, none⟩) n n, .slice (some ⟨gb, 0, none⟩) n n, .slice none 0 0, .bool false, .bool false, .int .i64 0] 76)
  have y0 := Lib.hid (r0.cell (i := 0) (by omega))
  have y1 := Lib.hid (r1.cell (i := 0) (by omega))
  have Hfin := Lib.hid (And.intro (DiskIn.mk (B := w.heap.size) (D := Dsk.zero n) rg rs rb (.inl ⟨rfl, rfl⟩) ⟨by omega, by omega, by omega⟩ (Dsk.zero_ok hn)) hbz)
  clear r0 r1 rg rs rb hbz hs3 hb h1 h2 h3 h4 h5 ho1 ho2 ho1' ho2' hsz2 hB2
  unfold medV
  go_wp2
  refine leaves_cons (f := 32) (args := #[.pointer (some ⟨w.heap.size, 0, none⟩), .pointer (some ⟨w.heap.size + 1, 0, none⟩)]) (by simp) (by simp [go_sem]) ?_
  refine (catch_idle_d _ _ _).mono ?_
  rintro e u' w'' ⟨rfl, rfl, rfl⟩
  simp [Leaves, settle, results, Try.results9, go_sem, y0.out, y1.out]
  exact ⟨⟨_, _, Hfin.out.1⟩, Hfin.out.2⟩

set_option maxHeartbeats 2000000 in
theorem New_bad (n : Int) (hn : ¬ (1 ≤ n ∧ n ≤ 4096)) (w : World) : Calls Try.prog 9 #[.int .i64 n] w fun e w' => e = .returned (.tuple #[.pointer none, .int .i64 1]) ∧ Below w.heap.size w w' := by
  have ho1 := (row_new1 w w.heap.size (.pointer none) 22 rfl).alloc (.cells #[.int .i64 0] 23)
  have ho2 := row_new1 (w.alloc (.cells #[.pointer none] 22)) (w.heap.size + 1) (.int .i64 0) 23 (by simp)
  have hdec : (decide (1 ≤ n) = false) ∨ (decide (1 ≤ n) = true ∧ decide (n ≤ 4096) = false) := by
    by_cases h : 1 ≤ n
    · exact .inr ⟨decide_eq_true h, decide_eq_false (fun h2 => hn ⟨h, h2⟩)⟩
    · exact .inl (decide_eq_false h)
  clear hn
  have x0 := ho1.cell (i := 0) (by omega)
  have f0 := ho1.frozen 0
  have x1 := (ho2.setOther ⟨w.heap.size, 0, none⟩ (.pointer none) (by simp)).cell (i := 0) (by omega)
  have f1 := (ho2.setOther ⟨w.heap.size, 0, none⟩ (.pointer none) (by simp)).frozen 0
  have Hcat := Lib.hid (catch_fail_d ⟨w.heap.size, 0, none⟩ ⟨w.heap.size + 1, 0, none⟩ 1 _ _ _ x0 f0 x1 f1)
  clear x0 f0 x1 f1
  have y1 := Lib.hid (((ho2.setOther ⟨w.heap.size, 0, none⟩ (.pointer none) (by simp)).set1 (.int .i64 1)).cell (i := 0) (by omega))
  clear ho1 ho2
  go_enter_defers Try.func9, Try.ntmps9
  rcases hdec with hd | ⟨hd, hd2⟩
  all_goals
    go_wp2_with fail
    refine (want_not 1 _).mono ?_
    rintro e w1 ⟨rfl, rfl⟩
    go_wp2
    refine leaves_cons (f := 32) (args := #[.pointer (some ⟨w.heap.size, 0, none⟩), .pointer (some ⟨w.heap.size + 1, 0, none⟩)]) (by simp) (by simp [go_sem]) ?_
    refine Hcat.out.mono ?_
    rintro e u' w'' ⟨rfl, rfl, rfl⟩
    simp [Leaves, settle, results, Try.results9, go_sem, y1.out, failR]
    exact ((Below.refl _ w).alloc (Nat.le_refl _) _).alloc (by simp) _

end Go.Proofs.Ytjhcaedfknhilaa
