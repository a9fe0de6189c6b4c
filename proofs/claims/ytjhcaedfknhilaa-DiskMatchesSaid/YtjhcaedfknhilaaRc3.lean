/- Disk: a disk in memory; Size, Alive, Queued, ready, done. Disk: New. Disk: Stop, done. -/
import Derived.Test.YtjhcaedfknhilaaRc2
namespace Go.Proofs.Ytjhcaedfknhilaa
set_option linter.unusedVariables false
set_option linter.unusedSimpArgs false
open Go.RowKit
attribute [local go_sem ↓] Go.wp_at_zero Go.wp_at_succ

/-- A disk, plainly. -/
structure Dsk where
  n : Nat
  sec : Nat → Nat → Int
  bad : Nat → Bool
  q : Nat
  qa : Nat → Nat
  qb : Nat → Nat → Int
  dead : Bool
  armed : Bool
  left : Int
  cs : Nat
  cb : Nat

def secV (f : Nat → Nat → Int) (k : Nat) : Value := .int .u8 (f (k / 64) (k % 64))
def badV (f : Nat → Bool) (k : Nat) : Value := .bool (f k)
def putV (a : Nat → Nat) (f : Nat → Nat → Int) (k : Nat) : Value := if k % 65 = 0 then .int .i64 (a (k / 65)) else .int .u8 (f (k / 65) (k % 65 - 1))
def st6 (a b c d e f : Value) (k : Nat) : Value := if k = 0 then a else if k = 1 then b else if k = 2 then c else if k = 3 then d else if k = 4 then e else f

/-- The queue of a disk: a list of the disk's own. -/
def Puts (W : World) (B : Nat) (v : Value) (q : Nat) (a : Nat → Nat) (f : Nat → Nat → Int) : Prop :=
  (v = .slice none 0 0 ∧ q = 0) ∨ ∃ g cap, v = .slice (some ⟨g, 0, none⟩) q cap ∧ B ≤ g ∧ RowAt W g 81 (cap * 65) (q * 65) (putV a f) ∧ cap ≤ maxLen
theorem Puts.slice {W : World} {B : Nat} {v : Value} {q : Nat} {a : Nat → Nat} {f : Nat → Nat → Int} (h : Puts W B v q a f) : ∃ x cap, v = .slice x q cap := by
  rcases h with ⟨rfl, rfl⟩ | ⟨g, cap, rfl, _⟩
  · exact ⟨_, _, rfl⟩
  · exact ⟨_, _, rfl⟩
theorem Puts.all {W W' : World} {B : Nat} {v : Value} {q : Nat} {a : Nat → Nat} {f : Nat → Nat → Int} (h : Puts W B v q a f) (hb : Below W.heap.size W W') : Puts W' B v q a f := by
  rcases h with h | ⟨g, cap, h1, h2, h3, h4⟩
  · exact .inl h
  · exact .inr ⟨g, cap, h1, h2, h3.all hb, h4⟩

/-- What is so of each disk. -/
structure Dsk.Ok (D : Dsk) : Prop where
  size : 1 ≤ D.n ∧ D.n ≤ 4096
  byte : ∀ i j, 0 ≤ D.sec i j ∧ D.sec i j < 256
  queue : D.q ≤ 65536
  put : ∀ i, i < D.q → D.qa i < D.n
  pbyte : ∀ i j, 0 ≤ D.qb i j ∧ D.qb i j < 256
  left : 0 ≤ D.left ∧ D.left ≤ 9223372036854775807

/-- A disk in memory: its struct in block g, its sectors in gs, its marks of bad ones in gb; all from block B on. -/
structure DiskIn (B g gs gb : Nat) (qv : Value) (D : Dsk) (W : World) : Prop where
  row : RowAt W g 76 6 6 (st6 (.slice (some ⟨gs, 0, none⟩) D.n D.cs) (.slice (some ⟨gb, 0, none⟩) D.n D.cb) qv (.bool D.dead) (.bool D.armed) (.int .i64 D.left))
  sec : RowAt W gs 79 (D.cs * 64) (D.n * 64) (secV D.sec)
  bad : RowAt W gb 4 (D.cb * 1) (D.n * 1) (badV D.bad)
  que : Puts W B qv D.q D.qa D.qb
  base : B ≤ g ∧ B ≤ gs ∧ B ≤ gb
  ok : D.Ok
theorem DiskIn.all {B g gs gb : Nat} {qv : Value} {D : Dsk} {W W' : World} (h : DiskIn B g gs gb qv D W) (hb : Below W.heap.size W W') : DiskIn B g gs gb qv D W' :=
  ⟨h.row.all hb, h.sec.all hb, h.bad.all hb, h.que.all hb, h.base, h.ok⟩
theorem DiskIn.cells {B g gs gb : Nat} {qv : Value} {D : Dsk} {W : World} (h : DiskIn B g gs gb qv D W) :
    W.cell? ⟨g, 0, none⟩ = some (.slice (some ⟨gs, 0, none⟩) D.n D.cs) ∧ W.cell? ⟨g, 1, none⟩ = some (.slice (some ⟨gb, 0, none⟩) D.n D.cb) ∧ W.cell? ⟨g, 2, none⟩ = some qv ∧
    W.cell? ⟨g, 3, none⟩ = some (.bool D.dead) ∧ W.cell? ⟨g, 4, none⟩ = some (.bool D.armed) ∧ W.cell? ⟨g, 5, none⟩ = some (.int .i64 D.left) :=
  ⟨h.row.cell (i := 0) (by omega), h.row.cell (i := 1) (by omega), h.row.cell (i := 2) (by omega), h.row.cell (i := 3) (by omega), h.row.cell (i := 4) (by omega), h.row.cell (i := 5) (by omega)⟩

/-- A block ahead of B, or one of type e. -/
def Blk (B : Nat) (w : World) (e : TypeId) (b : Nat) : Prop := b < B ∨ ∃ cur fr, w.heap[b]? = some (.cells cur e fr)
/-- No such block is one of another type from B on. -/
theorem RowAt.neBlk {B : Nat} {w : World} {g b : Nat} {e e' : TypeId} {c n : Nat} {F : Nat → Value} (h : RowAt w g e c n F) (hB : B ≤ g) (he : e ≠ e') (hb : Blk B w e' b) : b ≠ g := by
  rintro rfl
  rcases hb with hb | ⟨cur, fr, hb⟩
  · omega
  · obtain ⟨cur', hc, _⟩ := h
    rw [hc] at hb
    injection hb with hx
    injection hx with _ hy
    exact he hy

/-- A list of numbers. -/
def NArg (B : Nat) (w : World) (v : Value) (n : Nat) (f : Nat → Int) : Prop :=
  (∀ i, -9223372036854775808 ≤ f i ∧ f i ≤ 9223372036854775807) ∧ ((n = 0 ∧ ∃ a cap, v = .slice a 0 cap) ∨ ∃ b off cap, v = .slice (some ⟨b, off, none⟩) n cap ∧ 0 < n ∧ n ≤ cap ∧ cap ≤ maxLen ∧ Cells w b off n (intsV f) ∧ Blk B w 3 b)
theorem NArg.slice {B : Nat} {w : World} {v : Value} {n : Nat} {f : Nat → Int} (h : NArg B w v n f) : ∃ a cap, v = .slice a n cap ∧ n ≤ maxLen := by
  rcases h with ⟨_, (⟨rfl, a, cap, rfl⟩ | ⟨b, off, cap, rfl, _, h1, h2, _⟩)⟩
  · exact ⟨_, _, rfl, Nat.zero_le _⟩
  · exact ⟨_, _, rfl, Nat.le_trans h1 h2⟩
theorem NArg.iarg {B : Nat} {w : World} {v : Value} {n : Nat} {f : Nat → Int} (h : NArg B w v n f) : IArg w v n f := by
  rcases h with ⟨hf, (h | ⟨b, off, cap, h1, h2, h3, h4, h5, _⟩)⟩
  · exact .inl h
  · exact .inr ⟨b, off, cap, h1, h2, h3, h4, h5, fun i _ => hf i⟩
theorem NArg.all {B : Nat} {w w' : World} {v : Value} {n : Nat} {f : Nat → Int} (h : NArg B w v n f) (hb : Below w.heap.size w w') : NArg B w' v n f := by
  rcases h with ⟨hf, (h | ⟨b, off, cap, h1, h2, h3, h4, h5, h6⟩)⟩
  · exact ⟨hf, .inl h⟩
  · refine ⟨hf, .inr ⟨b, off, cap, h1, h2, h3, h4, h5.all hb, ?_⟩⟩
    rcases h6 with h6 | ⟨cur, fr, h6⟩
    · exact .inl h6
    · exact .inr ⟨cur, fr, (hb.block b (Array.getElem?_eq_some_iff.1 h6).1).trans h6⟩

set_option maxHeartbeats 1000000 in
theorem Size_any {B g gs gb : Nat} {qv : Value} {D : Dsk} (w : World) (h : DiskIn B g gs gb qv D w) : Calls Try.prog 21 #[.pointer (some ⟨g, 0, none⟩)] w fun e w' => e = .returned (.int .i64 D.n) ∧ w = w' := by
  obtain ⟨c0, c1, c2, c3, c4, c5⟩ := h.cells
  clear h
  go_enter Try.func21, Try.ntmps21
  go_wp2
  go_ret
  exact ⟨rfl, rfl⟩
theorem Size_nil (w : World) : Calls Try.prog 21 #[.pointer none] w fun e w' => e = .returned (.int .i64 0) ∧ w = w' := by
  go_enter Try.func21, Try.ntmps21
  go_wp2
  go_ret
  exact ⟨rfl, rfl⟩

set_option maxHeartbeats 1000000 in
theorem Queued_any {B g gs gb : Nat} {qv : Value} {D : Dsk} (w : World) (h : DiskIn B g gs gb qv D w) : Calls Try.prog 27 #[.pointer (some ⟨g, 0, none⟩)] w fun e w' => e = .returned (.int .i64 D.q) ∧ w = w' := by
  obtain ⟨c0, c1, c2, c3, c4, c5⟩ := h.cells
  obtain ⟨x, cap, rfl⟩ := h.que.slice
  clear h
  go_enter Try.func27, Try.ntmps27
  go_wp2
  go_ret
  exact ⟨rfl, rfl⟩
theorem Queued_nil (w : World) : Calls Try.prog 27 #[.pointer none] w fun e w' => e = .returned (.int .i64 0) ∧ w = w' := by
  go_enter Try.func27, Try.ntmps27
  go_wp2
  go_ret
  exact ⟨rfl, rfl⟩

set_option maxHeartbeats 1000000 in
theorem Alive_any {B g gs gb : Nat} {qv : Value} {D : Dsk} (w : World) (h : DiskIn B g gs gb qv D w) : Calls Try.prog 26 #[.pointer (some ⟨g, 0, none⟩)] w fun e w' => e = .returned (.bool (!D.dead)) ∧ w = w' := by
  obtain ⟨c0, c1, c2, c3, c4, c5⟩ := h.cells
  clear h
  go_enter Try.func26, Try.ntmps26
  go_wp2
  go_ret
  exact ⟨rfl, rfl⟩
theorem Alive_nil (w : World) : Calls Try.prog 26 #[.pointer none] w fun e w' => e = .returned (.bool false) ∧ w = w' := by
  go_enter Try.func26, Try.ntmps26
  go_wp2
  go_ret
  exact ⟨rfl, rfl⟩

/-- Does it not answer? -/
def Dsk.off (D : Dsk) : Bool := D.dead || (D.armed && decide (D.left = 0))

set_option maxHeartbeats 1000000 in
theorem ready_ok {B g gs gb : Nat} {qv : Value} {D : Dsk} (w : World) (h : DiskIn B g gs gb qv D w) (hd : D.off = false) : Calls Try.prog 39 #[.pointer (some ⟨g, 0, none⟩)] w fun e w' => e = .returned (.tuple #[]) ∧ w = w' := by
  obtain ⟨c0, c1, c2, c3, c4, c5⟩ := h.cells
  obtain ⟨-, -, -, -, -, hl⟩ := h.ok
  clear h
  unfold Dsk.off at hd
  rcases h1 : D.dead with _ | _
  rotate_left 1
  · rw [h1] at hd; cases hd
  rw [h1] at c3 hd
  rcases h2 : D.armed with _ | _
  · rw [h2] at c4
    clear h1 h2 hd
    go_enter Try.func39, Try.ntmps39
    go_wp2_with fail
    refine (want_ok 7 w).mono ?_
    rintro e w' ⟨rfl, rfl⟩
    go_wp2
    go_end0
    exact ⟨rfl, rfl⟩
  · rw [h2] at c4 hd
    have hl0 : (D.left == 0) = false := by rw [beq_eq_false_iff_ne]; simpa using hd
    clear h1 h2 hd
    go_enter Try.func39, Try.ntmps39
    go_wp2_with fail
    refine (want_ok 7 w).mono ?_
    rintro e w' ⟨rfl, rfl⟩
    go_wp2
    go_end0
    exact ⟨rfl, rfl⟩

set_option maxHeartbeats 1000000 in
theorem ready_not {B g gs gb : Nat} {qv : Value} {D : Dsk} (w : World) (h : DiskIn B g gs gb qv D w) (hd : D.off = true) : Calls Try.prog 39 #[.pointer (some ⟨g, 0, none⟩)] w fun e w' => e = .panicked (failP 7) ∧ w = w' := by
  obtain ⟨c0, c1, c2, c3, c4, c5⟩ := h.cells
  clear h
  unfold Dsk.off at hd
  rcases h1 : D.dead with _ | _
  rotate_left 1
  · rw [h1] at c3
    clear h1 hd
    go_enter Try.func39, Try.ntmps39
    go_wp2_with fail
    refine (want_not 7 w).mono ?_
    rintro e w' ⟨rfl, rfl⟩
    go_wp2
    exact ⟨rfl, rfl, rfl⟩
  · rw [h1] at c3 hd
    rcases h2 : D.armed with _ | _
    · rw [h2] at hd; cases hd
    rw [h2] at c4 hd
    have hl0 : (D.left == 0) = true := by rw [beq_iff_eq]; simpa using hd
    clear h1 h2 hd
    go_enter Try.func39, Try.ntmps39
    go_wp2_with fail
    refine (want_not 7 w).mono ?_
    rintro e w' ⟨rfl, rfl⟩
    go_wp2
    exact ⟨rfl, rfl, rfl⟩

end Go.Proofs.Ytjhcaedfknhilaa

namespace Go.Proofs.Ytjhcaedfknhilaa
set_option linter.unusedVariables false
set_option linter.unusedSimpArgs false
open Go.RowKit
attribute [local go_sem ↓] Go.wp_at_zero Go.wp_at_succ

theorem row_new1 (w : World) (g : Nat) (v : Value) (e : TypeId) (hg : w.heap.size = g) : RowAt (w.alloc (.cells #[v] e)) g e 1 1 (fun _ => v) := by
  subst hg
  exact RowAt.new w #[v] e (fun _ => v) 1 (by simp) (one_cell rfl)

/-- A disk of zeros. -/
def Dsk.zero (n : Nat) : Dsk := ⟨n, fun _ _ => 0, fun _ => false, 0, fun _ => 0, fun _ _ => 0, false, false, 0, n, n⟩
theorem Dsk.zero_ok {n : Nat} (h : 1 ≤ n ∧ n ≤ 4096) : (Dsk.zero n).Ok :=
  ⟨h, fun _ _ => ⟨Int.le_refl 0, show (0 : Int) < 256 by decide⟩, Nat.zero_le _, fun i hi => absurd hi (Nat.not_lt_zero i), fun _ _ => ⟨Int.le_refl 0, show (0 : Int) < 256 by decide⟩, ⟨Int.le_refl 0, show (0 : Int) ≤ 9223372036854775807 by decide⟩⟩

theorem row_six (w : World) (a b c d e f : Value) (t : TypeId) : RowAt (w.alloc (.cells #[a, b, c, d, e, f] t)) w.heap.size t 6 6 (st6 a b c d e f) :=
  row_of w #[a, b, c, d, e, f] t _ rfl (fun i hi => by
    obtain rfl | rfl | rfl | rfl | rfl | rfl : i = 0 ∨ i = 1 ∨ i = 2 ∨ i = 3 ∨ i = 4 ∨ i = 5 := by omega
    all_goals rfl) rfl

set_option maxHeartbeats 2000000 in
theorem New_ok (n : Nat) (hn : 1 ≤ n ∧ n ≤ 4096) (w : World) : Calls Try.prog 9 #[.int .i64 n] w fun e w' => ∃ g gs gb, e = .returned (.tuple #[.pointer (some ⟨g, 0, none⟩), .int .i64 0]) ∧ DiskIn w.heap.size g gs gb (.slice none 0 0) (Dsk.zero n) w' ∧ Below w.heap.size w w' := by
  have hd2 : decide ((n : Int) ≤ 4096) = true := decide_eq_true (by omega)
  have ho1 := (row_new1 w w.heap.size (.pointer none) 22 rfl).alloc (.cells #[.int .i64 0] 23)
  have ho2 := row_new1 (w.alloc (.cells #[.pointer none] 22)) (w.heap.size + 1) (.int .i64 0) 23 (by simp)
  have hB2 : Below w.heap.size w ((w.alloc (.cells #[.pointer none] 22)).alloc (.cells #[.int .i64 0] 23)) := ((Below.refl _ w).alloc (Nat.le_refl _) _).alloc (by simp) _
  have hs2 : ((w.alloc (.cells #[.pointer none] 22)).alloc (.cells #[.int .i64 0] 23)).heap.size = w.heap.size + 2 := by simp
  have Hs2 := Lib.hid hs2; clear hs2
  go_enter_defers Try.func9, Try.ntmps9
  go_wp2_with fail
  refine (want_ok 1 _).mono ?_
  rintro e w1 ⟨rfl, rfl⟩
  go_wp2_with fail
  generalize (w.alloc (.cells #[.pointer none] 22)).alloc (.cells #[.int .i64 0] 23) = W at *
  refine (blank_any n hn.2 W).mono ?_
  rintro e w2 ⟨gs, gb, rfl, h1, h2, h3, h4, h5, hb⟩
  have ho1' := ho1.all hb
  have ho2' := ho2.all hb
  have hlt1 := ho1'.lt
  have hlt2 := ho2'.lt
  have x0 := ho1'.cell (i := 0) (by omega)
  have x1 := ho2'.cell (i := 0) (by omega)
  have f0 := ho1'.frozen 0
  have f1 := ho2'.frozen 0
  have hsz2 := Hs2.out
  have r0 := ((ho1'.set1 (.pointer (some ⟨w2.heap.size, 0, none⟩))).setOther ⟨w.heap.size + 1, 0, none⟩ (.int .i64 0) (by simp)).alloc (.cells #[.slice (some ⟨gs, 0, none⟩) n n, .slice (some ⟨gb, 0, none⟩) n n, .slice none 0 0, .bool false, .bool false, .int .i64 0] 76)
  have r1 := ((ho2'.setOther ⟨w.heap.size, 0, none⟩ (.pointer (some ⟨w2.heap.size, 0, none⟩)) (by simp)).set1 (.int .i64 0)).alloc (.cells #[.slice (some ⟨gs, 0, none⟩) n n, .slice (some ⟨gb, 0, none⟩) n n, .slice none 0 0, .bool false, .bool false, .int .i64 0] 76)
  have rg := row_six ((w2.setCell ⟨w.heap.size, 0, none⟩ (.pointer (some ⟨w2.heap.size, 0, none⟩))).setCell ⟨w.heap.size + 1, 0, none⟩ (.int .i64 0)) (.slice (some ⟨gs, 0, none⟩) n n) (.slice (some ⟨gb, 0, none⟩) n n) (.slice none 0 0) (.bool false) (.bool false) (.int .i64 0) 76
  have hs3 : ((w2.setCell ⟨w.heap.size, 0, none⟩ (.pointer (some ⟨w2.heap.size, 0, none⟩))).setCell ⟨w.heap.size + 1, 0, none⟩ (.int .i64 0)).heap.size = w2.heap.size := by simp [World.setCell]
  rw [hs3] at rg
  have rs := ((h4.setOther ⟨w.heap.size, 0, none⟩ (.pointer (some ⟨w2.heap.size, 0, none⟩)) (by simp; omega)).setOther ⟨w.heap.size + 1, 0, none⟩ (.int .i64 0) (by simp; omega)).alloc (.cells #[.slice (some ⟨gs, 0, none⟩) n n, .slice (some ⟨gb, 0, none⟩) n n, .slice none 0 0, .bool false, .bool false, .int .i64 0] 76)
  have rb := ((h5.setOther ⟨w.heap.size, 0, none⟩ (.pointer (some ⟨w2.heap.size, 0, none⟩)) (by simp; omega)).setOther ⟨w.heap.size + 1, 0, none⟩ (.int .i64 0) (by simp; omega)).alloc (.cells #[.slice (some ⟨gs, 0, none⟩) n n, .slice (some ⟨gb, 0, none⟩) n n, .slice none 0 0, .bool false, .bool false, .int .i64 0] 76)
  have hbz := (((hB2.trans (hb.mono hB2.size)).setCell (p := ⟨w.heap.size, 0, none⟩) (Nat.le_refl _) (.pointer (some ⟨w2.heap.size, 0, none⟩))).setCell (p := ⟨w.heap.size + 1, 0, none⟩) (Nat.le_succ _) (.int .i64 0)).alloc (by rw [hs3]; omega) (.cells #[.slice (some ⟨gs, 0, none⟩) n n, .slice (some ⟨gb, 0, none⟩) n n, .slice none 0 0, .bool false, .bool false, .int .i64 0] 76)
  have y0 := Lib.hid (r0.cell (i := 0) (by omega))
  have y1 := Lib.hid (r1.cell (i := 0) (by omega))
  have Hfin := Lib.hid (And.intro (DiskIn.mk (B := w.heap.size) (D := Dsk.zero n) rg rs rb (.inl ⟨rfl, rfl⟩) ⟨by omega, by omega, by omega⟩ (Dsk.zero_ok hn)) hbz)
  clear r0 r1 rg rs rb hbz hs3 hb h1 h2 h3 h4 h5 ho1 ho2 ho1' ho2' hsz2 hB2
  unfold medV
  go_wp2
  refine leaves_cons (f := 32) (args := #[.pointer (some ⟨w.heap.size, 0, none⟩), .pointer (some ⟨w.heap.size + 1, 0, none⟩)]) (by simp) (by simp [go_sem]) ?_
  refine (catch_idle_d _ _ _).mono ?_
  rintro e u' w'' ⟨rfl, rfl, rfl⟩
  simp [Leaves, settle, results, Try.results9, go_sem, y0.out, y1.out]
  exact ⟨⟨_, _, Hfin.out.1⟩, Hfin.out.2⟩

set_option maxHeartbeats 2000000 in
theorem New_bad (n : Int) (hn : ¬ (1 ≤ n ∧ n ≤ 4096)) (w : World) : Calls Try.prog 9 #[.int .i64 n] w fun e w' => e = .returned (.tuple #[.pointer none, .int .i64 1]) ∧ Below w.heap.size w w' := by
  have ho1 := (row_new1 w w.heap.size (.pointer none) 22 rfl).alloc (.cells #[.int .i64 0] 23)
  have ho2 := row_new1 (w.alloc (.cells #[.pointer none] 22)) (w.heap.size + 1) (.int .i64 0) 23 (by simp)
  have hdec : (decide (1 ≤ n) = false) ∨ (decide (1 ≤ n) = true ∧ decide (n ≤ 4096) = false) := by
    by_cases h : 1 ≤ n
    · exact .inr ⟨decide_eq_true h, decide_eq_false (fun h2 => hn ⟨h, h2⟩)⟩
    · exact .inl (decide_eq_false h)
  clear hn
  have x0 := ho1.cell (i := 0) (by omega)
  have f0 := ho1.frozen 0
  have x1 := (ho2.setOther ⟨w.heap.size, 0, none⟩ (.pointer none) (by simp)).cell (i := 0) (by omega)
  have f1 := (ho2.setOther ⟨w.heap.size, 0, none⟩ (.pointer none) (by simp)).frozen 0
  have Hcat := Lib.hid (catch_fail_d ⟨w.heap.size, 0, none⟩ ⟨w.heap.size + 1, 0, none⟩ 1 _ _ _ x0 f0 x1 f1)
  clear x0 f0 x1 f1
  have y1 := Lib.hid (((ho2.setOther ⟨w.heap.size, 0, none⟩ (.pointer none) (by simp)).set1 (.int .i64 1)).cell (i := 0) (by omega))
  clear ho1 ho2
  go_enter_defers Try.func9, Try.ntmps9
  rcases hdec with hd | ⟨hd, hd2⟩
  all_goals
    go_wp2_with fail
    refine (want_not 1 _).mono ?_
    rintro e w1 ⟨rfl, rfl⟩
    go_wp2
    refine leaves_cons (f := 32) (args := #[.pointer (some ⟨w.heap.size, 0, none⟩), .pointer (some ⟨w.heap.size + 1, 0, none⟩)]) (by simp) (by simp [go_sem]) ?_
    refine Hcat.out.mono ?_
    rintro e u' w'' ⟨rfl, rfl, rfl⟩
    simp [Leaves, settle, results, Try.results9, go_sem, y1.out, failR]
    exact ((Below.refl _ w).alloc (Nat.le_refl _) _).alloc (by simp) _

end Go.Proofs.Ytjhcaedfknhilaa

namespace Go.Proofs.Ytjhcaedfknhilaa
set_option linter.unusedVariables false
set_option linter.unusedSimpArgs false
open Go.RowKit
attribute [local go_sem ↓] Go.wp_at_zero Go.wp_at_succ

theorem DiskIn.lt {B g gs gb : Nat} {qv : Value} {D : Dsk} {W : World} (h : DiskIn B g gs gb qv D W) : B ≤ W.heap.size := by
  have := h.row.lt
  have := h.base.1
  omega
/-- The three blocks of a disk differ. -/
theorem DiskIn.ne {B g gs gb : Nat} {qv : Value} {D : Dsk} {W : World} (h : DiskIn B g gs gb qv D W) : g ≠ gs ∧ g ≠ gb ∧ gs ≠ gb :=
  ⟨h.row.neType h.sec (by decide), h.row.neType h.bad (by decide), h.sec.neType h.bad (by decide)⟩
theorem Puts.other {W : World} {B k : Nat} {v : Value} {q : Nat} {a : Nat → Nat} {f : Nat → Nat → Int} (h : Puts W B v q a f) {e : TypeId} {c n : Nat} {F : Nat → Value} (hr : RowAt W k e c n F) (he : e ≠ 81) (i : Nat) (u : Value) : Puts (W.setCell ⟨k, i, none⟩ u) B v q a f := by
  rcases h with h | ⟨g, cap, h1, h2, h3, h4⟩
  · exact .inl h
  · exact .inr ⟨g, cap, h1, h2, h3.setOther _ _ (hr.neType h3 he), h4⟩

/-- A store into a field of a disk's struct. -/
theorem DiskIn.put {B g gs gb : Nat} {qv : Value} {D D' : Dsk} {W : World} (h : DiskIn B g gs gb qv D W) (i : Nat) (u : Value)
    (hst : ∀ j, j < 6 → (if j = i then u else st6 (.slice (some ⟨gs, 0, none⟩) D.n D.cs) (.slice (some ⟨gb, 0, none⟩) D.n D.cb) qv (.bool D.dead) (.bool D.armed) (.int .i64 D.left) j) = st6 (.slice (some ⟨gs, 0, none⟩) D'.n D'.cs) (.slice (some ⟨gb, 0, none⟩) D'.n D'.cb) qv (.bool D'.dead) (.bool D'.armed) (.int .i64 D'.left) j)
    (hn : D'.n = D.n) (hs : D'.sec = D.sec) (hb : D'.bad = D.bad) (hq : D'.q = D.q) (ha : D'.qa = D.qa) (hf : D'.qb = D.qb) (hcs : D'.cs = D.cs) (hcb : D'.cb = D.cb) (ok : D'.Ok) : DiskIn B g gs gb qv D' (W.setCell ⟨g, i, none⟩ u) := by
  obtain ⟨n1, n2, n3⟩ := h.ne
  refine ⟨(h.row.set i u).congr hst, ?_, ?_, ?_, h.base, ok⟩
  · rw [hn, hs, hcs]; exact h.sec.setOther _ _ n1
  · rw [hn, hb, hcb]; exact h.bad.setOther _ _ n2
  · rw [hq, ha, hf]; exact h.que.other h.row (by decide) i u

/-- A store into a block that is no disk's. -/
theorem DiskIn.other {B g gs gb k : Nat} {qv : Value} {D : Dsk} {W : World} (h : DiskIn B g gs gb qv D W) {c n : Nat} {F : Nat → Value} (hr : RowAt W k 23 c n F) (i : Nat) (u : Value) : DiskIn B g gs gb qv D (W.setCell ⟨k, i, none⟩ u) :=
  ⟨h.row.setOther _ _ (hr.neType h.row (by decide)), h.sec.setOther _ _ (hr.neType h.sec (by decide)), h.bad.setOther _ _ (hr.neType h.bad (by decide)), h.que.other hr (by decide) i u, h.base, h.ok⟩

def Dsk.arm (D : Dsk) (a : Bool) (l : Int) : Dsk := { D with armed := a, left := l }
theorem DiskIn.arm {B g gs gb : Nat} {qv : Value} {D : Dsk} {W : World} (h : DiskIn B g gs gb qv D W) (a : Bool) (l : Int) (hl : 0 ≤ l ∧ l ≤ 9223372036854775807) :
    DiskIn B g gs gb qv (D.arm a l) ((W.setCell ⟨g, 4, none⟩ (.bool a)).setCell ⟨g, 5, none⟩ (.int .i64 l)) := by
  have ho := h.ok
  refine (h.put (D' := D.arm a D.left) 4 (.bool a) (fun j hj => ?_) rfl rfl rfl rfl rfl rfl rfl rfl ⟨ho.size, ho.byte, ho.queue, ho.put, ho.pbyte, ho.left⟩).put (D' := D.arm a l) 5 (.int .i64 l) (fun j hj => ?_) rfl rfl rfl rfl rfl rfl rfl rfl ⟨ho.size, ho.byte, ho.queue, ho.put, ho.pbyte, hl⟩
  all_goals
    obtain rfl | rfl | rfl | rfl | rfl | rfl : j = 0 ∨ j = 1 ∨ j = 2 ∨ j = 3 ∨ j = 4 ∨ j = 5 := by omega
    all_goals rfl

/-- The types that a disk's memory has. -/
def diskT (e : TypeId) : Bool := e == 76 || e == 79 || e == 4 || e == 81
def notDisk : Obj → Bool
  | .cells _ e _ => !diskT e
  | _ => true
/-- All that is no disk's stands. -/
def Calm (w w' : World) : Prop := w.heap.size ≤ w'.heap.size ∧ ∀ (b : Nat) (o : Obj), w.heap[b]? = some o → notDisk o = true → w'.heap[b]? = some o
theorem Calm.refl (w : World) : Calm w w := ⟨Nat.le_refl _, fun _ _ h _ => h⟩
theorem Calm.trans {w w1 w2 : World} (h : Calm w w1) (h' : Calm w1 w2) : Calm w w2 := ⟨Nat.le_trans h.1 h'.1, fun b o ho hn => h'.2 b o (h.2 b o ho hn) hn⟩
theorem calm_below {w w' : World} (h : Below w.heap.size w w') : Calm w w' := ⟨h.size, fun b o ho _ => (h.block b (Array.getElem?_eq_some_iff.1 ho).1).trans ho⟩
theorem Calm.drew {w w' : World} (h : Calm w w') : Calm w w'.drew := h
theorem Calm.alloc {w w' : World} (h : Calm w w') (o : Obj) : Calm w (w'.alloc o) := h.trans (calm_below ((Below.refl _ w').alloc (Nat.le_refl _) o))
theorem Calm.setDisk {w w' : World} (h : Calm w w') {g i : Nat} {e : TypeId} {c n : Nat} {F : Nat → Value} (hr : RowAt w' g e c n F) (he : diskT e = true) (v : Value) : Calm w (w'.setCell ⟨g, i, none⟩ v) := by
  refine ⟨by simp; exact h.1, fun b o ho hn => ?_⟩
  have h1 := h.2 b o ho hn
  refine (Below.heap_setCell w' ⟨g, i, none⟩ v b ?_).trans h1
  rintro rfl
  obtain ⟨cur, hg, _⟩ := hr
  rw [hg] at h1
  cases h1
  have h9 : (!diskT e) = true := hn
  rw [he] at h9
  cases h9
theorem Calm.setNew {w w' : World} (h : Calm w w') {g i : Nat} (hg : w.heap.size ≤ g) (v : Value) : Calm w (w'.setCell ⟨g, i, none⟩ v) := by
  refine ⟨by simp; exact h.1, fun b o ho hn => (Below.heap_setCell w' ⟨g, i, none⟩ v b ?_).trans (h.2 b o ho hn)⟩
  have := (Array.getElem?_eq_some_iff.1 ho).1
  show b ≠ g
  omega
theorem Calm.grown {w w1 w2 : World} {row : Option Nat} (h : Calm w w1) (hg : w1.grownBy w2 row) (hr : ∀ r, row = some r → ∃ o, w1.heap[r]? = some o ∧ notDisk o = false) : Calm w w2 := by
  refine ⟨Nat.le_trans h.1 hg.size, fun b o ho hn => ?_⟩
  have h1 := h.2 b o ho hn
  refine (hg.block b (Array.getElem?_eq_some_iff.1 h1).1 fun e => ?_).trans h1
  obtain ⟨o', h2, h3⟩ := hr b e.symm
  rw [h1] at h2
  cases h2
  rw [hn] at h3; cases h3

/-- What an operation that returns an error alone leaves. -/
def Out1 (B g gs gb : Nat) (qv : Value) (c : Int) (D' : Dsk) (w : World) (e : Ending) (w' : World) : Prop := e = .returned (.int .i64 c) ∧ DiskIn B g gs gb qv D' w' ∧ Below B w w' ∧ Calm w w'

theorem out1_panic {B g gs gb : Nat} {qv : Value} {D : Dsk} {w : World} {c : Int} (h : DiskIn B g gs gb qv D w) :
    Out1 B g gs gb qv c D w (.returned (.int .i64 c)) (((w.alloc (.cells #[.int .i64 c] 23)).alloc (.cells #[] 85)).alloc (.cells #[] 85)) := by
  have hlt := h.lt
  refine ⟨rfl, h.all ?_, ?_, calm_below ?_⟩
  rotate_left 2
  · exact (((Below.refl _ w).alloc (Nat.le_refl _) _).alloc (by simp) _).alloc (by simp; omega) _
  · exact (((Below.refl _ w).alloc (Nat.le_refl _) _).alloc (by simp) _).alloc (by simp; omega) _
  · exact (((Below.refl _ w).alloc hlt _).alloc (by simp; omega) _).alloc (by simp; omega) _

set_option maxHeartbeats 4000000 in
theorem Stop_arg {B g gs gb : Nat} {qv : Value} {D : Dsk} (after : Int) (w : World) (h : DiskIn B g gs gb qv D w) (ha : after < -1) :
    Calls Try.prog 19 #[.pointer (some ⟨g, 0, none⟩), .int .i64 after] w (Out1 B g gs gb qv 1 D w) := by
  have hlt := h.lt
  have ho := ((row_new1 w w.heap.size (.int .i64 0) 23 rfl).alloc (.cells #[] 85)).alloc (.cells #[] 85)
  have x1 := ho.cell (i := 0) (by omega)
  have f1 := ho.frozen 0
  have Hcat := Lib.hid (catch_fail_n ⟨w.heap.size + 1, 0, none⟩ ⟨w.heap.size, 0, none⟩ 1 _ _ x1 f1)
  have Hd := Lib.hid h
  clear x1 f1 ho h
  go_enter_defers Try.func19, Try.ntmps19
  go_wp2_with fail
  refine (want_ok 23 _).mono ?_
  rintro e w1 ⟨rfl, rfl⟩
  have ha2 : decide (-1 ≤ after) = false := decide_eq_false (by omega)
  go_wp2_with fail
  refine (want_not 1 _).mono ?_
  rintro e w1 ⟨rfl, rfl⟩
  go_wp2
  refine leaves_cons (f := 38) (args := #[.pointer (some ⟨w.heap.size + 1, 0, none⟩), .pointer (some ⟨w.heap.size, 0, none⟩)]) (by simp) (by simp [go_sem]) ?_
  refine Hcat.out.mono ?_
  rintro e u' w'' ⟨rfl, rfl, rfl⟩
  simp [Leaves, settle, results, Try.results19, go_sem, failR]
  exact out1_panic Hd.out

set_option maxHeartbeats 4000000 in
theorem Stop_dead {B g gs gb : Nat} {qv : Value} {D : Dsk} (after : Int) (w : World) (h : DiskIn B g gs gb qv D w) (ha : -1 ≤ after) (hdd : D.dead = true) :
    Calls Try.prog 19 #[.pointer (some ⟨g, 0, none⟩), .int .i64 after] w (Out1 B g gs gb qv 7 D w) := by
  have hlt := h.lt
  have ho := ((row_new1 w w.heap.size (.int .i64 0) 23 rfl).alloc (.cells #[] 85)).alloc (.cells #[] 85)
  have x1 := ho.cell (i := 0) (by omega)
  have f1 := ho.frozen 0
  have Hcat := Lib.hid (catch_fail_n ⟨w.heap.size + 1, 0, none⟩ ⟨w.heap.size, 0, none⟩ 7 _ _ x1 f1)
  have Hd := Lib.hid h
  obtain ⟨c0, c1, c2, c3, c4, c5⟩ := ((h.all ((Below.refl _ w).alloc (Nat.le_refl _) (.cells #[.int .i64 0] 23))).all ((Below.refl _ _).alloc (Nat.le_refl _) (.cells #[] 85))).cells
  clear x1 f1 ho h
  go_enter_defers Try.func19, Try.ntmps19
  rw [hdd] at c3
  clear hdd
  have ha2 : decide (-1 ≤ after) = true := decide_eq_true ha
  go_wp2_with fail
  refine (want_ok 23 _).mono ?_
  rintro e w1 ⟨rfl, rfl⟩
  go_wp2_with fail
  refine (want_ok 1 _).mono ?_
  rintro e w1 ⟨rfl, rfl⟩
  go_wp2_with fail
  refine (want_not 7 _).mono ?_
  rintro e w1 ⟨rfl, rfl⟩
  go_wp2
  refine leaves_cons (f := 38) (args := #[.pointer (some ⟨w.heap.size + 1, 0, none⟩), .pointer (some ⟨w.heap.size, 0, none⟩)]) (by simp) (by simp [go_sem]) ?_
  refine Hcat.out.mono ?_
  rintro e u' w'' ⟨rfl, rfl, rfl⟩
  simp [Leaves, settle, results, Try.results19, go_sem, failR]
  exact out1_panic Hd.out

set_option maxHeartbeats 4000000 in
theorem Stop_ok {B g gs gb : Nat} {qv : Value} {D : Dsk} (after : Int) (w : World) (h : DiskIn B g gs gb qv D w) (ha : -1 ≤ after ∧ after ≤ 9223372036854775807) (hdd : D.dead = false) :
    Calls Try.prog 19 #[.pointer (some ⟨g, 0, none⟩), .int .i64 after] w (Out1 B g gs gb qv 0 (D.arm (decide (0 ≤ after)) (if 0 ≤ after then after else 0)) w) := by
  have hlt := h.lt
  have ho := ((row_new1 w w.heap.size (.int .i64 0) 23 rfl).alloc (.cells #[] 85)).alloc (.cells #[] 85)
  have x1 := ho.cell (i := 0) (by omega)
  have f1 := ho.frozen 0
  have Hd := Lib.hid h
  have hW := (h.all ((Below.refl _ w).alloc (Nat.le_refl _) (.cells #[.int .i64 0] 23))).all ((Below.refl _ _).alloc (Nat.le_refl _) (.cells #[] 85))
  obtain ⟨c0, c1, c2, c3, c4, c5⟩ := hW.cells
  have z4 := hW.row.frozen 4
  have z5 := hW.row.frozen 5
  have HW := Lib.hid hW
  clear hW x1 f1 ho h
  have Hro := Lib.hid ((row_new1 w w.heap.size (.int .i64 0) 23 rfl).alloc (.cells #[] 85))
  have Hgne := Lib.hid (show g ≠ w.heap.size from fun h9 => by have := Hd.out.row.lt; omega)
  have Hbw := Lib.hid (((Below.refl B w).alloc hlt (.cells #[.int .i64 0] 23)).alloc (by simp; omega) (.cells #[] 85))
  have HCw := Lib.hid (calm_below (((Below.refl _ w).alloc (Nat.le_refl _) (.cells #[.int .i64 0] 23)).alloc (by simp) (.cells #[] 85)))
  rw [hdd] at c3
  clear hdd
  have ha2 : decide (-1 ≤ after) = true := decide_eq_true ha.1
  have hdec : (0 ≤ after ∧ decide (0 ≤ after) = true) ∨ (after = -1 ∧ decide (0 ≤ after) = false) := by
    by_cases h0 : 0 ≤ after
    · exact .inl ⟨h0, decide_eq_true h0⟩
    · exact .inr ⟨by omega, decide_eq_false h0⟩
  rcases hdec with ⟨h0, hd0⟩ | ⟨h0, hd0⟩
  · rw [hd0, if_pos h0]
    have hE := (HW.out.arm true after ⟨h0, ha.2⟩)
    have hro := (Hro.out.setOther ⟨g, 4, none⟩ (.bool true) Hgne.out).setOther ⟨g, 5, none⟩ (.int .i64 after) Hgne.out
    have hbz := (Hbw.out.setCell (p := ⟨g, 4, none⟩) Hd.out.base.1 (.bool true)).setCell (p := ⟨g, 5, none⟩) Hd.out.base.1 (.int .i64 after)
    have HE := Lib.hid hE; clear hE
    have HR := Lib.hid hro; clear hro
    have HB := Lib.hid hbz; clear hbz
    have HC := Lib.hid (((HCw.out.setDisk (i := 4) HW.out.row rfl (.bool true)).setDisk (i := 5) (HW.out.row.set 4 (.bool true)) rfl (.int .i64 after)).setNew (g := w.heap.size) (i := 0) (Nat.le_refl _) (.int .i64 0))
    go_enter_defers Try.func19, Try.ntmps19
    go_wp2_with fail
    refine (want_ok 23 _).mono ?_
    rintro e w1 ⟨rfl, rfl⟩
    go_wp2_with fail
    refine (want_ok 1 _).mono ?_
    rintro e w1 ⟨rfl, rfl⟩
    go_wp2_with fail
    refine (want_ok 7 _).mono ?_
    rintro e w1 ⟨rfl, rfl⟩
    go_upto_region 6 with fail
    clear c0 c1 c2 c3 c4 c5 z4 z5 HW Hro
    generalize ((((w.alloc (.cells #[.int .i64 0] 23)).alloc (.cells #[] 85)).setCell ⟨g, 4, none⟩ (.bool true)).setCell ⟨g, 5, none⟩ (.int .i64 after)) = W3 at *
    have x1 := HR.out.cell (i := 0) (by omega)
    have f1 := HR.out.frozen 0
    have y1 := Lib.hid ((HR.out.set1 (.int .i64 0)).cell (i := 0) (by omega))
    go_wp2
    refine leaves_cons (f := 38) (args := #[.pointer (some ⟨w.heap.size + 1, 0, none⟩), .pointer (some ⟨w.heap.size, 0, none⟩)]) (by simp) (by simp [go_sem]) ?_
    refine (catch_idle_n _ _ _).mono ?_
    rintro e u' w'' ⟨rfl, rfl, rfl⟩
    simp [Leaves, settle, results, Try.results19, go_sem, y1.out]
    exact ⟨rfl, HE.out.other HR.out 0 _, HB.out.setCell (p := ⟨w.heap.size, 0, none⟩) hlt _, HC.out⟩
  · rw [hd0, if_neg (by omega)]
    subst h0
    have hE := (HW.out.arm false 0 ⟨by decide, by decide⟩)
    have hro := (Hro.out.setOther ⟨g, 4, none⟩ (.bool false) Hgne.out).setOther ⟨g, 5, none⟩ (.int .i64 0) Hgne.out
    have hbz := (Hbw.out.setCell (p := ⟨g, 4, none⟩) Hd.out.base.1 (.bool false)).setCell (p := ⟨g, 5, none⟩) Hd.out.base.1 (.int .i64 0)
    have HE := Lib.hid hE; clear hE
    have HR := Lib.hid hro; clear hro
    have HB := Lib.hid hbz; clear hbz
    have HC := Lib.hid (((HCw.out.setDisk (i := 4) HW.out.row rfl (.bool false)).setDisk (i := 5) (HW.out.row.set 4 (.bool false)) rfl (.int .i64 0)).setNew (g := w.heap.size) (i := 0) (Nat.le_refl _) (.int .i64 0))
    go_enter_defers Try.func19, Try.ntmps19
    go_wp2_with fail
    refine (want_ok 23 _).mono ?_
    rintro e w1 ⟨rfl, rfl⟩
    go_wp2_with fail
    refine (want_ok 1 _).mono ?_
    rintro e w1 ⟨rfl, rfl⟩
    go_wp2_with fail
    refine (want_ok 7 _).mono ?_
    rintro e w1 ⟨rfl, rfl⟩
    go_upto_region 6 with fail
    clear c0 c1 c2 c3 c4 c5 z4 z5 HW Hro
    generalize ((((w.alloc (.cells #[.int .i64 0] 23)).alloc (.cells #[] 85)).setCell ⟨g, 4, none⟩ (.bool false)).setCell ⟨g, 5, none⟩ (.int .i64 0)) = W3 at *
    have x1 := HR.out.cell (i := 0) (by omega)
    have f1 := HR.out.frozen 0
    have y1 := Lib.hid ((HR.out.set1 (.int .i64 0)).cell (i := 0) (by omega))
    go_wp2
    refine leaves_cons (f := 38) (args := #[.pointer (some ⟨w.heap.size + 1, 0, none⟩), .pointer (some ⟨w.heap.size, 0, none⟩)]) (by simp) (by simp [go_sem]) ?_
    refine (catch_idle_n _ _ _).mono ?_
    rintro e u' w'' ⟨rfl, rfl, rfl⟩
    simp [Leaves, settle, results, Try.results19, go_sem, y1.out]
    exact ⟨rfl, HE.out.other HR.out 0 _, HB.out.setCell (p := ⟨w.heap.size, 0, none⟩) hlt _, HC.out⟩

end Go.Proofs.Ytjhcaedfknhilaa
