/- Disk: a disk in memory; Size, Alive, Queued, ready, done. -/
import Derived.Test.YtjhcaedfknhilaaDiskB
namespace Go.Proofs.Ytjhcaedfknhilaa
open Go.RowKit
attribute [local go_sem ↓] Go.wp_at_zero Go.wp_at_succ

/-- A disk, plainly. -/
structure Dsk where
  n : Nat
  sec : Nat → Nat → Int
  bad : Nat → Bool
  q : Nat
  qa : Nat → Nat
  qb : Nat → Nat → Int
  dead : Bool
  armed : Bool
  left : Int
  cs : Nat
  cb : Nat

def secV (f : Nat → Nat → Int) (k : Nat) : Value := .int .u8 (f (k / 64) (k % 64))
def badV (f : Nat → Bool) (k : Nat) : Value := .bool (f k)
def putV (a : Nat → Nat) (f : Nat → Nat → Int) (k : Nat) : Value := if k % 65 = 0 then .int .i64 (a (k / 65)) else .int .u8 (f (k / 65) (k % 65 - 1))
def st6 (a b c d e f : Value) (k : Nat) : Value := if k = 0 then a else if k = 1 then b else if k = 2 then c else if k = 3 then d else if k = 4 then e else f

/-- The queue of a disk: a list of the disk's own. -/
def Puts (W : World) (B : Nat) (v : Value) (q : Nat) (a : Nat → Nat) (f : Nat → Nat → Int) : Prop :=
  (v = .slice none 0 0 ∧ q = 0) ∨ ∃ g cap, v = .slice (some ⟨g, 0, none⟩) q cap ∧ B ≤ g ∧ RowAt W g 81 (cap * 65) (q * 65) (putV a f) ∧ cap ≤ maxLen
theorem Puts.slice {W : World} {B : Nat} {v : Value} {q : Nat} {a : Nat → Nat} {f : Nat → Nat → Int} (h : Puts W B v q a f) : ∃ x cap, v = .slice x q cap := by
  rcases h with ⟨rfl, rfl⟩ | ⟨g, cap, rfl, _⟩
  · exact ⟨_, _, rfl⟩
  · exact ⟨_, _, rfl⟩
theorem Puts.all {W W' : World} {B : Nat} {v : Value} {q : Nat} {a : Nat → Nat} {f : Nat → Nat → Int} (h : Puts W B v q a f) (hb : Below W.heap.size W W') : Puts W' B v q a f := by
  rcases h with h | ⟨g, cap, h1, h2, h3, h4⟩
  · exact .inl h
  · exact .inr ⟨g, cap, h1, h2, h3.all hb, h4⟩

/-- What is so of each disk. -/
structure Dsk.Ok (D : Dsk) : Prop where
  size : 1 ≤ D.n ∧ D.n ≤ 4096
  byte : ∀ i j, 0 ≤ D.sec i j ∧ D.sec i j < 256
  queue : D.q ≤ 65536
  put : ∀ i, i < D.q → D.qa i < D.n
  pbyte : ∀ i j, 0 ≤ D.qb i j ∧ D.qb i j < 256
  left : 0 ≤ D.left ∧ D.left ≤ 9223372036854775807

/-- A disk in memory: its struct in block g, its sectors in gs, its marks of bad ones in gb; all from block B on. -/
structure DiskIn (B g gs gb : Nat) (qv : Value) (D : Dsk) (W : World) : Prop where
  row : RowAt W g 76 6 6 (st6 (.slice (some ⟨gs, 0, none⟩) D.n D.cs) (.slice (some ⟨gb, 0, none⟩) D.n D.cb) qv (.bool D.dead) (.bool D.armed) (.int .i64 D.left))
  sec : RowAt W gs 79 (D.cs * 64) (D.n * 64) (secV D.sec)
  bad : RowAt W gb 4 (D.cb * 1) (D.n * 1) (badV D.bad)
  que : Puts W B qv D.q D.qa D.qb
  base : B ≤ g ∧ B ≤ gs ∧ B ≤ gb
  ok : D.Ok
theorem DiskIn.all {B g gs gb : Nat} {qv : Value} {D : Dsk} {W W' : World} (h : DiskIn B g gs gb qv D W) (hb : Below W.heap.size W W') : DiskIn B g gs gb qv D W' :=
  ⟨h.row.all hb, h.sec.all hb, h.bad.all hb, h.que.all hb, h.base, h.ok⟩
theorem DiskIn.cells {B g gs gb : Nat} {qv : Value} {D : Dsk} {W : World} (h : DiskIn B g gs gb qv D W) :
    W.cell? ⟨g, 0, none⟩ = some (.slice (some ⟨gs, 0, none⟩) D.n D.cs) ∧ W.cell? ⟨g, 1, none⟩ = some (.slice (some ⟨gb, 0, none⟩) D.n D.cb) ∧ W.cell? ⟨g, 2, none⟩ = some qv ∧
    W.cell? ⟨g, 3, none⟩ = some (.bool D.dead) ∧ W.cell? ⟨g, 4, none⟩ = some (.bool D.armed) ∧ W.cell? ⟨g, 5, none⟩ = some (.int .i64 D.left) :=
  ⟨h.row.cell (i := 0) (by omega), h.row.cell (i := 1) (by omega), h.row.cell (i := 2) (by omega), h.row.cell (i := 3) (by omega), h.row.cell (i := 4) (by omega), h.row.cell (i := 5) (by omega)⟩

/-- A block ahead of B, or one of type e. -/
def Blk (B : Nat) (w : World) (e : TypeId) (b : Nat) : Prop := b < B ∨ ∃ cur fr, w.heap[b]? = some (.cells cur e fr)
/-- No such block is one of another type from B on. -/
theorem RowAt.neBlk {B : Nat} {w : World} {g b : Nat} {e e' : TypeId} {c n : Nat} {F : Nat → Value} (h : RowAt w g e c n F) (hB : B ≤ g) (he : e ≠ e') (hb : Blk B w e' b) : b ≠ g := by
  rintro rfl
  rcases hb with hb | ⟨cur, fr, hb⟩
  · omega
  · obtain ⟨cur', hc, _⟩ := h
    rw [hc] at hb
    injection hb with hx
    injection hx with _ hy
    exact he hy

/-- A list of numbers. -/
def NArg (B : Nat) (w : World) (v : Value) (n : Nat) (f : Nat → Int) : Prop :=
  (∀ i, -9223372036854775808 ≤ f i ∧ f i ≤ 9223372036854775807) ∧ ((n = 0 ∧ ∃ a cap, v = .slice a 0 cap) ∨ ∃ b off cap, v = .slice (some ⟨b, off, none⟩) n cap ∧ 0 < n ∧ n ≤ cap ∧ cap ≤ maxLen ∧ Cells w b off n (intsV f) ∧ Blk B w 3 b)
theorem NArg.slice {B : Nat} {w : World} {v : Value} {n : Nat} {f : Nat → Int} (h : NArg B w v n f) : ∃ a cap, v = .slice a n cap ∧ n ≤ maxLen := by
  rcases h with ⟨_, (⟨rfl, a, cap, rfl⟩ | ⟨b, off, cap, rfl, _, h1, h2, _⟩)⟩
  · exact ⟨_, _, rfl, Nat.zero_le _⟩
  · exact ⟨_, _, rfl, Nat.le_trans h1 h2⟩
theorem NArg.iarg {B : Nat} {w : World} {v : Value} {n : Nat} {f : Nat → Int} (h : NArg B w v n f) : IArg w v n f := by
  rcases h with ⟨hf, (h | ⟨b, off, cap, h1, h2, h3, h4, h5, _⟩)⟩
  · exact .inl h
  · exact .inr ⟨b, off, cap, h1, h2, h3, h4, h5, fun i _ => hf i⟩
theorem NArg.all {B : Nat} {w w' : World} {v : Value} {n : Nat} {f : Nat → Int} (h : NArg B w v n f) (hb : Below w.heap.size w w') : NArg B w' v n f := by
  rcases h with ⟨hf, (h | ⟨b, off, cap, h1, h2, h3, h4, h5, h6⟩)⟩
  · exact ⟨hf, .inl h⟩
  · refine ⟨hf, .inr ⟨b, off, cap, h1, h2, h3, h4, h5.all hb, ?_⟩⟩
    rcases h6 with h6 | ⟨cur, fr, h6⟩
    · exact .inl h6
    · exact .inr ⟨cur, fr, (hb.block b (Array.getElem?_eq_some_iff.1 h6).1).trans h6⟩

set_option maxHeartbeats 1000000 in
theorem Size_any {B g gs gb : Nat} {qv : Value} {D : Dsk} (w : World) (h : DiskIn B g gs gb qv D w) : Calls Try.prog 21 #[.pointer (some ⟨g, 0, none⟩)] w fun e w' => e = .returned (.int .i64 D.n) ∧ w = w' := by
  obtain ⟨c0, c1, c2, c3, c4, c5⟩ := h.cells
  clear h
  go_enter Try.func21, Try.ntmps21
  go_wp2
  go_ret
  exact ⟨rfl, rfl⟩
theorem Size_nil (w : World) : Calls Try.prog 21 #[.pointer none] w fun e w' => e = .returned (.int .i64 0) ∧ w = w' := by
  go_enter Try.func21, Try.ntmps21
  go_wp2
  go_ret
  exact ⟨rfl, rfl⟩

set_option maxHeartbeats 1000000 in
theorem Queued_any {B g gs gb : Nat} {qv : Value} {D : Dsk} (w : World) (h : DiskIn B g gs gb qv D w) : Calls Try.prog 27 #[.pointer (some ⟨g, 0, none⟩)] w fun e w' => e = .returned (.int .i64 D.q) ∧ w = w' := by
  obtain ⟨c0, c1, c2, c3, c4, c5⟩ := h.cells
  obtain ⟨x, cap, rfl⟩ := h.que.slice
  clear h
  go_enter Try.func27, Try.ntmps27
  go_wp2
  go_ret
  exact ⟨rfl, rfl⟩
theorem Queued_nil (w : World) : Calls Try.prog 27 #[.pointer none] w fun e w' => e = .returned (.int .i64 0) ∧ w = w' := by
  go_enter Try.func27, Try.ntmps27
  go_wp2
  go_ret
  exact ⟨rfl, rfl⟩

set_option maxHeartbeats 1000000 in
theorem Alive_any {B g gs gb : Nat} {qv : Value} {D : Dsk} (w : World) (h : DiskIn B g gs gb qv D w) : Calls Try.prog 26 #[.pointer (some ⟨g, 0, none⟩)] w fun e w' => e = .returned (.bool (!D.dead)) ∧ w = w' := by
  obtain ⟨c0, c1, c2, c3, c4, c5⟩ := h.cells
  clear h
  go_enter Try.func26, Try.ntmps26
  go_wp2
  go_ret
  exact ⟨rfl, rfl⟩
theorem Alive_nil (w : World) : Calls Try.prog 26 #[.pointer none] w fun e w' => e = .returned (.bool false) ∧ w = w' := by
  go_enter Try.func26, Try.ntmps26
  go_wp2
  go_ret
  exact ⟨rfl, rfl⟩

/-- Does it not answer? -/
def Dsk.off (D : Dsk) : Bool := D.dead || (D.armed && decide (D.left = 0))

set_option maxHeartbeats 1000000 in
theorem ready_ok {B g gs gb : Nat} {qv : Value} {D : Dsk} (w : World) (h : DiskIn B g gs gb qv D w) (hd : D.off = false) : Calls Try.prog 39 #[.pointer (some ⟨g, 0, none⟩)] w fun e w' => e = .returned (.tuple #[]) ∧ w = w' := by
  obtain ⟨c0, c1, c2, c3, c4, c5⟩ := h.cells
  obtain ⟨-, -, -, -, -, hl⟩ := h.ok
  clear h
  unfold Dsk.off at hd
  rcases h1 : D.dead with _ | _
  rotate_left 1
  · rw [h1] at hd; cases hd
  rw [h1] at c3 hd
  rcases h2 : D.armed with _ | _
  · rw [h2] at c4
    clear h1 h2 hd
    go_enter Try.func39, Try.ntmps39
    go_wp2_with fail
    refine (want_ok 7 w).mono ?_
    rintro e w' ⟨rfl, rfl⟩
    go_wp2
    go_end0
    exact ⟨rfl, rfl⟩
  · rw [h2] at c4 hd
    have hl0 : (D.left == 0) = false := by rw [beq_eq_false_iff_ne]; simpa using hd
    clear h1 h2 hd
    go_enter Try.func39, Try.ntmps39
    go_wp2_with fail
    refine (want_ok 7 w).mono ?_
    rintro e w' ⟨rfl, rfl⟩
    go_wp2
    go_end0
    exact ⟨rfl, rfl⟩

set_option maxHeartbeats 1000000 in
theorem ready_not {B g gs gb : Nat} {qv : Value} {D : Dsk} (w : World) (h : DiskIn B g gs gb qv D w) (hd : D.off = true) : Calls Try.prog 39 #[.pointer (some ⟨g, 0, none⟩)] w fun e w' => e = .panicked (failP 7) ∧ w = w' := by
  obtain ⟨c0, c1, c2, c3, c4, c5⟩ := h.cells
  clear h
  unfold Dsk.off at hd
  rcases h1 : D.dead with _ | _
  rotate_left 1
  · rw [h1] at c3
    clear h1 hd
    go_enter Try.func39, Try.ntmps39
    go_wp2_with fail
    refine (want_not 7 w).mono ?_
    rintro e w' ⟨rfl, rfl⟩
    go_wp2
    exact ⟨rfl, rfl, rfl⟩
  · rw [h1] at c3 hd
    rcases h2 : D.armed with _ | _
    · rw [h2] at hd; cases hd
    rw [h2] at c4 hd
    have hl0 : (D.left == 0) = true := by rw [beq_iff_eq]; simpa using hd
    clear h1 h2 hd
    go_enter Try.func39, Try.ntmps39
    go_wp2_with fail
    refine (want_not 7 w).mono ?_
    rintro e w' ⟨rfl, rfl⟩
    go_wp2
    exact ⟨rfl, rfl, rfl⟩

end Go.Proofs.Ytjhcaedfknhilaa
