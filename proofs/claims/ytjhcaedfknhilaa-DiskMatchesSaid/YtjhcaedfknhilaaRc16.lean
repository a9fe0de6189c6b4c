/- The reference: off, used, within. The reference: Right. A disk behind acts. Plain laws of a disk: what Crash leaves. -/
import Derived.Test.YtjhcaedfknhilaaRc14
import Derived.Test.YtjhcaedfknhilaaRc15
namespace Go.Proofs.Ytjhcaedfknhilaa
set_option linter.unusedVariables false
set_option linter.unusedSimpArgs false
open Go.RowKit
attribute [local go_sem ↓] Go.wp_at_zero Go.wp_at_succ
attribute [-go_sem] loadCellsFrom storeCells
attribute [local go_sem] storeCells_one

theorem keepsD_wrote {B g : Nat} {W W' : World} {e : TypeId} {c n : Nat} {F : Nat → Value} (hw : Wrote W W' g) (hr : RowAt W g e c n F) (he : dataT e = false) (hB : B ≤ g) : KeepsD B W W' := by
  refine ⟨hw.1.size, fun b o ho hn => (hw.block ?_).trans ho⟩
  rintro rfl
  obtain ⟨cur, hg, _⟩ := hr
  rw [hg] at ho
  cases ho
  rcases hn with hn | hn
  · omega
  · have h9 : dataT e = true := hn
    rw [he] at h9; cases h9

/-- The box of the argument, and that of the result. -/
structure RefI (w : World) (r : Nat) (a b c d e f : Value) (W : World) : Prop where
  hr : w.heap.size + 1 ≤ r
  below : Below w.heap.size w W
  box : RowAt W w.heap.size 31 6 6 (st6 a b c d e f)
  res : RowAt W r 31 6 6 (st6 (.slice none 0 0) (.slice none 0 0) (.slice none 0 0) (.bool false) (.bool false) (.int .i64 0))
theorem RefI.all {w W W' : World} {r : Nat} {a b c d e f : Value} (h : RefI w r a b c d e f W) (hb : Below W.heap.size W W') : RefI w r a b c d e f W' :=
  ⟨h.hr, h.below.trans (hb.mono h.below.size), h.box.all hb, h.res.all hb⟩
theorem refI_new (w : World) (a b c d e f : Value) : RefI w (w.heap.size + 1) a b c d e f ((w.alloc (.cells #[a, b, c, d, e, f] 31)).alloc (.cells #[.slice none 0 0, .slice none 0 0, .slice none 0 0, .bool false, .bool false, .int .i64 0] 31)) :=
  ⟨Nat.le_refl _, ((Below.refl _ w).alloc (Nat.le_refl _) _).alloc (by simp) _, (row_six w a b c d e f 31).alloc _, by
    have := row_six (w.alloc (.cells #[a, b, c, d, e, f] 31)) (.slice none 0 0) (.slice none 0 0) (.slice none 0 0) (.bool false) (.bool false) (.int .i64 0) 31
    rwa [World.size_alloc] at this⟩
theorem RefI.load {w W : World} {r : Nat} {a b c d e f : Value} (h : RefI w r a b c d e f W) : (loadCellsFrom ⟨w.heap.size, 0, none⟩ 0 6 #[]).run Try.prog W = .ok #[a, b, c, d, e, f] W := loadC_dev h.box
/-- What is left behind the result's store. -/
structure RefZ (B r : Nat) (w : World) (x0 x1 x2 x3 x4 x5 : Value) (W : World) : Prop where
  store : (storeCells ⟨r, 0, none⟩ [x0, x1, x2, x3, x4, x5] 0).run Try.prog W = .ok () (W.setCells r 0 [x0, x1, x2, x3, x4, x5])
  load : (loadVar 31 ⟨r, 0, none⟩).run Try.prog (W.setCells r 0 [x0, x1, x2, x3, x4, x5]) = .ok (.agg #[x0, x1, x2, x3, x4, x5]) (W.setCells r 0 [x0, x1, x2, x3, x4, x5])
  below : Below w.heap.size w (W.setCells r 0 [x0, x1, x2, x3, x4, x5])
  keeps : KeepsD B W (W.setCells r 0 [x0, x1, x2, x3, x4, x5])
theorem RefI.fin {B r : Nat} {w W : World} {a b c d e f : Value} (h : RefI w r a b c d e f W) (hB : B ≤ w.heap.size) {x0 x1 x2 x3 x4 x5 : Value} (h1 : ∀ v ∈ [x0, x1, x2, x3, x4, x5], v.oneCell' = true) : RefZ B r w x0 x1 x2 x3 x4 x5 W := by
  have hs := row_set6 h.res x0 x1 x2 x3 x4 x5
  have hl := h.res.lt
  have hr := h.hr
  exact ⟨storeC_six h.res h1, resDev hs.1, hs.2.below h.below (by omega) (by omega), keepsD_wrote hs.2 h.res rfl (by omega)⟩

def Dev.off (X : Dev) : Bool := X.dead || (X.armed && decide (X.left = 0))
theorem dev_off (D : Dsk) : D.dev.off = D.off := rfl

set_option maxHeartbeats 1000000 in
theorem off_any {B : Nat} {dv qv bv : Value} {X : Dev} (w : World) (h : DevAt B w dv qv bv X) :
    Calls Try.prog 65 #[devV dv qv bv X] w fun e w' => e = .returned (.bool X.off) ∧ Below w.heap.size w w' := by
  obtain ⟨dx, dc, rfl, -⟩ := h.data.slice
  obtain ⟨qx, qc, rfl, -⟩ := h.queue.slice
  obtain ⟨bx, bc, rfl, -⟩ := h.bad.slice
  have hr := row_six w (.slice dx X.n dc) (.slice qx X.q qc) (.slice bx X.m bc) (.bool X.dead) (.bool X.armed) (.int .i64 X.left) 31
  have HB := Lib.hid ((Below.refl _ w).alloc (Nat.le_refl _) (.cells #[.slice dx X.n dc, .slice qx X.q qc, .slice bx X.m bc, .bool X.dead, .bool X.armed, .int .i64 X.left] 31))
  have HR := Lib.hid hr
  clear hr h
  unfold devV
  go_enter Try.func65, Try.ntmps65
  go_upto_region 1 with fail
  generalize w.alloc (.cells #[.slice dx X.n dc, .slice qx X.q qc, .slice bx X.m bc, .bool X.dead, .bool X.armed, .int .i64 X.left] 31) = W at *
  obtain ⟨-, -, -, a3, a4, a5⟩ := cells6 HR.out
  rcases bool_cases X.dead with hd | hd
  · rcases bool_cases X.armed with ha | ha
    · have Hx := Lib.hid (show X.off = false by unfold Dev.off; rw [hd, ha]; rfl)
      rw [hd] at a3
      rw [ha] at a4
      clear hd ha
      go_wp2_with fail
      go_ret
      exact ⟨by rw [Hx.out]; rfl, HB.out⟩
    · by_cases hl : X.left = 0
      · have Hx := Lib.hid (show X.off = true by unfold Dev.off; rw [hd, ha, hl]; rfl)
        have hl' : (X.left == 0) = true := beq_iff_eq.2 hl
        rw [hd] at a3
        rw [ha] at a4
        clear hd ha hl
        go_wp2_with fail
        go_ret
        exact ⟨by rw [Hx.out]; rfl, HB.out⟩
      · have Hx := Lib.hid (show X.off = false by unfold Dev.off; rw [hd, ha, decide_eq_false hl]; rfl)
        have hl' : (X.left == 0) = false := beq_eq_false_iff_ne.2 hl
        rw [hd] at a3
        rw [ha] at a4
        clear hd ha hl
        go_wp2_with fail
        go_ret
        exact ⟨by rw [Hx.out]; rfl, HB.out⟩
  · have Hx := Lib.hid (show X.off = true by unfold Dev.off; rw [hd]; rfl)
    rw [hd] at a3
    clear hd
    go_wp2_with fail
    go_ret
    exact ⟨by rw [Hx.out]; rfl, HB.out⟩

/-- Sectors that are a device's. -/
def inX (X : Dev) (a m : Int) : Prop := 0 ≤ a ∧ 0 ≤ m ∧ a ≤ (X.n / 64 : Nat) ∧ m ≤ (X.n / 64 : Nat) - a
theorem inX_dev (D : Dsk) (a m : Int) : inX D.dev a m ↔ inD D a m := by
  unfold inX inD
  rw [show D.dev.n / 64 = D.n from by show D.n * 64 / 64 = D.n; omega]

set_option maxHeartbeats 2000000 in
theorem within_any {B : Nat} {dv qv bv : Value} {X : Dev} (a m : Int) (w : World) (h : DevAt B w dv qv bv X) :
    Calls Try.prog 64 #[devV dv qv bv X, .int .i64 a, .int .i64 m] w fun e w' => (∃ b, e = .returned (.bool b) ∧ (b = true ↔ inX X a m)) ∧ Below w.heap.size w w' := by
  obtain ⟨dx, dc, rfl, hdm⟩ := h.data.slice
  obtain ⟨qx, qc, rfl, -⟩ := h.queue.slice
  obtain ⟨bx, bc, rfl, -⟩ := h.bad.slice
  unfold maxLen at hdm
  have hr := row_six w (.slice dx X.n dc) (.slice qx X.q qc) (.slice bx X.m bc) (.bool X.dead) (.bool X.armed) (.int .i64 X.left) 31
  have hbl := (Below.refl _ w).alloc (Nat.le_refl w.heap.size) (.cells #[.slice dx X.n dc, .slice qx X.q qc, .slice bx X.m bc, .bool X.dead, .bool X.armed, .int .i64 X.left] 31)
  have HB := Lib.hid hbl
  have HD := Lib.hid (h.all hbl)
  have hload := loadC_dev hr
  clear hr h hbl
  unfold devV
  go_enter Try.func64, Try.ntmps64
  go_upto_region 1 with fail
  generalize w.alloc (.cells #[.slice dx X.n dc, .slice qx X.q qc, .slice bx X.m bc, .bool X.dead, .bool X.armed, .int .i64 X.left] 31) = W at *
  go_wp2_with fail
  refine (Sectors_any W HD.out).mono ?_
  rintro e w2 ⟨rfl, hb⟩
  have HB2 := Lib.hid (HB.out.trans (hb.mono HB.out.size))
  clear hload hb
  obtain ⟨N, hN⟩ : ∃ N, X.n / 64 = N := ⟨_, rfl⟩
  have hNm : N ≤ 9223372036854775807 := by omega
  rw [hN]
  have HN := Lib.hid hN
  clear hN
  by_cases h1 : 0 ≤ a
  · have d1 : decide (a ≥ 0) = true := decide_eq_true h1
    by_cases h2 : 0 ≤ m
    · have d2 : decide (m ≥ 0) = true := decide_eq_true h2
      by_cases h3 : a ≤ N
      · have d3 : decide (a ≤ N) = true := decide_eq_true h3
        have hw : IntKind.i64.wrap ((N : Int) - a) = N - a := IntWalk.i64_in _ (by omega)
        go_wp2_with fail
        go_ret
        refine ⟨⟨_, rfl, ?_⟩, HB2.out⟩
        unfold inX
        rw [HN.out]
        simp only [decide_eq_true_eq]
        omega
      · have d3 : decide (a ≤ N) = false := decide_eq_false h3
        go_wp2_with fail
        go_ret
        refine ⟨⟨_, rfl, ?_⟩, HB2.out⟩
        unfold inX
        rw [HN.out]
        exact ⟨fun h => (by cases h), fun h => (by have := h.2.2.1; omega)⟩
    · have d2 : decide (m ≥ 0) = false := decide_eq_false h2
      go_wp2_with fail
      go_ret
      exact ⟨⟨_, rfl, fun h => (by cases h), fun h => (by have := h.2.1; omega)⟩, HB2.out⟩
  · have d1 : decide (a ≥ 0) = false := decide_eq_false h1
    go_wp2_with fail
    go_ret
    exact ⟨⟨_, rfl, fun h => (by cases h), fun h => (by have := h.1; omega)⟩, HB2.out⟩

/-- A store into the box. -/
theorem RefI.set {w W : World} {r : Nat} {a b c d e f : Value} (h : RefI w r a b c d e f W) {B : Nat} (hB : B ≤ w.heap.size) (i : Nat) (v : Value) {a' b' c' d' e' f' : Value} (hv : ∀ k, k < 6 → (if k = i then v else st6 a b c d e f k) = st6 a' b' c' d' e' f' k) :
    RefI w r a' b' c' d' e' f' (W.setCell ⟨w.heap.size, i, none⟩ v) ∧ KeepsD B W (W.setCell ⟨w.heap.size, i, none⟩ v) :=
  ⟨⟨h.hr, h.below.setCell (p := ⟨w.heap.size, i, none⟩) (Nat.le_refl _) v, (h.box.set i v).congr hv, h.res.setOther _ _ (by have := h.hr; simp; omega)⟩, keepsD_set h.box rfl hB v⟩

def Dev.used (X : Dev) : Dev := { X with left := if X.armed then X.left - 1 else X.left }
theorem used_no {X : Dev} (ha : X.armed = false) : X.used = X := by
  cases X
  have h : _ = false := ha
  dsimp only at h
  subst h
  rfl
theorem dev_used (D : Dsk) : D.dev.used = D.used.dev := rfl

set_option maxHeartbeats 2000000 in
theorem used_any {B : Nat} {dv qv bv : Value} {X : Dev} (w : World) (h : DevAt B w dv qv bv X) (hB : B ≤ w.heap.size) (hl : X.armed = true → 0 ≤ X.left) :
    Calls Try.prog 67 #[devV dv qv bv X] w fun e w' => e = .returned (devV dv qv bv X.used) ∧ DevAt B w' dv qv bv X.used ∧ Below w.heap.size w w' := by
  obtain ⟨dx, dc, rfl, -⟩ := h.data.slice
  obtain ⟨qx, qc, rfl, -⟩ := h.queue.slice
  obtain ⟨bx, bc, rfl, -⟩ := h.bad.slice
  have hI := refI_new w (.slice dx X.n dc) (.slice qx X.q qc) (.slice bx X.m bc) (.bool X.dead) (.bool X.armed) (.int .i64 X.left)
  have HD := Lib.hid (h.all hI.below)
  have HI := Lib.hid hI
  have HL := Lib.hid h.left
  have Hl := Lib.hid hl
  clear h hI hl
  unfold devV
  go_enter Try.func67, Try.ntmps67
  go_upto_region 1 with fail
  generalize (w.alloc (.cells #[.slice dx X.n dc, .slice qx X.q qc, .slice bx X.m bc, .bool X.dead, .bool X.armed, .int .i64 X.left] 31)).alloc (.cells #[.slice none 0 0, .slice none 0 0, .slice none 0 0, .bool false, .bool false, .int .i64 0] 31) = W at *
  obtain ⟨-, -, -, -, a4, a5⟩ := cells6 HI.out.box
  rcases bool_cases X.armed with ha | ha
  · have hx : X.used = X := used_no ha
    have HX := Lib.hid hx
    have HZ := Lib.hid (HI.out.fin hB (x0 := .slice dx X.n dc) (x1 := .slice qx X.q qc) (x2 := .slice bx X.m bc) (x3 := .bool X.dead) (x4 := .bool X.armed) (x5 := .int .i64 X.left) (six_one rfl rfl rfl rfl rfl rfl))
    have hs := HZ.out.store
    have hload := HI.out.load
    have hld := HZ.out.load
    rw [ha] at a4
    clear ha hx a5
    go_wp2_with fail
    rw [HX.out]
    exact bodyPost_ret (v := devV (.slice dx X.n dc) (.slice qx X.q qc) (.slice bx X.m bc) X) (by simp [results, Try.results67, asAddr, hld, devV]) rfl ⟨rfl, HD.out.keepD HZ.out.keeps, HZ.out.below⟩
  · have hl := HL.out
    have hl0 := Hl.out ha
    have hw : IntKind.i64.wrap (X.left - 1) = X.left - 1 := IntWalk.i64_in _ (by omega)
    obtain ⟨l, hll⟩ : ∃ l, X.left - 1 = l := ⟨_, rfl⟩
    have hx : X.used = { X with left := l } := by unfold Dev.used; rw [ha, ← hll]; rfl
    have hset := HI.out.set hB 5 (.int .i64 (X.left - 1)) (a' := .slice dx X.n dc) (b' := .slice qx X.q qc) (c' := .slice bx X.m bc) (d' := .bool X.dead) (e' := .bool X.armed) (f' := .int .i64 l) (fun k hk => by
      obtain rfl | rfl | rfl | rfl | rfl | rfl : k = 0 ∨ k = 1 ∨ k = 2 ∨ k = 3 ∨ k = 4 ∨ k = 5 := by omega
      all_goals first | rfl | (rw [← hll]; rfl))
    have HS := Lib.hid hset
    have f5 := HI.out.box.frozen 5
    have hlr : -9223372036854775808 ≤ l ∧ l ≤ 9223372036854775807 := by omega
    have HX := Lib.hid hx
    have Hlr := Lib.hid hlr
    rw [ha] at a4
    clear ha hx hset hlr hll hl hl0
    go_upto_region 3 with fail
    generalize W.setCell ⟨w.heap.size, 5, none⟩ (.int .i64 (X.left - 1)) = W2 at *
    have HZ := Lib.hid (HS.out.1.fin hB (x0 := .slice dx X.n dc) (x1 := .slice qx X.q qc) (x2 := .slice bx X.m bc) (x3 := .bool X.dead) (x4 := .bool X.armed) (x5 := .int .i64 l) (six_one rfl rfl rfl rfl rfl rfl))
    have hs := HZ.out.store
    have hload := HS.out.1.load
    have hld := HZ.out.load
    clear a4 a5 f5
    go_wp2_with fail
    rw [HX.out]
    have hd := HD.out.keepD (HS.out.2.trans HZ.out.keeps)
    exact bodyPost_ret (v := devV (.slice dx X.n dc) (.slice qx X.q qc) (.slice bx X.m bc) { X with left := l }) (by simp [results, Try.results67, asAddr, hld, devV]) rfl ⟨rfl, ⟨hd.data, hd.queue, hd.bad, Hlr.out⟩, HZ.out.below⟩

end Go.Proofs.Ytjhcaedfknhilaa

namespace Go.Proofs.Ytjhcaedfknhilaa
set_option linter.unusedVariables false
set_option linter.unusedSimpArgs false
open Go.RowKit
attribute [local go_sem ↓] Go.wp_at_zero Go.wp_at_succ
attribute [-go_sem] loadCellsFrom storeCells
attribute [local go_sem] storeCells_one

def RightP (X : Dev) (w : World) (e : Ending) (w' : World) : Prop := (∃ b, e = .returned (.bool b) ∧ (b = true ↔ X.Right)) ∧ Below w.heap.size w w'
theorem right_no {X : Dev} {w w' : World} (hb : Below w.heap.size w w') (h : ¬ X.Right) : RightP X w (.returned (.bool false)) w' := ⟨⟨_, rfl, fun h => (by cases h), fun h9 => absurd h9 h⟩, hb⟩

set_option maxRecDepth 100000 in
set_option maxHeartbeats 8000000 in
theorem Right_any {B : Nat} {dv qv bv : Value} {X : Dev} (w : World) (h : DevAt B w dv qv bv X) :
    Calls Try.prog 16 #[devV dv qv bv X] w (RightP X w) := by
  obtain ⟨dx, dc, rfl, hd⟩ := h.data.slice
  obtain ⟨qx, qc, rfl, hq⟩ := h.queue.slice
  obtain ⟨bx, bc, rfl, hm⟩ := h.bad.slice
  have hleft := h.left
  unfold maxLen at hd hq hm
  have hr := row_six w (.slice dx X.n dc) (.slice qx X.q qc) (.slice bx X.m bc) (.bool X.dead) (.bool X.armed) (.int .i64 X.left) 31
  have hbl := (Below.refl _ w).alloc (Nat.le_refl w.heap.size) (.cells #[.slice dx X.n dc, .slice qx X.q qc, .slice bx X.m bc, .bool X.dead, .bool X.armed, .int .i64 X.left] 31)
  have HD := Lib.hid (h.all hbl)
  have HB := Lib.hid hbl
  have HR := Lib.hid hr
  have hl := loadC_dev hr
  clear h hbl hr
  unfold devV
  go_enter Try.func16, Try.ntmps16
  go_upto_region 1 with fail
  generalize w.alloc (.cells #[.slice dx X.n dc, .slice qx X.q qc, .slice bx X.m bc, .bool X.dead, .bool X.armed, .int .i64 X.left] 31) = W at *
  go_wp2_with fail
  refine (Sectors_any W HD.out).mono ?_
  rintro e w2 ⟨rfl, hb⟩
  have HB2 := Lib.hid (HB.out.trans (hb.mono HB.out.size))
  have HD2 := Lib.hid (HD.out.all hb)
  have HR2 := Lib.hid (HR.out.all hb)
  clear hl hb HB HD HR
  obtain ⟨a0, a1, a2, a3, a4, a5⟩ := cells6 HR2.out
  by_cases h1 : X.n % 64 = 0
  rotate_left
  · have g1 : ((X.n : Int) % 64 == 0) = false := beq_eq_false_iff_ne.2 (by omega)
    go_wp2_with fail
    go_ret
    exact right_no HB2.out fun h => h1 h.h1.1
  obtain ⟨k, hk⟩ : ∃ k, X.n = k * 64 := ⟨X.n / 64, by omega⟩
  have hkn : X.n / 64 = k := by omega
  have Hk := Lib.hid (And.intro hk hkn)
  rw [hkn]
  rw [hk] at a0
  clear h1 hk hkn
  by_cases h2 : 1 ≤ k
  rotate_left
  · obtain rfl : k = 0 := by omega
    go_wp2_with fail
    go_ret
    exact right_no HB2.out fun h => by have := h.h1.2.1; rw [Hk.out.2] at this; omega
  have g2 : decide ((k : Int) < 1) = false := decide_eq_false (by omega)
  by_cases h3 : k ≤ 4096
  rotate_left
  · have g3 : decide ((k : Int) > 4096) = true := decide_eq_true (by omega)
    go_wp2_with fail
    go_ret
    exact right_no HB2.out fun h => by have := h.h1.2.2.1; rw [Hk.out.2] at this; omega
  have g3 : decide ((k : Int) > 4096) = false := decide_eq_false (by omega)
  by_cases h4 : X.q ≤ 65536
  rotate_left
  · have g4 : decide ((X.q : Int) > 65536) = true := decide_eq_true (by omega)
    go_wp2_with fail
    go_ret
    exact right_no HB2.out fun h => h4 h.h1.2.2.2
  have g4 : decide ((X.q : Int) > 65536) = false := decide_eq_false (by omega)
  by_cases h5 : X.left < 0
  · have g5 : decide (X.left < 0) = true := decide_eq_true h5
    rcases bool_cases X.dead with hD | hD <;> rcases bool_cases X.armed with hA | hA <;> rw [hD] at a3 <;> rw [hA] at a4
    all_goals
      have Hn := Lib.hid (show ¬ X.Right from fun h => by have := h.h2.1; omega)
      clear hD hA
      by_cases h6 : X.q = 0
      · rw [h6] at a1
        go_wp2_with fail
        go_ret
        exact right_no HB2.out Hn.out
      · have g6 : decide ((X.q : Int) > 0) = true := decide_eq_true (by omega)
        go_wp2_with fail
        go_ret
        exact right_no HB2.out Hn.out
  have g5 : decide (X.left < 0) = false := decide_eq_false h5
  have hgo : (X.dead = true ∧ X.armed = true) ∨ (X.dead = true ∧ X.armed = false ∧ 0 < X.q) ∨ (X.dead = true ∧ X.armed = false ∧ X.q = 0 ∧ 0 < X.left) ∨ (X.dead = false ∧ X.armed = false ∧ 0 < X.left) ∨
      (X.ok2 ∧ ((X.dead = true ∧ X.armed = false ∧ X.q = 0 ∧ X.left = 0) ∨ (X.dead = false ∧ X.armed = true) ∨ (X.dead = false ∧ X.armed = false ∧ X.left = 0))) := by
    unfold Dev.ok2
    rcases bool_cases X.dead with hD | hD <;> rcases bool_cases X.armed with hA | hA <;> simp [hD, hA] <;> omega
  rcases hgo with ⟨hD, hA⟩ | ⟨hD, hA, hq0⟩ | ⟨hD, hA, hq0, hl0⟩ | ⟨hD, hA, hl0⟩ | ⟨hok2, hgo⟩
  · have Hn := Lib.hid (show ¬ X.Right from fun h => h.h2.2.2 ⟨hD, .inl hA⟩)
    rw [hD] at a3
    rw [hA] at a4
    clear hD hA
    go_wp2_with fail
    go_ret
    exact right_no HB2.out Hn.out
  · have Hn := Lib.hid (show ¬ X.Right from fun h => h.h2.2.2 ⟨hD, .inr hq0⟩)
    have g6 : decide ((X.q : Int) > 0) = true := decide_eq_true (by omega)
    rw [hD] at a3
    rw [hA] at a4
    clear hD hA
    go_wp2_with fail
    go_ret
    exact right_no HB2.out Hn.out
  · have Hn := Lib.hid (show ¬ X.Right from fun h => by
      rcases h.h2.2.1 with h9 | h9
      · rw [hA] at h9; cases h9
      · omega)
    have g6 : decide (X.left > 0) = true := decide_eq_true (by omega)
    rw [hD] at a3
    rw [hA] at a4
    rw [hq0] at a1
    clear hD hA
    go_wp2_with fail
    go_ret
    exact right_no HB2.out Hn.out
  · have Hn := Lib.hid (show ¬ X.Right from fun h => by
      rcases h.h2.2.1 with h9 | h9
      · rw [hA] at h9; cases h9
      · omega)
    have g6 : decide (X.left > 0) = true := decide_eq_true (by omega)
    rw [hD] at a3
    rw [hA] at a4
    clear hD hA
    go_wp2_with fail
    go_ret
    exact right_no HB2.out Hn.out
  have g6 : decide (X.left > 0) = false ∨ X.armed = true := by
    rcases hgo with ⟨-, -, -, h⟩ | ⟨-, h⟩ | ⟨-, -, h⟩
    · exact .inl (decide_eq_false (by omega))
    · exact .inr h
    · exact .inl (decide_eq_false (by omega))
  have Hok2 := Lib.hid hok2
  clear hok2
  go_upto_region 2 with fail
  go_cut [55] from 8 to 55 (fun s55 wx => s55 = .bool false ∧ w2 = wx)
  case first =>
    rcases hgo with ⟨hD, hA, hq0, hl0⟩ | ⟨hD, hA⟩ | ⟨hD, hA, hl0⟩
    · rw [hD] at a3
      rw [hA] at a4
      rw [hq0] at a1
      rw [hl0] at a5
      clear hD hA g5 g6
      go_wp2_with fail
      go_meet
      case rel => exact ⟨rfl, rfl⟩
    · rw [hD] at a3
      rw [hA] at a4
      clear hD hA g6
      go_wp2_with fail
      go_meet
      case rel => exact ⟨rfl, rfl⟩
    · rw [hD] at a3
      rw [hA] at a4
      rw [hl0] at a5
      clear hD hA g5 g6
      go_wp2_with fail
      go_meet
      case rel => exact ⟨rfl, rfl⟩
  obtain ⟨rfl, rfl⟩ := hcut
  clear a0 a1 a2 a3 a4 a5 g2 g3 g4 g5 g6 hgo
  go_wp2_with fail
  go_loopw [4] (fun t wr => ∃ i : Nat, i ≤ X.q ∧ t = .int .i64 i ∧ w2 = wr ∧ X.okQ i) (fun t _ => X.q - (intOf t).toNat)
  case atStart => exact ⟨0, by omega, by go_num, by first | rfl | trivial, fun j hj => absurd hj (Nat.not_lt_zero j)⟩
  case round =>
    obtain ⟨i, hi, rfl, rfl, hok⟩ := hrel
    obtain ⟨a0, a1, a2, -⟩ := cells6 HR2.out
    clear a0
    have Hok := Lib.hid hok
    clear hok
    by_cases hlt : i < X.q
    · have hdlt : decide ((i : Int) < X.q) = true := decide_eq_true (by omega)
      obtain ⟨b, off, c, u, e1, d0, d1, hb⟩ := HD2.out.queue.elem hlt
      have Hi := Lib.hid hlt
      cases e1
      obtain ⟨ux, uc, rfl, -⟩ := hb.slice
      clear hb a2
      by_cases h7 : X.qa i < 0
      · have g7 : decide (X.qa i < 0) = true := decide_eq_true h7
        go_wp2_with fail
        go_ret
        exact right_no HB2.out fun h => by have := (h.h3 i Hi.out).1; omega
      have g7 : decide (X.qa i < 0) = false := decide_eq_false h7
      by_cases h8 : X.qa i < k
      rotate_left
      · have g8 : decide (X.qa i ≥ (k : Int)) = true := decide_eq_true (by omega)
        have g8' : decide ((k : Int) ≤ X.qa i) = true := decide_eq_true (by omega)
        go_wp2_with fail
        go_ret
        exact right_no HB2.out fun h => by have := (h.h3 i Hi.out).2.1; rw [Hk.out.2] at this; omega
      have g8 : decide (X.qa i ≥ (k : Int)) = false := decide_eq_false (by omega)
      have g8' : decide ((k : Int) ≤ X.qa i) = false := decide_eq_false (by omega)
      by_cases h9 : X.ql i = 64
      · have Hn := Lib.hid (show X.okQ (i + 1) from fun j hj => by
          by_cases hji : j = i
          · rw [hji]; exact ⟨by omega, by rw [Hk.out.2]; exact h8, h9⟩
          · exact Hok.out j (by omega))
        rw [h9] at d1
        go_wp2_with fail
        go_roundw
        case rel => exact ⟨i + 1, by omega, by go_num, by trivial, Hn.out⟩
        case measure => simp [intOf]; omega
      · have g9 : ((X.ql i : Int) == 64) = false := beq_eq_false_iff_ne.2 (by omega)
        have Hn := Lib.hid (show ¬ X.Right from fun h => h9 (h.h3 i Hi.out).2.2)
        go_wp2_with fail
        go_ret
        exact right_no HB2.out Hn.out
    · obtain rfl : X.q = i := by omega
      have hdlt : decide ((X.q : Int) < X.q) = false := decide_eq_false (by omega)
      clear a2
      go_wp2_with fail
      clear a1 hdlt
      go_loopw [5] (fun t wr => ∃ i : Nat, i ≤ X.m ∧ t = .int .i64 i ∧ Below w2.heap.size w2 wr ∧ X.okB i) (fun t _ => X.m - (intOf t).toNat)
      case atStart => exact ⟨0, by omega, by go_num, Below.refl _ _, fun j hj => absurd hj (Nat.not_lt_zero j)⟩
      case round =>
        obtain ⟨i, hi, rfl, hbr, hokb⟩ := hrel
        obtain ⟨a0, a1, a2, -⟩ := cells6 (HR2.out.all hbr)
        clear a0 a1
        have Hokb := Lib.hid hokb
        have HBr := Lib.hid hbr
        clear hokb hbr
        by_cases hlt : i < X.m
        · have hdlt : decide ((i : Int) < X.m) = true := decide_eq_true (by omega)
          obtain ⟨b, off, c, e1, d0⟩ := (HD2.out.all HBr.out).bad.elem hlt
          have hall : ∀ j, j < X.m → wr.cell? ⟨b, off + j, none⟩ = some (.int .i64 (X.bad j)) := fun j hj => by
            obtain ⟨b', off', c', e2, d2⟩ := (HD2.out.all HBr.out).bad.elem hj
            rw [e1] at e2
            cases e2
            exact d2
          cases e1
          have Hi := Lib.hid hlt
          have Hall := Lib.hid hall
          clear hall
          by_cases h7 : X.bad i < 0
          · have g7 : decide (X.bad i < 0) = true := decide_eq_true h7
            have Hn := Lib.hid (show ¬ X.Right from fun h => by have := (h.h4 i Hi.out).1; omega)
            go_upto_region 12 with fail
            go_quiet (fail)
            go_wp2
            go_ret
            exact right_no (HB2.out.trans ((below_dn HBr.out _).mono HB2.out.size)) Hn.out
          have g7 : decide (X.bad i < 0) = false := decide_eq_false h7
          by_cases h8 : X.bad i < k
          rotate_left
          · have g8 : decide (X.bad i ≥ (k : Int)) = true := decide_eq_true (by omega)
            have g8' : decide ((k : Int) ≤ X.bad i) = true := decide_eq_true (by omega)
            have Hn := Lib.hid (show ¬ X.Right from fun h => by have := (h.h4 i Hi.out).2.1; rw [Hk.out.2] at this; omega)
            go_upto_region 12 with fail
            go_quiet (fail)
            go_wp2
            go_ret
            exact right_no (HB2.out.trans ((below_dn HBr.out _).mono HB2.out.size)) Hn.out
          have g8 : decide (X.bad i ≥ (k : Int)) = false := decide_eq_false (by omega)
          have g8' : decide ((k : Int) ≤ X.bad i) = false := decide_eq_false (by omega)
          rcases i with _ | j
          · have Hn := Lib.hid (show X.okB (0 + 1) from fun j hj => by
              obtain rfl : j = 0 := by omega
              exact ⟨by omega, by rw [Hk.out.2]; exact h8, .inl rfl⟩)
            have d00 : wr.cell? ⟨b, off, none⟩ = some (.int .i64 (X.bad 0)) := d0
            have hm0 : (0 : Int) < (X.m : Int) := by omega
            go_upto_region 12 with fail
            go_quiet (fail)
            go_wp2
            go_roundw
            case rel => exact ⟨0 + 1, by omega, by go_num, below_dn HBr.out _, Hn.out⟩
            case measure => simp [intOf]; omega
          · have d1 := Hall.out j (by omega)
            have g0 : decide (((j + 1 : Nat) : Int) > 0) = true := decide_eq_true (by omega)
            by_cases h9 : X.bad (j + 1) ≤ X.bad j
            · have g9 : decide (X.bad (j + 1) ≤ X.bad j) = true := decide_eq_true h9
              have Hn := Lib.hid (show ¬ X.Right from fun h => by
                rcases (h.h4 (j + 1) Hi.out).2.2 with h10 | h10
                · omega
                · rw [Nat.add_sub_cancel] at h10; omega)
              go_upto_region 12 with fail
              go_quiet (fail)
              go_wp2
              go_ret
              exact right_no (HB2.out.trans ((below_dn HBr.out _).mono HB2.out.size)) Hn.out
            · have g9 : decide (X.bad (j + 1) ≤ X.bad j) = false := decide_eq_false h9
              have Hn := Lib.hid (show X.okB (j + 1 + 1) from fun l hl => by
                by_cases hli : l = j + 1
                · rw [hli]; exact ⟨by omega, by rw [Hk.out.2]; exact h8, .inr (by rw [Nat.add_sub_cancel]; omega)⟩
                · exact Hokb.out l (by omega))
              go_upto_region 12 with fail
              go_quiet (fail)
              go_wp2
              go_roundw
              case rel => exact ⟨j + 1 + 1, by omega, by go_num, below_dn HBr.out _, Hn.out⟩
              case measure => simp [intOf]; omega
        · obtain rfl : X.m = i := by omega
          have hdlt : decide ((X.m : Int) < X.m) = false := decide_eq_false (by omega)
          go_wp2_with fail
          go_ret
          exact ⟨⟨_, rfl, fun _ => ⟨⟨by rw [Hk.out.1]; omega, by rw [Hk.out.2]; exact h2, by rw [Hk.out.2]; exact h3, h4⟩, Hok2.out, Hok.out, Hokb.out⟩, fun _ => rfl⟩, HB2.out.trans (HBr.out.mono HB2.out.size)⟩

end Go.Proofs.Ytjhcaedfknhilaa

namespace Go.Proofs.Ytjhcaedfknhilaa
set_option linter.unusedVariables false
set_option linter.unusedSimpArgs false
open Go.RowKit
attribute [local go_sem ↓] Go.wp_at_zero Go.wp_at_succ
attribute [-go_sem] loadCellsFrom storeCells
attribute [local go_sem] storeCells_one

/-- What acts make of a disk. -/
def Runs (D : Dsk) (A : Nat → Deed) : Nat → Dsk → Prop
  | 0, D' => D' = D
  | m + 1, D' => ∃ D1 c n f, Runs D A m D1 ∧ Does D1 (A m) D' c n f

theorem DiskIn.base_le {B B' g gs gb : Nat} {qv : Value} {D : Dsk} {w : World} (h : DiskIn B' g gs gb qv D w) (hB : B ≤ B') : DiskIn B g gs gb qv D w := by
  refine ⟨h.row, h.sec, h.bad, ?_, ⟨Nat.le_trans hB h.base.1, Nat.le_trans hB h.base.2.1, Nat.le_trans hB h.base.2.2⟩, h.ok⟩
  rcases h.que with h9 | ⟨gq, cq, q1, q2, q3, q4⟩
  · exact .inl h9
  · exact .inr ⟨gq, cq, q1, Nat.le_trans hB q2, q3, q4⟩
theorem NArg.mono {B B' : Nat} {w : World} {v : Value} {n : Nat} {f : Nat → Int} (h : NArg B w v n f) (hB : B ≤ B') : NArg B' w v n f := by
  rcases h with ⟨hf, (h | ⟨b, off, cap, h1, h2, h3, h4, h5, h6⟩)⟩
  · exact ⟨hf, .inl h⟩
  · exact ⟨hf, .inr ⟨b, off, cap, h1, h2, h3, h4, h5, h6.imp (fun h => Nat.lt_of_lt_of_le h hB) id⟩⟩
theorem BArg.mono {B B' : Nat} {w : World} {v : Value} {n : Nat} {f : Nat → Int} (h : BArg B w v n f) (hB : B ≤ B') : BArg B' w v n f := by
  rcases h with ⟨hf, (h | ⟨b, off, cap, h1, h2, h3, h4, h5, h6⟩)⟩
  · exact ⟨hf, .inl h⟩
  · exact ⟨hf, .inr ⟨b, off, cap, h1, h2, h3, h4, h5, h6.imp (fun h => Nat.lt_of_lt_of_le h hB) id⟩⟩
theorem DeedAt.mono {B B' : Nat} {w : World} {bv kv : Value} {A : Deed} (h : DeedAt B w bv kv A) (hB : B ≤ B') : DeedAt B' w bv kv A :=
  ⟨h.kind, h.at', h.many, h.bytes.mono hB, h.keep.mono hB⟩
theorem DList.all {B : Nat} {w w' : World} {v : Value} {m : Nat} {A : Nat → Deed} (h : DList B w v m A) (hb : Below w.heap.size w w') : DList B w' v m A := by
  rcases h with h | ⟨b, off, cap, bv, kv, h0, h1, h2, h3, h4, h6⟩
  · exact .inl h
  · refine .inr ⟨b, off, cap, bv, kv, h0, h1, h2, h3, fun i hi => ?_, fun i hi => (h6 i hi).all hb⟩
    have h9 := h4 i hi
    exact (hb.cell (p := ⟨b, off + i, none⟩) (World.block_lt_of_cell? w ⟨b, off + i, none⟩ h9)).trans h9
theorem loadC_5 {W : World} {b o : Nat} {v0 v1 v2 v3 v4 : Value} (h0 : W.cell? ⟨b, o, none⟩ = some v0) (h1 : W.cell? ⟨b, o + 1, none⟩ = some v1) (h2 : W.cell? ⟨b, o + 2, none⟩ = some v2) (h3 : W.cell? ⟨b, o + 3, none⟩ = some v3) (h4 : W.cell? ⟨b, o + 4, none⟩ = some v4) :
    (loadCellsFrom ⟨b, o, none⟩ 0 5 #[]).run Try.prog W = .ok #[v0, v1, v2, v3, v4] W := by
  have := run_loadCells_list (P := Try.prog) W ⟨b, o, none⟩ [v0, v1, v2, v3, v4] (fun j v hj => by
    have hj6 : j < 5 := by
      rcases Nat.lt_or_ge j 5 with h1 | h1
      · exact h1
      · rw [List.getElem?_eq_none (by simp; omega)] at hj; cases hj
    rw [Addr.add_mid]
    obtain rfl | rfl | rfl | rfl | rfl : j = 0 ∨ j = 1 ∨ j = 2 ∨ j = 3 ∨ j = 4 := by omega
    all_goals (cases hj; assumption))
  exact this

set_option maxRecDepth 100000 in
set_option maxHeartbeats 4000000 in
theorem played_any {B : Nat} {dv qv bv v : Value} {X : Dev} {m : Nat} {A : Nat → Deed} (w : World) (h : DevAt B w dv qv bv X) (hl : DList B w v m A) (hB : B ≤ w.heap.size) (hX : X.Right) (hs : shortP m A) :
    Calls Try.prog 17 #[devV dv qv bv X, v] w fun e w' => ∃ g gs gb qv D, e = .returned (.pointer (some ⟨g, 0, none⟩)) ∧ Runs X.dsk A m D ∧ DiskIn w.heap.size g gs gb qv D w' ∧ Below w.heap.size w w' := by
  obtain ⟨dx, dc, rfl, -⟩ := h.data.slice
  obtain ⟨qx, qc, rfl, -⟩ := h.queue.slice
  obtain ⟨bx, bc, rfl, -⟩ := h.bad.slice
  obtain ⟨vx, vc, rfl, -⟩ := hl.slice
  have hm := hs.2
  have hr := row_six w (.slice dx X.n dc) (.slice qx X.q qc) (.slice bx X.m bc) (.bool X.dead) (.bool X.armed) (.int .i64 X.left) 31
  have hbl := (Below.refl _ w).alloc (Nat.le_refl w.heap.size) (.cells #[.slice dx X.n dc, .slice qx X.q qc, .slice bx X.m bc, .bool X.dead, .bool X.armed, .int .i64 X.left] 31)
  have HD := Lib.hid (h.all hbl)
  have HA := Lib.hid (hl.all hbl)
  have HB := Lib.hid hbl
  have HS := Lib.hid hs
  have hB2 := Nat.le_trans hB hbl.size
  have hload := loadC_dev hr
  clear h hl hbl hr hs
  unfold devV
  go_enter Try.func17, Try.ntmps17
  go_upto_region 1 with fail
  generalize w.alloc (.cells #[.slice dx X.n dc, .slice qx X.q qc, .slice bx X.m bc, .bool X.dead, .bool X.armed, .int .i64 X.left] 31) = W at *
  go_wp2_with fail
  refine (Load_any W HD.out hB2).mono ?_
  rintro e w2 (⟨hno, -⟩ | ⟨-, g, gs, gb, uv, rfl, hd, hb⟩)
  · exact absurd hX hno
  have H2 := Lib.hid hd
  have HB2 := Lib.hid hb
  clear hload hd hb
  go_wp2_with fail
  go_loopw [7] (fun t wr => ∃ i : Nat, i ≤ m ∧ t = .int .i64 i ∧ ∃ gs gb qv D, Runs X.dsk A i D ∧ DiskIn W.heap.size g gs gb qv D wr ∧ Below W.heap.size W wr) (fun t _ => m - (intOf t).toNat)
  case atStart => exact ⟨0, by omega, by go_num, gs, gb, uv, X.dsk, rfl, H2.out, HB2.out⟩
  case round =>
    obtain ⟨i, hi, rfl, gs', gb', qv', D, hrun, hd, hb⟩ := hrel
    have HDr := Lib.hid hd
    have HBr := Lib.hid hb
    have HRn := Lib.hid hrun
    clear hd hb hrun
    by_cases hlt : i < m
    · have hdlt : decide ((i : Int) < m) = true := decide_eq_true (by omega)
      obtain ⟨b, off, c, ub, uk, e1, d0, d1, d2, d3, d4, hdeed⟩ := (HA.out.all HBr.out).elem hlt
      cases e1
      have hld := loadC_5 d0 d1 d2 d3 d4
      have Hd := Lib.hid (hdeed.mono hB2)
      have hk := (HS.out.1 i hlt).2
      clear d0 d1 d2 d3 d4 hdeed
      go_wp2_with fail
      refine (act_any wr HDr.out Hd.out (by omega)).mono ?_
      rintro e w3 ⟨v3, c3, rfl, D', n', f', gs2, gb2, qv2, hdo, -, hd, hb, -⟩
      have HN := Lib.hid (show ∃ gs gb qv D, Runs X.dsk A (i + 1) D ∧ DiskIn W.heap.size g gs gb qv D w3 ∧ Below W.heap.size W w3 from ⟨gs2, gb2, qv2, D', ⟨D, c3, n', f', HRn.out, hdo⟩, hd, HBr.out.trans hb⟩)
      clear hld hdo hd hb
      go_wp2_with fail
      go_roundw
      case rel => exact ⟨i + 1, by omega, by go_num, HN.out⟩
      case measure => simp [intOf]; omega
    · obtain rfl : m = i := by omega
      have hdlt : decide ((m : Int) < m) = false := decide_eq_false (by omega)
      go_wp2_with fail
      go_ret
      exact ⟨g, gs', gb', qv', D, rfl, HRn.out, HDr.out.base_le HB.out.size, HB.out.trans (HBr.out.mono HB.out.size)⟩

end Go.Proofs.Ytjhcaedfknhilaa

namespace Go.Proofs.Ytjhcaedfknhilaa
set_option linter.unusedVariables false
set_option linter.unusedSimpArgs false
open Go.RowKit

theorem performs_law (D : Dsk) (A : Nat → Nat) (F : Nat → Nat → Int) (i : Nat) : ∀ k, ((D.performs A F k).sec i = D.sec i ∧ (D.performs A F k).bad i = D.bad i) ∨ ∃ j, j < k ∧ A j = i ∧ (D.performs A F k).sec i = F j ∧ (D.performs A F k).bad i = false
  | 0 => .inl ⟨rfl, rfl⟩
  | k + 1 => by
    by_cases h : i = A k
    · refine .inr ⟨k, by omega, h.symm, ?_, ?_⟩
      · show (fun j => if i = A k then F k j else (D.performs A F k).sec i j) = F k
        funext j
        rw [if_pos h]
      · show (if i = A k then false else (D.performs A F k).bad i) = false
        rw [if_pos h]
    · have h1 : (D.performs A F (k + 1)).sec i = (D.performs A F k).sec i := by
        show (fun j => if i = A k then F k j else (D.performs A F k).sec i j) = _
        funext j
        rw [if_neg h]
      have h2 : (D.performs A F (k + 1)).bad i = (D.performs A F k).bad i := by
        show (if i = A k then false else (D.performs A F k).bad i) = _
        rw [if_neg h]
      rw [h1, h2]
      rcases performs_law D A F i k with h3 | ⟨j, hj, h4⟩
      · exact .inl h3
      · exact .inr ⟨j, by omega, h4⟩
theorem crash_law (D : Dsk) (n : Nat) (f : Nat → Int) (hk : keepOk D.q n f) (i : Nat) :
    ((D.crash n f).sec i = D.sec i ∧ (D.crash n f).bad i = D.bad i) ∨ ∃ j, j < D.q ∧ D.qa j = i ∧ (D.crash n f).sec i = D.qb j ∧ (D.crash n f).bad i = false := by
  rcases performs_law D (fun k => D.qa (f k).toNat) (fun k => D.qb (f k).toNat) i n with h | ⟨j, hj, h1, h2, h3⟩
  · exact .inl h
  · have := (hk j hj).1
    exact .inr ⟨(f j).toNat, by omega, h1, h2, h3⟩
theorem crash_same (D : Dsk) (n : Nat) (f : Nat → Int) : (D.crash n f).n = D.n ∧ (D.crash n f).q = 0 ∧ (D.crash n f).dead = D.dead ∧ (D.crash n f).armed = false ∧ (D.crash n f).left = 0 := by
  obtain ⟨h1, _, _, _, h5, _⟩ := D.performs_same (fun k => D.qa (f k).toNat) (fun k => D.qb (f k).toNat) n
  exact ⟨h1, rfl, h5, rfl, rfl⟩
/-- The list of bad ones has a sector, if it is bad. -/
theorem in_bad (D : Dsk) (i : Nat) : (∃ k, k < (badL D D.n).length ∧ badF D D.n k = i) ↔ i < D.n ∧ D.bad i = true := by
  constructor
  · rintro ⟨k, hk, h⟩
    unfold badF at h
    rw [List.getD_eq_getElem?_getD, List.getElem?_eq_getElem hk, Option.getD_some] at h
    have h9 : (badL D D.n)[k] = i := by omega
    exact badL_mem (h9 ▸ List.getElem_mem hk)
  · rintro ⟨h1, h2⟩
    have hm : i ∈ badL D D.n := by
      unfold badL
      rw [List.mem_filter, List.mem_range]
      exact ⟨h1, h2⟩
    obtain ⟨k, hk, h⟩ := List.getElem_of_mem hm
    refine ⟨k, hk, ?_⟩
    unfold badF
    rw [List.getD_eq_getElem?_getD, List.getElem?_eq_getElem hk, Option.getD_some, h]

end Go.Proofs.Ytjhcaedfknhilaa
