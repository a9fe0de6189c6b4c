/- The reference: Right. A disk behind acts. Plain laws of a disk: what Crash leaves. Plain laws of a disk: what Write, Sync and Crash leave of what is read. -/
import Derived.Test.YtjhcaedfknhilaaRb14
import Derived.Test.YtjhcaedfknhilaaRb15
namespace Go.Proofs.Ytjhcaedfknhilaa
open Go.RowKit
attribute [local go_sem ↓] Go.wp_at_zero Go.wp_at_succ
attribute [-go_sem] loadCellsFrom storeCells
attribute [local go_sem] storeCells_one

def RightP (X : Dev) (w : World) (e : Ending) (w' : World) : Prop := (∃ b, e = .returned (.bool b) ∧ (b = true ↔ X.Right)) ∧ Below w.heap.size w w'
theorem right_no {X : Dev} {w w' : World} (hb : Below w.heap.size w w') (h : ¬ X.Right) : RightP X w (.returned (.bool false)) w' := ⟨⟨_, rfl, fun h => (by cases h), fun h9 => absurd h9 h⟩, hb⟩

set_option maxRecDepth 100000 in
set_option maxHeartbeats 8000000 in
theorem Right_any {B : Nat} {dv qv bv : Value} {X : Dev} (w : World) (h : DevAt B w dv qv bv X) :
    Calls Try.prog 16 #[devV dv qv bv X] w (RightP X w) := by
  obtain ⟨dx, dc, rfl, hd⟩ := h.data.slice
  obtain ⟨qx, qc, rfl, hq⟩ := h.queue.slice
  obtain ⟨bx, bc, rfl, hm⟩ := h.bad.slice
  have hleft := h.left
  unfold maxLen at hd hq hm
  have hr := row_six w (.slice dx X.n dc) (.slice qx X.q qc) (.slice bx X.m bc) (.bool X.dead) (.bool X.armed) (.int .i64 X.left) 31
  have hbl := (Below.refl _ w).alloc (Nat.le_refl w.heap.size) (.cells #[.slice dx X.n dc, .slice qx X.q qc, .slice bx X.m bc, .bool X.dead, .bool X.armed, .int .i64 X.left] 31)
  have HD := Lib.hid (h.all hbl)
  have HB := Lib.hid hbl
  have HR := Lib.hid hr
  have hl := loadC_dev hr
  clear h hbl hr
  unfold devV
  go_enter Try.func16, Try.ntmps16
  go_upto_region 1 with fail
  generalize w.alloc (.cells #[.slice dx X.n dc, .slice qx X.q qc, .slice bx X.m bc, .bool X.dead, .bool X.armed, .int .i64 X.left] 31) = W at *
  go_wp2_with fail
  refine (Sectors_any W HD.out).mono ?_
  rintro e w2 ⟨rfl, hb⟩
  have HB2 := Lib.hid (HB.out.trans (hb.mono HB.out.size))
  have HD2 := Lib.hid (HD.out.all hb)
  have HR2 := Lib.hid (HR.out.all hb)
  clear hl hb HB HD HR
  obtain ⟨a0, a1, a2, a3, a4, a5⟩ := cells6 HR2.out
  by_cases h1 : X.n % 64 = 0
  rotate_left
  · have g1 : ((X.n : Int) % 64 == 0) = false := beq_eq_false_iff_ne.2 (by omega)
    go_wp2_with fail
    go_ret
    exact right_no HB2.out fun h => h1 h.h1.1
  obtain ⟨k, hk⟩ : ∃ k, X.n = k * 64 := ⟨X.n / 64, by omega⟩
  have hkn : X.n / 64 = k := by omega
  have Hk := Lib.hid (And.intro hk hkn)
  rw [hkn]
  rw [hk] at a0
  clear h1 hk hkn
  by_cases h2 : 1 ≤ k
  rotate_left
  · obtain rfl : k = 0 := by omega
    go_wp2_with fail
    go_ret
    exact right_no HB2.out fun h => by have := h.h1.2.1; rw [Hk.out.2] at this; omega
  have g2 : decide ((k : Int) < 1) = false := decide_eq_false (by omega)
  by_cases h3 : k ≤ 4096
  rotate_left
  · have g3 : decide ((k : Int) > 4096) = true := decide_eq_true (by omega)
    go_wp2_with fail
    go_ret
    exact right_no HB2.out fun h => by have := h.h1.2.2.1; rw [Hk.out.2] at this; omega
  have g3 : decide ((k : Int) > 4096) = false := decide_eq_false (by omega)
  by_cases h4 : X.q ≤ 65536
  rotate_left
  · have g4 : decide ((X.q : Int) > 65536) = true := decide_eq_true (by omega)
    go_wp2_with fail
    go_ret
    exact right_no HB2.out fun h => h4 h.h1.2.2.2
  have g4 : decide ((X.q : Int) > 65536) = false := decide_eq_false (by omega)
  by_cases h5 : X.left < 0
  · have g5 : decide (X.left < 0) = true := decide_eq_true h5
    rcases bool_cases X.dead with hD | hD <;> rcases bool_cases X.armed with hA | hA <;> rw [hD] at a3 <;> rw [hA] at a4
    all_goals
      have Hn := Lib.hid (show ¬ X.Right from fun h => by have := h.h2.1; omega)
      clear hD hA
      by_cases h6 : X.q = 0
      · rw [h6] at a1
        go_wp2_with fail
        go_ret
        exact right_no HB2.out Hn.out
      · have g6 : decide ((X.q : Int) > 0) = true := decide_eq_true (by omega)
        go_wp2_with fail
        go_ret
        exact right_no HB2.out Hn.out
  have g5 : decide (X.left < 0) = false := decide_eq_false h5
  have hgo : (X.dead = true ∧ X.armed = true) ∨ (X.dead = true ∧ X.armed = false ∧ 0 < X.q) ∨ (X.dead = true ∧ X.armed = false ∧ X.q = 0 ∧ 0 < X.left) ∨ (X.dead = false ∧ X.armed = false ∧ 0 < X.left) ∨
      (X.ok2 ∧ ((X.dead = true ∧ X.armed = false ∧ X.q = 0 ∧ X.left = 0) ∨ (X.dead = false ∧ X.armed = true) ∨ (X.dead = false ∧ X.armed = false ∧ X.left = 0))) := by
    unfold Dev.ok2
    rcases bool_cases X.dead with hD | hD <;> rcases bool_cases X.armed with hA | hA <;> simp [hD, hA] <;> omega
  rcases hgo with ⟨hD, hA⟩ | ⟨hD, hA, hq0⟩ | ⟨hD, hA, hq0, hl0⟩ | ⟨hD, hA, hl0⟩ | ⟨hok2, hgo⟩
  · have Hn := Lib.hid (show ¬ X.Right from fun h => h.h2.2.2 ⟨hD, .inl hA⟩)
    rw [hD] at a3
    rw [hA] at a4
    clear hD hA
    go_wp2_with fail
    go_ret
    exact right_no HB2.out Hn.out
  · have Hn := Lib.hid (show ¬ X.Right from fun h => h.h2.2.2 ⟨hD, .inr hq0⟩)
    have g6 : decide ((X.q : Int) > 0) = true := decide_eq_true (by omega)
    rw [hD] at a3
    rw [hA] at a4
    clear hD hA
    go_wp2_with fail
    go_ret
    exact right_no HB2.out Hn.out
  · have Hn := Lib.hid (show ¬ X.Right from fun h => by
      rcases h.h2.2.1 with h9 | h9
      · rw [hA] at h9; cases h9
      · omega)
    have g6 : decide (X.left > 0) = true := decide_eq_true (by omega)
    rw [hD] at a3
    rw [hA] at a4
    rw [hq0] at a1
    clear hD hA
    go_wp2_with fail
    go_ret
    exact right_no HB2.out Hn.out
  · have Hn := Lib.hid (show ¬ X.Right from fun h => by
      rcases h.h2.2.1 with h9 | h9
      · rw [hA] at h9; cases h9
      · omega)
    have g6 : decide (X.left > 0) = true := decide_eq_true (by omega)
    rw [hD] at a3
    rw [hA] at a4
    clear hD hA
    go_wp2_with fail
    go_ret
    exact right_no HB2.out Hn.out
  have g6 : decide (X.left > 0) = false ∨ X.armed = true := by
    rcases hgo with ⟨-, -, -, h⟩ | ⟨-, h⟩ | ⟨-, -, h⟩
    · exact .inl (decide_eq_false (by omega))
    · exact .inr h
    · exact .inl (decide_eq_false (by omega))
  have Hok2 := Lib.hid hok2
  clear hok2
  go_upto_region 2 with fail
  go_cut [55] from 8 to 55 (fun s55 wx => s55 = .bool false ∧ w2 = wx)
  case first =>
    rcases hgo with ⟨hD, hA, hq0, hl0⟩ | ⟨hD, hA⟩ | ⟨hD, hA, hl0⟩
    · rw [hD] at a3
      rw [hA] at a4
      rw [hq0] at a1
      rw [hl0] at a5
      clear hD hA g5 g6
      go_wp2_with fail
      go_meet
      case rel => exact ⟨rfl, rfl⟩
    · rw [hD] at a3
      rw [hA] at a4
      clear hD hA g6
      go_wp2_with fail
      go_meet
      case rel => exact ⟨rfl, rfl⟩
    · rw [hD] at a3
      rw [hA] at a4
      rw [hl0] at a5
      clear hD hA g5 g6
      go_wp2_with fail
      go_meet
      case rel => exact ⟨rfl, rfl⟩
  obtain ⟨rfl, rfl⟩ := hcut
  clear a0 a1 a2 a3 a4 a5 g2 g3 g4 g5 g6 hgo
  go_wp2_with fail
  go_loopw [4] (fun t wr => ∃ i : Nat, i ≤ X.q ∧ t = .int .i64 i ∧ w2 = wr ∧ X.okQ i) (fun t _ => X.q - (intOf t).toNat)
  case atStart => exact ⟨0, by omega, by go_num, by first | rfl | trivial, fun j hj => absurd hj (Nat.not_lt_zero j)⟩
  case round =>
    obtain ⟨i, hi, rfl, rfl, hok⟩ := hrel
    obtain ⟨a0, a1, a2, -⟩ := cells6 HR2.out
    clear a0
    have Hok := Lib.hid hok
    clear hok
    by_cases hlt : i < X.q
    · have hdlt : decide ((i : Int) < X.q) = true := decide_eq_true (by omega)
      obtain ⟨b, off, c, u, e1, d0, d1, hb⟩ := HD2.out.queue.elem hlt
      have Hi := Lib.hid hlt
      cases e1
      obtain ⟨ux, uc, rfl, -⟩ := hb.slice
      clear hb a2
      by_cases h7 : X.qa i < 0
      · have g7 : decide (X.qa i < 0) = true := decide_eq_true h7
        go_wp2_with fail
        go_ret
        exact right_no HB2.out fun h => by have := (h.h3 i Hi.out).1; omega
      have g7 : decide (X.qa i < 0) = false := decide_eq_false h7
      by_cases h8 : X.qa i < k
      rotate_left
      · have g8 : decide (X.qa i ≥ (k : Int)) = true := decide_eq_true (by omega)
        have g8' : decide ((k : Int) ≤ X.qa i) = true := decide_eq_true (by omega)
        go_wp2_with fail
        go_ret
        exact right_no HB2.out fun h => by have := (h.h3 i Hi.out).2.1; rw [Hk.out.2] at this; omega
      have g8 : decide (X.qa i ≥ (k : Int)) = false := decide_eq_false (by omega)
      have g8' : decide ((k : Int) ≤ X.qa i) = false := decide_eq_false (by omega)
      by_cases h9 : X.ql i = 64
      · have Hn := Lib.hid (show X.okQ (i + 1) from fun j hj => by
          by_cases hji : j = i
          · rw [hji]; exact ⟨by omega, by rw [Hk.out.2]; exact h8, h9⟩
          · exact Hok.out j (by omega))
        rw [h9] at d1
        go_wp2_with fail
        go_roundw
        case rel => exact ⟨i + 1, by omega, by go_num, by trivial, Hn.out⟩
        case measure => simp [intOf]; omega
      · have g9 : ((X.ql i : Int) == 64) = false := beq_eq_false_iff_ne.2 (by omega)
        have Hn := Lib.hid (show ¬ X.Right from fun h => h9 (h.h3 i Hi.out).2.2)
        go_wp2_with fail
        go_ret
        exact right_no HB2.out Hn.out
    · obtain rfl : X.q = i := by omega
      have hdlt : decide ((X.q : Int) < X.q) = false := decide_eq_false (by omega)
      clear a2
      go_wp2_with fail
      clear a1 hdlt
      go_loopw [5] (fun t wr => ∃ i : Nat, i ≤ X.m ∧ t = .int .i64 i ∧ Below w2.heap.size w2 wr ∧ X.okB i) (fun t _ => X.m - (intOf t).toNat)
      case atStart => exact ⟨0, by omega, by go_num, Below.refl _ _, fun j hj => absurd hj (Nat.not_lt_zero j)⟩
      case round =>
        obtain ⟨i, hi, rfl, hbr, hokb⟩ := hrel
        obtain ⟨a0, a1, a2, -⟩ := cells6 (HR2.out.all hbr)
        clear a0 a1
        have Hokb := Lib.hid hokb
        have HBr := Lib.hid hbr
        clear hokb hbr
        by_cases hlt : i < X.m
        · have hdlt : decide ((i : Int) < X.m) = true := decide_eq_true (by omega)
          obtain ⟨b, off, c, e1, d0⟩ := (HD2.out.all HBr.out).bad.elem hlt
          have hall : ∀ j, j < X.m → wr.cell? ⟨b, off + j, none⟩ = some (.int .i64 (X.bad j)) := fun j hj => by
            obtain ⟨b', off', c', e2, d2⟩ := (HD2.out.all HBr.out).bad.elem hj
            rw [e1] at e2
            cases e2
            exact d2
          cases e1
          have Hi := Lib.hid hlt
          have Hall := Lib.hid hall
          clear hall
          by_cases h7 : X.bad i < 0
          · have g7 : decide (X.bad i < 0) = true := decide_eq_true h7
            have Hn := Lib.hid (show ¬ X.Right from fun h => by have := (h.h4 i Hi.out).1; omega)
            go_upto_region 12 with fail
            go_quiet (fail)
            go_wp2
            go_ret
            exact right_no (HB2.out.trans ((below_dn HBr.out _).mono HB2.out.size)) Hn.out
          have g7 : decide (X.bad i < 0) = false := decide_eq_false h7
          by_cases h8 : X.bad i < k
          rotate_left
          · have g8 : decide (X.bad i ≥ (k : Int)) = true := decide_eq_true (by omega)
            have g8' : decide ((k : Int) ≤ X.bad i) = true := decide_eq_true (by omega)
            have Hn := Lib.hid (show ¬ X.Right from fun h => by have := (h.h4 i Hi.out).2.1; rw [Hk.out.2] at this; omega)
            go_upto_region 12 with fail
            go_quiet (fail)
            go_wp2
            go_ret
            exact right_no (HB2.out.trans ((below_dn HBr.out _).mono HB2.out.size)) Hn.out
          have g8 : decide (X.bad i ≥ (k : Int)) = false := decide_eq_false (by omega)
          have g8' : decide ((k : Int) ≤ X.bad i) = false := decide_eq_false (by omega)
          rcases i with _ | j
          · have Hn := Lib.hid (show X.okB (0 + 1) from fun j hj => by
              obtain rfl : j = 0 := by omega
              exact ⟨by omega, by rw [Hk.out.2]; exact h8, .inl rfl⟩)
            have d00 : wr.cell? ⟨b, off, none⟩ = some (.int .i64 (X.bad 0)) := d0
            have hm0 : (0 : Int) < (X.m : Int) := by omega
            go_upto_region 12 with fail
            go_quiet (fail)
            go_wp2
            go_roundw
            case rel => exact ⟨0 + 1, by omega, by go_num, below_dn HBr.out _, Hn.out⟩
            case measure => simp [intOf]; omega
          · have d1 := Hall.out j (by omega)
            have g0 : decide (((j + 1 : Nat) : Int) > 0) = true := decide_eq_true (by omega)
            by_cases h9 : X.bad (j + 1) ≤ X.bad j
            · have g9 : decide (X.bad (j + 1) ≤ X.bad j) = true := decide_eq_true h9
              have Hn := Lib.hid (show ¬ X.Right from fun h => by
                rcases (h.h4 (j + 1) Hi.out).2.2 with h10 | h10
                · omega
                · rw [Nat.add_sub_cancel] at h10; omega)
              go_upto_region 12 with fail
              go_quiet (fail)
              go_wp2
              go_ret
              exact right_no (HB2.out.trans ((below_dn HBr.out _).mono HB2.out.size)) Hn.out
            · have g9 : decide (X.bad (j + 1) ≤ X.bad j) = false := decide_eq_false h9
              have Hn := Lib.hid (show X.okB (j + 1 + 1) from fun l hl => by
                by_cases hli : l = j + 1
                · rw [hli]; exact ⟨by omega, by rw [Hk.out.2]; exact h8, .inr (by rw [Nat.add_sub_cancel]; omega)⟩
                · exact Hokb.out l (by omega))
              go_upto_region 12 with fail
              go_quiet (fail)
              go_wp2
              go_roundw
              case rel => exact ⟨j + 1 + 1, by omega, by go_num, below_dn HBr.out _, Hn.out⟩
              case measure => simp [intOf]; omega
        · obtain rfl : X.m = i := by omega
          have hdlt : decide ((X.m : Int) < X.m) = false := decide_eq_false (by omega)
          go_wp2_with fail
          go_ret
          exact ⟨⟨_, rfl, fun _ => ⟨⟨by rw [Hk.out.1]; omega, by rw [Hk.out.2]; exact h2, by rw [Hk.out.2]; exact h3, h4⟩, Hok2.out, Hok.out, Hokb.out⟩, fun _ => rfl⟩, HB2.out.trans (HBr.out.mono HB2.out.size)⟩

end Go.Proofs.Ytjhcaedfknhilaa

namespace Go.Proofs.Ytjhcaedfknhilaa
open Go.RowKit
attribute [local go_sem ↓] Go.wp_at_zero Go.wp_at_succ
attribute [-go_sem] loadCellsFrom storeCells
attribute [local go_sem] storeCells_one

/-- What acts make of a disk. -/
def Runs (D : Dsk) (A : Nat → Deed) : Nat → Dsk → Prop
  | 0, D' => D' = D
  | m + 1, D' => ∃ D1 c n f, Runs D A m D1 ∧ Does D1 (A m) D' c n f

theorem DiskIn.base_le {B B' g gs gb : Nat} {qv : Value} {D : Dsk} {w : World} (h : DiskIn B' g gs gb qv D w) (hB : B ≤ B') : DiskIn B g gs gb qv D w := by
  refine ⟨h.row, h.sec, h.bad, ?_, ⟨Nat.le_trans hB h.base.1, Nat.le_trans hB h.base.2.1, Nat.le_trans hB h.base.2.2⟩, h.ok⟩
  rcases h.que with h9 | ⟨gq, cq, q1, q2, q3, q4⟩
  · exact .inl h9
  · exact .inr ⟨gq, cq, q1, Nat.le_trans hB q2, q3, q4⟩
theorem NArg.mono {B B' : Nat} {w : World} {v : Value} {n : Nat} {f : Nat → Int} (h : NArg B w v n f) (hB : B ≤ B') : NArg B' w v n f := by
  rcases h with ⟨hf, (h | ⟨b, off, cap, h1, h2, h3, h4, h5, h6⟩)⟩
  · exact ⟨hf, .inl h⟩
  · exact ⟨hf, .inr ⟨b, off, cap, h1, h2, h3, h4, h5, h6.imp (fun h => Nat.lt_of_lt_of_le h hB) id⟩⟩
theorem BArg.mono {B B' : Nat} {w : World} {v : Value} {n : Nat} {f : Nat → Int} (h : BArg B w v n f) (hB : B ≤ B') : BArg B' w v n f := by
  rcases h with ⟨hf, (h | ⟨b, off, cap, h1, h2, h3, h4, h5, h6⟩)⟩
  · exact ⟨hf, .inl h⟩
  · exact ⟨hf, .inr ⟨b, off, cap, h1, h2, h3, h4, h5, h6.imp (fun h => Nat.lt_of_lt_of_le h hB) id⟩⟩
theorem DeedAt.mono {B B' : Nat} {w : World} {bv kv : Value} {A : Deed} (h : DeedAt B w bv kv A) (hB : B ≤ B') : DeedAt B' w bv kv A :=
  ⟨h.kind, h.at', h.many, h.bytes.mono hB, h.keep.mono hB⟩
theorem DList.all {B : Nat} {w w' : World} {v : Value} {m : Nat} {A : Nat → Deed} (h : DList B w v m A) (hb : Below w.heap.size w w') : DList B w' v m A := by
  rcases h with h | ⟨b, off, cap, bv, kv, h0, h1, h2, h3, h4, h6⟩
  · exact .inl h
  · refine .inr ⟨b, off, cap, bv, kv, h0, h1, h2, h3, fun i hi => ?_, fun i hi => (h6 i hi).all hb⟩
    have h9 := h4 i hi
    exact (hb.cell (p := ⟨b, off + i, none⟩) (World.block_lt_of_cell? w ⟨b, off + i, none⟩ h9)).trans h9
theorem loadC_5 {W : World} {b o : Nat} {v0 v1 v2 v3 v4 : Value} (h0 : W.cell? ⟨b, o, none⟩ = some v0) (h1 : W.cell? ⟨b, o + 1, none⟩ = some v1) (h2 : W.cell? ⟨b, o + 2, none⟩ = some v2) (h3 : W.cell? ⟨b, o + 3, none⟩ = some v3) (h4 : W.cell? ⟨b, o + 4, none⟩ = some v4) :
    (loadCellsFrom ⟨b, o, none⟩ 0 5 #[]).run Try.prog W = .ok #[v0, v1, v2, v3, v4] W := by
  have := run_loadCells_list (P := Try.prog) W ⟨b, o, none⟩ [v0, v1, v2, v3, v4] (fun j v hj => by
    have hj6 : j < 5 := by
      rcases Nat.lt_or_ge j 5 with h1 | h1
      · exact h1
      · rw [List.getElem?_eq_none (by simp; omega)] at hj; cases hj
    rw [Addr.add_mid]
    obtain rfl | rfl | rfl | rfl | rfl : j = 0 ∨ j = 1 ∨ j = 2 ∨ j = 3 ∨ j = 4 := by omega
    all_goals (cases hj; assumption))
  exact this

set_option maxRecDepth 100000 in
set_option maxHeartbeats 4000000 in
theorem played_any {B : Nat} {dv qv bv v : Value} {X : Dev} {m : Nat} {A : Nat → Deed} (w : World) (h : DevAt B w dv qv bv X) (hl : DList B w v m A) (hB : B ≤ w.heap.size) (hX : X.Right) (hs : shortP m A) :
    Calls Try.prog 17 #[devV dv qv bv X, v] w fun e w' => ∃ g gs gb qv D, e = .returned (.pointer (some ⟨g, 0, none⟩)) ∧ Runs X.dsk A m D ∧ DiskIn w.heap.size g gs gb qv D w' ∧ Below w.heap.size w w' := by
  obtain ⟨dx, dc, rfl, -⟩ := h.data.slice
  obtain ⟨qx, qc, rfl, -⟩ := h.queue.slice
  obtain ⟨bx, bc, rfl, -⟩ := h.bad.slice
  obtain ⟨vx, vc, rfl, -⟩ := hl.slice
  have hm := hs.2
  have hr := row_six w (.slice dx X.n dc) (.slice qx X.q qc) (.slice bx X.m bc) (.bool X.dead) (.bool X.armed) (.int .i64 X.left) 31
  have hbl := (Below.refl _ w).alloc (Nat.le_refl w.heap.size) (.cells #[.slice dx X.n dc, .slice qx X.q qc, .slice bx X.m bc, .bool X.dead, .bool X.armed, .int .i64 X.left] 31)
  have HD := Lib.hid (h.all hbl)
  have HA := Lib.hid (hl.all hbl)
  have HB := Lib.hid hbl
  have HS := Lib.hid hs
  have hB2 := Nat.le_trans hB hbl.size
  have hload := loadC_dev hr
  clear h hl hbl hr hs
  unfold devV
  go_enter Try.func17, Try.ntmps17
  go_upto_region 1 with fail
  generalize w.alloc (.cells #[.slice dx X.n dc, .slice qx X.q qc, .slice bx X.m bc, .bool X.dead, .bool X.armed, .int .i64 X.left] 31) = W at *
  go_wp2_with fail
  refine (Load_any W HD.out hB2).mono ?_
  rintro e w2 (⟨hno, -⟩ | ⟨-, g, gs, gb, uv, rfl, hd, hb⟩)
  · exact absurd hX hno
  have H2 := Lib.hid hd
  have HB2 := Lib.hid hb
  clear hload hd hb
  go_wp2_with fail
  go_loopw [7] (fun t wr => ∃ i : Nat, i ≤ m ∧ t = .int .i64 i ∧ ∃ gs gb qv D, Runs X.dsk A i D ∧ DiskIn W.heap.size g gs gb qv D wr ∧ Below W.heap.size W wr) (fun t _ => m - (intOf t).toNat)
  case atStart => exact ⟨0, by omega, by go_num, gs, gb, uv, X.dsk, rfl, H2.out, HB2.out⟩
  case round =>
    obtain ⟨i, hi, rfl, gs', gb', qv', D, hrun, hd, hb⟩ := hrel
    have HDr := Lib.hid hd
    have HBr := Lib.hid hb
    have HRn := Lib.hid hrun
    clear hd hb hrun
    by_cases hlt : i < m
    · have hdlt : decide ((i : Int) < m) = true := decide_eq_true (by omega)
      obtain ⟨b, off, c, ub, uk, e1, d0, d1, d2, d3, d4, hdeed⟩ := (HA.out.all HBr.out).elem hlt
      cases e1
      have hld := loadC_5 d0 d1 d2 d3 d4
      have Hd := Lib.hid (hdeed.mono hB2)
      have hk := (HS.out.1 i hlt).2
      clear d0 d1 d2 d3 d4 hdeed
      go_wp2_with fail
      refine (act_any wr HDr.out Hd.out (by omega)).mono ?_
      rintro e w3 ⟨v3, c3, rfl, D', n', f', gs2, gb2, qv2, hdo, -, hd, hb, -⟩
      have HN := Lib.hid (show ∃ gs gb qv D, Runs X.dsk A (i + 1) D ∧ DiskIn W.heap.size g gs gb qv D w3 ∧ Below W.heap.size W w3 from ⟨gs2, gb2, qv2, D', ⟨D, c3, n', f', HRn.out, hdo⟩, hd, HBr.out.trans hb⟩)
      clear hld hdo hd hb
      go_wp2_with fail
      go_roundw
      case rel => exact ⟨i + 1, by omega, by go_num, HN.out⟩
      case measure => simp [intOf]; omega
    · obtain rfl : m = i := by omega
      have hdlt : decide ((m : Int) < m) = false := decide_eq_false (by omega)
      go_wp2_with fail
      go_ret
      exact ⟨g, gs', gb', qv', D, rfl, HRn.out, HDr.out.base_le HB.out.size, HB.out.trans (HBr.out.mono HB.out.size)⟩

end Go.Proofs.Ytjhcaedfknhilaa

namespace Go.Proofs.Ytjhcaedfknhilaa
open Go.RowKit

theorem performs_law (D : Dsk) (A : Nat → Nat) (F : Nat → Nat → Int) (i : Nat) : ∀ k, ((D.performs A F k).sec i = D.sec i ∧ (D.performs A F k).bad i = D.bad i) ∨ ∃ j, j < k ∧ A j = i ∧ (D.performs A F k).sec i = F j ∧ (D.performs A F k).bad i = false
  | 0 => .inl ⟨rfl, rfl⟩
  | k + 1 => by
    by_cases h : i = A k
    · refine .inr ⟨k, by omega, h.symm, ?_, ?_⟩
      · show (fun j => if i = A k then F k j else (D.performs A F k).sec i j) = F k
        funext j
        rw [if_pos h]
      · show (if i = A k then false else (D.performs A F k).bad i) = false
        rw [if_pos h]
    · have h1 : (D.performs A F (k + 1)).sec i = (D.performs A F k).sec i := by
        show (fun j => if i = A k then F k j else (D.performs A F k).sec i j) = _
        funext j
        rw [if_neg h]
      have h2 : (D.performs A F (k + 1)).bad i = (D.performs A F k).bad i := by
        show (if i = A k then false else (D.performs A F k).bad i) = _
        rw [if_neg h]
      rw [h1, h2]
      rcases performs_law D A F i k with h3 | ⟨j, hj, h4⟩
      · exact .inl h3
      · exact .inr ⟨j, by omega, h4⟩
theorem crash_law (D : Dsk) (n : Nat) (f : Nat → Int) (hk : keepOk D.q n f) (i : Nat) :
    ((D.crash n f).sec i = D.sec i ∧ (D.crash n f).bad i = D.bad i) ∨ ∃ j, j < D.q ∧ D.qa j = i ∧ (D.crash n f).sec i = D.qb j ∧ (D.crash n f).bad i = false := by
  rcases performs_law D (fun k => D.qa (f k).toNat) (fun k => D.qb (f k).toNat) i n with h | ⟨j, hj, h1, h2, h3⟩
  · exact .inl h
  · have := (hk j hj).1
    exact .inr ⟨(f j).toNat, by omega, h1, h2, h3⟩
theorem crash_same (D : Dsk) (n : Nat) (f : Nat → Int) : (D.crash n f).n = D.n ∧ (D.crash n f).q = 0 ∧ (D.crash n f).dead = D.dead ∧ (D.crash n f).armed = false ∧ (D.crash n f).left = 0 := by
  obtain ⟨h1, _, _, _, h5, _⟩ := D.performs_same (fun k => D.qa (f k).toNat) (fun k => D.qb (f k).toNat) n
  exact ⟨h1, rfl, h5, rfl, rfl⟩
/-- The list of bad ones has a sector, if it is bad. -/
theorem in_bad (D : Dsk) (i : Nat) : (∃ k, k < (badL D D.n).length ∧ badF D D.n k = i) ↔ i < D.n ∧ D.bad i = true := by
  constructor
  · rintro ⟨k, hk, h⟩
    unfold badF at h
    rw [List.getD_eq_getElem?_getD, List.getElem?_eq_getElem hk, Option.getD_some] at h
    have h9 : (badL D D.n)[k] = i := by omega
    exact badL_mem (h9 ▸ List.getElem_mem hk)
  · rintro ⟨h1, h2⟩
    have hm : i ∈ badL D D.n := by
      unfold badL
      rw [List.mem_filter, List.mem_range]
      exact ⟨h1, h2⟩
    obtain ⟨k, hk, h⟩ := List.getElem_of_mem hm
    refine ⟨k, hk, ?_⟩
    unfold badF
    rw [List.getD_eq_getElem?_getD, List.getElem?_eq_getElem hk, Option.getD_some, h]

end Go.Proofs.Ytjhcaedfknhilaa

namespace Go.Proofs.Ytjhcaedfknhilaa
open Go.RowKit

theorem performs_has (D : Dsk) (a : Nat → Nat) (f : Nat → Nat → Int) (i : Nat) : ∀ k, (∃ F, hasQ a f i k = some F ∧ (D.performs a f k).sec i = F ∧ (D.performs a f k).bad i = false) ∨ (hasQ a f i k = none ∧ (D.performs a f k).sec i = D.sec i ∧ (D.performs a f k).bad i = D.bad i)
  | 0 => .inr ⟨rfl, rfl, rfl⟩
  | k + 1 => by
    by_cases h : a k = i
    · refine .inl ⟨f k, ?_, ?_, ?_⟩
      · rw [hasQ, if_pos h]
      · show (fun j => if i = a k then f k j else (D.performs a f k).sec i j) = f k
        funext j
        rw [if_pos h.symm]
      · show (if i = a k then false else (D.performs a f k).bad i) = false
        rw [if_pos h.symm]
    · have h' : ¬ i = a k := fun e => h e.symm
      have h1 : (D.performs a f (k + 1)).sec i = (D.performs a f k).sec i := by
        show (fun j => if i = a k then f k j else (D.performs a f k).sec i j) = _
        funext j
        rw [if_neg h']
      have h2 : (D.performs a f (k + 1)).bad i = (D.performs a f k).bad i := by
        show (if i = a k then false else (D.performs a f k).bad i) = _
        rw [if_neg h']
      rw [h1, h2, hasQ, if_neg h]
      exact performs_has D a f i k
theorem has_empty {D : Dsk} (h : D.q = 0) (j : Nat) : D.has j = if D.bad j then none else some (D.sec j) := by
  unfold Dsk.has
  rw [h]
  rfl
theorem sync_has (D : Dsk) (j : Nat) : D.sync.has j = D.has j := by
  rw [has_empty (D := D.sync) rfl]
  have hb : D.sync.bad = (D.performs D.qa D.qb D.q).bad := rfl
  have hs : D.sync.sec = (D.performs D.qa D.qb D.q).sec := rfl
  rw [hb, hs]
  unfold Dsk.has
  rcases performs_has D D.qa D.qb j D.q with ⟨F, h1, h2, h3⟩ | ⟨h1, h2, h3⟩
  · rw [h1, h3, h2]
    rfl
  · rw [h1, h3, h2]
theorem crash0_has (D : Dsk) (f : Nat → Int) (h : D.q = 0) (j : Nat) : (D.crash 0 f).has j = D.has j := by
  rw [has_empty (D := D.crash 0 f) rfl, has_empty h]
  rfl
theorem sync_same (D : Dsk) : D.sync.n = D.n ∧ D.sync.q = 0 ∧ D.sync.dead = D.dead ∧ D.sync.armed = D.armed := by
  obtain ⟨h1, _, _, _, h5, h6, _⟩ := D.performs_same D.qa D.qb D.q
  exact ⟨h1, rfl, h5, h6⟩
theorem hasQ_write (D : Dsk) (a k : Nat) (f : Nat → Int) (i : Nat) (hi : i < k) : ∀ j, i < j → j ≤ k → hasQ (D.wrote a k f).qa (D.wrote a k f).qb (a + i) (D.q + j) = some fun l => f (i * 64 + l)
  | 0, h, _ => absurd h (Nat.not_lt_zero i)
  | j + 1, h, h2 => by
    have e1 : (D.wrote a k f).qa (D.q + j) = a + j := by
      show (if D.q + j < D.q then _ else a + (D.q + j - D.q)) = a + j
      rw [if_neg (by omega)]
      omega
    show (if (D.wrote a k f).qa (D.q + j) = a + i then _ else _) = _
    rw [e1]
    by_cases hj : j = i
    · subst hj
      rw [if_pos rfl]
      congr 1
      funext l
      show (if D.q + j < D.q then _ else f ((D.q + j - D.q) * 64 + l)) = _
      rw [if_neg (by omega), show D.q + j - D.q = j by omega]
    · rw [if_neg (by omega)]
      exact hasQ_write D a k f i hi j (by omega) (by omega)
theorem write_has (D : Dsk) (a k : Nat) (f : Nat → Int) (i : Nat) (hi : i < k) : (D.write a k f).has (a + i) = some fun l => f (i * 64 + l) := by
  have h1 := hasQ_write D a k f i hi k hi (Nat.le_refl k)
  show (match hasQ (D.wrote a k f).qa (D.wrote a k f).qb (a + i) (D.q + k) with | some f => some f | none => _) = _
  rw [h1]
theorem arm_has (D : Dsk) (b : Bool) (l : Int) (j : Nat) : (D.arm b l).has j = D.has j := rfl
/-- What was written is read. -/
theorem write_read (D : Dsk) (a k : Nat) (f : Nat → Int) : readOk ((D.write a k f).arm false 0) a k ∧ ∀ i, i < k * 64 → readI ((D.write a k f).arm false 0) a i = f i := by
  refine ⟨fun i hi => ⟨_, by rw [arm_has]; exact write_has D a k f i hi⟩, fun i hi => ?_⟩
  unfold readI Dsk.hasF
  rw [arm_has, write_has D a k f (i / 64) (by omega)]
  show f (i / 64 * 64 + i % 64) = f i
  rw [show i / 64 * 64 + i % 64 = i by omega]

/-- The bytes of none. -/
def noneF (k : Nat) : Int := if k = 0 then 110 else if k = 1 then 111 else if k = 2 then 110 else 101
/-- The text that is read of a sector. -/
def sTxt (o : Option (Nat → Int)) : ByteArray := match o with
  | some f => strF 64 f
  | none => strF 4 noneF

end Go.Proofs.Ytjhcaedfknhilaa
