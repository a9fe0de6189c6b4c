/- The reference: Right. -/
import Derived.Test.YtjhcaedfknhilaaRefC
import Derived.Test.YtjhcaedfknhilaaActB
namespace Go.Proofs.Ytjhcaedfknhilaa
open Go.RowKit
attribute [local go_sem ↓] Go.wp_at_zero Go.wp_at_succ
attribute [-go_sem] loadCellsFrom storeCells
attribute [local go_sem] storeCells_one

def RightP (X : Dev) (w : World) (e : Ending) (w' : World) : Prop := (∃ b, e = .returned (.bool b) ∧ (b = true ↔ X.Right)) ∧ Below w.heap.size w w'
theorem right_no {X : Dev} {w w' : World} (hb : Below w.heap.size w w') (h : ¬ X.Right) : RightP X w (.returned (.bool false)) w' := ⟨⟨_, rfl, fun h => (by cases h), fun h9 => absurd h9 h⟩, hb⟩

set_option maxRecDepth 100000 in
set_option maxHeartbeats 8000000 in
theorem Right_any {B : Nat} {dv qv bv : Value} {X : Dev} (w : World) (h : DevAt B w dv qv bv X) :
    Calls Try.prog 16 #[devV dv qv bv X] w (RightP X w) := by
  obtain ⟨dx, dc, rfl, hd⟩ := h.data.slice
  obtain ⟨qx, qc, rfl, hq⟩ := h.queue.slice
  obtain ⟨bx, bc, rfl, hm⟩ := h.bad.slice
  have hleft := h.left
  unfold maxLen at hd hq hm
  have hr := row_six w (.slice dx X.n dc) (.slice qx X.q qc) (.slice bx X.m bc) (.bool X.dead) (.bool X.armed) (.int .i64 X.left) 31
  have hbl := (Below.refl _ w).alloc (Nat.le_refl w.heap.size) (.cells #[.slice dx X.n dc, .slice qx X.q qc, .slice bx X.m bc, .bool X.dead, .bool X.armed, .int .i64 X.left] 31)
  have HD := Lib.hid (h.all hbl)
  have HB := Lib.hid hbl
  have HR := Lib.hid hr
  have hl := loadC_dev hr
  clear h hbl hr
  unfold devV
  go_enter Try.func16, Try.ntmps16
  go_upto_region 1 with fail
  generalize w.alloc (.cells #[.slice dx X.n dc, .slice qx X.q qc, .slice bx X.m bc, .bool X.dead, .bool X.armed, .int .i64 X.left] 31) = W at *
  go_wp2_with fail
  refine (Sectors_any W HD.out).mono ?_
  rintro e w2 ⟨rfl, hb⟩
  have HB2 := Lib.hid (HB.out.trans (hb.mono HB.out.size))
  have HD2 := Lib.hid (HD.out.all hb)
  have HR2 := Lib.hid (HR.out.all hb)
  clear hl hb HB HD HR
  obtain ⟨a0, a1, a2, a3, a4, a5⟩ := cells6 HR2.out
  by_cases h1 : X.n % 64 = 0
  rotate_left
  · have g1 : ((X.n : Int) % 64 == 0) = false := beq_eq_false_iff_ne.2 (by omega)
    go_wp2_with fail
    go_ret
    exact right_no HB2.out fun h => h1 h.h1.1
  obtain ⟨k, hk⟩ : ∃ k, X.n = k * 64 := ⟨X.n / 64, by omega⟩
  have hkn : X.n / 64 = k := by omega
  have Hk := Lib.hid (And.intro hk hkn)
  rw [hkn]
  rw [hk] at a0
  clear h1 hk hkn
  by_cases h2 : 1 ≤ k
  rotate_left
  · obtain rfl : k = 0 := by omega
    go_wp2_with fail
    go_ret
    exact right_no HB2.out fun h => by have := h.h1.2.1; rw [Hk.out.2] at this; omega
  have g2 : decide ((k : Int) < 1) = false := decide_eq_false (by omega)
  by_cases h3 : k ≤ 4096
  rotate_left
  · have g3 : decide ((k : Int) > 4096) = true := decide_eq_true (by omega)
    go_wp2_with fail
    go_ret
    exact right_no HB2.out fun h => by have := h.h1.2.2.1; rw [Hk.out.2] at this; omega
  have g3 : decide ((k : Int) > 4096) = false := decide_eq_false (by omega)
  by_cases h4 : X.q ≤ 65536
  rotate_left
  · have g4 : decide ((X.q : Int) > 65536) = true := decide_eq_true (by omega)
    go_wp2_with fail
    go_ret
    exact right_no HB2.out fun h => h4 h.h1.2.2.2
  have g4 : decide ((X.q : Int) > 65536) = false := decide_eq_false (by omega)
  by_cases h5 : X.left < 0
  · have g5 : decide (X.left < 0) = true := decide_eq_true h5
    rcases bool_cases X.dead with hD | hD <;> rcases bool_cases X.armed with hA | hA <;> rw [hD] at a3 <;> rw [hA] at a4
    all_goals
      have Hn := Lib.hid (show ¬ X.Right from fun h => by have := h.h2.1; omega)
      clear hD hA
      by_cases h6 : X.q = 0
      · rw [h6] at a1
        go_wp2_with fail
        go_ret
        exact right_no HB2.out Hn.out
      · have g6 : decide ((X.q : Int) > 0) = true := decide_eq_true (by omega)
        go_wp2_with fail
        go_ret
        exact right_no HB2.out Hn.out
  have g5 : decide (X.left < 0) = false := decide_eq_false h5
  have hgo : (X.dead = true ∧ X.armed = true) ∨ (X.dead = true ∧ X.armed = false ∧ 0 < X.q) ∨ (X.dead = true ∧ X.armed = false ∧ X.q = 0 ∧ 0 < X.left) ∨ (X.dead = false ∧ X.armed = false ∧ 0 < X.left) ∨
      (X.ok2 ∧ ((X.dead = true ∧ X.armed = false ∧ X.q = 0 ∧ X.left = 0) ∨ (X.dead = false ∧ X.armed = true) ∨ (X.dead = false ∧ X.armed = false ∧ X.left = 0))) := by
    unfold Dev.ok2
    rcases bool_cases X.dead with hD | hD <;> rcases bool_cases X.armed with hA | hA <;> simp [hD, hA] <;> omega
  rcases hgo with ⟨hD, hA⟩ | ⟨hD, hA, hq0⟩ | ⟨hD, hA, hq0, hl0⟩ | ⟨hD, hA, hl0⟩ | ⟨hok2, hgo⟩
  · have Hn := Lib.hid (show ¬ X.Right from fun h => h.h2.2.2 ⟨hD, .inl hA⟩)
    rw [hD] at a3
    rw [hA] at a4
    clear hD hA
    go_wp2_with fail
    go_ret
    exact right_no HB2.out Hn.out
  · have Hn := Lib.hid (show ¬ X.Right from fun h => h.h2.2.2 ⟨hD, .inr hq0⟩)
    have g6 : decide ((X.q : Int) > 0) = true := decide_eq_true (by omega)
    rw [hD] at a3
    rw [hA] at a4
    clear hD hA
    go_wp2_with fail
    go_ret
    exact right_no HB2.out Hn.out
  · have Hn := Lib.hid (show ¬ X.Right from fun h => by
      rcases h.h2.2.1 with h9 | h9
      · rw [hA] at h9; cases h9
      · omega)
    have g6 : decide (X.left > 0) = true := decide_eq_true (by omega)
    rw [hD] at a3
    rw [hA] at a4
    rw [hq0] at a1
    clear hD hA
    go_wp2_with fail
    go_ret
    exact right_no HB2.out Hn.out
  · have Hn := Lib.hid (show ¬ X.Right from fun h => by
      rcases h.h2.2.1 with h9 | h9
      · rw [hA] at h9; cases h9
      · omega)
    have g6 : decide (X.left > 0) = true := decide_eq_true (by omega)
    rw [hD] at a3
    rw [hA] at a4
    clear hD hA
    go_wp2_with fail
    go_ret
    exact right_no HB2.out Hn.out
  have g6 : decide (X.left > 0) = false ∨ X.armed = true := by
    rcases hgo with ⟨-, -, -, h⟩ | ⟨-, h⟩ | ⟨-, -, h⟩
    · exact .inl (decide_eq_false (by omega))
    · exact .inr h
    · exact .inl (decide_eq_false (by omega))
  have Hok2 := Lib.hid hok2
  clear hok2
  go_upto_region 2 with fail
  go_cut [55] from 8 to 55 (fun s55 wx => s55 = .bool false ∧ w2 = wx)
  case first =>
    rcases hgo with ⟨hD, hA, hq0, hl0⟩ | ⟨hD, hA⟩ | ⟨hD, hA, hl0⟩
    · rw [hD] at a3
      rw [hA] at a4
      rw [hq0] at a1
      rw [hl0] at a5
      clear hD hA g5 g6
      go_wp2_with fail
      go_meet
      case rel => exact ⟨rfl, rfl⟩
    · rw [hD] at a3
      rw [hA] at a4
      clear hD hA g6
      go_wp2_with fail
      go_meet
      case rel => exact ⟨rfl, rfl⟩
    · rw [hD] at a3
      rw [hA] at a4
      rw [hl0] at a5
      clear hD hA g5 g6
      go_wp2_with fail
      go_meet
      case rel => exact ⟨rfl, rfl⟩
  obtain ⟨rfl, rfl⟩ := hcut
  clear a0 a1 a2 a3 a4 a5 g2 g3 g4 g5 g6 hgo
  go_wp2_with fail
  go_loopw [4] (fun t wr => ∃ i : Nat, i ≤ X.q ∧ t = .int .i64 i ∧ w2 = wr ∧ X.okQ i) (fun t _ => X.q - (intOf t).toNat)
  case atStart => exact ⟨0, by omega, by go_num, by first | rfl | trivial, fun j hj => absurd hj (Nat.not_lt_zero j)⟩
  case round =>
    obtain ⟨i, hi, rfl, rfl, hok⟩ := hrel
    obtain ⟨a0, a1, a2, -⟩ := cells6 HR2.out
    clear a0
    have Hok := Lib.hid hok
    clear hok
    by_cases hlt : i < X.q
    · have hdlt : decide ((i : Int) < X.q) = true := decide_eq_true (by omega)
      obtain ⟨b, off, c, u, e1, d0, d1, hb⟩ := HD2.out.queue.elem hlt
      have Hi := Lib.hid hlt
      cases e1
      obtain ⟨ux, uc, rfl, -⟩ := hb.slice
      clear hb a2
      by_cases h7 : X.qa i < 0
      · have g7 : decide (X.qa i < 0) = true := decide_eq_true h7
        go_wp2_with fail
        go_ret
        exact right_no HB2.out fun h => by have := (h.h3 i Hi.out).1; omega
      have g7 : decide (X.qa i < 0) = false := decide_eq_false h7
      by_cases h8 : X.qa i < k
      rotate_left
      · have g8 : decide (X.qa i ≥ (k : Int)) = true := decide_eq_true (by omega)
        have g8' : decide ((k : Int) ≤ X.qa i) = true := decide_eq_true (by omega)
        go_wp2_with fail
        go_ret
        exact right_no HB2.out fun h => by have := (h.h3 i Hi.out).2.1; rw [Hk.out.2] at this; omega
      have g8 : decide (X.qa i ≥ (k : Int)) = false := decide_eq_false (by omega)
      have g8' : decide ((k : Int) ≤ X.qa i) = false := decide_eq_false (by omega)
      by_cases h9 : X.ql i = 64
      · have Hn := Lib.hid (show X.okQ (i + 1) from fun j hj => by
          by_cases hji : j = i
          · rw [hji]; exact ⟨by omega, by rw [Hk.out.2]; exact h8, h9⟩
          · exact Hok.out j (by omega))
        rw [h9] at d1
        go_wp2_with fail
        go_roundw
        case rel => exact ⟨i + 1, by omega, by go_num, by trivial, Hn.out⟩
        case measure => simp [intOf]; omega
      · have g9 : ((X.ql i : Int) == 64) = false := beq_eq_false_iff_ne.2 (by omega)
        have Hn := Lib.hid (show ¬ X.Right from fun h => h9 (h.h3 i Hi.out).2.2)
        go_wp2_with fail
        go_ret
        exact right_no HB2.out Hn.out
    · obtain rfl : X.q = i := by omega
      have hdlt : decide ((X.q : Int) < X.q) = false := decide_eq_false (by omega)
      clear a2
      go_wp2_with fail
      clear a1 hdlt
      go_loopw [5] (fun t wr => ∃ i : Nat, i ≤ X.m ∧ t = .int .i64 i ∧ Below w2.heap.size w2 wr ∧ X.okB i) (fun t _ => X.m - (intOf t).toNat)
      case atStart => exact ⟨0, by omega, by go_num, Below.refl _ _, fun j hj => absurd hj (Nat.not_lt_zero j)⟩
      case round =>
        obtain ⟨i, hi, rfl, hbr, hokb⟩ := hrel
        obtain ⟨a0, a1, a2, -⟩ := cells6 (HR2.out.all hbr)
        clear a0 a1
        have Hokb := Lib.hid hokb
        have HBr := Lib.hid hbr
        clear hokb hbr
        by_cases hlt : i < X.m
        · have hdlt : decide ((i : Int) < X.m) = true := decide_eq_true (by omega)
          obtain ⟨b, off, c, e1, d0⟩ := (HD2.out.all HBr.out).bad.elem hlt
          have hall : ∀ j, j < X.m → wr.cell? ⟨b, off + j, none⟩ = some (.int .i64 (X.bad j)) := fun j hj => by
            obtain ⟨b', off', c', e2, d2⟩ := (HD2.out.all HBr.out).bad.elem hj
            rw [e1] at e2
            cases e2
            exact d2
          cases e1
          have Hi := Lib.hid hlt
          have Hall := Lib.hid hall
          clear hall
          by_cases h7 : X.bad i < 0
          · have g7 : decide (X.bad i < 0) = true := decide_eq_true h7
            have Hn := Lib.hid (show ¬ X.Right from fun h => by have := (h.h4 i Hi.out).1; omega)
            go_upto_region 12 with fail
            go_quiet (fail)
            go_wp2
            go_ret
            exact right_no (HB2.out.trans ((below_dn HBr.out _).mono HB2.out.size)) Hn.out
          have g7 : decide (X.bad i < 0) = false := decide_eq_false h7
          by_cases h8 : X.bad i < k
          rotate_left
          · have g8 : decide (X.bad i ≥ (k : Int)) = true := decide_eq_true (by omega)
            have g8' : decide ((k : Int) ≤ X.bad i) = true := decide_eq_true (by omega)
            have Hn := Lib.hid (show ¬ X.Right from fun h => by have := (h.h4 i Hi.out).2.1; rw [Hk.out.2] at this; omega)
            go_upto_region 12 with fail
            go_quiet (fail)
            go_wp2
            go_ret
            exact right_no (HB2.out.trans ((below_dn HBr.out _).mono HB2.out.size)) Hn.out
          have g8 : decide (X.bad i ≥ (k : Int)) = false := decide_eq_false (by omega)
          have g8' : decide ((k : Int) ≤ X.bad i) = false := decide_eq_false (by omega)
          rcases i with _ | j
          · have Hn := Lib.hid (show X.okB (0 + 1) from fun j hj => by
              obtain rfl : j = 0 := by omega
              exact ⟨by omega, by rw [Hk.out.2]; exact h8, .inl rfl⟩)
            have d00 : wr.cell? ⟨b, off, none⟩ = some (.int .i64 (X.bad 0)) := d0
            have hm0 : (0 : Int) < (X.m : Int) := by omega
            go_upto_region 12 with fail
            go_quiet (fail)
            go_wp2
            go_roundw
            case rel => exact ⟨0 + 1, by omega, by go_num, below_dn HBr.out _, Hn.out⟩
            case measure => simp [intOf]; omega
          · have d1 := Hall.out j (by omega)
            have g0 : decide (((j + 1 : Nat) : Int) > 0) = true := decide_eq_true (by omega)
            by_cases h9 : X.bad (j + 1) ≤ X.bad j
            · have g9 : decide (X.bad (j + 1) ≤ X.bad j) = true := decide_eq_true h9
              have Hn := Lib.hid (show ¬ X.Right from fun h => by
                rcases (h.h4 (j + 1) Hi.out).2.2 with h10 | h10
                · omega
                · rw [Nat.add_sub_cancel] at h10; omega)
              go_upto_region 12 with fail
              go_quiet (fail)
              go_wp2
              go_ret
              exact right_no (HB2.out.trans ((below_dn HBr.out _).mono HB2.out.size)) Hn.out
            · have g9 : decide (X.bad (j + 1) ≤ X.bad j) = false := decide_eq_false h9
              have Hn := Lib.hid (show X.okB (j + 1 + 1) from fun l hl => by
                by_cases hli : l = j + 1
                · rw [hli]; exact ⟨by omega, by rw [Hk.out.2]; exact h8, .inr (by rw [Nat.add_sub_cancel]; omega)⟩
                · exact Hokb.out l (by omega))
              go_upto_region 12 with fail
              go_quiet (fail)
              go_wp2
              go_roundw
              case rel => exact ⟨j + 1 + 1, by omega, by go_num, below_dn HBr.out _, Hn.out⟩
              case measure => simp [intOf]; omega
        · obtain rfl : X.m = i := by omega
          have hdlt : decide ((X.m : Int) < X.m) = false := decide_eq_false (by omega)
          go_wp2_with fail
          go_ret
          exact ⟨⟨_, rfl, fun _ => ⟨⟨by rw [Hk.out.1]; omega, by rw [Hk.out.2]; exact h2, by rw [Hk.out.2]; exact h3, h4⟩, Hok2.out, Hok.out, Hokb.out⟩, fun _ => rfl⟩, HB2.out.trans (HBr.out.mono HB2.out.size)⟩

end Go.Proofs.Ytjhcaedfknhilaa
