/- A disk behind acts. -/
import Derived.Test.YtjhcaedfknhilaaRefD
namespace Go.Proofs.Ytjhcaedfknhilaa
open Go.RowKit
attribute [local go_sem ↓] Go.wp_at_zero Go.wp_at_succ
attribute [-go_sem] loadCellsFrom storeCells
attribute [local go_sem] storeCells_one

/-- What acts make of a disk. -/
def Runs (D : Dsk) (A : Nat → Deed) : Nat → Dsk → Prop
  | 0, D' => D' = D
  | m + 1, D' => ∃ D1 c n f, Runs D A m D1 ∧ Does D1 (A m) D' c n f

theorem DiskIn.base_le {B B' g gs gb : Nat} {qv : Value} {D : Dsk} {w : World} (h : DiskIn B' g gs gb qv D w) (hB : B ≤ B') : DiskIn B g gs gb qv D w := by
  refine ⟨h.row, h.sec, h.bad, ?_, ⟨Nat.le_trans hB h.base.1, Nat.le_trans hB h.base.2.1, Nat.le_trans hB h.base.2.2⟩, h.ok⟩
  rcases h.que with h9 | ⟨gq, cq, q1, q2, q3, q4⟩
  · exact .inl h9
  · exact .inr ⟨gq, cq, q1, Nat.le_trans hB q2, q3, q4⟩
theorem NArg.mono {B B' : Nat} {w : World} {v : Value} {n : Nat} {f : Nat → Int} (h : NArg B w v n f) (hB : B ≤ B') : NArg B' w v n f := by
  rcases h with ⟨hf, (h | ⟨b, off, cap, h1, h2, h3, h4, h5, h6⟩)⟩
  · exact ⟨hf, .inl h⟩
  · exact ⟨hf, .inr ⟨b, off, cap, h1, h2, h3, h4, h5, h6.imp (fun h => Nat.lt_of_lt_of_le h hB) id⟩⟩
theorem BArg.mono {B B' : Nat} {w : World} {v : Value} {n : Nat} {f : Nat → Int} (h : BArg B w v n f) (hB : B ≤ B') : BArg B' w v n f := by
  rcases h with ⟨hf, (h | ⟨b, off, cap, h1, h2, h3, h4, h5, h6⟩)⟩
  · exact ⟨hf, .inl h⟩
  · exact ⟨hf, .inr ⟨b, off, cap, h1, h2, h3, h4, h5, h6.imp (fun h => Nat.lt_of_lt_of_le h hB) id⟩⟩
theorem DeedAt.mono {B B' : Nat} {w : World} {bv kv : Value} {A : Deed} (h : DeedAt B w bv kv A) (hB : B ≤ B') : DeedAt B' w bv kv A :=
  ⟨h.kind, h.at', h.many, h.bytes.mono hB, h.keep.mono hB⟩
theorem DList.all {B : Nat} {w w' : World} {v : Value} {m : Nat} {A : Nat → Deed} (h : DList B w v m A) (hb : Below w.heap.size w w') : DList B w' v m A := by
  rcases h with h | ⟨b, off, cap, bv, kv, h0, h1, h2, h3, h4, h6⟩
  · exact .inl h
  · refine .inr ⟨b, off, cap, bv, kv, h0, h1, h2, h3, fun i hi => ?_, fun i hi => (h6 i hi).all hb⟩
    have h9 := h4 i hi
    exact (hb.cell (p := ⟨b, off + i, none⟩) (World.block_lt_of_cell? w ⟨b, off + i, none⟩ h9)).trans h9
theorem loadC_5 {W : World} {b o : Nat} {v0 v1 v2 v3 v4 : Value} (h0 : W.cell? ⟨b, o, none⟩ = some v0) (h1 : W.cell? ⟨b, o + 1, none⟩ = some v1) (h2 : W.cell? ⟨b, o + 2, none⟩ = some v2) (h3 : W.cell? ⟨b, o + 3, none⟩ = some v3) (h4 : W.cell? ⟨b, o + 4, none⟩ = some v4) :
    (loadCellsFrom ⟨b, o, none⟩ 0 5 #[]).run Try.prog W = .ok #[v0, v1, v2, v3, v4] W := by
  have := run_loadCells_list (P := Try.prog) W ⟨b, o, none⟩ [v0, v1, v2, v3, v4] (fun j v hj => by
    have hj6 : j < 5 := by
      rcases Nat.lt_or_ge j 5 with h1 | h1
      · exact h1
      · rw [List.getElem?_eq_none (by simp; omega)] at hj; cases hj
    rw [Addr.add_mid]
    obtain rfl | rfl | rfl | rfl | rfl : j = 0 ∨ j = 1 ∨ j = 2 ∨ j = 3 ∨ j = 4 := by omega
    all_goals (cases hj; assumption))
  exact this

set_option maxRecDepth 100000 in
set_option maxHeartbeats 4000000 in
theorem played_any {B : Nat} {dv qv bv v : Value} {X : Dev} {m : Nat} {A : Nat → Deed} (w : World) (h : DevAt B w dv qv bv X) (hl : DList B w v m A) (hB : B ≤ w.heap.size) (hX : X.Right) (hs : shortP m A) :
    Calls Try.prog 17 #[devV dv qv bv X, v] w fun e w' => ∃ g gs gb qv D, e = .returned (.pointer (some ⟨g, 0, none⟩)) ∧ Runs X.dsk A m D ∧ DiskIn w.heap.size g gs gb qv D w' ∧ Below w.heap.size w w' := by
  obtain ⟨dx, dc, rfl, -⟩ := h.data.slice
  obtain ⟨qx, qc, rfl, -⟩ := h.queue.slice
  obtain ⟨bx, bc, rfl, -⟩ := h.bad.slice
  obtain ⟨vx, vc, rfl, -⟩ := hl.slice
  have hm := hs.2
  have hr := row_six w (.slice dx X.n dc) (.slice qx X.q qc) (.slice bx X.m bc) (.bool X.dead) (.bool X.armed) (.int .i64 X.left) 31
  have hbl := (Below.refl _ w).alloc (Nat.le_refl w.heap.size) (.cells #[.slice dx X.n dc, .slice qx X.q qc, .slice bx X.m bc, .bool X.dead, .bool X.armed, .int .i64 X.left] 31)
  have HD := Lib.hid (h.all hbl)
  have HA := Lib.hid (hl.all hbl)
  have HB := Lib.hid hbl
  have HS := Lib.hid hs
  have hB2 := Nat.le_trans hB hbl.size
  have hload := loadC_dev hr
  clear h hl hbl hr hs
  unfold devV
  go_enter Try.func17, Try.ntmps17
  go_upto_region 1 with fail
  generalize w.alloc (.cells #[.slice dx X.n dc, .slice qx X.q qc, .slice bx X.m bc, .bool X.dead, .bool X.armed, .int .i64 X.left] 31) = W at *
  go_wp2_with fail
  refine (Load_any W HD.out hB2).mono ?_
  rintro e w2 (⟨hno, -⟩ | ⟨-, g, gs, gb, uv, rfl, hd, hb⟩)
  · exact absurd hX hno
  have H2 := Lib.hid hd
  have HB2 := Lib.hid hb
  clear hload hd hb
  go_wp2_with fail
  go_loopw [7] (fun t wr => ∃ i : Nat, i ≤ m ∧ t = .int .i64 i ∧ ∃ gs gb qv D, Runs X.dsk A i D ∧ DiskIn W.heap.size g gs gb qv D wr ∧ Below W.heap.size W wr) (fun t _ => m - (intOf t).toNat)
  case atStart => exact ⟨0, by omega, by go_num, gs, gb, uv, X.dsk, rfl, H2.out, HB2.out⟩
  case round =>
    obtain ⟨i, hi, rfl, gs', gb', qv', D, hrun, hd, hb⟩ := hrel
    have HDr := Lib.hid hd
    have HBr := Lib.hid hb
    have HRn := Lib.hid hrun
    clear hd hb hrun
    by_cases hlt : i < m
    · have hdlt : decide ((i : Int) < m) = true := decide_eq_true (by omega)
      obtain ⟨b, off, c, ub, uk, e1, d0, d1, d2, d3, d4, hdeed⟩ := (HA.out.all HBr.out).elem hlt
      cases e1
      have hld := loadC_5 d0 d1 d2 d3 d4
      have Hd := Lib.hid (hdeed.mono hB2)
      have hk := (HS.out.1 i hlt).2
      clear d0 d1 d2 d3 d4 hdeed
      go_wp2_with fail
      refine (act_any wr HDr.out Hd.out (by omega)).mono ?_
      rintro e w3 ⟨v3, c3, rfl, D', n', f', gs2, gb2, qv2, hdo, -, hd, hb, -⟩
      have HN := Lib.hid (show ∃ gs gb qv D, Runs X.dsk A (i + 1) D ∧ DiskIn W.heap.size g gs gb qv D w3 ∧ Below W.heap.size W w3 from ⟨gs2, gb2, qv2, D', ⟨D, c3, n', f', HRn.out, hdo⟩, hd, HBr.out.trans hb⟩)
      clear hld hdo hd hb
      go_wp2_with fail
      go_roundw
      case rel => exact ⟨i + 1, by omega, by go_num, HN.out⟩
      case measure => simp [intOf]; omega
    · obtain rfl : m = i := by omega
      have hdlt : decide ((m : Int) < m) = false := decide_eq_false (by omega)
      go_wp2_with fail
      go_ret
      exact ⟨g, gs', gb', qv', D, rfl, HRn.out, HDr.out.base_le HB.out.size, HB.out.trans (HBr.out.mono HB.out.size)⟩

end Go.Proofs.Ytjhcaedfknhilaa
