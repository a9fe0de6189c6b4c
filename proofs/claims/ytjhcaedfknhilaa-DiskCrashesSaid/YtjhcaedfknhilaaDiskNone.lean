/- DiskNone. -/
import Derived.Test.YtjhcaedfknhilaaActA
namespace Go.Proofs.Ytjhcaedfknhilaa
open Go.RowKit
attribute [local go_sem ↓] Go.wp_at_zero Go.wp_at_succ
attribute [-go_sem] loadCellsFrom storeCells
attribute [local go_sem] storeCells_one

def st5 (a b c d e : Value) : Nat → Value
  | 0 => a
  | 1 => b
  | 2 => c
  | 3 => d
  | _ => e
theorem row_five (w : World) (a b c d e : Value) (t : TypeId) : RowAt (w.alloc (.cells #[a, b, c, d, e] t)) w.heap.size t 5 5 (st5 a b c d e) :=
  row_of w #[a, b, c, d, e] t _ rfl (fun i hi => by
    obtain rfl | rfl | rfl | rfl | rfl : i = 0 ∨ i = 1 ∨ i = 2 ∨ i = 3 ∨ i = 4 := by omega
    all_goals rfl) rfl
theorem cells5 {W : World} {g : Nat} {t : TypeId} {a b c d e : Value} (h : RowAt W g t 5 5 (st5 a b c d e)) : W.cell? ⟨g, 0, none⟩ = some a ∧ W.cell? ⟨g, 1, none⟩ = some b ∧ W.cell? ⟨g, 2, none⟩ = some c ∧ W.cell? ⟨g, 3, none⟩ = some d ∧ W.cell? ⟨g, 4, none⟩ = some e :=
  ⟨h.cell (i := 0) (by omega), h.cell (i := 1) (by omega), h.cell (i := 2) (by omega), h.cell (i := 3) (by omega), h.cell (i := 4) (by omega)⟩
theorem loadC_five {W : World} {g : Nat} {t : TypeId} {a b c d e : Value} (h : RowAt W g t 5 5 (st5 a b c d e)) : (loadCellsFrom ⟨g, 0, none⟩ 0 5 #[]).run Try.prog W = .ok #[a, b, c, d, e] W := by
  have := run_loadCells_list (P := Try.prog) W ⟨g, 0, none⟩ [a, b, c, d, e] (fun j v hj => by
    have hj6 : j < 5 := by
      rcases Nat.lt_or_ge j 5 with h1 | h1
      · exact h1
      · rw [List.getElem?_eq_none (by simp; omega)] at hj; cases hj
    rw [Addr.add_mid, Nat.zero_add]
    have := h.cell (i := j) hj6
    rw [this]
    obtain rfl | rfl | rfl | rfl | rfl : j = 0 ∨ j = 1 ∨ j = 2 ∨ j = 3 ∨ j = 4 := by omega
    all_goals (cases hj; rfl))
  exact this

/-- Which kinds there are. -/
def kindOk (k : Int) : Bool := decide (0 ≤ k) && decide (k ≤ 7)
def nilE (k : Int) : Int := if kindOk k then 23 else 0

set_option maxHeartbeats 2000000 in
theorem act_nil {B : Nat} {bv kv : Value} {A : Deed} (w : World) (h : DeedAt B w bv kv A) :
    Calls Try.prog 24 #[.pointer none, deedV bv kv A] w fun e w' => e = .returned (.tuple #[.slice none 0 0, .int .i64 (nilE A.kind)]) ∧ Below w.heap.size w w' := by
  obtain ⟨bx, bc, rfl, -⟩ := h.bytes.slice
  obtain ⟨kx, kc, rfl, -⟩ := h.keep.slice
  have hr := row_five w (.int .i64 A.kind) (.int .i64 A.at') (.int .i64 A.many) (.slice bx A.n bc) (.slice kx A.k kc) 51
  obtain ⟨a0, a1, a2, a3, a4⟩ := cells5 hr
  have hbl := (Below.refl _ w).alloc (Nat.le_refl w.heap.size) (.cells #[.int .i64 A.kind, .int .i64 A.at', .int .i64 A.many, .slice bx A.n bc, .slice kx A.k kc] 51)
  have HB := Lib.hid hbl
  clear hr hbl h
  unfold deedV
  go_enter Try.func24, Try.ntmps24
  go_upto_region 1 with fail
  generalize w.alloc (.cells #[.int .i64 A.kind, .int .i64 A.at', .int .i64 A.many, .slice bx A.n bc, .slice kx A.k kc] 51) = W at *
  have hcase : A.kind = 0 ∨ A.kind = 1 ∨ A.kind = 2 ∨ A.kind = 3 ∨ A.kind = 4 ∨ A.kind = 5 ∨ A.kind = 6 ∨ A.kind = 7 ∨ (A.kind < 0 ∨ 7 < A.kind) := by omega
  rcases hcase with hc | hc | hc | hc | hc | hc | hc | hc | hc
  · have hk : A.kind = 0 := hc
    rw [hk] at a0
    rw [hk]
    clear hc
    go_wp2_with fail
    refine (Read_nil _ _ W).mono ?_
    rintro e w2 ⟨rfl, hb⟩
    go_wp2_with fail
    exact bodyPost_ret (v := .tuple #[.slice none 0 0, .int .i64 23]) (by simp [results, Try.results24]) rfl ⟨by rw [hk]; rfl, HB.out.trans (hb.mono HB.out.size)⟩
  · have hk : A.kind = 1 := hc
    rw [hk] at a0
    rw [hk]
    clear hc
    go_wp2_with fail
    refine (Write_nil _ _ W).mono ?_
    rintro e w2 ⟨rfl, hb⟩
    go_wp2_with fail
    exact bodyPost_ret (v := .tuple #[.slice none 0 0, .int .i64 23]) (by simp [results, Try.results24]) rfl ⟨by rw [hk]; rfl, HB.out.trans (hb.mono HB.out.size)⟩
  · have hk : A.kind = 2 := hc
    rw [hk] at a0
    rw [hk]
    clear hc
    go_wp2_with fail
    refine (Sync_nil W).mono ?_
    rintro e w2 ⟨rfl, hb⟩
    go_wp2_with fail
    exact bodyPost_ret (v := .tuple #[.slice none 0 0, .int .i64 23]) (by simp [results, Try.results24]) rfl ⟨by rw [hk]; rfl, HB.out.trans (hb.mono HB.out.size)⟩
  · have hk : A.kind = 3 := hc
    rw [hk] at a0
    rw [hk]
    clear hc
    go_wp2_with fail
    refine (Crash_nil _ W).mono ?_
    rintro e w2 ⟨rfl, hb⟩
    go_wp2_with fail
    exact bodyPost_ret (v := .tuple #[.slice none 0 0, .int .i64 23]) (by simp [results, Try.results24]) rfl ⟨by rw [hk]; rfl, HB.out.trans (hb.mono HB.out.size)⟩
  · have hk : A.kind = 4 := hc
    rw [hk] at a0
    rw [hk]
    clear hc
    go_wp2_with fail
    refine (Spoil_nil _ W).mono ?_
    rintro e w2 ⟨rfl, hb⟩
    go_wp2_with fail
    exact bodyPost_ret (v := .tuple #[.slice none 0 0, .int .i64 23]) (by simp [results, Try.results24]) rfl ⟨by rw [hk]; rfl, HB.out.trans (hb.mono HB.out.size)⟩
  · have hk : A.kind = 5 := hc
    rw [hk] at a0
    rw [hk]
    clear hc
    go_wp2_with fail
    refine (Die_nil W).mono ?_
    rintro e w2 ⟨rfl, hb⟩
    go_wp2_with fail
    exact bodyPost_ret (v := .tuple #[.slice none 0 0, .int .i64 23]) (by simp [results, Try.results24]) rfl ⟨by rw [hk]; rfl, hb ▸ HB.out⟩
  · have hk : A.kind = 6 := hc
    rw [hk] at a0
    rw [hk]
    clear hc
    go_wp2_with fail
    refine (Replace_nil W).mono ?_
    rintro e w2 ⟨rfl, hb⟩
    go_wp2_with fail
    exact bodyPost_ret (v := .tuple #[.slice none 0 0, .int .i64 23]) (by simp [results, Try.results24]) rfl ⟨by rw [hk]; rfl, hb ▸ HB.out⟩
  · have hk : A.kind = 7 := hc
    rw [hk] at a0
    rw [hk]
    clear hc
    go_wp2_with fail
    refine (Stop_nil _ W).mono ?_
    rintro e w2 ⟨rfl, hb⟩
    go_wp2_with fail
    exact bodyPost_ret (v := .tuple #[.slice none 0 0, .int .i64 23]) (by simp [results, Try.results24]) rfl ⟨by rw [hk]; rfl, HB.out.trans (hb.mono HB.out.size)⟩
  · have hn : nilE A.kind = 0 := by
      unfold nilE kindOk
      rcases hc with h | h
      · rw [decide_eq_false (show ¬ 0 ≤ A.kind by omega)]; rfl
      · rw [decide_eq_false (show ¬ A.kind ≤ 7 by omega), Bool.and_false]; rfl
    have k0 : (A.kind == 0) = false := beq_eq_false_iff_ne.2 (by omega)
    have k1 : (A.kind == 1) = false := beq_eq_false_iff_ne.2 (by omega)
    have k2 : (A.kind == 2) = false := beq_eq_false_iff_ne.2 (by omega)
    have k3 : (A.kind == 3) = false := beq_eq_false_iff_ne.2 (by omega)
    have k4 : (A.kind == 4) = false := beq_eq_false_iff_ne.2 (by omega)
    have k5 : (A.kind == 5) = false := beq_eq_false_iff_ne.2 (by omega)
    have k6 : (A.kind == 6) = false := beq_eq_false_iff_ne.2 (by omega)
    have k7 : (A.kind == 7) = false := beq_eq_false_iff_ne.2 (by omega)
    clear hc
    go_wp2_with fail
    exact bodyPost_ret (v := .tuple #[.slice none 0 0, .int .i64 0]) (by simp [results, Try.results24]) rfl ⟨by rw [hn], HB.out⟩

/-- The device of no disk. -/
def zeroDev : Dev := ⟨0, fun _ => 0, 0, fun _ => 0, fun _ => 0, fun _ _ => 0, 0, fun _ => 0, false, false, 0⟩
theorem zeroDev_at (B : Nat) (w : World) : DevAt B w (.slice none 0 0) (.slice none 0 0) (.slice none 0 0) zeroDev :=
  ⟨⟨fun _ => z1, .inl ⟨rfl, _, _, rfl⟩⟩, ⟨fun _ => z0, .inl ⟨rfl, _, _, rfl⟩⟩, ⟨fun _ => z0, .inl ⟨rfl, _, _, rfl⟩⟩, z0⟩
theorem nilE_cases (k : Int) : (decide (0 ≤ k) = true ∧ decide (k ≤ 7) = true ∧ nilE k = 23) ∨ (decide (0 ≤ k) = true ∧ decide (k ≤ 7) = false ∧ nilE k = 0) ∨ (decide (0 ≤ k) = false ∧ nilE k = 0) := by
  unfold nilE kindOk
  by_cases h1 : 0 ≤ k
  · by_cases h2 : k ≤ 7
    · exact .inl ⟨decide_eq_true h1, decide_eq_true h2, by rw [decide_eq_true h1, decide_eq_true h2]; rfl⟩
    · exact .inr (.inl ⟨decide_eq_true h1, decide_eq_false h2, by rw [decide_eq_true h1, decide_eq_false h2]; rfl⟩)
  · exact .inr (.inr ⟨decide_eq_false h1, by rw [decide_eq_false h1]; rfl⟩)
/-- A list of one act. -/
theorem DList.one {B : Nat} {w W : World} {x y : Option Addr} {c d : Nat} {A : Deed} (h : DeedAt B W (.slice x A.n c) (.slice y A.k d) A) (hr : RowAt W w.heap.size 51 5 5 (st5 (.int .i64 A.kind) (.int .i64 A.at') (.int .i64 A.many) (.slice x A.n c) (.slice y A.k d))) :
    DList B W (.slice (some ⟨w.heap.size, 0, none⟩) 1 1) 1 (fun _ => A) := by
  refine .inr ⟨w.heap.size, 0, 1, fun _ => .slice x A.n c, fun _ => .slice y A.k d, rfl, by omega, by omega, by decide, fun i hi => ?_, fun i hi => h⟩
  rw [Nat.zero_add, hr.cell (i := i) (by omega)]
  obtain rfl | rfl | rfl | rfl | rfl : i = 0 ∨ i = 1 ∨ i = 2 ∨ i = 3 ∨ i = 4 := by omega
  all_goals rfl

set_option maxRecDepth 100000 in
set_option maxHeartbeats 4000000 in
theorem DiskNone_any {B : Nat} {bv kv : Value} {A : Deed} (w : World) (h : DeedAt B w bv kv A) :
    Calls Try.prog 5 #[deedV bv kv A] w fun e w' => e = .returned (.bool true) ∧ Below w.heap.size w w' := by
  obtain ⟨bx, bc, rfl, -⟩ := h.bytes.slice
  obtain ⟨kx, kc, rfl, -⟩ := h.keep.slice
  have hr := row_five w (.int .i64 A.kind) (.int .i64 A.at') (.int .i64 A.many) (.slice bx A.n bc) (.slice kx A.k kc) 51
  have hbl := (Below.refl _ w).alloc (Nat.le_refl w.heap.size) (.cells #[.int .i64 A.kind, .int .i64 A.at', .int .i64 A.many, .slice bx A.n bc, .slice kx A.k kc] 51)
  have hd := h.all hbl
  have hs : w.heap.size < (w.alloc (.cells #[.int .i64 A.kind, .int .i64 A.at', .int .i64 A.many, .slice bx A.n bc, .slice kx A.k kc] 51)).heap.size := by simp
  clear h
  unfold deedV
  go_enter Try.func5, Try.ntmps5
  go_upto_region 1 with fail
  generalize w.alloc (.cells #[.int .i64 A.kind, .int .i64 A.at', .int .i64 A.many, .slice bx A.n bc, .slice kx A.k kc] 51) = W at *
  have hl := loadC_five hr
  have hr2 := row_five W (.int .i64 A.kind) (.int .i64 A.at') (.int .i64 A.many) (.slice bx A.n bc) (.slice kx A.k kc) 51
  have hbl2 := (Below.refl _ W).alloc (Nat.le_refl W.heap.size) (.cells #[.int .i64 A.kind, .int .i64 A.at', .int .i64 A.many, .slice bx A.n bc, .slice kx A.k kc] 51)
  have HL := Lib.hid (DList.one (hd.all hbl2) hr2)
  have HR := Lib.hid (hr.all hbl2)
  have HD := Lib.hid (hd.all hbl2)
  have HB := Lib.hid (hbl.trans (hbl2.mono (Nat.le_of_lt hs)))
  clear hr hbl hd hs hr2 hbl2
  go_wp2_with fail
  refine (short_any _ HL.out).mono ?_
  rintro e w2 ⟨⟨b, rfl, -⟩, rfl⟩
  generalize W.alloc (.cells #[.int .i64 A.kind, .int .i64 A.at', .int .i64 A.many, .slice bx A.n bc, .slice kx A.k kc] 51) = V at *
  clear hl HL
  rcases bool_cases b with rfl | rfl
  · go_wp2_with fail
    refine (sane_any V).mono ?_
    rintro e w3 ⟨rfl, hb⟩
    go_wp2_with fail
    go_ret
    exact ⟨rfl, HB.out.trans (hb.mono HB.out.size)⟩
  · have hl := loadC_five HR.out
    go_wp2_with fail
    refine (act_nil V HD.out).mono ?_
    rintro e w3 ⟨rfl, hb⟩
    have HB3 := Lib.hid (HB.out.trans (hb.mono HB.out.size))
    obtain ⟨a0, a1, a2, a3, a4⟩ := cells5 (HR.out.all hb)
    have HR3 := Lib.hid (HR.out.all hb)
    clear hl hb HB HR HD a0 a1 a2 a3 a4
    generalize hE : nilE A.kind = E
    go_wp2_with fail
    refine (State_nil w3).mono ?_
    rintro e w4 ⟨rfl, hb⟩
    have hst := storeC_dev w4 #[.slice none 0 0, .slice none 0 0, .slice none 0 0, .bool false, .bool false, .int .i64 0] rfl _ _ _ _ _ _ (six_one (a := .slice none 0 0) (b := .slice none 0 0) (c := .slice none 0 0) (d := .bool false) (e := .bool false) (f := .int .i64 0) rfl rfl rfl rfl rfl rfl)
    have hr4 := row_six w4 (.slice none 0 0) (.slice none 0 0) (.slice none 0 0) (.bool false) (.bool false) (.int .i64 0) 31
    have hb4 := hb.alloc hb.size (.cells #[.slice none 0 0, .slice none 0 0, .slice none 0 0, .bool false, .bool false, .int .i64 0] 31)
    have HB4 := Lib.hid (HB3.out.trans (hb4.mono HB3.out.size))
    have ⟨a0, a1, a2, a3, a4⟩ := cells5 (HR3.out.all hb4)
    clear hb hb4 HB3 HR3 a1 a2 a3 a4
    unfold devZ
    go_upto_region 6 with fail
    clear hst
    generalize w4.alloc (.cells #[.slice none 0 0, .slice none 0 0, .slice none 0 0, .bool false, .bool false, .int .i64 0] 31) = U at *
    have HR4 := Lib.hid hr4
    clear hr4
    rcases nilE_cases A.kind with ⟨k1, k2, k3⟩ | ⟨k1, k2, k3⟩ | ⟨k1, k3⟩
    all_goals
      rw [hE] at k3
      subst k3
      clear hE
      go_wp2_with fail
      refine (sane_any U).mono ?_
      rintro e w5 ⟨rfl, hb⟩
      have hl := loadC_dev (HR4.out.all hb)
      go_wp2_with fail
      refine (Same_refl w5 (zeroDev_at 0 w5) (zeroDev_at 0 w5)).mono ?_
      rintro e w6 ⟨rfl, hb2⟩
      have HB6 := Lib.hid (HB4.out.trans ((hb.trans (hb2.mono hb.size)).mono HB4.out.size))
      clear hl hb hb2
      go_wp2_with fail
      refine (Copy_nil w6).mono ?_
      rintro e w7 ⟨rfl, rfl⟩
      go_wp2_with fail
      refine (Size_nil w6).mono ?_
      rintro e w7 ⟨rfl, rfl⟩
      go_wp2_with fail
      refine (Alive_nil w6).mono ?_
      rintro e w7 ⟨rfl, rfl⟩
      go_wp2_with fail
      refine (Queued_nil w6).mono ?_
      rintro e w7 ⟨rfl, rfl⟩
      go_wp2_with fail
      go_ret
      exact ⟨rfl, HB6.out⟩

end Go.Proofs.Ytjhcaedfknhilaa
