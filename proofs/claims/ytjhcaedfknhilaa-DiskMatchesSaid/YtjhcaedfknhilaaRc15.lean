/- Acts in memory, and plainly; short. DiskNone. What an act does on a disk. -/
import Derived.Test.YtjhcaedfknhilaaRc14
namespace Go.Proofs.Ytjhcaedfknhilaa
set_option linter.unusedVariables false
set_option linter.unusedSimpArgs false
open Go.RowKit
attribute [local go_sem ↓] Go.wp_at_zero Go.wp_at_succ

/-- An act, plainly. -/
structure Deed where
  kind : Int
  at' : Int
  many : Int
  n : Nat
  bytes : Nat → Int
  k : Nat
  keep : Nat → Int

def deedV (bv kv : Value) (A : Deed) : Value := .agg #[.int .i64 A.kind, .int .i64 A.at', .int .i64 A.many, bv, kv]
structure DeedAt (B : Nat) (w : World) (bv kv : Value) (A : Deed) : Prop where
  kind : -9223372036854775808 ≤ A.kind ∧ A.kind ≤ 9223372036854775807
  at' : -9223372036854775808 ≤ A.at' ∧ A.at' ≤ 9223372036854775807
  many : -9223372036854775808 ≤ A.many ∧ A.many ≤ 9223372036854775807
  bytes : BArg B w bv A.n A.bytes
  keep : NArg B w kv A.k A.keep
theorem DeedAt.keepD {B : Nat} {w w' : World} {bv kv : Value} {A : Deed} (h : DeedAt B w bv kv A) (hk : KeepsD B w w') : DeedAt B w' bv kv A :=
  ⟨h.kind, h.at', h.many, h.bytes.keep hk, h.keep.keep hk⟩
theorem DeedAt.all {B : Nat} {w w' : World} {bv kv : Value} {A : Deed} (h : DeedAt B w bv kv A) (hb : Below w.heap.size w w') : DeedAt B w' bv kv A := h.keepD (keeps_below hb).data

/-- The cells of a list of acts. -/
def deedC (A : Nat → Deed) (bv kv : Nat → Value) (c : Nat) : Value :=
  if c % 5 = 0 then .int .i64 (A (c / 5)).kind else if c % 5 = 1 then .int .i64 (A (c / 5)).at' else if c % 5 = 2 then .int .i64 (A (c / 5)).many else if c % 5 = 3 then bv (c / 5) else kv (c / 5)
/-- A list of acts in memory. -/
def DList (B : Nat) (w : World) (v : Value) (m : Nat) (A : Nat → Deed) : Prop :=
  (m = 0 ∧ ∃ x cap, v = .slice x 0 cap) ∨ ∃ b off cap bv kv, v = .slice (some ⟨b, off, none⟩) m cap ∧ 0 < m ∧ m ≤ cap ∧ cap ≤ maxLen ∧ Cells w b off (m * 5) (deedC A bv kv) ∧ ∀ i, i < m → DeedAt B w (bv i) (kv i) (A i)
theorem DList.slice {B : Nat} {w : World} {v : Value} {m : Nat} {A : Nat → Deed} (h : DList B w v m A) : ∃ x cap, v = .slice x m cap ∧ m ≤ maxLen := by
  rcases h with ⟨rfl, x, c, rfl⟩ | ⟨b, off, c, bv, kv, rfl, _, h2, h3, _⟩
  · exact ⟨_, _, rfl, Nat.zero_le _⟩
  · exact ⟨_, _, rfl, Nat.le_trans h2 h3⟩
theorem DList.elem {B : Nat} {w : World} {v : Value} {m : Nat} {A : Nat → Deed} (h : DList B w v m A) {i : Nat} (hi : i < m) :
    ∃ b off cap bv kv, v = .slice (some ⟨b, off, none⟩) m cap ∧ w.cell? ⟨b, off + i * 5, none⟩ = some (.int .i64 (A i).kind) ∧ w.cell? ⟨b, off + i * 5 + 1, none⟩ = some (.int .i64 (A i).at') ∧ w.cell? ⟨b, off + i * 5 + 2, none⟩ = some (.int .i64 (A i).many) ∧
      w.cell? ⟨b, off + i * 5 + 3, none⟩ = some bv ∧ w.cell? ⟨b, off + i * 5 + 4, none⟩ = some kv ∧ DeedAt B w bv kv (A i) := by
  rcases h with ⟨h0, _⟩ | ⟨b, off, cap, bv, kv, rfl, _, _, _, h4, h6⟩
  · omega
  · have hj : ∀ j, j < 5 → w.cell? ⟨b, off + i * 5 + j, none⟩ = some (deedC A bv kv (i * 5 + j)) := fun j hj => by
      have := h4 (i * 5 + j) (by omega)
      rwa [Nat.add_assoc]
    refine ⟨b, off, cap, bv i, kv i, rfl, ?_, ?_, ?_, ?_, ?_, h6 i hi⟩
    · have := hj 0 (by omega)
      rw [Nat.add_zero] at this
      rw [this]; unfold deedC
      rw [if_pos (by omega), show (i * 5 + 0) / 5 = i from by omega]
    · rw [hj 1 (by omega)]; unfold deedC
      rw [if_neg (by omega), if_pos (by omega), show (i * 5 + 1) / 5 = i from by omega]
    · rw [hj 2 (by omega)]; unfold deedC
      rw [if_neg (by omega), if_neg (by omega), if_pos (by omega), show (i * 5 + 2) / 5 = i from by omega]
    · rw [hj 3 (by omega)]; unfold deedC
      rw [if_neg (by omega), if_neg (by omega), if_neg (by omega), if_pos (by omega), show (i * 5 + 3) / 5 = i from by omega]
    · rw [hj 4 (by omega)]; unfold deedC
      rw [if_neg (by omega), if_neg (by omega), if_neg (by omega), if_neg (by omega), show (i * 5 + 4) / 5 = i from by omega]

/-- Acts that are few and short. -/
def shortP (m : Nat) (A : Nat → Deed) : Prop := (∀ i, i < m → (A i).n ≤ 4096 ∧ (A i).k ≤ 400) ∧ m ≤ 40

set_option maxHeartbeats 2000000 in
theorem short_any {B : Nat} {v : Value} {m : Nat} {A : Nat → Deed} (w : World) (h : DList B w v m A) :
    Calls Try.prog 15 #[v] w fun e w' => (∃ b, e = .returned (.bool b) ∧ (b = true ↔ shortP m A)) ∧ w = w' := by
  obtain ⟨x, cap, rfl, hm⟩ := h.slice
  unfold maxLen at hm
  have H := Lib.hid h
  clear h
  go_enter Try.func15, Try.ntmps15
  go_wp2_with fail
  go_loopw [3] (fun t wr => ∃ i : Nat, i ≤ m ∧ t = .int .i64 i ∧ w = wr ∧ ∀ j, j < i → (A j).n ≤ 4096 ∧ (A j).k ≤ 400) (fun t _ => m - (intOf t).toNat)
  case atStart => exact ⟨0, by omega, by go_num, by first | rfl | trivial, fun j hj => absurd hj (Nat.not_lt_zero j)⟩
  case round =>
    obtain ⟨i, hi, rfl, rfl, hok⟩ := hrel
    by_cases hlt : i < m
    · have hdlt : decide ((i : Int) < m) = true := decide_eq_true (by omega)
      obtain ⟨b, off, c, bv, kv, e1, d0, d1, d2, d3, d4, hd⟩ := H.out.elem hlt
      cases e1
      obtain ⟨bx, bc, rfl, -⟩ := hd.bytes.slice
      obtain ⟨kx, kc, rfl, -⟩ := hd.keep.slice
      have Hok := Lib.hid hok
      clear hok hd
      by_cases h1 : (A i).n ≤ 4096
      · have g1 : decide (((A i).n : Int) > 4096) = false := decide_eq_false (by omega)
        by_cases h2 : (A i).k ≤ 400
        · have g2 : decide (((A i).k : Int) > 400) = false := decide_eq_false (by omega)
          go_wp2_with fail
          go_roundw
          case rel => exact ⟨i + 1, by omega, by go_num, by trivial, fun j hj => by
            by_cases hji : j = i
            · rw [hji]; exact ⟨h1, h2⟩
            · exact Hok.out j (by omega)⟩
          case measure => simp [intOf]; omega
        · have g2 : decide (((A i).k : Int) > 400) = true := decide_eq_true (by omega)
          go_wp2_with fail
          go_ret
          exact ⟨⟨_, rfl, fun h => (by cases h), fun h => absurd (h.1 i hlt).2 h2⟩, rfl⟩
      · have g1 : decide (((A i).n : Int) > 4096) = true := decide_eq_true (by omega)
        go_wp2_with fail
        go_ret
        exact ⟨⟨_, rfl, fun h => (by cases h), fun h => absurd (h.1 i hlt).1 h1⟩, rfl⟩
    · obtain rfl : m = i := by omega
      have hdlt : decide ((m : Int) < m) = false := decide_eq_false (by omega)
      have Hok := Lib.hid hok
      clear hok
      go_wp2_with fail
      go_ret
      refine ⟨⟨_, rfl, fun h => ⟨Hok.out, ?_⟩, fun h => ?_⟩, rfl⟩
      · have := of_decide_eq_true h; omega
      · exact decide_eq_true (by have := h.2; omega)

end Go.Proofs.Ytjhcaedfknhilaa

namespace Go.Proofs.Ytjhcaedfknhilaa
set_option linter.unusedVariables false
set_option linter.unusedSimpArgs false
open Go.RowKit
attribute [local go_sem ↓] Go.wp_at_zero Go.wp_at_succ
attribute [-go_sem] loadCellsFrom storeCells
attribute [local go_sem] storeCells_one

def st5 (a b c d e : Value) : Nat → Value
  | 0 => a
  | 1 => b
  | 2 => c
  | 3 => d
  | _ => e
theorem row_five (w : World) (a b c d e : Value) (t : TypeId) : RowAt (w.alloc (.cells #[a, b, c, d, e] t)) w.heap.size t 5 5 (st5 a b c d e) :=
  row_of w #[a, b, c, d, e] t _ rfl (fun i hi => by
    obtain rfl | rfl | rfl | rfl | rfl : i = 0 ∨ i = 1 ∨ i = 2 ∨ i = 3 ∨ i = 4 := by omega
    all_goals rfl) rfl
theorem cells5 {W : World} {g : Nat} {t : TypeId} {a b c d e : Value} (h : RowAt W g t 5 5 (st5 a b c d e)) : W.cell? ⟨g, 0, none⟩ = some a ∧ W.cell? ⟨g, 1, none⟩ = some b ∧ W.cell? ⟨g, 2, none⟩ = some c ∧ W.cell? ⟨g, 3, none⟩ = some d ∧ W.cell? ⟨g, 4, none⟩ = some e :=
  ⟨h.cell (i := 0) (by omega), h.cell (i := 1) (by omega), h.cell (i := 2) (by omega), h.cell (i := 3) (by omega), h.cell (i := 4) (by omega)⟩
theorem loadC_five {W : World} {g : Nat} {t : TypeId} {a b c d e : Value} (h : RowAt W g t 5 5 (st5 a b c d e)) : (loadCellsFrom ⟨g, 0, none⟩ 0 5 #[]).run Try.prog W = .ok #[a, b, c, d, e] W := by
  have := run_loadCells_list (P := Try.prog) W ⟨g, 0, none⟩ [a, b, c, d, e] (fun j v hj => by
    have hj6 : j < 5 := by
      rcases Nat.lt_or_ge j 5 with h1 | h1
      · exact h1
      · rw [List.getElem?_eq_none (by simp; omega)] at hj; cases hj
    rw [Addr.add_mid, Nat.zero_add]
    have := h.cell (i := j) hj6
    rw [this]
    obtain rfl | rfl | rfl | rfl | rfl : j = 0 ∨ j = 1 ∨ j = 2 ∨ j = 3 ∨ j = 4 := by omega
    all_goals (cases hj; rfl))
  exact this

/-- Which kinds there are. -/
def kindOk (k : Int) : Bool := decide (0 ≤ k) && decide (k ≤ 7)
def nilE (k : Int) : Int := if kindOk k then 23 else 0

set_option maxHeartbeats 2000000 in
theorem act_nil {B : Nat} {bv kv : Value} {A : Deed} (w : World) (h : DeedAt B w bv kv A) :
    Calls Try.prog 24 #[.pointer none, deedV bv kv A] w fun e w' => e = .returned (.tuple #[.slice none 0 0, .int .i64 (nilE A.kind)]) ∧ Below w.heap.size w w' := by
  obtain ⟨bx, bc, rfl, -⟩ := h.bytes.slice
  obtain ⟨kx, kc, rfl, -⟩ := h.keep.slice
  have hr := row_five w (.int .i64 A.kind) (.int .i64 A.at') (.int .i64 A.many) (.slice bx A.n bc) (.slice kx A.k kc) 51
  obtain ⟨a0, a1, a2, a3, a4⟩ := cells5 hr
  have hbl := (Below.refl _ w).alloc (Nat.le_refl w.heap.size) (.cells #[.int .i64 A.kind, .int .i64 A.at', .int .i64 A.many, .slice bx A.n bc, .slice kx A.k kc] 51)
  have HB := Lib.hid hbl
  clear hr hbl h
  unfold deedV
  go_enter Try.func24, Try.ntmps24
  go_upto_region 1 with fail
  generalize w.alloc (.cells #[.int .i64 A.kind, .int .i64 A.at', .int .i64 A.many, .slice bx A.n bc, .slice kx A.k kc] 51) = W at *
  have hcase : A.kind = 0 ∨ A.kind = 1 ∨ A.kind = 2 ∨ A.kind = 3 ∨ A.kind = 4 ∨ A.kind = 5 ∨ A.kind = 6 ∨ A.kind = 7 ∨ (A.kind < 0 ∨ 7 < A.kind) := by omega
  rcases hcase with hc | hc | hc | hc | hc | hc | hc | hc | hc
  · have hk : A.kind = 0 := hc
    rw [hk] at a0
    rw [hk]
    clear hc
    go_wp2_with fail
    refine (Read_nil _ _ W).mono ?_
    rintro e w2 ⟨rfl, hb⟩
    go_wp2_with fail
    exact bodyPost_ret (v := .tuple #[.slice none 0 0, .int .i64 23]) (by simp [results, Try.results24]) rfl ⟨by rw [hk]; rfl, HB.out.trans (hb.mono HB.out.size)⟩
  · have hk : A.kind = 1 := hc
    rw [hk] at a0
    rw [hk]
    clear hc
    go_wp2_with fail
    refine (Write_nil _ _ W).mono ?_
    rintro e w2 ⟨rfl, hb⟩
    go_wp2_with fail
    exact bodyPost_ret (v := .tuple #[.slice none 0 0, .int .i64 23]) (by simp [results, Try.results24]) rfl ⟨by rw [hk]; rfl, HB.out.trans (hb.mono HB.out.size)⟩
  · have hk : A.kind = 2 := hc
    rw [hk] at a0
    rw [hk]
    clear hc
    go_wp2_with fail
    refine (Sync_nil W).mono ?_
    rintro e w2 ⟨rfl, hb⟩
    go_wp2_with fail
    exact bodyPost_ret (v := .tuple #[.slice none 0 0, .int .i64 23]) (by simp [results, Try.results24]) rfl ⟨by rw [hk]; rfl, HB.out.trans (hb.mono HB.out.size)⟩
  · have hk : A.kind = 3 := hc
    rw [hk] at a0
    rw [hk]
    clear hc
    go_wp2_with fail
    refine (Crash_nil _ W).mono ?_
    rintro e w2 ⟨rfl, hb⟩
    go_wp2_with fail
    exact bodyPost_ret (v := .tuple #[.slice none 0 0, .int .i64 23]) (by simp [results, Try.results24]) rfl ⟨by rw [hk]; rfl, HB.out.trans (hb.mono HB.out.size)⟩
  · have hk : A.kind = 4 := hc
    rw [hk] at a0
    rw [hk]
    clear hc
    go_wp2_with fail
    refine (Spoil_nil _ W).mono ?_
    rintro e w2 ⟨rfl, hb⟩
    go_wp2_with fail
    exact bodyPost_ret (v := .tuple #[.slice none 0 0, .int .i64 23]) (by simp [results, Try.results24]) rfl ⟨by rw [hk]; rfl, HB.out.trans (hb.mono HB.out.size)⟩
  · have hk : A.kind = 5 := hc
    rw [hk] at a0
    rw [hk]
    clear hc
    go_wp2_with fail
    refine (Die_nil W).mono ?_
    rintro e w2 ⟨rfl, hb⟩
    go_wp2_with fail
    exact bodyPost_ret (v := .tuple #[.slice none 0 0, .int .i64 23]) (by simp [results, Try.results24]) rfl ⟨by rw [hk]; rfl, hb ▸ HB.out⟩
  · have hk : A.kind = 6 := hc
    rw [hk] at a0
    rw [hk]
    clear hc
    go_wp2_with fail
    refine (Replace_nil W).mono ?_
    rintro e w2 ⟨rfl, hb⟩
    go_wp2_with fail
    exact bodyPost_ret (v := .tuple #[.slice none 0 0, .int .i64 23]) (by simp [results, Try.results24]) rfl ⟨by rw [hk]; rfl, hb ▸ HB.out⟩
  · have hk : A.kind = 7 := hc
    rw [hk] at a0
    rw [hk]
    clear hc
    go_wp2_with fail
    refine (Stop_nil _ W).mono ?_
    rintro e w2 ⟨rfl, hb⟩
    go_wp2_with fail
    exact bodyPost_ret (v := .tuple #[.slice none 0 0, .int .i64 23]) (by simp [results, Try.results24]) rfl ⟨by rw [hk]; rfl, HB.out.trans (hb.mono HB.out.size)⟩
  · have hn : nilE A.kind = 0 := by
      unfold nilE kindOk
      rcases hc with h | h
      · rw [decide_eq_false (show ¬ 0 ≤ A.kind by omega)]; rfl
      · rw [decide_eq_false (show ¬ A.kind ≤ 7 by omega), Bool.and_false]; rfl
    have k0 : (A.kind == 0) = false := beq_eq_false_iff_ne.2 (by omega)
    have k1 : (A.kind == 1) = false := beq_eq_false_iff_ne.2 (by omega)
    have k2 : (A.kind == 2) = false := beq_eq_false_iff_ne.2 (by omega)
    have k3 : (A.kind == 3) = false := beq_eq_false_iff_ne.2 (by omega)
    have k4 : (A.kind == 4) = false := beq_eq_false_iff_ne.2 (by omega)
    have k5 : (A.kind == 5) = false := beq_eq_false_iff_ne.2 (by omega)
    have k6 : (A.kind == 6) = false := beq_eq_false_iff_ne.2 (by omega)
    have k7 : (A.kind == 7) = false := beq_eq_false_iff_ne.2 (by omega)
    clear hc
    go_wp2_with fail
    exact bodyPost_ret (v := .tuple #[.slice none 0 0, .int .i64 0]) (by simp [results, Try.results24]) rfl ⟨by rw [hn], HB.out⟩

/-- The device of no disk. -/
def zeroDev : Dev := ⟨0, fun _ => 0, 0, fun _ => 0, fun _ => 0, fun _ _ => 0, 0, fun _ => 0, false, false, 0⟩
theorem zeroDev_at (B : Nat) (w : World) : DevAt B w (.slice none 0 0) (.slice none 0 0) (.slice none 0 0) zeroDev :=
  ⟨⟨fun _ => z1, .inl ⟨rfl, _, _, rfl⟩⟩, ⟨fun _ => z0, .inl ⟨rfl, _, _, rfl⟩⟩, ⟨fun _ => z0, .inl ⟨rfl, _, _, rfl⟩⟩, z0⟩
theorem nilE_cases (k : Int) : (decide (0 ≤ k) = true ∧ decide (k ≤ 7) = true ∧ nilE k = 23) ∨ (decide (0 ≤ k) = true ∧ decide (k ≤ 7) = false ∧ nilE k = 0) ∨ (decide (0 ≤ k) = false ∧ nilE k = 0) := by
  unfold nilE kindOk
  by_cases h1 : 0 ≤ k
  · by_cases h2 : k ≤ 7
    · exact .inl ⟨decide_eq_true h1, decide_eq_true h2, by rw [decide_eq_true h1, decide_eq_true h2]; rfl⟩
    · exact .inr (.inl ⟨decide_eq_true h1, decide_eq_false h2, by rw [decide_eq_true h1, decide_eq_false h2]; rfl⟩)
  · exact .inr (.inr ⟨decide_eq_false h1, by rw [decide_eq_false h1]; rfl⟩)
/-- A list of one act. -/
theorem DList.one {B : Nat} {w W : World} {x y : Option Addr} {c d : Nat} {A : Deed} (h : DeedAt B W (.slice x A.n c) (.slice y A.k d) A) (hr : RowAt W w.heap.size 51 5 5 (st5 (.int .i64 A.kind) (.int .i64 A.at') (.int .i64 A.many) (.slice x A.n c) (.slice y A.k d))) :
    DList B W (.slice (some ⟨w.heap.size, 0, none⟩) 1 1) 1 (fun _ => A) := by
  refine .inr ⟨w.heap.size, 0, 1, fun _ => .slice x A.n c, fun _ => .slice y A.k d, rfl, by omega, by omega, by decide, fun i hi => ?_, fun i hi => h⟩
  rw [Nat.zero_add, hr.cell (i := i) (by omega)]
  obtain rfl | rfl | rfl | rfl | rfl : i = 0 ∨ i = 1 ∨ i = 2 ∨ i = 3 ∨ i = 4 := by omega
  all_goals rfl

set_option maxRecDepth 100000 in
set_option maxHeartbeats 4000000 in
theorem DiskNone_any {B : Nat} {bv kv : Value} {A : Deed} (w : World) (h : DeedAt B w bv kv A) :
    Calls Try.prog 5 #[deedV bv kv A] w fun e w' => e = .returned (.bool true) ∧ Below w.heap.size w w' := by
  obtain ⟨bx, bc, rfl, -⟩ := h.bytes.slice
  obtain ⟨kx, kc, rfl, -⟩ := h.keep.slice
  have hr := row_five w (.int .i64 A.kind) (.int .i64 A.at') (.int .i64 A.many) (.slice bx A.n bc) (.slice kx A.k kc) 51
  have hbl := (Below.refl _ w).alloc (Nat.le_refl w.heap.size) (.cells #[.int .i64 A.kind, .int .i64 A.at', .int .i64 A.many, .slice bx A.n bc, .slice kx A.k kc] 51)
  have hd := h.all hbl
  have hs : w.heap.size < (w.alloc (.cells #[.int .i64 A.kind, .int .i64 A.at', .int .i64 A.many, .slice bx A.n bc, .slice kx A.k kc] 51)).heap.size := by simp
  clear h
  unfold deedV
  go_enter Try.func5, Try.ntmps5
  go_upto_region 1 with fail
  generalize w.alloc (.cells #[.int .i64 A.kind, .int .i64 A.at', .int .i64 A.many, .slice bx A.n bc, .slice kx A.k kc] 51) = W at *
  have hl := loadC_five hr
  have hr2 := row_five W (.int .i64 A.kind) (.int .i64 A.at') (.int .i64 A.many) (.slice bx A.n bc) (.slice kx A.k kc) 51
  have hbl2 := (Below.refl _ W).alloc (Nat.le_refl W.heap.size) (.cells #[.int .i64 A.kind, .int .i64 A.at', .int .i64 A.many, .slice bx A.n bc, .slice kx A.k kc] 51)
  have HL := Lib.hid (DList.one (hd.all hbl2) hr2)
  have HR := Lib.hid (hr.all hbl2)
  have HD := Lib.hid (hd.all hbl2)
  have HB := Lib.hid (hbl.trans (hbl2.mono (Nat.le_of_lt hs)))
  clear hr hbl hd hs hr2 hbl2
  go_wp2_with fail
  refine (short_any _ HL.out).mono ?_
  rintro e w2 ⟨⟨b, rfl, -⟩, rfl⟩
  generalize W.alloc (.cells #[.int .i64 A.kind, .int .i64 A.at', .int .i64 A.many, .slice bx A.n bc, .slice kx A.k kc] 51) = V at *
  clear hl HL
  rcases bool_cases b with rfl | rfl
  · go_wp2_with fail
    refine (sane_any V).mono ?_
    rintro e w3 ⟨rfl, hb⟩
    go_wp2_with fail
    go_ret
    exact ⟨rfl, HB.out.trans (hb.mono HB.out.size)⟩
  · have hl := loadC_five HR.out
    go_wp2_with fail
    refine (act_nil V HD.out).mono ?_
    rintro e w3 ⟨rfl, hb⟩
    have HB3 := Lib.hid (HB.out.trans (hb.mono HB.out.size))
    obtain ⟨a0, a1, a2, a3, a4⟩ := cells5 (HR.out.all hb)
    have HR3 := Lib.hid (HR.out.all hb)
    clear hl hb HB HR HD a0 a1 a2 a3 a4
    generalize hE : nilE A.kind = E
    go_wp2_with fail
    refine (State_nil w3).mono ?_
    rintro e w4 ⟨rfl, hb⟩
    have hst := storeC_dev w4 #[.slice none 0 0, .slice none 0 0, .slice none 0 0, .bool false, .bool false, .int .i64 0] rfl _ _ _ _ _ _ (six_one (a := .slice none 0 0) (b := .slice none 0 0) (c := .slice none 0 0) (d := .bool false) (e := .bool false) (f := .int .i64 0) rfl rfl rfl rfl rfl rfl)
    have hr4 := row_six w4 (.slice none 0 0) (.slice none 0 0) (.slice none 0 0) (.bool false) (.bool false) (.int .i64 0) 31
    have hb4 := hb.alloc hb.size (.cells #[.slice none 0 0, .slice none 0 0, .slice none 0 0, .bool false, .bool false, .int .i64 0] 31)
    have HB4 := Lib.hid (HB3.out.trans (hb4.mono HB3.out.size))
    have ⟨a0, a1, a2, a3, a4⟩ := cells5 (HR3.out.all hb4)
    clear hb hb4 HB3 HR3 a1 a2 a3 a4
    unfold devZ
    go_upto_region 6 with fail
    clear hst
    generalize w4.alloc (.cells #[.slice none 0 0, .slice none 0 0, .slice none 0 0, .bool false, .bool false, .int .i64 0] 31) = U at *
    have HR4 := Lib.hid hr4
    clear hr4
    rcases nilE_cases A.kind with ⟨k1, k2, k3⟩ | ⟨k1, k2, k3⟩ | ⟨k1, k3⟩
    all_goals
      rw [hE] at k3
      subst k3
      clear hE
      go_wp2_with fail
      refine (sane_any U).mono ?_
      rintro e w5 ⟨rfl, hb⟩
      have hl := loadC_dev (HR4.out.all hb)
      go_wp2_with fail
      refine (Same_refl w5 (zeroDev_at 0 w5) (zeroDev_at 0 w5)).mono ?_
      rintro e w6 ⟨rfl, hb2⟩
      have HB6 := Lib.hid (HB4.out.trans ((hb.trans (hb2.mono hb.size)).mono HB4.out.size))
      clear hl hb hb2
      go_wp2_with fail
      refine (Copy_nil w6).mono ?_
      rintro e w7 ⟨rfl, rfl⟩
      go_wp2_with fail
      refine (Size_nil w6).mono ?_
      rintro e w7 ⟨rfl, rfl⟩
      go_wp2_with fail
      refine (Alive_nil w6).mono ?_
      rintro e w7 ⟨rfl, rfl⟩
      go_wp2_with fail
      refine (Queued_nil w6).mono ?_
      rintro e w7 ⟨rfl, rfl⟩
      go_wp2_with fail
      go_ret
      exact ⟨rfl, HB6.out⟩

end Go.Proofs.Ytjhcaedfknhilaa

namespace Go.Proofs.Ytjhcaedfknhilaa
set_option linter.unusedVariables false
set_option linter.unusedSimpArgs false
open Go.RowKit
attribute [local go_sem ↓] Go.wp_at_zero Go.wp_at_succ

/-- Sectors that are a disk's. -/
def inD (D : Dsk) (a m : Int) : Prop := 0 ≤ a ∧ 0 ≤ m ∧ a ≤ D.n ∧ m ≤ D.n - a
/-- What Read returns, as numbers. -/
def readI (D : Dsk) (a : Nat) (k : Nat) : Int := D.hasF (a + k / 64) (k % 64)
/-- What an act does, plainly: the disk behind it, the answer, how many bytes are read, and which. -/
def Does (D : Dsk) (A : Deed) (D' : Dsk) (c : Int) (n : Nat) (f : Nat → Int) : Prop :=
  (A.kind = 0 ∧ D' = D ∧ ((¬ inD D A.at' A.many ∧ c = 1 ∧ n = 0) ∨ (inD D A.at' A.many ∧ D.off = true ∧ c = 7 ∧ n = 0) ∨ (inD D A.at' A.many ∧ D.off = false ∧ ¬ readOk D A.at'.toNat A.many.toNat ∧ c = 7 ∧ n = 0) ∨
    (inD D A.at' A.many ∧ D.off = false ∧ readOk D A.at'.toNat A.many.toNat ∧ c = 0 ∧ n = A.many.toNat * 64 ∧ f = readI D A.at'.toNat))) ∨
  (A.kind = 1 ∧ n = 0 ∧ (((A.n % 64 ≠ 0 ∨ ¬ inD D A.at' (A.n / 64 : Nat)) ∧ D' = D ∧ c = 1) ∨ (A.n % 64 = 0 ∧ inD D A.at' (A.n / 64 : Nat) ∧ ((D.off = true ∧ D' = D ∧ c = 7) ∨ (D.off = false ∧ ¬ D.q + A.n / 64 ≤ 65536 ∧ D' = D ∧ c = 5) ∨
    (D.off = false ∧ D.q + A.n / 64 ≤ 65536 ∧ D' = D.write A.at'.toNat (A.n / 64) A.bytes ∧ c = 0))))) ∨
  (A.kind = 2 ∧ n = 0 ∧ ((D.off = true ∧ D' = D ∧ c = 7) ∨ (D.off = false ∧ D' = D.sync ∧ c = 0))) ∨
  (A.kind = 3 ∧ n = 0 ∧ ((keepOk D.q A.k A.keep ∧ D' = D.crash A.k A.keep ∧ c = 0) ∨ (¬ keepOk D.q A.k A.keep ∧ D' = D ∧ c = 1))) ∨
  (A.kind = 4 ∧ n = 0 ∧ ((¬ (0 ≤ A.at' ∧ A.at' < D.n) ∧ D' = D ∧ c = 1) ∨ (0 ≤ A.at' ∧ A.at' < D.n ∧ D' = D.spoil A.at'.toNat ∧ c = 0))) ∨
  (A.kind = 5 ∧ n = 0 ∧ D' = D.die ∧ c = 0) ∨
  (A.kind = 6 ∧ n = 0 ∧ D' = Dsk.zero D.n ∧ c = 0) ∨
  (A.kind = 7 ∧ n = 0 ∧ ((A.at' < -1 ∧ D' = D ∧ c = 1) ∨ (-1 ≤ A.at' ∧ D.dead = true ∧ D' = D ∧ c = 7) ∨ (-1 ≤ A.at' ∧ D.dead = false ∧ D' = D.arm (decide (0 ≤ A.at')) (if 0 ≤ A.at' then A.at' else 0) ∧ c = 0))) ∨
  ((A.kind < 0 ∨ 7 < A.kind) ∧ n = 0 ∧ D' = D ∧ c = 0)

/-- What an act leaves. -/
def ActP (B g : Nat) (D : Dsk) (A : Deed) (w : World) (v : Value) (c : Int) (w' : World) : Prop :=
  ∃ D' n f gs gb qv, Does D A D' c n f ∧ BArg B w' v n f ∧ DiskIn B g gs gb qv D' w' ∧ Below B w w' ∧ Calm w w'
/-- What a method without bytes leaves. -/
def MethP (B g : Nat) (D : Dsk) (A : Deed) (w : World) (e : Ending) (w' : World) : Prop := ∃ c, e = .returned (.int .i64 c) ∧ ActP B g D A w (.slice none 0 0) c w'

theorem barg_nil (B : Nat) (w : World) : BArg B w (.slice none 0 0) 0 (fun _ => 0) := ⟨fun _ => z1, .inl ⟨rfl, _, _, rfl⟩⟩
theorem meth_of {B g gs gb : Nat} {qv : Value} {D D' : Dsk} {A : Deed} {c : Int} {w w' : World} {e : Ending} (h : Out1 B g gs gb qv c D' w e w') (hd : Does D A D' c 0 (fun _ => 0)) : MethP B g D A w e w' :=
  ⟨c, h.1, D', 0, fun _ => 0, gs, gb, qv, hd, barg_nil B w', h.2.1, h.2.2.1, h.2.2.2⟩
theorem DiskIn.le {B g gs gb : Nat} {qv : Value} {D : Dsk} {w : World} (h : DiskIn B g gs gb qv D w) : B ≤ w.heap.size := by
  have h1 := h.base.1
  have h2 := h.row.lt
  omega

section
variable {B g gs gb : Nat} {qv : Value} {D : Dsk} {bv kv : Value} {A : Deed}

theorem meth_write (w : World) (h : DiskIn B g gs gb qv D w) (hA : DeedAt B w bv kv A) (hk : A.kind = 1) :
    Calls Try.prog 18 #[.pointer (some ⟨g, 0, none⟩), .int .i64 A.at', bv] w (MethP B g D A w) := by
  obtain ⟨bx, bc, rfl, hm⟩ := hA.bytes.slice
  by_cases h1 : A.n % 64 = 0
  · obtain ⟨k, hn⟩ : ∃ k, A.n = k * 64 := ⟨A.n / 64, by omega⟩
    have hnk : A.n / 64 = k := by omega
    by_cases h2 : inD D A.at' (A.n / 64 : Nat)
    · obtain ⟨a1, a2, a3, a4⟩ := h2
      obtain ⟨a, ha⟩ : ∃ a : Nat, A.at' = a := ⟨A.at'.toNat, by omega⟩
      have hat : A.at'.toNat = a := by omega
      rcases bool_cases D.off with ho | ho
      · by_cases h3 : D.q + A.n / 64 ≤ 65536
        · have hb : BArg B w (.slice bx A.n bc) (k * 64) A.bytes := hn ▸ hA.bytes
          rw [ha]
          exact (Write_ok a k w h hb (by omega) ho (by omega)).mono fun e w' ⟨q2, hr⟩ => meth_of hr (.inr (.inl ⟨hk, rfl, .inr ⟨h1, ⟨a1, a2, a3, a4⟩, .inr (.inr ⟨ho, h3, by rw [hat, hnk], rfl⟩)⟩⟩))
        · rw [ha, hn]
          exact (Write_full a k bx bc w h (by omega) (by omega) ho (by omega)).mono fun e w' hr => meth_of hr (.inr (.inl ⟨hk, rfl, .inr ⟨h1, ⟨a1, a2, a3, a4⟩, .inr (.inl ⟨ho, h3, rfl, rfl⟩)⟩⟩))
      · rw [ha, hn]
        exact (Write_off a k bx bc w h (by omega) (by omega) ho).mono fun e w' hr => meth_of hr (.inr (.inl ⟨hk, rfl, .inr ⟨h1, ⟨a1, a2, a3, a4⟩, .inl ⟨ho, rfl, rfl⟩⟩⟩))
    · have h2' : ¬ (0 ≤ A.at' ∧ A.at' ≤ D.n ∧ (k : Int) ≤ D.n - A.at') := fun h9 => h2 ⟨h9.1, by omega, h9.2.1, by rw [hnk]; exact h9.2.2⟩
      rw [hn]
      exact (Write_arg A.at' k bx bc w h (by omega) h2').mono fun e w' hr => meth_of hr (.inr (.inl ⟨hk, rfl, .inl ⟨.inr h2, rfl, rfl⟩⟩))
  · exact (Write_len A.at' A.n bx bc w h hm h1).mono fun e w' hr => meth_of hr (.inr (.inl ⟨hk, rfl, .inl ⟨.inl h1, rfl, rfl⟩⟩))
theorem meth_sync (w : World) (h : DiskIn B g gs gb qv D w) (hk : A.kind = 2) :
    Calls Try.prog 22 #[.pointer (some ⟨g, 0, none⟩)] w (MethP B g D A w) := by
  rcases bool_cases D.off with ho | ho
  · exact (Sync_ok w h ho).mono fun e w' ⟨q2, hr⟩ => meth_of hr (.inr (.inr (.inl ⟨hk, rfl, .inr ⟨ho, rfl, rfl⟩⟩)))
  · exact (Sync_off w h ho).mono fun e w' hr => meth_of hr (.inr (.inr (.inl ⟨hk, rfl, .inl ⟨ho, rfl, rfl⟩⟩)))
theorem meth_crash (w : World) (h : DiskIn B g gs gb qv D w) (hA : DeedAt B w bv kv A) (hn : A.k ≤ 65536) (hk : A.kind = 3) :
    Calls Try.prog 23 #[.pointer (some ⟨g, 0, none⟩), kv] w (MethP B g D A w) :=
  (Crash_any w h hA.keep hn).mono fun _ _ hr => by
    rcases hr with ⟨h1, q2, hr⟩ | ⟨h1, hr⟩
    · exact meth_of hr (.inr (.inr (.inr (.inl ⟨hk, rfl, .inl ⟨h1, rfl, rfl⟩⟩))))
    · exact meth_of hr (.inr (.inr (.inr (.inl ⟨hk, rfl, .inr ⟨h1, rfl, rfl⟩⟩))))
theorem meth_spoil (w : World) (h : DiskIn B g gs gb qv D w) (hk : A.kind = 4) :
    Calls Try.prog 36 #[.pointer (some ⟨g, 0, none⟩), .int .i64 A.at'] w (MethP B g D A w) := by
  by_cases h1 : 0 ≤ A.at'
  · by_cases h2 : A.at' < D.n
    · obtain ⟨a, ha⟩ : ∃ a : Nat, A.at' = a := ⟨A.at'.toNat, by omega⟩
      have hat : A.at'.toNat = a := by omega
      rw [ha]
      exact (Spoil_ok a w h (by omega)).mono fun e w' hr => meth_of hr (.inr (.inr (.inr (.inr (.inl ⟨hk, rfl, .inr ⟨h1, h2, by rw [hat], rfl⟩⟩)))))
    · exact (Spoil_hi A.at' w h ⟨h1, by omega⟩).mono fun e w' hr => meth_of hr (.inr (.inr (.inr (.inr (.inl ⟨hk, rfl, .inl ⟨fun h9 => h2 h9.2, rfl, rfl⟩⟩)))))
  · exact (Spoil_lo A.at' w h (by omega)).mono fun e w' hr => meth_of hr (.inr (.inr (.inr (.inr (.inl ⟨hk, rfl, .inl ⟨fun h9 => h1 h9.1, rfl, rfl⟩⟩)))))
theorem meth_die (w : World) (h : DiskIn B g gs gb qv D w) (hk : A.kind = 5) :
    Calls Try.prog 46 #[.pointer (some ⟨g, 0, none⟩)] w (MethP B g D A w) :=
  (Die_any w h).mono fun _ _ hr => meth_of (gs := gs) (gb := gb) hr (.inr (.inr (.inr (.inr (.inr (.inl ⟨hk, rfl, rfl, rfl⟩))))))
theorem meth_replace (w : World) (h : DiskIn B g gs gb qv D w) (hk : A.kind = 6) :
    Calls Try.prog 47 #[.pointer (some ⟨g, 0, none⟩)] w (MethP B g D A w) :=
  (Replace_any w h).mono fun e w' ⟨he, gs2, gb2, hr⟩ => meth_of (gs := gs2) (gb := gb2) ⟨he, hr⟩ (.inr (.inr (.inr (.inr (.inr (.inr (.inl ⟨hk, rfl, rfl, rfl⟩)))))))
theorem meth_stop (w : World) (h : DiskIn B g gs gb qv D w) (hA : DeedAt B w bv kv A) (hk : A.kind = 7) :
    Calls Try.prog 19 #[.pointer (some ⟨g, 0, none⟩), .int .i64 A.at'] w (MethP B g D A w) := by
  by_cases h1 : A.at' < -1
  · exact (Stop_arg A.at' w h h1).mono fun e w' hr => meth_of hr (.inr (.inr (.inr (.inr (.inr (.inr (.inr (.inl ⟨hk, rfl, .inl ⟨h1, rfl, rfl⟩⟩))))))))
  · rcases bool_cases D.dead with hd | hd
    · exact (Stop_ok A.at' w h ⟨by omega, hA.at'.2⟩ hd).mono fun e w' hr => meth_of hr (.inr (.inr (.inr (.inr (.inr (.inr (.inr (.inl ⟨hk, rfl, .inr (.inr ⟨by omega, hd, rfl, rfl⟩)⟩))))))))
    · exact (Stop_dead A.at' w h (by omega) hd).mono fun e w' hr => meth_of hr (.inr (.inr (.inr (.inr (.inr (.inr (.inr (.inl ⟨hk, rfl, .inr (.inl ⟨by omega, hd, rfl, rfl⟩)⟩))))))))

theorem hasQ_some {a : Nat → Nat} {f : Nat → Nat → Int} {j k : Nat} {F : Nat → Int} (h : hasQ a f j k = some F) : ∃ i, F = f i := by
  induction k with
  | zero => cases h
  | succ k ih =>
    rw [hasQ] at h
    split at h
    · cases h; exact ⟨_, rfl⟩
    · exact ih h
theorem has_byte (ho : D.Ok) (j k : Nat) : 0 ≤ D.hasF j k ∧ D.hasF j k < 256 := by
  unfold Dsk.hasF Dsk.has
  rcases hq : hasQ D.qa D.qb j D.q with _ | f
  · rcases hb : D.bad j with _ | _
    · simpa using ho.byte j k
    · simp
  · obtain ⟨i, rfl⟩ := hasQ_some hq
    simpa using ho.pbyte i k
/-- What Read leaves, as an act. -/
def ReadM (B g : Nat) (D : Dsk) (A : Deed) (w : World) (e : Ending) (w' : World) : Prop := ∃ v c, e = .returned (.tuple #[v, .int .i64 c]) ∧ ActP B g D A w v c w'
theorem read_of {c : Int} {w w' : World} {e : Ending} (hB : B ≤ w.heap.size) (h : Read2 B g gs gb qv c D w e w') (hd : Does D A D c 0 (fun _ => 0)) : ReadM B g D A w e w' :=
  ⟨_, c, h.1, D, 0, fun _ => 0, gs, gb, qv, hd, barg_nil B w', h.2.1, h.2.2.mono hB, calm_below h.2.2⟩
theorem meth_read (w : World) (h : DiskIn B g gs gb qv D w) (hk : A.kind = 0) :
    Calls Try.prog 20 #[.pointer (some ⟨g, 0, none⟩), .int .i64 A.at', .int .i64 A.many] w (ReadM B g D A w) := by
  by_cases h2 : inD D A.at' A.many
  · rcases bool_cases D.off with ho | ho
    · obtain ⟨a1, a2, a3, a4⟩ := h2
      obtain ⟨a, ha⟩ : ∃ a : Nat, A.at' = a := ⟨A.at'.toNat, by omega⟩
      obtain ⟨m, hm⟩ : ∃ m : Nat, A.many = m := ⟨A.many.toNat, by omega⟩
      have hat : A.at'.toNat = a := by omega
      have hmt : A.many.toNat = m := by omega
      have hok := h.ok
      have hle := h.le
      rw [ha, hm]
      refine (Read_any a m w h (by omega) ho).mono fun e w' hr => ?_
      rcases hr with ⟨hn, hr⟩ | ⟨hn, v, rfl, hown, hd, hb⟩
      · exact read_of hle hr (.inl ⟨hk, rfl, .inr (.inr (.inl ⟨⟨a1, a2, a3, a4⟩, ho, by rw [hat, hmt]; exact hn, rfl, rfl⟩))⟩)
      · refine ⟨v, 0, rfl, D, m * 64, readI D a, gs, gb, qv, .inl ⟨hk, rfl, .inr (.inr (.inr ⟨⟨a1, a2, a3, a4⟩, ho, by rw [hat, hmt]; exact hn, rfl, by rw [hmt], by rw [hat]⟩))⟩, ?_, hd, hb.mono hle, calm_below hb⟩
        exact barg_own (B := B) (f := readI D a) hown fun k => has_byte hok _ _
    · exact (Read_off A.at' A.many w h h2 ho).mono fun e w' hr => read_of h.le hr (.inl ⟨hk, rfl, .inr (.inl ⟨h2, ho, rfl, rfl⟩)⟩)
  · exact (Read_arg A.at' A.many w h h2).mono fun e w' hr => read_of h.le hr (.inl ⟨hk, rfl, .inl ⟨h2, rfl, rfl⟩⟩)
end

theorem ActP.from' {B g : Nat} {D : Dsk} {A : Deed} {w W w' : World} {v : Value} {c : Int} (h : ActP B g D A W v c w') (hB : B ≤ w.heap.size) (hb : Below w.heap.size w W) : ActP B g D A w v c w' := by
  obtain ⟨D', n, f, gs, gb, qv, h1, h2, h3, h4, h5⟩ := h
  exact ⟨D', n, f, gs, gb, qv, h1, h2, h3, (hb.mono hB).trans h4, (calm_below hb).trans h5⟩

set_option maxHeartbeats 4000000 in
theorem act_any {B g gs gb : Nat} {qv : Value} {D : Dsk} {bv kv : Value} {A : Deed} (w : World) (h : DiskIn B g gs gb qv D w) (hA : DeedAt B w bv kv A) (hn : A.k ≤ 65536) :
    Calls Try.prog 24 #[.pointer (some ⟨g, 0, none⟩), deedV bv kv A] w (ReadM B g D A w) := by
  obtain ⟨bx, bc, rfl, -⟩ := hA.bytes.slice
  obtain ⟨kx, kc, rfl, -⟩ := hA.keep.slice
  have hr := row_five w (.int .i64 A.kind) (.int .i64 A.at') (.int .i64 A.many) (.slice bx A.n bc) (.slice kx A.k kc) 51
  obtain ⟨a0, a1, a2, a3, a4⟩ := cells5 hr
  have hbl := (Below.refl _ w).alloc (Nat.le_refl w.heap.size) (.cells #[.int .i64 A.kind, .int .i64 A.at', .int .i64 A.many, .slice bx A.n bc, .slice kx A.k kc] 51)
  have HB := Lib.hid hbl
  have HL := Lib.hid h.le
  have HD := Lib.hid (h.all hbl)
  have HA := Lib.hid (hA.all hbl)
  clear hr hbl h hA
  unfold deedV
  go_enter Try.func24, Try.ntmps24
  go_upto_region 1 with fail
  generalize w.alloc (.cells #[.int .i64 A.kind, .int .i64 A.at', .int .i64 A.many, .slice bx A.n bc, .slice kx A.k kc] 51) = W at *
  have hcase : A.kind = 0 ∨ A.kind = 1 ∨ A.kind = 2 ∨ A.kind = 3 ∨ A.kind = 4 ∨ A.kind = 5 ∨ A.kind = 6 ∨ A.kind = 7 ∨ (A.kind < 0 ∨ 7 < A.kind) := by omega
  rcases hcase with hc | hc | hc | hc | hc | hc | hc | hc | hc
  · have hk : A.kind = 0 := hc
    have hm := meth_read W HD.out hk
    rw [hk] at a0
    clear hc
    go_wp2_with fail
    refine hm.mono ?_
    rintro e w2 ⟨v, c, rfl, hp⟩
    go_wp2_with fail
    exact bodyPost_ret (v := .tuple #[v, .int .i64 c]) (by simp [results, Try.results24]) rfl ⟨v, c, rfl, hp.from' HL.out HB.out⟩
  · have hk : A.kind = 1 := hc
    have hm := meth_write W HD.out HA.out hk
    rw [hk] at a0
    clear hc
    go_wp2_with fail
    refine hm.mono ?_
    rintro e w2 ⟨c, rfl, hp⟩
    go_wp2_with fail
    exact bodyPost_ret (v := .tuple #[.slice none 0 0, .int .i64 c]) (by simp [results, Try.results24]) rfl ⟨_, c, rfl, hp.from' HL.out HB.out⟩
  · have hk : A.kind = 2 := hc
    have hm := meth_sync (A := A) W HD.out hk
    rw [hk] at a0
    clear hc
    go_wp2_with fail
    refine hm.mono ?_
    rintro e w2 ⟨c, rfl, hp⟩
    go_wp2_with fail
    exact bodyPost_ret (v := .tuple #[.slice none 0 0, .int .i64 c]) (by simp [results, Try.results24]) rfl ⟨_, c, rfl, hp.from' HL.out HB.out⟩
  · have hk : A.kind = 3 := hc
    have hm := meth_crash W HD.out HA.out hn hk
    rw [hk] at a0
    clear hc
    go_wp2_with fail
    refine hm.mono ?_
    rintro e w2 ⟨c, rfl, hp⟩
    go_wp2_with fail
    exact bodyPost_ret (v := .tuple #[.slice none 0 0, .int .i64 c]) (by simp [results, Try.results24]) rfl ⟨_, c, rfl, hp.from' HL.out HB.out⟩
  · have hk : A.kind = 4 := hc
    have hm := meth_spoil W HD.out hk
    rw [hk] at a0
    clear hc
    go_wp2_with fail
    refine hm.mono ?_
    rintro e w2 ⟨c, rfl, hp⟩
    go_wp2_with fail
    exact bodyPost_ret (v := .tuple #[.slice none 0 0, .int .i64 c]) (by simp [results, Try.results24]) rfl ⟨_, c, rfl, hp.from' HL.out HB.out⟩
  · have hk : A.kind = 5 := hc
    have hm := meth_die W HD.out hk
    rw [hk] at a0
    clear hc
    go_wp2_with fail
    refine hm.mono ?_
    rintro e w2 ⟨c, rfl, hp⟩
    go_wp2_with fail
    exact bodyPost_ret (v := .tuple #[.slice none 0 0, .int .i64 c]) (by simp [results, Try.results24]) rfl ⟨_, c, rfl, hp.from' HL.out HB.out⟩
  · have hk : A.kind = 6 := hc
    have hm := meth_replace W HD.out hk
    rw [hk] at a0
    clear hc
    go_wp2_with fail
    refine hm.mono ?_
    rintro e w2 ⟨c, rfl, hp⟩
    go_wp2_with fail
    exact bodyPost_ret (v := .tuple #[.slice none 0 0, .int .i64 c]) (by simp [results, Try.results24]) rfl ⟨_, c, rfl, hp.from' HL.out HB.out⟩
  · have hk : A.kind = 7 := hc
    have hm := meth_stop W HD.out HA.out hk
    rw [hk] at a0
    clear hc
    go_wp2_with fail
    refine hm.mono ?_
    rintro e w2 ⟨c, rfl, hp⟩
    go_wp2_with fail
    exact bodyPost_ret (v := .tuple #[.slice none 0 0, .int .i64 c]) (by simp [results, Try.results24]) rfl ⟨_, c, rfl, hp.from' HL.out HB.out⟩
  · have k0 : (A.kind == 0) = false := beq_eq_false_iff_ne.2 (by omega)
    have k1 : (A.kind == 1) = false := beq_eq_false_iff_ne.2 (by omega)
    have k2 : (A.kind == 2) = false := beq_eq_false_iff_ne.2 (by omega)
    have k3 : (A.kind == 3) = false := beq_eq_false_iff_ne.2 (by omega)
    have k4 : (A.kind == 4) = false := beq_eq_false_iff_ne.2 (by omega)
    have k5 : (A.kind == 5) = false := beq_eq_false_iff_ne.2 (by omega)
    have k6 : (A.kind == 6) = false := beq_eq_false_iff_ne.2 (by omega)
    have k7 : (A.kind == 7) = false := beq_eq_false_iff_ne.2 (by omega)
    have Hc := Lib.hid hc
    clear hc
    go_wp2_with fail
    exact bodyPost_ret (v := .tuple #[.slice none 0 0, .int .i64 0]) (by simp [results, Try.results24]) rfl
      ⟨_, 0, rfl, D, 0, fun _ => 0, gs, gb, qv, .inr (.inr (.inr (.inr (.inr (.inr (.inr (.inr ⟨Hc.out, rfl, rfl, rfl⟩))))))), barg_nil B W, HD.out, HB.out.mono HL.out, calm_below HB.out⟩

end Go.Proofs.Ytjhcaedfknhilaa
