/- Acts in memory, and plainly; short. -/
import Derived.Test.YtjhcaedfknhilaaRefB
namespace Go.Proofs.Ytjhcaedfknhilaa
open Go.RowKit
attribute [local go_sem ↓] Go.wp_at_zero Go.wp_at_succ

/-- An act, plainly. -/
structure Deed where
  kind : Int
  at' : Int
  many : Int
  n : Nat
  bytes : Nat → Int
  k : Nat
  keep : Nat → Int

def deedV (bv kv : Value) (A : Deed) : Value := .agg #[.int .i64 A.kind, .int .i64 A.at', .int .i64 A.many, bv, kv]
structure DeedAt (B : Nat) (w : World) (bv kv : Value) (A : Deed) : Prop where
  kind : -9223372036854775808 ≤ A.kind ∧ A.kind ≤ 9223372036854775807
  at' : -9223372036854775808 ≤ A.at' ∧ A.at' ≤ 9223372036854775807
  many : -9223372036854775808 ≤ A.many ∧ A.many ≤ 9223372036854775807
  bytes : BArg B w bv A.n A.bytes
  keep : NArg B w kv A.k A.keep
theorem DeedAt.keepD {B : Nat} {w w' : World} {bv kv : Value} {A : Deed} (h : DeedAt B w bv kv A) (hk : KeepsD B w w') : DeedAt B w' bv kv A :=
  ⟨h.kind, h.at', h.many, h.bytes.keep hk, h.keep.keep hk⟩
theorem DeedAt.all {B : Nat} {w w' : World} {bv kv : Value} {A : Deed} (h : DeedAt B w bv kv A) (hb : Below w.heap.size w w') : DeedAt B w' bv kv A := h.keepD (keeps_below hb).data

/-- The cells of a list of acts. -/
def deedC (A : Nat → Deed) (bv kv : Nat → Value) (c : Nat) : Value :=
  if c % 5 = 0 then .int .i64 (A (c / 5)).kind else if c % 5 = 1 then .int .i64 (A (c / 5)).at' else if c % 5 = 2 then .int .i64 (A (c / 5)).many else if c % 5 = 3 then bv (c / 5) else kv (c / 5)
/-- A list of acts in memory. -/
def DList (B : Nat) (w : World) (v : Value) (m : Nat) (A : Nat → Deed) : Prop :=
  (m = 0 ∧ ∃ x cap, v = .slice x 0 cap) ∨ ∃ b off cap bv kv, v = .slice (some ⟨b, off, none⟩) m cap ∧ 0 < m ∧ m ≤ cap ∧ cap ≤ maxLen ∧ Cells w b off (m * 5) (deedC A bv kv) ∧ ∀ i, i < m → DeedAt B w (bv i) (kv i) (A i)
theorem DList.slice {B : Nat} {w : World} {v : Value} {m : Nat} {A : Nat → Deed} (h : DList B w v m A) : ∃ x cap, v = .slice x m cap ∧ m ≤ maxLen := by
  rcases h with ⟨rfl, x, c, rfl⟩ | ⟨b, off, c, bv, kv, rfl, _, h2, h3, _⟩
  · exact ⟨_, _, rfl, Nat.zero_le _⟩
  · exact ⟨_, _, rfl, Nat.le_trans h2 h3⟩
theorem DList.elem {B : Nat} {w : World} {v : Value} {m : Nat} {A : Nat → Deed} (h : DList B w v m A) {i : Nat} (hi : i < m) :
    ∃ b off cap bv kv, v = .slice (some ⟨b, off, none⟩) m cap ∧ w.cell? ⟨b, off + i * 5, none⟩ = some (.int .i64 (A i).kind) ∧ w.cell? ⟨b, off + i * 5 + 1, none⟩ = some (.int .i64 (A i).at') ∧ w.cell? ⟨b, off + i * 5 + 2, none⟩ = some (.int .i64 (A i).many) ∧
      w.cell? ⟨b, off + i * 5 + 3, none⟩ = some bv ∧ w.cell? ⟨b, off + i * 5 + 4, none⟩ = some kv ∧ DeedAt B w bv kv (A i) := by
  rcases h with ⟨h0, _⟩ | ⟨b, off, cap, bv, kv, rfl, _, _, _, h4, h6⟩
  · omega
  · have hj : ∀ j, j < 5 → w.cell? ⟨b, off + i * 5 + j, none⟩ = some (deedC A bv kv (i * 5 + j)) := fun j hj => by
      have := h4 (i * 5 + j) (by omega)
      rwa [Nat.add_assoc]
    refine ⟨b, off, cap, bv i, kv i, rfl, ?_, ?_, ?_, ?_, ?_, h6 i hi⟩
    · have := hj 0 (by omega)
      rw [Nat.add_zero] at this
      rw [this]; unfold deedC
      rw [if_pos (by omega), show (i * 5 + 0) / 5 = i from by omega]
    · rw [hj 1 (by omega)]; unfold deedC
      rw [if_neg (by omega), if_pos (by omega), show (i * 5 + 1) / 5 = i from by omega]
    · rw [hj 2 (by omega)]; unfold deedC
      rw [if_neg (by omega), if_neg (by omega), if_pos (by omega), show (i * 5 + 2) / 5 = i from by omega]
    · rw [hj 3 (by omega)]; unfold deedC
      rw [if_neg (by omega), if_neg (by omega), if_neg (by omega), if_pos (by omega), show (i * 5 + 3) / 5 = i from by omega]
    · rw [hj 4 (by omega)]; unfold deedC
      rw [if_neg (by omega), if_neg (by omega), if_neg (by omega), if_neg (by omega), show (i * 5 + 4) / 5 = i from by omega]

/-- Acts that are few and short. -/
def shortP (m : Nat) (A : Nat → Deed) : Prop := (∀ i, i < m → (A i).n ≤ 4096 ∧ (A i).k ≤ 400) ∧ m ≤ 40

set_option maxHeartbeats 2000000 in
theorem short_any {B : Nat} {v : Value} {m : Nat} {A : Nat → Deed} (w : World) (h : DList B w v m A) :
    Calls Try.prog 15 #[v] w fun e w' => (∃ b, e = .returned (.bool b) ∧ (b = true ↔ shortP m A)) ∧ w = w' := by
  obtain ⟨x, cap, rfl, hm⟩ := h.slice
  unfold maxLen at hm
  have H := Lib.hid h
  clear h
  go_enter Try.func15, Try.ntmps15
  go_wp2_with fail
  go_loopw [3] (fun t wr => ∃ i : Nat, i ≤ m ∧ t = .int .i64 i ∧ w = wr ∧ ∀ j, j < i → (A j).n ≤ 4096 ∧ (A j).k ≤ 400) (fun t _ => m - (intOf t).toNat)
  case atStart => exact ⟨0, by omega, by go_num, by first | rfl | trivial, fun j hj => absurd hj (Nat.not_lt_zero j)⟩
  case round =>
    obtain ⟨i, hi, rfl, rfl, hok⟩ := hrel
    by_cases hlt : i < m
    · have hdlt : decide ((i : Int) < m) = true := decide_eq_true (by omega)
      obtain ⟨b, off, c, bv, kv, e1, d0, d1, d2, d3, d4, hd⟩ := H.out.elem hlt
      cases e1
      obtain ⟨bx, bc, rfl, -⟩ := hd.bytes.slice
      obtain ⟨kx, kc, rfl, -⟩ := hd.keep.slice
      have Hok := Lib.hid hok
      clear hok hd
      by_cases h1 : (A i).n ≤ 4096
      · have g1 : decide (((A i).n : Int) > 4096) = false := decide_eq_false (by omega)
        by_cases h2 : (A i).k ≤ 400
        · have g2 : decide (((A i).k : Int) > 400) = false := decide_eq_false (by omega)
          go_wp2_with fail
          go_roundw
          case rel => exact ⟨i + 1, by omega, by go_num, by trivial, fun j hj => by
            by_cases hji : j = i
            · rw [hji]; exact ⟨h1, h2⟩
            · exact Hok.out j (by omega)⟩
          case measure => simp [intOf]; omega
        · have g2 : decide (((A i).k : Int) > 400) = true := decide_eq_true (by omega)
          go_wp2_with fail
          go_ret
          exact ⟨⟨_, rfl, fun h => (by cases h), fun h => absurd (h.1 i hlt).2 h2⟩, rfl⟩
      · have g1 : decide (((A i).n : Int) > 4096) = true := decide_eq_true (by omega)
        go_wp2_with fail
        go_ret
        exact ⟨⟨_, rfl, fun h => (by cases h), fun h => absurd (h.1 i hlt).1 h1⟩, rfl⟩
    · obtain rfl : m = i := by omega
      have hdlt : decide ((m : Int) < m) = false := decide_eq_false (by omega)
      have Hok := Lib.hid hok
      clear hok
      go_wp2_with fail
      go_ret
      refine ⟨⟨_, rfl, fun h => ⟨Hok.out, ?_⟩, fun h => ?_⟩, rfl⟩
      · have := of_decide_eq_true h; omega
      · exact decide_eq_true (by have := h.2; omega)

end Go.Proofs.Ytjhcaedfknhilaa
