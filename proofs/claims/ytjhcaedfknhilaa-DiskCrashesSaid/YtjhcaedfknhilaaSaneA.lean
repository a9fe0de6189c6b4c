/- The law's example: sectors of one byte. -/
import Derived.Test.YtjhcaedfknhilaaLoadC
namespace Go.Proofs.Ytjhcaedfknhilaa
open Go.RowKit
attribute [local go_sem ↓] Go.wp_at_zero Go.wp_at_succ

theorem Load_any {B : Nat} {dv qv bv : Value} {X : Dev} (w : World) (h : DevAt B w dv qv bv X) (hB : B ≤ w.heap.size) : Calls Try.prog 28 #[devV dv qv bv X] w (LoadP B X w) := by
  by_cases h1 : X.ok1
  · by_cases h2 : X.ok2
    · exact Load_main w h hB h1 h2
    · exact (Load_bad2 w h h1 h2).mono fun e w' hn => .inl ⟨fun hr => h2 hr.h2, hn⟩
  · exact (Load_bad1 w h h1).mono fun e w' hn => .inl ⟨fun hr => h1 hr.h1, hn⟩

set_option maxHeartbeats 1000000 in
theorem sector_any (b : Int) (w : World) :
    Calls Try.prog 35 #[.int .u8 b] w fun e w' => e = .returned (.slice (some ⟨w.heap.size, 0, none⟩) 64 64) ∧ RowAt w' w.heap.size 5 64 64 (fun _ => .int .u8 b) ∧ Below w.heap.size w w' := by
  obtain ⟨w1, hm, hr, hb, hs⟩ := make_o (P := Try.prog) 27 5 _ _ Try.underlying27 info_u8d rfl (by decide) .i64 64 (by decide) w
  have Hr := Lib.hid hr
  have Hb := Lib.hid hb
  clear hr hb hs
  have hm' : (Instr.makeSlice 27 (.int .i64 64) (.int .i64 64)).run Try.prog w = .ok (.slice (some ⟨w.heap.size, 0, none⟩) 64 64) w1 := hm
  clear hm
  go_enter Try.func35, Try.ntmps35
  go_wp2_with fail
  clear hm'
  go_loopw [8] (fun t wr => ∃ i : Nat, i ≤ 64 ∧ t = .int .i64 i ∧ RowAt wr w.heap.size 5 64 64 (fun j => if j < i then .int .u8 b else .int .u8 0) ∧ Below w.heap.size w wr) (fun t _ => 64 - (intOf t).toNat)
  case atStart => exact ⟨0, by omega, by go_num, Hr.out.congr fun j hj => by rw [if_neg (Nat.not_lt_zero j)], Hb.out⟩
  case round =>
    obtain ⟨i, hi, rfl, hI, hB⟩ := hrel
    have HI := Lib.hid hI
    have HB := Lib.hid hB
    by_cases hlt : i < 64
    · have hdlt : decide ((i : Int) < 64) = true := decide_eq_true (by omega)
      have e0 := hI.cell (i := i) (by omega)
      have z0 := hI.frozen i
      rw [if_neg (Nat.lt_irrefl i)] at e0
      have HN := Lib.hid ((hI.set i (.int .u8 b)).congr (f' := fun j => if j < i + 1 then .int .u8 b else .int .u8 0) fun j hj => by
        by_cases hji : j = i
        · rw [if_pos hji, if_pos (by omega)]
        · rw [if_neg hji]
          by_cases h1 : j < i
          · rw [if_pos h1, if_pos (by omega)]
          · rw [if_neg h1, if_neg (by omega)])
      have HB2 := Lib.hid (hB.setCell (p := ⟨w.heap.size, i, none⟩) (Nat.le_refl _) (.int .u8 b))
      clear hI hB
      go_wp2
      go_roundw
      case rel => exact ⟨i + 1, by omega, by go_num, HN.out, HB2.out⟩
      case measure => simp [intOf]; omega
    · obtain rfl : i = 64 := by omega
      clear hI hB
      go_wp2
      go_ret
      exact ⟨rfl, HI.out.congr fun j hj => by rw [if_pos hj], HB.out⟩

end Go.Proofs.Ytjhcaedfknhilaa
