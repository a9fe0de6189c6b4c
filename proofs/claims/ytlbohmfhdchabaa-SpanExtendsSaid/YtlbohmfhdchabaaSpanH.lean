/- Span: the methods page. -/
import Derived.Test.YtlbohmfhdchabaaSpanG
namespace Go.Proofs.Ytlbohmfhdchabaa
open Go.RowKit

def spotA (s : Int × Int) : Value := .agg #[.int .i64 s.1, .int .i64 s.2]
def PageR (L : Lay) (s : Int × Int) (w : World) (e : Ending) (w' : World) : Prop := e = .returned (.tuple #[.int .i64 (L.page s).1, .int .i64 (L.page s).2]) ∧ Below w.heap.size w w'

theorem page_setup {w : World} {g : Nat} {L : Lay} {sl : Value} (hg : Geo w g L sl) (T : TypeId) (a b : Int) :
    Geo ((w.alloc (.cells #[] T)).alloc (.cells #[.int .i64 a, .int .i64 b] 45)) g L sl ∧
    ((w.alloc (.cells #[] T)).alloc (.cells #[.int .i64 a, .int .i64 b] 45)).cell? ⟨w.heap.size + 1, 0, none⟩ = some (.int .i64 a) ∧
    ((w.alloc (.cells #[] T)).alloc (.cells #[.int .i64 a, .int .i64 b] 45)).cell? ⟨w.heap.size + 1, 1, none⟩ = some (.int .i64 b) ∧
    Below w.heap.size w ((w.alloc (.cells #[] T)).alloc (.cells #[.int .i64 a, .int .i64 b] 45)) := by
  have hb : Below w.heap.size w ((w.alloc (.cells #[] T)).alloc (.cells #[.int .i64 a, .int .i64 b] 45)) := ((Below.refl _ w).alloc (Nat.le_refl _) _).alloc (by simp) _
  have hr := row2 (w.alloc (.cells #[] T)) (.int .i64 a) (.int .i64 b) 45
  rw [World.size_alloc] at hr
  exact ⟨hg.all hb, hr.cell (i := 0) (by omega), hr.cell (i := 1) (by omega), hb⟩

theorem Geo.hasM {w : World} {g : Nat} {L : Lay} {sl : Value} (hg : Geo w g L sl) {s : Int × Int} (hs : L.has s = true) : (0 ≤ s.1 ∧ s.1 < L.n ∧ 0 ≤ s.2 ∧ s.2 < L.M s.1.toNat) ∧ s.2 ≤ 4096 := by
  unfold Lay.has at hs
  simp only [Bool.and_eq_true, decide_eq_true_eq] at hs
  have := hg.right.mem s.1.toNat (by omega)
  exact ⟨hs, by omega⟩

set_option maxHeartbeats 4000000 in
theorem page_plain (L : Lay) (sl : Value) (g : Nat) (s : Int × Int) (w : World) (hg : Geo w g L sl) (hK : L.K = 1) (hs : L.has s = true) :
    Calls Try.prog 74 #[.agg #[], .pointer (some ⟨g, 0, none⟩), spotA s] w (PageR L s w) := by
  obtain ⟨⟨h1, h2, h3, h4⟩, h5⟩ := hg.hasM hs
  obtain ⟨a, b⟩ := s
  dsimp only at h1 h2 h3 h4 h5
  have hn := hg.right.nle
  have hk := hg.right.kle
  have hm := hg.right.mle
  have hC := hg.right.chunk
  have hn2 : (1 : Int) ≤ L.n := by omega
  have hn0 : ¬ L.n = 0 := by omega
  have hn0' : ¬ (L.n : Int) = 0 := by omega
  have hC0 : ¬ L.C = 0 := by omega
  obtain ⟨hgW, b0, b1, hB⟩ := page_setup hg 89 a b
  have hv : L.page (a, b) = (b, 1) := by unfold Lay.page; rw [hK]; rfl
  have Hv := Lib.hid hv; clear hv hgW hk
  clear hg hK hs
  unfold spotA
  go_enter Try.func74, Try.ntmps74
  go_wp2
  refine bodyPost_ret (v := .tuple #[.int .i64 b, .int .i64 1]) (by simp [results, Try.results74, go_sem]) rfl ⟨by rw [Hv.out], hB⟩

set_option maxHeartbeats 4000000 in
theorem page_stripe (L : Lay) (sl : Value) (g : Nat) (s : Int × Int) (w : World) (hg : Geo w g L sl) (hK : L.K = 3) (hs : L.has s = true) :
    Calls Try.prog 82 #[.agg #[], .pointer (some ⟨g, 0, none⟩), spotA s] w (PageR L s w) := by
  obtain ⟨⟨h1, h2, h3, h4⟩, h5⟩ := hg.hasM hs
  obtain ⟨a, b⟩ := s
  dsimp only at h1 h2 h3 h4 h5
  have hn := hg.right.nle
  have hk := hg.right.kle
  have hm := hg.right.mle
  have hC := hg.right.chunk
  have hn2 : (1 : Int) ≤ L.n := by omega
  have hn0 : ¬ L.n = 0 := by omega
  have hn0' : ¬ (L.n : Int) = 0 := by omega
  have hC0 : ¬ L.C = 0 := by omega
  obtain ⟨hgW, b0, b1, hB⟩ := page_setup hg 91 a b
  have hv : L.page (a, b) = if L.k ≤ b then (0, 4) else ((b / L.C * L.n + a) * L.C + b % L.C, 1) := by unfold Lay.page; rw [hK]; rfl
  have Hv := Lib.hid hv; clear hv
  obtain ⟨-, -, c2, c3, -, c5, -⟩ := hgW.cells
  obtain ⟨q1, q2, q3, q4⟩ := quot_facts b L.C (by omega) (by omega)
  have m1 := mul_bound (a := b / L.C) (b := L.n) (x := 4096) (y := 6) (by omega) (by omega)
  have m2 := mul_bound (a := b / L.C * L.n + a) (b := L.C) (x := 30000) (y := 64) (by omega) (by omega)
  clear q4 hgW hk hm h4
  generalize L.k = kk at *
  clear hg hK hs
  unfold spotA
  go_enter Try.func82, Try.ntmps82
  go_wp2_with fail
  generalize (w.alloc (.cells #[] 91)).alloc (.cells #[.int .i64 a, .int .i64 b] 45) = W at *
  go_quiet (fail)
  rcases hd : decide (kk ≤ b) with _ | _
  · have hlt : ¬ kk ≤ b := of_decide_eq_false hd
    have Hv2 := Lib.hid (Hv.out.trans (if_neg hlt)); clear Hv
    go_upto_region 3 with fail
    go_quiet (fail)
    go_wp2
    refine bodyPost_ret (v := .tuple #[.int .i64 ((b / L.C * L.n + a) * L.C + b % L.C), .int .i64 1]) (by simp [results, Try.results82, go_sem]) rfl ⟨by rw [Hv2.out], hB.trans (below_drewN _ _ _)⟩
  · have hlt : kk ≤ b := of_decide_eq_true hd
    have Hv2 := Lib.hid (Hv.out.trans (if_pos hlt)); clear Hv
    go_wp2
    refine bodyPost_ret (v := .tuple #[.int .i64 0, .int .i64 4]) (by simp [results, Try.results82, go_sem]) rfl ⟨by rw [Hv2.out], hB.trans (below_drewN _ _ _)⟩

set_option maxHeartbeats 4000000 in
theorem page_mirror (L : Lay) (sl : Value) (g : Nat) (s : Int × Int) (w : World) (hg : Geo w g L sl) (hK : L.K = 4) (hs : L.has s = true) :
    Calls Try.prog 86 #[.agg #[], .pointer (some ⟨g, 0, none⟩), spotA s] w (PageR L s w) := by
  obtain ⟨⟨h1, h2, h3, h4⟩, h5⟩ := hg.hasM hs
  obtain ⟨a, b⟩ := s
  dsimp only at h1 h2 h3 h4 h5
  have hn := hg.right.nle
  have hk := hg.right.kle
  have hm := hg.right.mle
  have hC := hg.right.chunk
  have hn2 : (1 : Int) ≤ L.n := by omega
  have hn0 : ¬ L.n = 0 := by omega
  have hn0' : ¬ (L.n : Int) = 0 := by omega
  have hC0 : ¬ L.C = 0 := by omega
  obtain ⟨hgW, b0, b1, hB⟩ := page_setup hg 92 a b
  have hv : L.page (a, b) = if L.m ≤ b then (0, 4) else if a = 0 then (b, 1) else (b, 2) := by unfold Lay.page; rw [hK]; rfl
  have Hv := Lib.hid hv; clear hv
  obtain ⟨-, -, -, -, c4, -, -⟩ := hgW.cells
  clear hgW hk hm h4
  generalize L.m = mm at *
  clear hg hK hs
  unfold spotA
  go_enter Try.func86, Try.ntmps86
  go_wp2_with fail
  generalize (w.alloc (.cells #[] 92)).alloc (.cells #[.int .i64 a, .int .i64 b] 45) = W at *
  go_quiet (fail)
  rcases hd : decide (mm ≤ b) with _ | _
  · have hlt : ¬ mm ≤ b := of_decide_eq_false hd
    have Hv2 := Lib.hid (Hv.out.trans (if_neg hlt)); clear Hv
    by_cases ha : a = 0
    · have Hv3 := Lib.hid (Hv2.out.trans (if_pos ha)); clear Hv2
      subst ha
      go_wp2
      refine bodyPost_ret (v := .tuple #[.int .i64 b, .int .i64 1]) (by simp [results, Try.results86, go_sem]) rfl ⟨by rw [Hv3.out], hB.trans (below_drewN _ _ _)⟩
    · have Hv3 := Lib.hid (Hv2.out.trans (if_neg ha)); clear Hv2
      have ha' : (a == 0) = false := by rw [beq_eq_false_iff_ne]; exact ha
      go_wp2
      refine bodyPost_ret (v := .tuple #[.int .i64 b, .int .i64 2]) (by simp [results, Try.results86, go_sem]) rfl ⟨by rw [Hv3.out], hB.trans (below_drewN _ _ _)⟩
  · have hlt : mm ≤ b := of_decide_eq_true hd
    have Hv2 := Lib.hid (Hv.out.trans (if_pos hlt)); clear Hv
    go_wp2
    refine bodyPost_ret (v := .tuple #[.int .i64 0, .int .i64 4]) (by simp [results, Try.results86, go_sem]) rfl ⟨by rw [Hv2.out], hB.trans (below_drewN _ _ _)⟩

set_option maxHeartbeats 4000000 in
theorem page_parity (L : Lay) (sl : Value) (g : Nat) (s : Int × Int) (w : World) (hg : Geo w g L sl) (hK : L.K = 5) (hs : L.has s = true) :
    Calls Try.prog 90 #[.agg #[], .pointer (some ⟨g, 0, none⟩), spotA s] w (PageR L s w) := by
  obtain ⟨⟨h1, h2, h3, h4⟩, h5⟩ := hg.hasM hs
  obtain ⟨a, b⟩ := s
  dsimp only at h1 h2 h3 h4 h5
  have hn := hg.right.nle
  have hk := hg.right.kle
  have hm := hg.right.mle
  have hC := hg.right.chunk
  have hn2 : (1 : Int) ≤ L.n := by omega
  have hn0 : ¬ L.n = 0 := by omega
  have hn0' : ¬ (L.n : Int) = 0 := by omega
  have hC0 : ¬ L.C = 0 := by omega
  obtain ⟨hgW, b0, b1, hB⟩ := page_setup hg 93 a b
  have hv : L.page (a, b) = if L.k ≤ b then (0, 4) else if (a - b / L.C % L.n + L.n) % L.n = 0 then (b / L.C * (L.n - 1) * L.C + b % L.C, 3) else ((b / L.C * (L.n - 1) + (a - b / L.C % L.n + L.n) % L.n - 1) * L.C + b % L.C, 1) := by unfold Lay.page; rw [hK]; rfl
  have ex : (a - b / L.C % L.n + L.n) % L.n = (a - b / L.C) % L.n := by simp
  rw [ex] at hv
  have Hv := Lib.hid hv; clear hv
  obtain ⟨-, -, c2, c3, -, c5, -⟩ := hgW.cells
  obtain ⟨q1, q2, q3, q4⟩ := quot_facts b L.C (by omega) (by omega)
  obtain ⟨q5, q6, q7, q8⟩ := quot_facts (b / L.C) L.n (by omega) (by omega)
  obtain ⟨r5, r6, r7, r8⟩ := quot_facts (a - b / L.C % L.n + L.n) L.n (by omega) (by omega)
  rw [ex] at r5 r7
  clear ex r6 r8
  have m1 := mul_bound (a := b / L.C) (b := (L.n : Int) - 1) (x := 4096) (y := 6) (by omega) (by omega)
  have m2 := mul_bound (a := b / L.C * (L.n - 1)) (b := L.C) (x := 30000) (y := 64) (by omega) (by omega)
  have m3 : ¬ (a - b / L.C) % L.n = 0 → 0 ≤ (b / L.C * (L.n - 1) + (a - b / L.C) % L.n - 1) * L.C ∧ (b / L.C * (L.n - 1) + (a - b / L.C) % L.n - 1) * L.C ≤ 30000 * 64 := fun h =>
    mul_bound (a := b / L.C * (L.n - 1) + (a - b / L.C) % L.n - 1) (b := L.C) (x := 30000) (y := 64) (by omega) (by omega)
  have M3 := Lib.hid m3; clear m3
  clear q4 q8 hgW hk hm h4
  generalize L.k = kk at *
  clear hg hK hs
  unfold spotA
  go_enter Try.func90, Try.ntmps90
  go_wp2_with fail
  generalize (w.alloc (.cells #[] 93)).alloc (.cells #[.int .i64 a, .int .i64 b] 45) = W at *
  go_quiet (fail)
  rcases hd : decide (kk ≤ b) with _ | _
  · have hlt : ¬ kk ≤ b := of_decide_eq_false hd
    have Hv2 := Lib.hid (Hv.out.trans (if_neg hlt)); clear Hv
    go_upto_region 3 with fail
    go_quiet (fail)
    go_upto_region 5 with fail
    go_quiet (fail)
    by_cases hz : (a - b / L.C) % L.n = 0
    · have Hv3 := Lib.hid (Hv2.out.trans (if_pos hz)); clear Hv2
      have hz2 : ((a - b / L.C) % L.n == 0) = true := by rw [beq_iff_eq]; exact hz
      have Hz := Lib.hid hz; clear hz M3
      go_wp2
      refine bodyPost_ret (v := .tuple #[.int .i64 (b / L.C * (L.n - 1) * L.C + b % L.C), .int .i64 3]) (by simp [results, Try.results90, go_sem]) rfl ⟨by rw [Hv3.out], hB.trans (below_drewN _ _ _)⟩
    · have Hv3 := Lib.hid (Hv2.out.trans (if_neg hz)); clear Hv2
      have hz2 : ((a - b / L.C) % L.n == 0) = false := by rw [beq_eq_false_iff_ne]; exact hz
      have m3 := M3.out hz
      clear M3
      go_wp2
      refine bodyPost_ret (v := .tuple #[.int .i64 ((b / L.C * (L.n - 1) + (a - b / L.C) % L.n - 1) * L.C + b % L.C), .int .i64 1]) (by simp [results, Try.results90, go_sem]) rfl ⟨by rw [Hv3.out], hB.trans (below_drewN _ _ _)⟩
  · have hlt : kk ≤ b := of_decide_eq_true hd
    have Hv2 := Lib.hid (Hv.out.trans (if_pos hlt)); clear Hv
    go_wp2
    refine bodyPost_ret (v := .tuple #[.int .i64 0, .int .i64 4]) (by simp [results, Try.results90, go_sem]) rfl ⟨by rw [Hv2.out], hB.trans (below_drewN _ _ _)⟩

set_option maxHeartbeats 4000000 in
theorem page_concat (L : Lay) (sl : Value) (g : Nat) (s : Int × Int) (w : World) (hg : Geo w g L sl) (hK : L.K = 2) (hs : L.has s = true) :
    Calls Try.prog 78 #[.agg #[], .pointer (some ⟨g, 0, none⟩), spotA s] w (PageR L s w) := by
  obtain ⟨⟨h1, h2, h3, h4⟩, h5⟩ := hg.hasM hs
  obtain ⟨a, b⟩ := s
  dsimp only at h1 h2 h3 h4 h5
  have hn := hg.right.nle
  have hk := hg.right.kle
  have hm := hg.right.mle
  have hC := hg.right.chunk
  have hn2 : (1 : Int) ≤ L.n := by omega
  have hn0 : ¬ L.n = 0 := by omega
  have hn0' : ¬ (L.n : Int) = 0 := by omega
  have hC0 : ¬ L.C = 0 := by omega
  obtain ⟨hgW, b0, b1, hB⟩ := page_setup hg 90 a b
  have hv : L.page (a, b) = (b + sumI L.M a.toNat, 1) := by unfold Lay.page; rw [hK]; rfl
  have Hv := Lib.hid hv; clear hv
  obtain ⟨-, c1, -, -, -, -, -⟩ := hgW.cells
  have hcap : ∃ b' off cap, sl = .slice (some ⟨b', off, none⟩) L.n cap ∧ L.n ≤ cap ∧ Cells ((w.alloc (.cells #[] 90)).alloc (.cells #[.int .i64 a, .int .i64 b] 45)) b' off L.n (intsV L.M) := by
    rcases hgW.arg with ⟨h0, _⟩ | ⟨b', off, cap, e1, e2, e3, e4, e5, e6⟩
    · omega
    · exact ⟨b', off, cap, e1, e3, e5⟩
  obtain ⟨b', off, cap, rfl, hcap, hc⟩ := hcap
  have Hm := Lib.hid hg.right.mem
  have Hc := Lib.hid hc; clear hc
  obtain ⟨z, rfl⟩ : ∃ z : Nat, a = z := ⟨a.toNat, by omega⟩
  have hz : (z : Int).toNat = z := by omega
  rw [hz] at Hv
  have Hsb := Lib.hid (fun k (hk : k ≤ L.n) => sumI_bound L.M 1 4096 k (fun i hi => Hm.out i (by omega)))
  clear hgW hk hm h4 hz
  clear hg hK hs
  unfold spotA
  go_enter Try.func78, Try.ntmps78
  go_wp2_with fail
  generalize (w.alloc (.cells #[] 90)).alloc (.cells #[.int .i64 (z : Int), .int .i64 b] 45) = W at *
  go_quiet (fail)
  go_wp2_with fail
  go_loop [22, 8] (fun t u => ∃ k : Nat, k ≤ z ∧ t = .int .i64 k ∧ u = .int .i64 (b + sumI L.M k)) (fun t _ => z - (intOf t).toNat)
  case atStart => exact ⟨0, by omega, rfl, by simp [sumI]⟩
  case round =>
    obtain ⟨k, hk, rfl, rfl⟩ := hrel
    by_cases hlt : k < z
    · have hcell := Hc.out k (by omega)
      have hb1 := Hsb.out (k + 1) (by omega)
      have hb2 := Hsb.out k (by omega)
      simp only [intsV, sumI] at hcell hb1
      go_wp2_with fail
      go_round
      case rel => exact ⟨k + 1, by omega, by go_num, by simp only [sumI]; rw [Int.add_assoc]⟩
      case measure => simp [intOf]; omega
    · obtain rfl : k = z := by omega
      go_wp2_with fail
      refine bodyPost_ret (v := .tuple #[.int .i64 (b + sumI L.M k), .int .i64 1]) (by simp [results, Try.results78, go_sem]) rfl ⟨by rw [Hv.out], hB.trans (below_drewN _ _ _)⟩

/-- page, whatever the kind. -/
theorem page_any (L : Lay) (sl : Value) (g : Nat) (s : Int × Int) (w : World) (hg : Geo w g L sl) (hs : L.has s = true) : Calls Try.prog (pageN L.K) #[.agg #[], .pointer (some ⟨g, 0, none⟩), spotA s] w (PageR L s w) := by
  have h := hg.right.kind
  obtain h | h | h | h | h : L.K = 1 ∨ L.K = 2 ∨ L.K = 3 ∨ L.K = 4 ∨ L.K = 5 := by omega
  · have := page_plain L sl g s w hg h hs; rw [h]; exact this
  · have := page_concat L sl g s w hg h hs; rw [h]; exact this
  · have := page_stripe L sl g s w hg h hs; rw [h]; exact this
  · have := page_mirror L sl g s w hg h hs; rw [h]; exact this
  · have := page_parity L sl g s w hg h hs; rw [h]; exact this

end Go.Proofs.Ytlbohmfhdchabaa
