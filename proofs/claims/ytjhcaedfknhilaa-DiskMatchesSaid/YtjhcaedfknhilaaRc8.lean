/- Disk: Crash. Disk: Read. Disk: an element of the queue is built. -/
import Derived.Great.BuildSlice
import Derived.Great.FillDense
import Derived.Test.YtjhcaedfknhilaaRc7
namespace Go.Proofs.Ytjhcaedfknhilaa
set_option linter.unusedVariables false
set_option linter.unusedSimpArgs false
open Go.RowKit
attribute [local go_sem ↓] Go.wp_at_zero Go.wp_at_succ

/-- Behind a panic that is recovered. -/
theorem out1_end {B g gs gb : Nat} {qv : Value} {D : Dsk} {w W : World} {v : Value} {c : Int} (hD : DiskIn B g gs gb qv D W) (hB : Below B w W) (hro : RowAt W w.heap.size 23 1 1 (fun _ => v)) (hl : B ≤ w.heap.size) (hC : Calm w W) :
    Out1 B g gs gb qv c D w (.returned (.int .i64 c)) ((W.alloc (.cells #[] 85)).setCell ⟨w.heap.size, 0, none⟩ (.int .i64 c)) :=
  ⟨rfl, (hD.all ((Below.refl _ W).alloc (Nat.le_refl _) _)).other (hro.alloc _) 0 _, (hB.alloc (Nat.le_trans hl hB.size) _).setCell (p := ⟨w.heap.size, 0, none⟩) hl _, (hC.alloc _).setNew (Nat.le_refl _) _⟩

/-- What may be kept of q elements. -/
def keepOk (q n : Nat) (f : Nat → Int) : Prop := ∀ i, i < n → (0 ≤ f i ∧ f i < q) ∧ ∀ j, j < i → f j ≠ f i
def metB (f : Nat → Int) (i j : Nat) : Bool := anyB (fun k => f k == (j : Int)) i
theorem metB_true {f : Nat → Int} {i j : Nat} : metB f i j = true ↔ ∃ k, k < i ∧ f k = j := by
  unfold metB
  rw [anyB_true]
  simp

def Dsk.crash (D : Dsk) (n : Nat) (f : Nat → Int) : Dsk := ((D.performs (fun k => D.qa (f k).toNat) (fun k => D.qb (f k).toNat) n).flushed).arm false 0

def CrashP (B g gs gb : Nat) (qv : Value) (D : Dsk) (n : Nat) (f : Nat → Int) (w : World) (e : Ending) (w' : World) : Prop :=
  (keepOk D.q n f ∧ OutQ B g gs gb 0 (D.crash n f) w e w') ∨ (¬ keepOk D.q n f ∧ Out1 B g gs gb qv 1 D w e w')

theorem IArg.congr {W : World} {v : Value} {n : Nat} {f g : Nat → Int} (h : IArg W v n f) (hfg : ∀ i, i < n → f i = g i) : IArg W v n g := by
  rcases h with h | ⟨b, off, cap, h1, h2, h3, h4, h5, h6⟩
  · exact .inl h
  · exact .inr ⟨b, off, cap, h1, h2, h3, h4, h5.congr (fun i hi => by unfold intsV; rw [hfg i hi]), fun i hi => by rw [← hfg i hi]; exact h6 i hi⟩
theorem NArg.only2 {B : Nat} {W W' : World} {v : Value} {n a b : Nat} {f : Nat → Int} (h : NArg B W v n f) (ho : Only2 a b W W') {ca na cb nb : Nat} {F : Nat → Nat → Int} {G : Nat → Bool}
    (ha : RowAt W a 79 ca na (secV F)) (hb : RowAt W b 4 cb nb (badV G)) (hBa : B ≤ a) (hBb : B ≤ b) : IArg W' v n f := by
  rcases h with ⟨hf, (h | ⟨c, off, cap, h1, h2, h3, h4, h5, h6⟩)⟩
  · exact .inl h
  · have hne1 : c ≠ a := ha.neBlk hBa (by decide) h6
    have hne2 : c ≠ b := hb.neBlk hBb (by decide) h6
    have hlt := h5.lt h2
    exact .inr ⟨c, off, cap, h1, h2, h3, h4, fun i hi => (World.cell?_of_block (a := ⟨c, off + i, none⟩) (ho.2 c hlt hne1 hne2)).trans (h5 i hi), fun i _ => hf i⟩

/-- What a round of Crash finds. -/
structure CrashI (w W : World) (q : Nat) (f : Nat → Int) (i : Nat) (wr : World) : Prop where
  ok : ∀ k, k < i → (0 ≤ f k ∧ f k < q) ∧ ∀ j, j < k → f j ≠ f k
  met : RowAt wr (w.heap.size + 2) 4 (q * 1) (q * 1) (badV (metB f i))
  below : Below (w.heap.size + 2) W wr
theorem CrashI.next {w W wr : World} {q : Nat} {f : Nat → Int} {i m : Nat} (h : CrashI w W q f i wr) (hm : f i = m) (hq : m < q) (hn : metB f i m = false) :
    CrashI w W q f (i + 1) (wr.setCell ⟨w.heap.size + 2, m, none⟩ (.bool true)) := by
  refine ⟨fun k hk => ?_, (h.met.set m (.bool true)).congr fun j hj => ?_, h.below.setCell (p := ⟨w.heap.size + 2, m, none⟩) (Nat.le_refl _) _⟩
  · by_cases hki : k = i
    · subst hki
      refine ⟨by omega, fun j hj he => ?_⟩
      have : metB f k m = true := metB_true.2 ⟨j, hj, by rw [he, hm]⟩
      rw [this] at hn; cases hn
    · exact h.ok k (by omega)
  · unfold badV
    by_cases hjm : j = m
    · rw [if_pos hjm, metB_true.2 ⟨i, by omega, by rw [hm, hjm]⟩]
    · rw [if_neg hjm]
      congr 1
      unfold metB
      show anyB _ i = (anyB _ i || f i == (j : Int))
      have : (f i == (j : Int)) = false := by rw [beq_eq_false_iff_ne]; omega
      rw [this, Bool.or_false]

set_option maxRecDepth 8000 in
set_option maxHeartbeats 4000000 in
theorem Crash_any {B g gs gb : Nat} {qv kv : Value} {D : Dsk} {n : Nat} {f : Nat → Int} (w : World) (h : DiskIn B g gs gb qv D w) (hk : NArg B w kv n f) (hn : n ≤ 65536) :
    Calls Try.prog 23 #[.pointer (some ⟨g, 0, none⟩), kv] w (CrashP B g gs gb qv D n f w) := by
  have hlt := h.lt
  have hok := h.ok
  obtain ⟨x, cap, hqs⟩ := h.que.slice
  subst hqs
  obtain ⟨kx, kcap, hks, -⟩ := hk.slice
  subst hks
  obtain ⟨c1, hs1, hc1, hm1⟩ := make_k (P := Try.prog) 70 4 _ _ _ Try.underlying70 info_boolD (by decide) (by decide) .i64 D.q (by have := hok.queue; omega)
  have hb2 : Below w.heap.size w ((w.alloc (.cells #[.int .i64 0] 23)).alloc (.cells #[] 85)) := ((Below.refl _ w).alloc (Nat.le_refl _) _).alloc (by simp) _
  have Hro := Lib.hid ((row_new1 w w.heap.size (.int .i64 0) 23 rfl).alloc (.cells #[] 85))
  have Hbw := Lib.hid (((Below.refl B w).alloc hlt (.cells #[.int .i64 0] 23)).alloc (by simp; omega) (.cells #[] 85))
  have hW := h.all hb2
  have hkW := hk.all hb2
  obtain ⟨c0, e1, c2, c3, c4, c5⟩ := hW.cells
  have Hcw := Lib.hid (calm_below hb2)
  have HW := Lib.hid hW
  have HkW := Lib.hid hkW
  have Hs2 := Lib.hid (show ((w.alloc (.cells #[.int .i64 0] 23)).alloc (.cells #[] 85)).heap.size = w.heap.size + 2 by simp)
  have Hok := Lib.hid hok
  have Hs1 := Lib.hid hs1
  have Hc1 := Lib.hid hc1
  clear hW h hok hkW hk hs1 hc1 hb2
  go_enter_defers Try.func23, Try.ntmps23
  go_wp2_with fail
  refine (want_ok 23 _).mono ?_
  rintro e w1 ⟨rfl, rfl⟩
  generalize (w.alloc (.cells #[.int .i64 0] 23)).alloc (.cells #[] 85) = W at *
  have hWl : W.heap.size = w.heap.size + 2 := Hs2.out
  have hI0 : CrashI w W D.q f 0 (W.alloc (.cells c1 4)) := ⟨fun k hk => absurd hk (Nat.not_lt_zero k), row_of W c1 4 _ Hs1.out Hc1.out hWl, (Below.refl _ W).alloc (by omega) _⟩
  have HI0 := Lib.hid hI0
  have Hwl := Lib.hid hWl
  clear hI0 hWl
  go_wp2_with fail
  rw [Hwl.out]
  clear c0 e1 c2 c3 c4 c5 hm1
  generalize W.alloc (.cells c1 4) = V at *
  go_loopw [20] (fun t wr => ∃ i : Nat, i ≤ n ∧ t = .int .i64 i ∧ CrashI w W D.q f i wr) (fun t _ => n - (intOf t).toNat)
  case atStart => exact ⟨0, by omega, by go_num, HI0.out⟩
  case round =>
    obtain ⟨i, hi, rfl, hI⟩ := hrel
    have HI := Lib.hid hI; clear hI
    have hbW : Below W.heap.size W wr := by rw [Hwl.out]; exact HI.out.below
    have HDr := Lib.hid (HW.out.all hbW)
    have HBr := Lib.hid (Hbw.out.trans (hbW.mono (by rw [Hwl.out]; omega)))
    have Hror := Lib.hid (Hro.out.all hbW)
    have HCr := Lib.hid (Hcw.out.trans (calm_below hbW))
    have hkr0 := HkW.out.all hbW
    have Hkr0 := Lib.hid hkr0
    have hkr := hkr0.iarg
    clear hkr0
    clear hbW
    by_cases hlt2 : i < n
    · rcases hkr with ⟨hn0, _⟩ | ⟨b, off, cap', hv, hn0, hnc, hcm, hcells, hfb⟩
      · omega
      cases hv
      have e0 : wr.cell? ⟨b, off + i, none⟩ = some (.int .i64 (f i)) := hcells i hlt2
      have hdlt : decide ((i : Int) < n) = true := decide_eq_true (by omega)
      have hfi := hfb i hlt2
      clear hcells hfb
      by_cases hp : 0 ≤ f i
      · obtain ⟨m, hm⟩ : ∃ m : Nat, f i = m := ⟨(f i).toNat, by omega⟩
        have Hm := Lib.hid hm
        rw [hm] at e0 hfi
        clear hp hm
        by_cases hq : m < D.q
        · have hdq : decide ((m : Int) < D.q) = true := decide_eq_true (by omega)
          have e1 := HI.out.met.cell (i := m) (by omega)
          have z1 := HI.out.met.frozen m
          unfold badV at e1
          rcases hmt : metB f i m with _ | _
          · rw [hmt] at e1
            have HN := Lib.hid (HI.out.next Hm.out hq hmt)
            clear hmt
            go_wp2_with fail
            refine (want_ok 1 _).mono ?_
            rintro e w1 ⟨rfl, rfl⟩
            go_wp2
            go_roundw
            case rel => exact ⟨i + 1, by omega, by go_num, HN.out⟩
            case measure => simp [intOf]; omega
          · rw [hmt] at e1
            have Hno := Lib.hid (show ¬ keepOk D.q n f from fun hko => by
              obtain ⟨k, hk, hkm⟩ := metB_true.1 hmt
              exact (hko i hlt2).2 k hk (by rw [hkm, Hm.out]))
            clear hmt
            have Hcat := Lib.hid (catch_fail_n ⟨w.heap.size + 1, 0, none⟩ ⟨w.heap.size, 0, none⟩ 1 wr _ ((Hror.out.alloc (.cells #[] 85)).cell (i := 0) (by omega)) ((Hror.out.alloc (.cells #[] 85)).frozen 0))
            have y1 := Lib.hid (((Hror.out.alloc (.cells #[] 85)).set1 (.int .i64 1)).cell (i := 0) (by omega))
            go_wp2_with fail
            refine (want_not 1 _).mono ?_
            rintro e w1 ⟨rfl, rfl⟩
            go_wp2
            refine leaves_cons (f := 38) (args := #[.pointer (some ⟨w.heap.size + 1, 0, none⟩), .pointer (some ⟨w.heap.size, 0, none⟩)]) (by simp) (by simp [go_sem]) ?_
            refine Hcat.out.mono ?_
            rintro e u' w'' ⟨rfl, rfl, rfl⟩
            simp [Leaves, settle, results, Try.results23, go_sem, y1.out, failR]
            exact .inr ⟨Hno.out, out1_end HDr.out HBr.out Hror.out hlt HCr.out⟩
        · have hdq : decide ((m : Int) < D.q) = false := decide_eq_false (by omega)
          have Hno := Lib.hid (show ¬ keepOk D.q n f from fun hko => by
            have := (hko i hlt2).1.2
            rw [Hm.out] at this
            omega)
          have Hcat := Lib.hid (catch_fail_n ⟨w.heap.size + 1, 0, none⟩ ⟨w.heap.size, 0, none⟩ 1 wr _ ((Hror.out.alloc (.cells #[] 85)).cell (i := 0) (by omega)) ((Hror.out.alloc (.cells #[] 85)).frozen 0))
          have y1 := Lib.hid (((Hror.out.alloc (.cells #[] 85)).set1 (.int .i64 1)).cell (i := 0) (by omega))
          go_wp2_with fail
          refine (want_not 1 _).mono ?_
          rintro e w1 ⟨rfl, rfl⟩
          go_wp2
          refine leaves_cons (f := 38) (args := #[.pointer (some ⟨w.heap.size + 1, 0, none⟩), .pointer (some ⟨w.heap.size, 0, none⟩)]) (by simp) (by simp [go_sem]) ?_
          refine Hcat.out.mono ?_
          rintro e u' w'' ⟨rfl, rfl, rfl⟩
          simp [Leaves, settle, results, Try.results23, go_sem, y1.out, failR]
          exact .inr ⟨Hno.out, out1_end HDr.out HBr.out Hror.out hlt HCr.out⟩
      · have hdp : decide (0 ≤ f i) = false := decide_eq_false hp
        have Hno := Lib.hid (show ¬ keepOk D.q n f from fun hko => hp (hko i hlt2).1.1)
        clear hp
        generalize f i = fi at *
        have Hcat := Lib.hid (catch_fail_n ⟨w.heap.size + 1, 0, none⟩ ⟨w.heap.size, 0, none⟩ 1 wr _ ((Hror.out.alloc (.cells #[] 85)).cell (i := 0) (by omega)) ((Hror.out.alloc (.cells #[] 85)).frozen 0))
        have y1 := Lib.hid (((Hror.out.alloc (.cells #[] 85)).set1 (.int .i64 1)).cell (i := 0) (by omega))
        go_wp2_with fail
        refine (want_not 1 _).mono ?_
        rintro e w1 ⟨rfl, rfl⟩
        go_wp2
        refine leaves_cons (f := 38) (args := #[.pointer (some ⟨w.heap.size + 1, 0, none⟩), .pointer (some ⟨w.heap.size, 0, none⟩)]) (by simp) (by simp [go_sem]) ?_
        refine Hcat.out.mono ?_
        rintro e u' w'' ⟨rfl, rfl, rfl⟩
        simp [Leaves, settle, results, Try.results23, go_sem, y1.out, failR]
        exact .inr ⟨Hno.out, out1_end HDr.out HBr.out Hror.out hlt HCr.out⟩
    · obtain rfl : i = n := by omega
      have hko : keepOk D.q i f := HI.out.ok
      have hdlt : decide ((i : Int) < i) = false := decide_eq_false (by omega)
      have Hko := Lib.hid hko
      have Hkf := Lib.hid (show ∀ k, k < i → f k = ((f k).toNat : Int) from fun k hk => by have := (hko k hk).1.1; omega)
      have Hkq := Lib.hid (show ∀ k, k < i → (f k).toNat < D.q from fun k hk => by have := (hko k hk).1; omega)
      clear hlt2 hi hko hkr
      have hrl : w.heap.size + 2 ≤ wr.heap.size := by have := HI.out.met.lt; omega
      go_wp2_with fail
      refine (kept_any wr).mono ?_
      rintro e w3 ⟨rfl, rfl⟩
      go_wp2_with fail
      have hb3 : Below wr.heap.size wr ((wr.alloc (.cells #[.pointer (some ⟨g, 0, none⟩)] 22)).alloc (.cells #[.slice kx i kcap] 29)) := ((Below.refl _ wr).alloc (Nat.le_refl _) _).alloc (by simp) _
      have hv0 := (row_new1 wr wr.heap.size (.pointer (some ⟨g, 0, none⟩)) 22 rfl).alloc (.cells #[.slice kx i kcap] 29)
      have hv1 := row_new1 (wr.alloc (.cells #[.pointer (some ⟨g, 0, none⟩)] 22)) (wr.heap.size + 1) (.slice kx i kcap) 29 (by simp)
      have HD3 := Lib.hid (HDr.out.all hb3)
      have HC3 := Lib.hid (HCr.out.trans (calm_below hb3))
      have HB3 := Lib.hid (HBr.out.trans (hb3.mono (by omega)))
      have Hro3 := Lib.hid (Hror.out.all hb3)
      have Hk3 := Lib.hid (Hkr0.out.all hb3)
      have Hv0 := Lib.hid hv0
      have Hv1 := Lib.hid hv1
      clear hv0 hv1 hb3 HDr HBr Hror Hkr0 HI HW HkW HI0
      generalize (wr.alloc (.cells #[.pointer (some ⟨g, 0, none⟩)] 22)).alloc (.cells #[.slice kx i kcap] 29) = V3 at *
      refine (flush_any V3 HD3.out 62 #[.pointer (some ⟨wr.heap.size + 1, 0, none⟩), .pointer (some ⟨wr.heap.size, 0, none⟩)] (fun k => D.qa (f k).toNat) (fun k => D.qb (f k).toNat) i
        (KeptRd B (wr.heap.size + 1) wr.heap.size g (.slice kx i kcap) (.slice x D.q cap) i (fun k => (f k).toNat) D.q D.qa D.qb) (fun _ _ => rfl)
        (fun N => kept1_iter N B (wr.heap.size + 1) wr.heap.size g (.slice kx i kcap) (.slice x D.q cap) i hn (fun k => (f k).toNat) D.q Hkq.out D.qa D.qb) (fun k hk => Hok.out.put _ (Hkq.out k hk)) (fun k j => Hok.out.pbyte _ j) (fun U D' hd h1 h2 h3 ho => ?_)).mono ?_
      · refine ⟨(Hv1.out.only2 ho (Hv1.out.neType HD3.out.sec (by decide)) (Hv1.out.neType HD3.out.bad (by decide))).cell (i := 0) (by omega), (Hv0.out.only2 ho (Hv0.out.neType HD3.out.sec (by decide)) (Hv0.out.neType HD3.out.bad (by decide))).cell (i := 0) (by omega), hd.cells.2.2.1, (Hk3.out.only2 ho HD3.out.sec HD3.out.bad HD3.out.base.2.1 HD3.out.base.2.2).congr Hkf.out, ?_⟩
        have hq := hd.que
        rw [h1, h2, h3] at hq
        exact hq
      rintro e w4 ⟨rfl, hD4, hB4, hO4⟩
      have hro4 := Hro3.out.only3 hO4 (Hro3.out.neType HD3.out.row (by decide)) (Hro3.out.neType HD3.out.sec (by decide)) (Hro3.out.neType HD3.out.bad (by decide))
      have hro5 := (hro4.setOther ⟨g, 4, none⟩ (.bool false) (hD4.row.neType hro4 (by decide))).setOther ⟨g, 5, none⟩ (.int .i64 0) (hD4.row.neType hro4 (by decide))
      have hD5 := hD4.arm false 0 ⟨by decide, by decide⟩
      have hB5 := (((HB3.out.trans hB4).setCell (p := ⟨g, 4, none⟩) hD4.base.1 (.bool false)).setCell (p := ⟨g, 5, none⟩) hD4.base.1 (.int .i64 0)).setCell (p := ⟨w.heap.size, 0, none⟩) hlt (.int .i64 0)
      have HC5 := Lib.hid ((((HC3.out.trans (calm_only3 HD3.out hO4)).setDisk (i := 4) hD4.row rfl (.bool false)).setDisk (i := 5) (hD4.row.set 4 (.bool false)) rfl (.int .i64 0)).setNew (g := w.heap.size) (i := 0) (Nat.le_refl _) (.int .i64 0))
      obtain ⟨d0, d1, d2, d3, d4, d5⟩ := hD4.cells
      have z4 := hD4.row.frozen 4
      have z5 := hD4.row.frozen 5
      have HD5 := Lib.hid (hD5.other hro5 0 (.int .i64 0))
      have HB5 := Lib.hid hB5
      have Hro5 := Lib.hid hro5
      clear hro4 hro5 hD5 hB5 hD4 hB4 hO4 Hk3 Hv0 Hv1 Hro3 HD3 HB3
      go_upto_region 12 with fail
      clear d0 d1 d2 d3 d4 d5 z4 z5
      generalize (w4.setCell ⟨g, 4, none⟩ (.bool false)).setCell ⟨g, 5, none⟩ (.int .i64 0) = w5 at *
      have e0 := Hro5.out.cell (i := 0) (by omega)
      have f0 := Hro5.out.frozen 0
      have y1 := Lib.hid ((Hro5.out.set1 (.int .i64 0)).cell (i := 0) (by omega))
      clear Hro5
      go_wp2
      refine leaves_cons (f := 38) (args := #[.pointer (some ⟨w.heap.size + 1, 0, none⟩), .pointer (some ⟨w.heap.size, 0, none⟩)]) (by simp) (by simp [go_sem]) ?_
      refine (catch_idle_n _ _ _).mono ?_
      rintro e u' w'' ⟨rfl, rfl, rfl⟩
      simp [Leaves, settle, results, Try.results23, go_sem, y1.out]
      exact .inl ⟨Hko.out, _, rfl, HD5.out, HB5.out, HC5.out⟩

end Go.Proofs.Ytjhcaedfknhilaa

namespace Go.Proofs.Ytjhcaedfknhilaa
set_option linter.unusedVariables false
set_option linter.unusedSimpArgs false
open Go.RowKit
attribute [local go_sem ↓] Go.wp_at_zero Go.wp_at_succ
attribute [-go_sem] loadCellsFrom storeCells
attribute [local go_sem] storeCells_one

theorem info_u8d : (Try.prog.info? 5).map (fun i => (i.zero, i.size, i.bytes)) = some (some (.int .u8 0), 1, 1) := by kernel_rfl
theorem one_sec (f : Nat → Int) : ((secL f).toArray).all (·.oneCell') = true := all_oneCell_toArray fun v hv => by
  obtain ⟨j, _, rfl⟩ := List.mem_map.1 hv
  rfl
/-- A sector stored into a box that was made last. -/
theorem storeC_secZ (w : World) (f : Nat → Int) :
    (storeCells ⟨w.heap.size, 0, none⟩ (secL f) 0).run Try.prog (w.alloc (.cells #[.int .u8 0, .int .u8 0, .int .u8 0, .int .u8 0, .int .u8 0, .int .u8 0, .int .u8 0, .int .u8 0, .int .u8 0, .int .u8 0, .int .u8 0, .int .u8 0, .int .u8 0, .int .u8 0, .int .u8 0, .int .u8 0, .int .u8 0, .int .u8 0, .int .u8 0, .int .u8 0, .int .u8 0, .int .u8 0, .int .u8 0, .int .u8 0, .int .u8 0, .int .u8 0, .int .u8 0, .int .u8 0, .int .u8 0, .int .u8 0, .int .u8 0, .int .u8 0, .int .u8 0, .int .u8 0, .int .u8 0, .int .u8 0, .int .u8 0, .int .u8 0, .int .u8 0, .int .u8 0, .int .u8 0, .int .u8 0, .int .u8 0, .int .u8 0, .int .u8 0, .int .u8 0, .int .u8 0, .int .u8 0, .int .u8 0, .int .u8 0, .int .u8 0, .int .u8 0, .int .u8 0, .int .u8 0, .int .u8 0, .int .u8 0, .int .u8 0, .int .u8 0, .int .u8 0, .int .u8 0, .int .u8 0, .int .u8 0, .int .u8 0, .int .u8 0] 79)) = .ok () (w.alloc (.cells (secL f).toArray 79)) := by
  rw [zlit]
  have := run_storeCells_new (P := Try.prog) w 79 (Array.replicate 64 (.int .u8 0)) (secL f).toArray (by rw [List.size_toArray, secL_len]; exact size_sec) (by simp [secL_len]) (one_sec f)
  simpa using this
theorem box_sec (w : World) (f : Nat → Int) : RowAt (w.alloc (.cells (secL f).toArray 79)) w.heap.size 79 64 64 (fun i => .int .u8 (f i)) :=
  row_of w _ _ _ (by simp [secL_len]) (fun i hi => by rw [List.getElem?_toArray]; exact secL_get f hi) rfl

def Dsk.hasF (D : Dsk) (j : Nat) : Nat → Int := (D.has j).getD (fun _ => 0)
/-- The bytes that Read returns. -/
def readV (D : Dsk) (a : Nat) (k : Nat) : Value := .int .u8 (D.hasF (a + k / 64) (k % 64))
def readOk (D : Dsk) (a m : Nat) : Prop := ∀ i, i < m → ∃ f, D.has (a + i) = some f

theorem Own.slice {w : World} {B : Nat} {e : TypeId} {v : Value} {n : Nat} {f : Nat → Value} (h : Own w B e v n f) : ∃ a cap, v = .slice a n cap := by
  rcases h with ⟨rfl, rfl⟩ | ⟨g, cap, rfl, _⟩
  · exact ⟨_, _, rfl⟩
  · exact ⟨_, _, rfl⟩
/-- What a round of Read finds. -/
structure ReadI (w : World) (D : Dsk) (a i : Nat) (v : Value) (wr : World) : Prop where
  ok : readOk D a i
  below : Below w.heap.size w wr
  box : RowAt wr w.heap.size 27 1 1 (fun _ => v)
  err : RowAt wr (w.heap.size + 1) 23 1 1 (fun _ => .int .i64 0)
  own : Own wr (w.heap.size + 2) 5 v (i * 64) (readV D a)

theorem ReadI.next {w wr w2 w3 : World} {D : Dsk} {a i : Nat} {v v' : Value} {f : Nat → Int} (h : ReadI w D a i v wr) (hf : D.has (a + i) = some f) (hb : Below wr.heap.size wr w2)
    (hown : Own w3 (w.heap.size + 2) 5 v' (i * 64 + 64) (fun k => if k < i * 64 then readV D a k else (fun j => Value.int .u8 (f j)) (k - i * 64))) (hg : w2.grownBy w3 v.ownBlock) :
    ReadI w D a (i + 1) v' (w3.setCell ⟨w.heap.size, 0, none⟩ v') := by
  have hrl := h.err.lt
  have ho2 := h.own.all hb
  have hn0 : v.ownBlock ≠ some w.heap.size := h.own.ne (by omega)
  have hn1 : v.ownBlock ≠ some (w.heap.size + 1) := h.own.ne (by omega)
  have hb3 : Below w.heap.size w w3 := (h.below.trans (hb.mono (by omega))).grown hg (by have := hb.size; omega) (fun k hk => by have := (h.own.isCells k hk).1; omega)
  have hbox := (h.box.all hb).grown hg hn0
  have herr := (h.err.all hb).grown hg hn1
  refine ⟨fun k hk => ?_, hb3.setCell (p := ⟨w.heap.size, 0, none⟩) (Nat.le_refl _) _, hbox.set1 v', herr.setOther _ _ (by simp), ?_⟩
  · by_cases hki : k = i
    · subst hki; exact ⟨f, hf⟩
    · exact h.ok k (by omega)
  · rw [show (i + 1) * 64 = i * 64 + 64 from by omega]
    refine (hown.congr fun k hk => ?_).setOther _ _ (by simp)
    by_cases hk2 : k < i * 64
    · rw [if_pos hk2]
    · rw [if_neg hk2]
      unfold readV Dsk.hasF
      rw [show k / 64 = i from by omega, hf, show k % 64 = k - i * 64 from by omega]
      rfl

/-- What Read leaves. -/
def ReadP (B g gs gb : Nat) (qv : Value) (D : Dsk) (a m : Nat) (w : World) (e : Ending) (w' : World) : Prop :=
  (¬ readOk D a m ∧ Read2 B g gs gb qv 7 D w e w') ∨
  (readOk D a m ∧ ∃ v, e = .returned (.tuple #[v, .int .i64 0]) ∧ Own w' w.heap.size 5 v (m * 64) (readV D a) ∧ DiskIn B g gs gb qv D w' ∧ Below w.heap.size w w')

set_option maxRecDepth 8000 in
set_option maxHeartbeats 4000000 in
theorem Read_any {B g gs gb : Nat} {qv : Value} {D : Dsk} (a m : Nat) (w : World) (h : DiskIn B g gs gb qv D w) (ha : a + m ≤ D.n) (hoff : D.off = false) :
    Calls Try.prog 20 #[.pointer (some ⟨g, 0, none⟩), .int .i64 a, .int .i64 m] w (ReadP B g gs gb qv D a m w) := by
  have hsz := h.ok.size
  have hb2 : Below w.heap.size w ((w.alloc (.cells #[.slice none 0 0] 27)).alloc (.cells #[.int .i64 0] 23)) := ((Below.refl _ w).alloc (Nat.le_refl _) _).alloc (by simp) _
  have hI0 : ReadI w D a 0 (.slice none 0 0) ((w.alloc (.cells #[.slice none 0 0] 27)).alloc (.cells #[.int .i64 0] 23)) :=
    ⟨fun i hi => absurd hi (Nat.not_lt_zero i), hb2, (row_new1 w w.heap.size (.slice none 0 0) 27 rfl).alloc _, row_new1 (w.alloc (.cells #[.slice none 0 0] 27)) (w.heap.size + 1) (.int .i64 0) 23 (by simp), .inl ⟨rfl, by omega⟩⟩
  have hW := h.all hb2
  obtain ⟨c0, c1, c2, c3, c4, c5⟩ := hW.cells
  have HI0 := Lib.hid hI0
  have HW := Lib.hid hW
  have Hd := Lib.hid h
  have Hoff := Lib.hid hoff
  clear hI0 hW h hoff hb2
  have h1 : (0 : Int) ≤ a := by omega
  have h2 : (0 : Int) ≤ m := by omega
  have d3 : decide (a ≤ D.n) = true := decide_eq_true (by omega)
  have d4 : decide ((m : Int) ≤ (D.n : Int) - a) = true := decide_eq_true (by omega)
  have hmo : Try.prog.follows .mixedOrders = true := by kernel_rfl
  go_enter_defers Try.func20, Try.ntmps20
  go_wp2_with fail
  refine (want_ok 23 _).mono ?_
  rintro e w1 ⟨rfl, rfl⟩
  go_wp2_with fail
  refine (want_ok 1 _).mono ?_
  rintro e w1 ⟨rfl, rfl⟩
  go_wp2_with fail
  refine (ready_ok _ HW.out Hoff.out).mono ?_
  rintro e w1 ⟨rfl, rfl⟩
  clear c0 c1 c2 c3 c4 c5
  generalize (w.alloc (.cells #[.slice none 0 0] 27)).alloc (.cells #[.int .i64 0] 23) = W at *
  go_wp2_with fail
  go_loopw [45] (fun t wr => ∃ i : Nat, i ≤ m ∧ t = .int .i64 i ∧ ∃ v, ReadI w D a i v wr) (fun t _ => m - (intOf t).toNat)
  case atStart => exact ⟨0, by omega, by go_num, _, HI0.out⟩
  case round =>
    obtain ⟨i, hi, rfl, v, hI⟩ := hrel
    have HI := Lib.hid hI; clear hI
    have hDr := Hd.out.all HI.out.below
    have HDr := Lib.hid hDr; clear hDr
    by_cases hlt2 : i < m
    · have hdlt : decide ((i : Int) < m) = true := decide_eq_true (by omega)
      go_wp2_with fail
      have hsum : (a : Int) + i = ((a + i : Nat) : Int) := by omega
      rw [hsum]
      clear hsum
      refine (has_any (a + i) wr HDr.out (by omega)).mono ?_
      rintro e w2 ⟨hb, (⟨f, hf, rfl⟩ | ⟨hf, rfl⟩)⟩
      · have Hf := Lib.hid hf
        have Hb := Lib.hid hb
        clear hf hb
        have hs := fun w => storeC_secZ w f
        have hlen := secL_len f
        have hrow := box_sec w2 f
        have hb4 : Below wr.heap.size wr (w2.alloc (.cells (secL f).toArray 79)) := Hb.out.alloc Hb.out.size _
        have Hrow := Lib.hid hrow
        have Hb4 := Lib.hid hb4
        clear hrow hb4
        generalize secL f = cs at *
        go_upto_region 9 with fail
        have hbx := HI.out.box.all Hb4.out
        generalize hV : w2.alloc (.cells cs.toArray 79) = V at *
        clear hV
        have hbx0 := hbx.cell (i := 0) (by omega)
        have hbz0 := hbx.frozen 0
        have hrl := HI.out.err.lt
        go_still_tail 2, hmo
        refine wpList_append_o (w := V.drew) rfl _ _ 27 5 _ _ rfl Try.underlying27 info_u8d rfl (w.heap.size + 2) v (i * 64) (readV D a) rfl (HI.out.own.all Hb4.out.drew) w2.heap.size 0 64 64 (fun k => .int .u8 (f k)) rfl Hrow.out.drew.reads (fun _ _ => rfl) (by omega) (by decide) (by have := Hb4.out.size; show w.heap.size + 2 ≤ V.heap.size; omega) ?_
        intro v' w3 hown' hgr _ _
        have hbx3 := (hbx.drew).grown hgr (HI.out.own.ne (by omega))
        have hbx3c := hbx3.cell (i := 0) (by omega)
        have hbx3z := hbx3.frozen 0
        obtain ⟨av, cv, rfl⟩ := (Own.slice hown')
        have HN := Lib.hid (HI.out.next Hf.out Hb4.out.drew hown' hgr)
        clear hown' hgr hbx hbx0 hbz0 hbx3
        go_wp2
        go_roundw
        case rel => exact ⟨i + 1, by omega, by go_num, _, HN.out⟩
        case measure => simp [intOf]; omega
      · have hbx := HI.out.box.all hb
        have her := HI.out.err.all hb
        have hne : w.heap.size + 1 ≠ w.heap.size := by omega
        have Hcat := Lib.hid (catch_fail_b ⟨w.heap.size, 0, none⟩ ⟨w.heap.size + 1, 0, none⟩ 7 w2 _ _ (hbx.cell (i := 0) (by omega)) (hbx.frozen 0) ((her.setOther ⟨w.heap.size, 0, none⟩ (.slice none 0 0) (by simp)).cell (i := 0) (by omega)) ((her.setOther ⟨w.heap.size, 0, none⟩ (.slice none 0 0) (by simp)).frozen 0))
        have y0 := Lib.hid (((hbx.set1 (.slice none 0 0)).setOther ⟨w.heap.size + 1, 0, none⟩ (.int .i64 7) (by simp)).cell (i := 0) (by omega))
        have y1 := Lib.hid (((her.setOther ⟨w.heap.size, 0, none⟩ (.slice none 0 0) (by simp)).set1 (.int .i64 7)).cell (i := 0) (by omega))
        have Hno := Lib.hid (show ¬ readOk D a m from fun hr => by
          obtain ⟨f, hf2⟩ := hr i hlt2
          rw [hf] at hf2; cases hf2)
        have hbb : Below w.heap.size w ((w2.setCell ⟨w.heap.size, 0, none⟩ (.slice none 0 0)).setCell ⟨w.heap.size + 1, 0, none⟩ (.int .i64 7)) := ((HI.out.below.trans (hb.mono HI.out.below.size)).setCell (p := ⟨w.heap.size, 0, none⟩) (Nat.le_refl _) _).setCell (p := ⟨w.heap.size + 1, 0, none⟩) (Nat.le_add_right _ _) _
        have Hbb := Lib.hid hbb
        clear hbb hf hbx her hb hne
        go_wp2
        refine leaves_cons (f := 41) (args := #[.pointer (some ⟨w.heap.size, 0, none⟩), .pointer (some ⟨w.heap.size + 1, 0, none⟩)]) (by simp) (by simp [go_sem]) ?_
        refine Hcat.out.mono ?_
        rintro e u' w'' ⟨rfl, rfl, rfl⟩
        simp [Leaves, settle, results, Try.results20, go_sem, y0.out, y1.out, failR]
        exact .inl ⟨Hno.out, rfl, Hd.out.all Hbb.out, Hbb.out⟩
    · obtain rfl : i = m := by omega
      have hdlt : decide ((i : Int) < i) = false := decide_eq_false (by omega)
      have hrl := HI.out.err.lt
      obtain ⟨av, cv, rfl⟩ := (Own.slice HI.out.own)
      have hbx0 := HI.out.box.cell (i := 0) (by omega)
      have hbz0 := HI.out.box.frozen 0
      have her0 := HI.out.err.cell (i := 0) (by omega)
      have hez0 := HI.out.err.frozen 0
      have y0 := Lib.hid (((HI.out.box.set1 (.slice av (i * 64) cv)).setOther ⟨w.heap.size + 1, 0, none⟩ (.int .i64 0) (by simp)).cell (i := 0) (by omega))
      have y1 := Lib.hid (((HI.out.err.setOther ⟨w.heap.size, 0, none⟩ (.slice av (i * 64) cv) (by simp)).set1 (.int .i64 0)).cell (i := 0) (by omega))
      have Hbb := Lib.hid ((HI.out.below.setCell (p := ⟨w.heap.size, 0, none⟩) (Nat.le_refl _) (.slice av (i * 64) cv)).setCell (p := ⟨w.heap.size + 1, 0, none⟩) (Nat.le_add_right _ _) (.int .i64 0))
      have Hown := Lib.hid (((HI.out.own.setOther ⟨w.heap.size, 0, none⟩ (.slice av (i * 64) cv) (by simp)).setOther ⟨w.heap.size + 1, 0, none⟩ (.int .i64 0) (by simp)).mono (B' := w.heap.size) (by omega))
      go_wp2
      refine leaves_cons (f := 41) (args := #[.pointer (some ⟨w.heap.size, 0, none⟩), .pointer (some ⟨w.heap.size + 1, 0, none⟩)]) (by simp) (by simp [go_sem]) ?_
      refine (catch_idle_b _ _ _).mono ?_
      rintro e u' w'' ⟨rfl, rfl, rfl⟩
      simp [Leaves, settle, results, Try.results20, go_sem, y0.out, y1.out]
      exact .inr ⟨HI.out.ok, _, rfl, Hown.out, Hd.out.all Hbb.out, Hbb.out⟩

end Go.Proofs.Ytjhcaedfknhilaa

namespace Go.Proofs.Ytjhcaedfknhilaa
set_option linter.unusedVariables false
set_option linter.unusedSimpArgs false
open Go.RowKit

theorem built_put (a : Int) (f : Nat → Int) : Try.prog.built 81 [(0, .int .i64 a), (1, .agg (secL f).toArray)] = some (Value.int .i64 a :: secL f).toArray := by kernel_rfl
theorem run_build_put (a : Int) (f : Nat → Int) (w : World) : (Instr.build 81 #[(0, .int .i64 a), (1, .agg (secL f).toArray)]).run Try.prog w = .ok (.agg (Value.int .i64 a :: secL f).toArray) w :=
  run_build w _ _ _ (built_put a f)

/-- A slice literal of one element of k cells. -/
theorem run_bs_one {P : Program} (w : World) (t e : TypeId) (cs : Array Value) (k : Nat) (hu : P.underlying t = some (.slice e)) (hi : ∃ ie z, P.info? e = some ie ∧ ie.zero = some z ∧ ie.size = k) (hk : 0 < k) (hk2 : k ≤ 1000) (hc : cs.size = k) :
    (Instr.buildSlice t 1 #[(0, .agg cs)]).run P w = .ok (.slice (some ⟨w.heap.size, 0, none⟩) 1 1) (w.alloc (.cells cs e)) := by
  obtain ⟨ie, z, h1, h2, h3⟩ := hi
  subst h3
  refine run_buildSlice w t e 1 _ cs ie z hu h1 h2 (by omega) (by omega) ?_
  have := Great.fill_whole hk [.agg cs] ((Array.range (1 * ie.size)).map (z.cells[· % z.cells.size]!)) (fun v hv => by
    obtain rfl := List.mem_singleton.1 hv
    exact hc) (by simp)
  simpa [Value.cells] using this

theorem info_of_map {P : Program} {e : TypeId} {z : Value} {k b : Nat} (h : (P.info? e).map (fun i => (i.zero, i.size, i.bytes)) = some (some z, k, b)) : ∃ ie z, P.info? e = some ie ∧ ie.zero = some z ∧ ie.size = k := by
  obtain ⟨i, hi, h1, h2, _⟩ := info_parts h
  exact ⟨i, z, hi, h1, h2⟩
theorem info_putd : ∃ z, (Try.prog.info? 81).map (fun i => (i.zero, i.size, i.bytes)) = some (some z, 65, 72) ∧ z.cells.size = 65 := ⟨.agg (.int .i64 0 :: (List.replicate 64 (.int .u8 0))).toArray, by kernel_rfl, by kernel_rfl⟩

end Go.Proofs.Ytjhcaedfknhilaa
