/- Open. -/
import Derived.Test.YtjfcjpkfefmhlaaFixO
namespace Go.Proofs.Ytjfcjpkfefmhlaa
open Go.RowKit
attribute [local go_sem] Oper.semAt_some

/-- A piece of code that does not panic may be walked with no word on panics. -/
theorem wp_calm {P : Program} {c : Code} {K : Act → World → Prop} {Q : Exit → Act → World → Prop} {a : Act} {w : World} (h : c.wp P (Exit.then K (fun _ _ _ => False)) a w) : c.wp P (Exit.then K Q) a w :=
  wp_mono h fun e a w h => by cases e <;> first | exact h | exact h.elim

def OpenBad (w : World) (c : Int) (e : Ending) (w' : World) : Prop := e = .returned (.tuple #[.slice none 0 0, .int .i64 0, .int .i64 c]) ∧ Below w.heap.size w w'

/-- The page behind k rounds of Open. -/
def openK (f : Nat → Int) (k : Nat) (i : Nat) : Int := if i / 64 < k ∧ 62 ≤ i % 64 then f (2 + 2 * (i / 64) + (i % 64 - 62)) else f i
def openF (f : Nat → Int) (i : Nat) : Int := if i < 18 then 0 else openK f 8 i

theorem openK_succ (f : Nat → Int) (k i : Nat) (hk : k < 8) :
    (if 64 * k + 62 ≤ i ∧ i < 64 * k + 62 + 2 then bytesV f (2 + 2 * k + (i - (64 * k + 62))) else bytesV (openK f k) i) = bytesV (openK f (k + 1)) i := by
  unfold bytesV openK
  by_cases h1 : 64 * k + 62 ≤ i ∧ i < 64 * k + 62 + 2
  · have e1 : i / 64 = k := by omega
    have e2 : i % 64 - 62 = i - (64 * k + 62) := by omega
    rw [if_pos h1, if_pos (by omega), e1, e2]
  · rw [if_neg h1]
    by_cases h2 : i / 64 < k ∧ 62 ≤ i % 64
    · rw [if_pos h2, if_pos (by omega)]
    · rw [if_neg h2, if_neg (by omega)]

theorem right_oneH (a : Option Addr) (n cap : Nat) (w : World) (H : Nat) (hH : w.heap.size = H) :
    Calls Try.prog 37 #[.slice (some ⟨H, 0, none⟩) 1 1] (w.alloc (.cells #[.slice a n cap] 22)) fun e w' => e = .returned (.bool ((n : Int) == 512)) ∧ w.alloc (.cells #[.slice a n cap] 22) = w' := by
  subst hH
  exact right_one a n cap w

set_option maxHeartbeats 1000000 in
theorem open_len (a : Option Addr) (n cap : Nat) (hn : n ≠ 512) (w : World) :
    Calls Try.prog 20 #[.slice a n cap] w (OpenBad w 1) := by
  have hb : ((n : Int) == 512) = false := by rw [beq_eq_false_iff_ne]; omega
  have r0 := (((RowAt.new w #[.slice a n cap] 22 _ 1 (by simp) (one_cell rfl)).alloc (.cells #[.int .i64 0] 3))).cell (i := 0) (by omega)
  have r1 := (((RowAt.new (w.alloc (.cells #[.slice a n cap] 22)) #[.int .i64 0] 3 _ 1 (by simp) (one_cell rfl)))).alloc (.cells #[.slice a n cap] 22)
  rw [World.size_alloc] at r1
  have c1 := r1.cell (i := 0) (by omega)
  have z1 := r1.frozen 0
  have r2 := (r1.set1 (.int .i64 0)).cell (i := 0) (by omega)
  have R2 := Lib.hid r2; clear r2 r1
  go_enter Try.func20, Try.ntmps20
  go_wp2_with fail
  refine (right_oneH a n cap _ _ (by simp)).mono ?_
  rintro e w' ⟨rfl, rfl⟩
  rw [hb]
  go_wp2
  refine bodyPost_ret (v := .tuple #[.slice none 0 0, .int .i64 0, .int .i64 1]) (by simp [results, Try.results20, go_sem]) rfl ⟨rfl, ?_⟩
  exact (((Below.refl _ w).alloc (Nat.le_refl _) _).alloc (by simp) _).alloc (by simp; omega) _

set_option maxHeartbeats 1000000 in
theorem open_torn (b off cap : Nat) (hcap : 512 ≤ cap) (hm : cap ≤ maxLen) (f : Nat → Int) (hf : ∀ i, i < 512 → 0 ≤ f i ∧ f i < 256) (hw : wholeB f = false) (w : World) (hc : Cells w b off 512 (bytesV f)) :
    Calls Try.prog 20 #[.slice (some ⟨b, off, none⟩) 512 cap] w (OpenBad w 8) := by
  have hmf : ∀ (fn : Fn) (first cap : Array Value) (w : World), (Instr.makeFunc fn first cap).run Try.prog w = .ok (.func fn first cap) w := fun _ _ _ _ => rfl
  have r0 := ((RowAt.new w #[.slice (some ⟨b, off, none⟩) 512 cap] 22 _ 1 (by simp) (one_cell rfl)).alloc (.cells #[.int .i64 0] 3)).alloc (.cells #[.slice (some ⟨b, off, none⟩) 512 cap] 22)
  have r1 := (((RowAt.new (w.alloc (.cells #[.slice (some ⟨b, off, none⟩) 512 cap] 22)) #[.int .i64 0] 3 _ 1 (by simp) (one_cell rfl)))).alloc (.cells #[.slice (some ⟨b, off, none⟩) 512 cap] 22)
  rw [World.size_alloc] at r1
  have c00 := ((RowAt.new w #[.slice (some ⟨b, off, none⟩) 512 cap] 22 _ 1 (by simp) (one_cell rfl)).alloc (.cells #[.int .i64 0] 3)).cell (i := 0) (by omega)
  have hc3 := ((hc.alloc (.cells #[.slice (some ⟨b, off, none⟩) 512 cap] 22)).alloc (.cells #[.int .i64 0] 3)).alloc (.cells #[.slice (some ⟨b, off, none⟩) 512 cap] 22)
  have hb3 : Below w.heap.size w (((w.alloc (.cells #[.slice (some ⟨b, off, none⟩) 512 cap] 22)).alloc (.cells #[.int .i64 0] 3)).alloc (.cells #[.slice (some ⟨b, off, none⟩) 512 cap] 22)) :=
    (((Below.refl _ w).alloc (Nat.le_refl _) _).alloc (by simp) _).alloc (by simp; omega) _
  have R0 := Lib.hid r0; clear r0
  have R1 := Lib.hid r1; clear r1
  have Hc := Lib.hid hc3; clear hc3 hc
  have Hf := Lib.hid hf; clear hf
  have Hw := Lib.hid hw; clear hw
  go_enter Try.func20, Try.ntmps20
  go_wp2_with fail
  refine (right_oneH _ 512 cap _ _ (by simp)).mono ?_
  rintro e w3 ⟨rfl, rfl⟩
  have hs3 : (((w.alloc (.cells #[.slice (some ⟨b, off, none⟩) 512 cap] 22)).alloc (.cells #[.int .i64 0] 3)).alloc (.cells #[.slice (some ⟨b, off, none⟩) 512 cap] 22)).heap.size = w.heap.size + 3 := by simp
  generalize (((w.alloc (.cells #[.slice (some ⟨b, off, none⟩) 512 cap] 22)).alloc (.cells #[.int .i64 0] 3)).alloc (.cells #[.slice (some ⟨b, off, none⟩) 512 cap] 22)) = w3 at *
  have Hs3 := Lib.hid hs3; clear hs3 c00
  go_wp2_with fail
  have rbf := RowAt.new w3 #[.bool false] 4 _ 1 (by simp) (one_cell rfl)
  have hct := caught_torn 51 #[.pointer (some ⟨w.heap.size, 0, none⟩), .pointer (some ⟨w.heap.size + 1, 0, none⟩)] (enters_of Try.func51 (by kernel_rfl) rfl) w3 (fun W => Below (w3.alloc (.cells #[.bool false] 4)).heap.size (w3.alloc (.cells #[.bool false] 4)) W)
      ((open1_torn b off cap hcap hm _ Hf.out Hw.out w.heap.size (w.heap.size + 1) _ (R0.out.alloc _) (Hc.out.alloc _)).mono (fun e w' ⟨h1, h2⟩ => ⟨h1, h2, rbf.all h2⟩))
  refine hct.mono ?_
  rintro e w5 ⟨rfl, w4, hb4, rfl⟩
  have hb5 : Below w.heap.size w (w4.setCell ⟨w3.heap.size, 0, none⟩ (.bool true)) := ((hb3.alloc hb3.size _).trans (hb4.mono (by simp; have := hb3.size; omega))).setCell (by simp; exact hb3.size) _
  have r5 := (((R1.out.alloc (.cells #[.bool false] 4)).all hb4)).setOther ⟨w3.heap.size, 0, none⟩ (.bool true) (by simp; have := Hs3.out; omega)
  clear hct hb4 rbf
  generalize w4.setCell ⟨w3.heap.size, 0, none⟩ (.bool true) = w5 at *
  have c1 := r5.cell (i := 0) (by omega)
  have z1 := r5.frozen 0
  have r6 := (r5.set1 (.int .i64 0)).cell (i := 0) (by omega)
  clear r5
  go_wp2_with fail
  refine bodyPost_ret (v := .tuple #[.slice none 0 0, .int .i64 0, .int .i64 8]) (by simp [results, Try.results20, go_sem, r6]) rfl ⟨rfl, ?_⟩
  exact hb5.setCell (by simp) _

def OpenOk (w : World) (f : Nat → Int) (e : Ending) (w' : World) : Prop :=
  ∃ g cap, e = .returned (.tuple #[.slice (some ⟨g, 0, none⟩) 512 cap, .int .i64 (markI f 0), .int .i64 0]) ∧ w.heap.size ≤ g ∧ RowAt w' g 5 cap 512 (bytesV (openF f)) ∧ cap ≤ maxLen ∧ Below w.heap.size w w'

/-- What holds between two rounds of Open. -/
structure OpenI (b off cap g h2 cap' : Nat) (w : World) (f : Nat → Int) (k : Nat) (W : World) : Prop where
  bx : RowAt W w.heap.size 22 1 1 (fun _ => .slice (some ⟨b, off, none⟩) 512 cap)
  bm : RowAt W (w.heap.size + 1) 3 1 1 (fun _ => .int .i64 (markI f 0))
  box2 : RowAt W h2 22 1 1 (fun _ => .slice (some ⟨g, 0, none⟩) 512 cap')
  row : RowAt W g 5 cap' 512 (bytesV (openK f k))
  cells : Cells W b off 512 (bytesV f)
  below : Below w.heap.size w W

theorem openI_own {b off cap g h2 cap' : Nat} {w : World} {f : Nat → Int} {n0 : Nat} (h0 : w.heap.size ≤ n0) : OwnFrom n0 (OpenI b off cap g h2 cap' w f) := by
  intro k W W' row h hg hr
  have hr' : ∀ r, row = some r → ∃ o : Obj, W.heap[r]? = some o ∧ o.isCells = false := fun r e => (hr r e).2
  exact ⟨h.bx.kept hg hr', h.bm.kept hg hr', h.box2.kept hg hr', h.row.kept hg hr', h.cells.kept hg hr', below_keptFrom h.below h0 (Nat.le_refl _) hg hr⟩

set_option maxHeartbeats 2000000 in
theorem open_ok (b off cap : Nat) (hcap : 512 ≤ cap) (hm : cap ≤ maxLen) (f : Nat → Int) (hf : ∀ i, i < 512 → 0 ≤ f i ∧ f i < 256) (hw : wholeB f = true) (w : World) (hc : Cells w b off 512 (bytesV f)) :
    Calls Try.prog 20 #[.slice (some ⟨b, off, none⟩) 512 cap] w (OpenOk w f) := by
  have hmf : ∀ (fn : Fn) (first cap : Array Value) (w : World), (Instr.makeFunc fn first cap).run Try.prog w = .ok (.func fn first cap) w := fun _ _ _ _ => rfl
  have r0 := ((RowAt.new w #[.slice (some ⟨b, off, none⟩) 512 cap] 22 _ 1 (by simp) (one_cell rfl)).alloc (.cells #[.int .i64 0] 3)).alloc (.cells #[.slice (some ⟨b, off, none⟩) 512 cap] 22)
  have r1 := (((RowAt.new (w.alloc (.cells #[.slice (some ⟨b, off, none⟩) 512 cap] 22)) #[.int .i64 0] 3 _ 1 (by simp) (one_cell rfl)))).alloc (.cells #[.slice (some ⟨b, off, none⟩) 512 cap] 22)
  rw [World.size_alloc] at r1
  have c00 := ((RowAt.new w #[.slice (some ⟨b, off, none⟩) 512 cap] 22 _ 1 (by simp) (one_cell rfl)).alloc (.cells #[.int .i64 0] 3)).cell (i := 0) (by omega)
  have hc3 := ((hc.alloc (.cells #[.slice (some ⟨b, off, none⟩) 512 cap] 22)).alloc (.cells #[.int .i64 0] 3)).alloc (.cells #[.slice (some ⟨b, off, none⟩) 512 cap] 22)
  have hb3 : Below w.heap.size w (((w.alloc (.cells #[.slice (some ⟨b, off, none⟩) 512 cap] 22)).alloc (.cells #[.int .i64 0] 3)).alloc (.cells #[.slice (some ⟨b, off, none⟩) 512 cap] 22)) :=
    (((Below.refl _ w).alloc (Nat.le_refl _) _).alloc (by simp) _).alloc (by simp; omega) _
  have hbw := hc.lt (by omega)
  have R0 := Lib.hid r0; clear r0
  have R1 := Lib.hid r1; clear r1
  have Hc := Lib.hid hc3; clear hc3 hc
  have Hf := Lib.hid hf; clear hf
  have Hw := Lib.hid hw; clear hw
  refine (callsIn_wide (n := 3)).1 ?_
  refine callsIn_of_wp_marks Try.func20 rfl trivial ?_ rfl
  simp only [Try.ntmps20, List.size_toArray, List.length_cons, List.length_nil, Nat.reduceAdd, Nat.reduceSub, Array.replicate_succ, Array.replicate_zero, List.push_toArray, List.append_toArray, List.nil_append, List.cons_append]
  gi_wp2_with fail
  refine ⟨trivial, (callsW _ (right_oneH _ 512 cap _ _ (by simp))).mono ?_⟩
  rintro e w3 ⟨rfl, rfl⟩
  have hs3 : (((w.alloc (.cells #[.slice (some ⟨b, off, none⟩) 512 cap] 22)).alloc (.cells #[.int .i64 0] 3)).alloc (.cells #[.slice (some ⟨b, off, none⟩) 512 cap] 22)).heap.size = w.heap.size + 3 := by simp
  generalize (((w.alloc (.cells #[.slice (some ⟨b, off, none⟩) 512 cap] 22)).alloc (.cells #[.int .i64 0] 3)).alloc (.cells #[.slice (some ⟨b, off, none⟩) 512 cap] 22)) = w3 at *
  have Hs3 := Lib.hid hs3; clear hs3 c00
  gi_wp2_with fail
  have rbf := RowAt.new w3 #[.bool false] 4 _ 1 (by simp) (one_cell rfl)
  have hct := caught_ok 51 #[.pointer (some ⟨w.heap.size, 0, none⟩), .pointer (some ⟨w.heap.size + 1, 0, none⟩)] (enters_of Try.func51 (by kernel_rfl) rfl) w3
      (fun W => ∃ W1, Below (w3.alloc (.cells #[.bool false] 4)).heap.size (w3.alloc (.cells #[.bool false] 4)) W1 ∧ W1.setCell ⟨w.heap.size + 1, 0, none⟩ (.int .i64 (markI f 0)) = W)
      ((open1_ok b off cap hcap hm _ Hf.out Hw.out w.heap.size (w.heap.size + 1) 0 _ (R0.out.alloc _) (R1.out.alloc _) (Hc.out.alloc _)).mono (fun e w' ⟨h1, W1, h2, h3⟩ => ⟨h1, ⟨W1, h2, h3⟩, by rw [← h3]; exact (rbf.all h2).setOther _ _ (by simp; have := Hs3.out; omega)⟩))
  refine ⟨trivial, (callsW _ hct).mono ?_⟩
  rintro e w5 ⟨rfl, w4, ⟨W1, hb4, rfl⟩, hw5⟩
  have hb5 : Below w.heap.size w w5 := by rw [hw5]; exact (((hb3.alloc hb3.size _).trans (hb4.mono (by simp; have := hb3.size; omega))).setCell (by simp) _).setCell (by simp; exact hb3.size) _
  have r5m : RowAt w5 (w.heap.size + 1) 3 1 1 (fun _ => .int .i64 (markI f 0)) := by rw [hw5]; exact (((R1.out.alloc (.cells #[.bool false] 4)).all hb4).set1 _).setOther _ _ (by simp; have := Hs3.out; omega)
  have r5b : RowAt w5 w.heap.size 22 1 1 (fun _ => .slice (some ⟨b, off, none⟩) 512 cap) := by rw [hw5]; exact (((R0.out.alloc (.cells #[.bool false] 4)).all hb4).setOther _ _ (by simp)).setOther _ _ (by simp; have := Hs3.out; omega)
  have hc5 : Cells w5 b off 512 (bytesV f) := by rw [hw5]; exact (((Hc.out.alloc (.cells #[.bool false] 4)).all hb4).setOther _ _ (by simp; omega)).setOther _ _ (by simp; have := Hs3.out; omega)
  clear hw5 hct hb4 rbf
  have c5b := r5b.cell (i := 0) (by omega)
  have HC5 := Lib.hid hc5; clear hc5
  gi_wp2_with fail
  refine ⟨trivial, (callsW _ (clone_any _ _ _ 512 (bytesV f) _ (by omega) (by omega) HC5.out (fun _ _ => rfl))).mono ?_⟩
  rintro e w6 ⟨g, cap', rfl, hg, hrow, hmx, hbel⟩
  have hb6 : Below w.heap.size w w6 := hb5.trans (hbel.mono hb5.size)
  have r6m := r5m.all hbel
  have r6b := r5b.all hbel
  have HC6 := Lib.hid (HC5.out.all hbel)
  have hlm := r5m.lt
  have hcap5 : 512 ≤ cap' := hrow.le
  have hlg := hrow.lt
  clear r5m r5b c5b HC5 hb5 hbel
  have Hrow := Lib.hid hrow; clear hrow
  gi_wp2_with fail
  refine ⟨trivial, (callsW _ (tails_any _ _ _ _)).mono ?_⟩
  rintro e w7 ⟨rfl, hw7⟩
  have hI : OpenI b off cap g w6.heap.size cap' w f 0 w7 := by
    rw [← hw7]
    exact ⟨r6b.alloc _, r6m.alloc _, RowAt.new w6 #[.slice (some ⟨g, 0, none⟩) 512 cap'] 22 _ 1 (by simp) (one_cell rfl), (Hrow.out.alloc _).congr (fun i hi => by unfold bytesV openK; rw [if_neg (by omega)]), HC6.out.alloc _, hb6.alloc hb6.size _⟩
  have hs7 : w7.heap.size = w6.heap.size + 1 := by rw [← hw7]; simp
  have Hs7 := Lib.hid hs7
  have hs6 := hb6.size
  clear hw7 hs7 r6m r6b hb6
  gi_wp2_with fail
  refine wpIn_rangeN rfl (fun h => by simp [Fence.wide] at h) (gf := 61) (lb := #[.pointer (some ⟨w6.heap.size, 0, none⟩)]) rfl trivial (enters_of Try.func61 (by kernel_rfl) rfl)
    (tails1_iter 2 g 0 cap' _ hcap5 hmx) (fun k => rfl) (OpenI b off cap g w6.heap.size cap' w f) (fun _ _ _ => False) (openI_own (by rw [Hs7.out]; omega)) (fun _ _ _ _ _ h _ _ => h) (fun k W h => h.box2.cell (by omega)) hI ?a1 ?assign ?body ?done ?stop
  case assign =>
    intro l k W K hK
    unfold tailArgs
    gi_wp2
    exact hK
  case body =>
    intro l k W hi hk
    have cb := hi.bx.cell (i := 0) (by omega)
    have Hi := Lib.hid hi
    have HI := Lib.hid hI
    clear hi hI
    gi_wp2_with (with_reducible refine stopBIn .copy ?_)
    refine Hold.go ?_
    have hcb := Hi.out.cells.drop (2 + 2 * k) 2 (by omega)
    refine wpListIn_copy_o rfl _ _ 22 22 5 rfl Try.underlying22 size_u8 g (64 * k + 62) 2 (cap' - (64 * k + 62)) cap' 512 (bytesV (openK f k)) ?q1 Hi.out.row b (off + (2 + 2 * k)) 2 (cap - (2 + 2 * k)) (fun i => bytesV f (2 + 2 * k + i)) ?q2 hcb (fun _ _ => rfl) 2 (by simp) (by omega) ?_
    case q1 => rfl
    case q2 =>
      show Value.slice _ (4 + 2 * k - (2 + 2 * k)) _ = _
      rw [show 4 + 2 * k - (2 + 2 * k) = 2 from by omega]
    intro W8 hrow8 hwr8
    have hI9 : OpenI b off cap g w6.heap.size cap' w f (k + 1) W8 := by
      have h := Hi.out
      exact ⟨h.bx.wrote hwr8 (by omega), h.bm.wrote hwr8 (by omega), h.box2.wrote hwr8 (by omega), hrow8.congr (fun i _ => openK_succ f k i hk), h.cells.wrote hwr8 (by omega), hwr8.below h.below h.below.size (by omega)⟩
    have hK9 : KeepsFrom w7.heap.size W W8 := by
      obtain ⟨cur, hcur, _⟩ := Hi.out.row
      exact keepsFrom_of_wrote hwr8 hcur
    clear hcb hrow8 hwr8
    gi_wp2
    exact ⟨hK9, hI9⟩
  case done =>
    intro D W hD hi hK
    have Hi := Lib.hid hi; clear hi
    have HI := Lib.hid hI; clear hI
    have HK := Lib.hid hK; clear hK
    gi_wp2_with (with_reducible refine stopBIn .clear ?_)
    refine Hold.go ?_
    have hz : ∀ w, (zeroValue 5).run Try.prog w = .ok (.int .u8 0) w := fun w => by kernel_rfl
    refine wpListIn_clear_o rfl _ 22 5 (.int .u8 0) rfl Try.underlying22 hz rfl rfl g 0 18 cap' cap' 512 (bytesV (openK f 8)) rfl (by omega) Hi.out.row (by omega) ?_
    intro W8 hrow8 hwr8
    have hr9 : RowAt W8 g 5 cap' 512 (bytesV (openF f)) := hrow8.congr (fun i hi => by
      unfold bytesV openF
      by_cases h : i < 18
      · rw [if_pos (by omega), if_pos h]
      · rw [if_neg (by omega), if_neg h])
    have hm9 : RowAt W8 (w.heap.size + 1) 3 1 1 (fun _ => .int .i64 (markI f 0)) := Hi.out.bm.wrote hwr8 (by omega)
    have hb9 : Below w.heap.size w W8 := hwr8.below Hi.out.below Hi.out.below.size (by omega)
    have hK9 : W8.heap[D]? = some (.deferred (some [])) := (hwr8.block (by
      intro e
      obtain ⟨cur, hcur, _⟩ := Hi.out.row
      have := HK.out
      rw [e, hcur] at this
      cases this)).trans HK.out
    clear hrow8 hwr8
    have Hr9 := Lib.hid hr9; clear hr9
    have Hm9 := Lib.hid hm9; clear hm9
    have HK9 := Lib.hid hK9; clear hK9
    have c9 := Hm9.out.cell (i := 0) (by omega)
    have z9 := Hm9.out.frozen 0
    gi_wp2_with fail
    refine wpIn_wide.2 (wp_calm ?_)
    go_region
    gi_wp2
    have hDlt : w.heap.size + 1 < D := by have := Hs7.out; omega
    have hKD : ((W8.setCell ⟨w.heap.size + 1, 0, none⟩ (.int .i64 (markI f 0))).drew).heap[D]? = some (.deferred (some [])) := (Below.heap_setCell W8 _ _ D (by simp; omega)).trans HK9.out
    have rm9 : RowAt ((W8.setCell ⟨w.heap.size + 1, 0, none⟩ (.int .i64 (markI f 0))).drew) (w.heap.size + 1) 3 1 1 (fun _ => .int .i64 (markI f 0)) := (Hm9.out.set1 _).heap rfl
    have rg9 : RowAt ((W8.setCell ⟨w.heap.size + 1, 0, none⟩ (.int .i64 (markI f 0))).drew) g 5 cap' 512 (bytesV (openF f)) := (Hr9.out.setOther _ _ (by simp; omega)).heap rfl
    have hb10 : Below w.heap.size w ((W8.setCell ⟨w.heap.size + 1, 0, none⟩ (.int .i64 (markI f 0))).drew) := (hb9.setCell (by simp) _).drew
    generalize (W8.setCell ⟨w.heap.size + 1, 0, none⟩ (.int .i64 (markI f 0))).drew = W9 at *
    have rm10 := (rm9.kept (grownBy_putObj' W9 D (.deferred none)) (fun r e => by cases e; exact ⟨_, hKD, rfl⟩)).cell (i := 0) (by omega)
    refine ⟨by simp, .inl ⟨_, _, rfl, run_takeDeferred hKD, ?_⟩⟩
    refine ⟨.tuple #[.slice (some ⟨g, 0, none⟩) 512 cap', .int .i64 (markI f 0), .int .i64 0], by simp [results, Try.results20, go_sem, rm10, Act.put], g, cap', rfl, by omega, rg9.kept (grownBy_putObj' W9 D _) (fun r e => by cases e; exact ⟨_, hKD, rfl⟩), hmx, ?_⟩
    exact below_keptFrom (row := some D) (B := w.heap.size) hb10 (Nat.le_refl _) (Nat.le_refl _) (grownBy_putObj' W9 D _) (fun r e => by cases e; exact ⟨by omega, _, hKD, rfl⟩)
  case stop =>
    intro D c k W _ _ h _
    exact h.elim

end Go.Proofs.Ytjfcjpkfefmhlaa
