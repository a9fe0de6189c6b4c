/- Guard of a page: the image. -/
import Derived.Test.YtjfcjpkfefmhlaaFixH
namespace Go.Proofs.Ytjfcjpkfefmhlaa
open Go.RowKit
attribute [local go_sem] Oper.semAt_some

/-- What holds between two rounds of Guard. -/
structure GuardI (H g ho h2 cap' : Nat) (w : World) (m : Int) (f : Nat → Int) (k : Nat) (W : World) : Prop where
  boxm : RowAt W H 3 1 1 (fun _ => .int .i64 m)
  boxo : RowAt W ho 22 1 1 (fun _ => .slice (some ⟨g, 0, none⟩) 512 cap')
  box2 : RowAt W h2 22 1 1 (fun _ => .slice (some ⟨g, 0, none⟩) 512 cap')
  row : RowAt W g 5 cap' 512 (bytesV (guardK m f k))
  below : Below H w W

theorem guardI_own {H g ho h2 cap' : Nat} {w : World} {m : Int} {f : Nat → Int} {n0 : Nat} (h0 : H ≤ n0) (hH : H ≤ w.heap.size) : OwnFrom n0 (GuardI H g ho h2 cap' w m f) := by
  intro k W W' row h hg hr
  have hr' : ∀ r, row = some r → ∃ o : Obj, W.heap[r]? = some o ∧ o.isCells = false := fun r e => (hr r e).2
  exact ⟨h.boxm.kept hg hr', h.boxo.kept hg hr', h.box2.kept hg hr', h.row.kept hg hr', below_keptFrom h.below h0 hH hg hr⟩

theorem guardK_bound {m : Int} (hm : 1 ≤ m ∧ m ≤ 65535) {f : Nat → Int} (hf : ∀ i, i < 512 → 0 ≤ f i ∧ f i < 256) (k i : Nat) (hk : k ≤ 8) (hi : i < 512) : 0 ≤ guardK m f k i ∧ guardK m f k i < 256 := by
  unfold guardK
  have h1 := hf i hi
  by_cases h2 : i < 2 + 2 * k
  · have h3 := hf (64 * ((i - 2) / 2) + 62 + (i - 2) % 2) (by omega)
    split
    · omega
    split
    · omega
    exact h3
  · rw [if_neg h2]
    split
    · omega
    split
    · omega
    split
    · omega
    split <;> omega

set_option maxHeartbeats 2000000 in
theorem guard_ok (b off cap : Nat) (hcap : 512 ≤ cap) (m : Int) (hm : 1 ≤ m ∧ m ≤ 65535) (f : Nat → Int) (hfb : ∀ i, i < 512 → 0 ≤ f i ∧ f i < 256) (hf : anyB (fun i => f i != 0) 18 = false) (w : World) (hc : Cells w b off 512 (bytesV f)) :
    Calls Try.prog 18 #[.slice (some ⟨b, off, none⟩) 512 cap, .int .i64 m] w (GuardOk w m f) := by
  have hb : decide (1 ≤ m ∧ m ≤ 65535) = true := by simpa using hm
  have hcl := Lib.hid hc; clear hc
  have Hf := Lib.hid hf; clear hf
  have Hfb := Lib.hid hfb; clear hfb
  have h512 : decide (1 ≤ m) = true := by simpa using hm.1
  refine (callsIn_wide (n := 3)).1 ?_
  refine callsIn_of_wp_marks Try.func18 rfl trivial ?_ rfl
  simp only [Try.ntmps18, List.size_toArray, List.length_cons, List.length_nil, Nat.reduceAdd, Nat.reduceSub, Array.replicate_succ, Array.replicate_zero, List.push_toArray, List.append_toArray, List.nil_append, List.cons_append]
  gi_wp2_with fail
  rw [← World.size_alloc w (.cells #[.int .i64 m] 3)]
  refine ⟨trivial, (callsW _ (right_one _ 512 cap (w.alloc (.cells #[.int .i64 m] 3)))).mono ?_⟩
  rintro e w' ⟨rfl, rfl⟩
  have hcm : ((w.alloc (.cells #[.int .i64 m] 3)).alloc (.cells #[.slice (some ⟨b, off, none⟩) 512 cap] 22)).cell? ⟨w.heap.size, 0, none⟩ = some (.int .i64 m) := ((RowAt.new w #[.int .i64 m] 3 (fun _ => .int .i64 m) 1 (by simp) (one_cell rfl)).alloc _).cell (by omega)
  gi_wp2_with fail
  refine ⟨trivial, (callsW _ (marked_any _ _)).mono ?_⟩
  rintro e w' ⟨rfl, rfl⟩
  gi_wp2_with fail
  refine ⟨trivial, (callsW _ (containsBytes_any _ _ _ 18 f _ (by omega) (((hcl.out.take (by omega)).alloc _).alloc _))).mono ?_⟩
  rintro e w' ⟨rfl, rfl⟩
  rw [Hf.out]
  gi_wp2_with fail
  refine ⟨trivial, (callsW _ (clone_any _ _ _ 512 (bytesV f) _ (by omega) (by omega) ((hcl.out.alloc _).alloc _) (fun _ _ => rfl))).mono ?_⟩
  rintro e w4 ⟨g, cap', rfl, hg, hrow, hmx, hbel⟩
  simp only [World.size_alloc] at hg hbel
  have hb4 : Below w.heap.size w w4 := (((Below.refl _ w).alloc (Nat.le_refl _) _).alloc (by simp) _).trans (hbel.mono (by omega))
  have rm4 : RowAt w4 w.heap.size 3 1 1 (fun _ => .int .i64 m) := ((RowAt.new w #[.int .i64 m] 3 (fun _ => .int .i64 m) 1 (by simp) (one_cell rfl)).alloc _).below hbel (by omega)
  have hcm4 := rm4.cell (i := 0) (by omega)
  have hlt4 := rm4.lt
  have hltg := hrow.lt
  have hcap5 : 512 ≤ cap' := hrow.le
  have Hrow := Lib.hid hrow; clear hrow
  clear hcm hbel
  have hput := fun wx h0 h1 z0 z1 => put_any g 0 cap' 512 (by omega) (f 0) (f 1) m wx (by omega) h0 h1 z0 z1
  have Hput := Lib.hid hput; clear hput
  gi_wp2_with fail
  have r5g := Hrow.out.alloc (.cells #[.slice (some ⟨g, 0, none⟩) 512 cap'] 22)
  have r5m := rm4.alloc (.cells #[.slice (some ⟨g, 0, none⟩) 512 cap'] 22)
  have r5o := RowAt.new w4 #[.slice (some ⟨g, 0, none⟩) 512 cap'] 22 (fun _ => .slice (some ⟨g, 0, none⟩) 512 cap') 1 (by simp) (one_cell rfl)
  have hb5 := hb4.alloc (by omega) (.cells #[.slice (some ⟨g, 0, none⟩) 512 cap'] 22)
  have hs5 : (w4.alloc (.cells #[.slice (some ⟨g, 0, none⟩) 512 cap'] 22)).heap.size = w4.heap.size + 1 := by simp
  generalize w4.alloc (.cells #[.slice (some ⟨g, 0, none⟩) 512 cap'] 22) = w5 at *
  refine ⟨trivial, (callsW _ (Hput.out w5 (r5g.cell (by omega)) (r5g.cell (by omega)) (r5g.frozen _) (r5g.frozen _))).mono ?_⟩
  rintro e w6 ⟨rfl, hw6⟩
  have r6g : RowAt w6 g 5 cap' 512 (bytesV (guardK m f 0)) := by
    rw [← hw6]
    refine ((r5g.set 0 _).set 1 _).congr fun i hi => ?_
    show (if i = 1 then _ else if i = 0 then _ else bytesV f i) = bytesV (guardK m f 0) i
    unfold bytesV guardK
    by_cases h1 : i = 1
    · subst h1; simp
    by_cases h0 : i = 0
    · subst h0; simp
    · rw [if_neg h1, if_neg h0, if_neg h0, if_neg h1, if_neg (by omega), if_neg (by omega), if_neg (by omega)]
  have r6m : RowAt w6 w.heap.size 3 1 1 (fun _ => .int .i64 m) := by rw [← hw6]; exact (r5m.setOther _ _ (by simp; omega)).setOther _ _ (by simp; omega)
  have r6o : RowAt w6 w4.heap.size 22 1 1 (fun _ => .slice (some ⟨g, 0, none⟩) 512 cap') := by rw [← hw6]; exact (r5o.setOther _ _ (by simp; omega)).setOther _ _ (by simp; omega)
  have hb6 : Below w.heap.size w w6 := by rw [← hw6]; exact (hb5.setCell (by simp; omega) _).setCell (by simp; omega) _
  have hs6 : w6.heap.size = w4.heap.size + 1 := by rw [← hw6, ← hs5]; simp [World.setCell]
  have Hs6 := Lib.hid hs6
  clear hw6 hs5 hs6 r5g r5m r5o hb5
  have co6 := r6o.cell (i := 0) (by omega)
  gi_wp2_with fail
  refine ⟨trivial, (callsW _ (tails_any _ _ _ _)).mono ?_⟩
  rintro e w7 ⟨rfl, hw7⟩
  rw [Hs6.out]
  have hI : GuardI w.heap.size g w4.heap.size (w4.heap.size + 1) cap' w m f 0 w7 := by
    have r7 := RowAt.new w6 #[.slice (some ⟨g, 0, none⟩) 512 cap'] 22 (fun _ => .slice (some ⟨g, 0, none⟩) 512 cap') 1 (by simp) (one_cell rfl)
    rw [Hs6.out] at r7
    rw [← hw7]
    exact ⟨r6m.alloc _, r6o.alloc _, r7, r6g.alloc _, hb6.alloc (by rw [Hs6.out]; omega) _⟩
  have hs7 : w7.heap.size = w4.heap.size + 2 := by rw [← hw7]; simp [Hs6.out]
  have Hs7 := Lib.hid hs7
  clear hw7 hs7 r6g r6m r6o hb6
  gi_wp2_with fail
  refine wpIn_rangeN rfl (fun h => by simp [Fence.wide] at h) (gf := 61) (lb := #[.pointer (some ⟨w4.heap.size + 1, 0, none⟩)]) rfl trivial (enters_of Try.func61 (by kernel_rfl) rfl)
    (tails1_iter 2 g 0 cap' _ Hrow.out.le hmx) (fun k => rfl) (GuardI w.heap.size g w4.heap.size (w4.heap.size + 1) cap' w m f) (fun _ _ _ => False) (guardI_own (by rw [Hs7.out]; omega) (Nat.le_refl _)) (fun _ _ _ _ _ h _ _ => h) (fun k W h => h.box2.cell (by omega)) hI ?a1 ?assign ?body ?done ?stop
  case assign =>
    intro l k W K hK
    unfold tailArgs
    gi_wp2
    exact hK
  case body =>
    intro l k W hi hk
    have cm := hi.boxm.cell (i := 0) (by omega)
    have co := hi.boxo.cell (i := 0) (by omega)
    have Hi := Lib.hid hi
    have HI := Lib.hid hI
    clear hi hI
    gi_wp2_with (with_reducible refine stopBIn .copy ?_)
    refine Hold.go ?_
    have hd := Hi.out.row.reads.drop (64 * k + 62) 2 (by omega)
    rw [Nat.zero_add] at hd
    refine wpListIn_copy_o rfl _ _ 22 22 5 rfl Try.underlying22 size_u8 g (2 + 2 * k) (512 - (2 + 2 * k)) (cap' - (2 + 2 * k)) cap' 512 (bytesV (guardK m f k)) rfl Hi.out.row g (64 * k + 62) 2 (cap' - (64 * k + 62)) (fun i => bytesV (guardK m f k) (64 * k + 62 + i)) rfl hd (fun _ _ => rfl) 2 (by simp [Nat.min_def]; omega) (by omega) ?_
    clear hd
    intro W8 hrow8 hwr8
    have q0 := hrow8.cell (i := 64 * k + 62) (by omega)
    have q1 := hrow8.cell (i := 64 * k + 63) (by omega)
    simp only [if_neg (show ¬ (2 + 2 * k ≤ 64 * k + 62 ∧ 64 * k + 62 < 2 + 2 * k + 2) by omega)] at q0
    simp only [if_neg (show ¬ (2 + 2 * k ≤ 64 * k + 63 ∧ 64 * k + 63 < 2 + 2 * k + 2) by omega)] at q1
    unfold bytesV at q0 q1
    have z0 := hrow8.frozen (64 * k + 62)
    have z1 := hrow8.frozen (64 * k + 63)
    have r8m := Hi.out.boxm.wrote hwr8 (by omega)
    have r8o := Hi.out.boxo.wrote hwr8 (by omega)
    have r82 := Hi.out.box2.wrote hwr8 (by omega)
    have hb8 := hwr8.below Hi.out.below (by have := Hi.out.boxm.lt; omega) (by omega)
    have hput8 : Calls Try.prog 48 #[.slice (some ⟨g, 64 * k + 62, none⟩) 2 (cap' - (64 * k + 62)), .int .i64 m] W8 fun e w' => e = .returned (.tuple #[]) ∧ (W8.setCell ⟨g, 64 * k + 62, none⟩ (.int .u8 (m % 256))).setCell ⟨g, 64 * k + 63, none⟩ (.int .u8 (m / 256)) = w' :=
      put_any g (64 * k + 62) (cap' - (64 * k + 62)) 2 (by omega) _ _ m W8 (by omega) q0 q1 z0 z1
    have Hput8 := Lib.hid hput8; clear hput8 q0 q1 z0 z1
    have Hrow8 := Lib.hid hrow8; clear hrow8
    have cm8 := r8m.cell (i := 0) (by omega)
    have R8m := Lib.hid r8m; clear r8m
    have R8o := Lib.hid r8o; clear r8o
    have R82 := Lib.hid r82; clear r82
    gi_wp2_with fail
    refine ⟨trivial, (CallsIn.inRound l (callsW _ Hput8.out)).mono ?_⟩
    rintro e W9 ⟨rfl, hW9⟩
    have hI9 : GuardI w.heap.size g w4.heap.size (w4.heap.size + 1) cap' w m f (k + 1) W9 := by
      rw [← hW9]
      refine ⟨(R8m.out.setOther _ _ (by simp; omega)).setOther _ _ (by simp; omega), (R8o.out.setOther _ _ (by simp; omega)).setOther _ _ (by simp; omega), (R82.out.setOther _ _ (by simp; omega)).setOther _ _ (by simp; omega), ?_, (hb8.setCell (by simp; omega) _).setCell (by simp; omega) _⟩
      refine ((Hrow8.out.set _ _).set _ _).congr fun i hi => ?_
      unfold bytesV
      rw [← guardK_succ m f k i hk]
      split
      · rfl
      split
      · rfl
      split <;> rfl
    have hK9 : KeepsFrom w7.heap.size W W9 := by
      obtain ⟨cur, hcur, _⟩ := Hi.out.row
      rw [← hW9]
      exact ((keepsFrom_of_wrote hwr8 hcur).trans ((KeepsOthers.setCell _ _ _).from _)).trans ((KeepsOthers.setCell _ _ _).from _)
    clear hW9
    gi_wp2
    exact ⟨hK9, hI9⟩
  case done =>
    intro D W hD hi hK
    have co := hi.boxo.cell (i := 0) (by omega)
    have Hi := Lib.hid hi; clear hi
    have HI := Lib.hid hI; clear hI
    gi_wp2
    refine ⟨by simp, .inl ⟨_, _, rfl, run_takeDeferred hK, ?_⟩⟩
    refine ⟨_, results_tmp2 rfl _ _ _, g, cap', rfl, by omega, Hi.out.row.kept (grownBy_putObj' W D _) (fun r e => by cases e; exact ⟨_, hK, rfl⟩), hmx, ?_⟩
    exact below_keptFrom (row := some D) (B := w.heap.size) Hi.out.below (Nat.le_refl _) (Nat.le_refl _) (grownBy_putObj' W D _) (fun r e => by cases e; exact ⟨by have := Hs7.out; omega, _, hK, rfl⟩)
  case stop =>
    intro D c k W _ _ h _
    exact h.elim

end Go.Proofs.Ytjfcjpkfefmhlaa
