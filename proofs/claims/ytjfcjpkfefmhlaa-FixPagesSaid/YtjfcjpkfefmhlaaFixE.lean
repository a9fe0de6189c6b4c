/- marks. -/
import Derived.Test.YtjfcjpkfefmhlaaFixD
namespace Go.Proofs.Ytjfcjpkfefmhlaa
open Go.RowKit
attribute [local go_sem] Oper.semAt_some

/-- The bytes that a function tells. -/
def bytesV (f : Nat → Int) (i : Nat) : Value := .int .u8 (f i)
def intsV (f : Nat → Int) (i : Nat) : Value := .int .i64 (f i)

theorem one_cell {cur : Array Value} {v : Value} (h : cur[0]? = some v) : ∀ i, i < 1 → cur[i]? = some ((fun _ => v) i) := fun i hi => by
  obtain rfl : i = 0 := by omega
  exact h

/-- What holds between two rounds of marks. -/
structure MarksI (H : Nat) (w : World) (b off cap : Nat) (f : Nat → Int) (k : Nat) (W : World) : Prop where
  box : RowAt W H 22 1 1 (fun _ => .slice (some ⟨b, off, none⟩) 512 cap)
  box2 : RowAt W (H + 2) 22 1 1 (fun _ => .slice (some ⟨b, off, none⟩) 512 cap)
  cells : Cells W b off 512 (bytesV f)
  out : ∃ v, RowAt W (H + 1) 24 1 1 (fun _ => v) ∧ Own W (H + 3) 3 v k (intsV (markI f))
  below : Below H w W
  size : H + 3 ≤ W.heap.size
  lt : b < H

theorem marksI_own {H : Nat} {w : World} {b off cap : Nat} {f : Nat → Int} (hH : H ≤ w.heap.size) : OwnFrom (H + 3) (MarksI H w b off cap f) := by
  intro k W W' row h hg hr
  have hr' : ∀ r, row = some r → ∃ o : Obj, W.heap[r]? = some o ∧ o.isCells = false := fun r e => (hr r e).2
  obtain ⟨v, h1, h2⟩ := h.out
  exact ⟨h.box.kept hg hr', h.box2.kept hg hr', h.cells.kept hg hr', ⟨v, h1.kept hg hr', h2.kept hg hr'⟩, below_keptFrom h.below (by omega) hH hg hr, Nat.le_trans h.size hg.size, h.lt⟩

/-- One round of marks, from what its append leaves. -/
theorem marks_step {H : Nat} {w : World} {b off cap : Nat} {f : Nat → Int} {k : Nat} {W W3 : World} (hi : MarksI H w b off cap f k W) (hH : H ≤ w.heap.size) (q : Nat) (m : Int) (v v' : Value)
    (ho : RowAt W (H + 1) 24 1 1 (fun _ => v)) (hown : Own W (H + 3) 3 v k (intsV (markI f))) (hm : m = markI f k)
    (hown' : Own W3 (H + 3) 3 v' (k + 1) (fun i => if i < k then intsV (markI f) i else .int .i64 m)) (hg : ((W.drewN q).alloc (.cells #[.int .i64 m] 3)).grownBy W3 v.ownBlock) (B : Nat) :
    RowAt W3 (H + 1) 24 1 1 (fun _ => v) ∧ MarksI H w b off cap f (k + 1) (W3.setCell ⟨H + 1, 0, none⟩ v') ∧ KeepsFrom B W (W3.setCell ⟨H + 1, 0, none⟩ v') := by
  have n0 := hown.ne (k := H) (by omega)
  have n1 := hown.ne (k := H + 1) (by omega)
  have n2 := hown.ne (k := H + 2) (by omega)
  have nb := hown.ne (k := b) (by have := hi.lt; omega)
  have hsz := hi.size
  have hlt := hi.lt
  have r1 := ((ho.drewN q).alloc (.cells #[.int .i64 m] 3)).grown hg n1
  have hb2 : Below H w W3 := ((hi.below.trans (below_drewN H W q)).alloc (by show H ≤ W.heap.size; omega) _).grown hg (by simp; omega) (fun k e => by have := (hown.isCells k e).1; omega)
  refine ⟨r1, ⟨(((hi.box.drewN q).alloc _).grown hg n0).setOther _ _ (by simp), (((hi.box2.drewN q).alloc _).grown hg n2).setOther _ _ (by simp), (((hi.cells.drewN q).alloc _).grown hg nb).setOther _ _ (by simp; omega),
    ⟨v', (r1.set 0 v').congr (fun i hi => by simp; omega), (hown'.setOther _ _ (by simp)).congr (fun i hi => ?_)⟩, hb2.setCell (by simp) _, ?_, hlt⟩, ?_⟩
  · by_cases hik : i < k
    · simp [hik]
    · obtain rfl : i = k := by omega
      simp [intsV, hm]
  · have := hg.size
    simp [World.setCell] at this ⊢
    omega
  · exact (((keepsFrom_drewN B W q).trans ((KeepsOthers.alloc _ _).from B)).trans (keepsFrom_of_grown hg (fun r e => by
      obtain ⟨_, o, ho, hc⟩ := ((hown.drewN q).alloc (.cells #[.int .i64 m] 3)).isCells r e
      exact ⟨o, ho, hc⟩))).trans ((KeepsOthers.setCell _ _ _).from B)

def Marked (w : World) (f : Nat → Int) (e : Ending) (w' : World) : Prop :=
  ∃ g cap, e = .returned (.slice (some ⟨g, 0, none⟩) 8 cap) ∧ w.heap.size ≤ g ∧ RowAt w' g 3 cap 8 (intsV (markI f)) ∧ cap ≤ maxLen ∧ Below w.heap.size w w'

set_option maxHeartbeats 1000000 in
theorem marks_any (b off cap : Nat) (hcap : 512 ≤ cap) (hm : cap ≤ maxLen) (f : Nat → Int) (hf : ∀ i, i < 512 → 0 ≤ f i ∧ f i < 256) (w : World) (hc : Cells w b off 512 (bytesV f)) :
    Calls Try.prog 38 #[.slice (some ⟨b, off, none⟩) 512 cap] w (Marked w f) := by
  have hcell := Lib.hid hc; clear hc
  have hfb := Lib.hid hf; clear hf
  refine (callsIn_wide (n := 3)).1 ?_
  refine callsIn_of_wp_marks Try.func38 rfl trivial ?_ rfl
  simp only [Try.ntmps38, List.size_toArray, List.length_cons, List.length_nil, Nat.reduceAdd, Nat.reduceSub, Array.replicate_succ, Array.replicate_zero, List.push_toArray, List.append_toArray, List.nil_append, List.cons_append]
  gi_wp2_with fail
  refine ⟨trivial, (callsW _ (tails_any _ _ _ _)).mono ?_⟩
  rintro e w' ⟨rfl, rfl⟩
  gi_wp2_with fail
  have hW0 : MarksI w.heap.size w b off cap f 0 (((w.alloc (.cells #[.slice (some ⟨b, off, none⟩) 512 cap] 22)).alloc (.cells #[.slice none 0 0] 24)).alloc (.cells #[.slice (some ⟨b, off, none⟩) 512 cap] 22)) := by
    have r1 := RowAt.new w #[.slice (some ⟨b, off, none⟩) 512 cap] 22 (fun _ => .slice (some ⟨b, off, none⟩) 512 cap) 1 (by simp) (one_cell rfl)
    have r2 := RowAt.new (w.alloc (.cells #[.slice (some ⟨b, off, none⟩) 512 cap] 22)) #[.slice none 0 0] 24 (fun _ => .slice none 0 0) 1 (by simp) (one_cell rfl)
    have r3 := RowAt.new ((w.alloc (.cells #[.slice (some ⟨b, off, none⟩) 512 cap] 22)).alloc (.cells #[.slice none 0 0] 24)) #[.slice (some ⟨b, off, none⟩) 512 cap] 22 (fun _ => .slice (some ⟨b, off, none⟩) 512 cap) 1 (by simp) (one_cell rfl)
    have hb : Below w.heap.size w (((w.alloc (.cells #[.slice (some ⟨b, off, none⟩) 512 cap] 22)).alloc (.cells #[.slice none 0 0] 24)).alloc (.cells #[.slice (some ⟨b, off, none⟩) 512 cap] 22)) :=
      (((Below.refl _ w).alloc (Nat.le_refl _) _).alloc (by simp) _).alloc (by simp; omega) _
    simp only [World.size_alloc] at r2 r3
    exact ⟨(r1.alloc _).alloc _, r3, hcell.out.all hb, ⟨_, r2.alloc _, Own.nil _ _ _ _⟩, hb, by simp, hcell.out.lt (by omega)⟩
  have hsz : (((w.alloc (.cells #[.slice (some ⟨b, off, none⟩) 512 cap] 22)).alloc (.cells #[.slice none 0 0] 24)).alloc (.cells #[.slice (some ⟨b, off, none⟩) 512 cap] 22)).heap.size = w.heap.size + 3 := by simp
  generalize hW : (((w.alloc (.cells #[.slice (some ⟨b, off, none⟩) 512 cap] 22)).alloc (.cells #[.slice none 0 0] 24)).alloc (.cells #[.slice (some ⟨b, off, none⟩) 512 cap] 22)) = W0 at *
  clear hW
  have Hsz := Lib.hid hsz; clear hsz
  refine wpIn_rangeN rfl (fun h => by simp [Fence.wide] at h) (gf := 61) (lb := #[.pointer (some ⟨w.heap.size + 2, 0, none⟩)]) rfl trivial (enters_of Try.func61 (by kernel_rfl) rfl)
    (tails1_iter 2 b off cap _ hcap hm) (fun k => rfl) (MarksI w.heap.size w b off cap f) (fun _ _ _ => False) (by rw [Hsz.out]; exact marksI_own (Nat.le_refl _)) (fun _ _ _ _ _ h _ _ => h) (fun k W h => h.box2.cell (by omega)) hW0 ?a1 ?assign ?body ?done ?stop
  case assign =>
    intro l k W K hK
    unfold tailArgs
    gi_wp2
    exact hK
  case body =>
    intro l k W hi hk
    have hi0 := Lib.hid hi
    have hsz := hi.size
    have hb0 := hi.box.cell (i := 0) (by omega)
    obtain ⟨v, ho, hown⟩ := hi.out
    have ho0 := ho.cell (i := 0) (by omega)
    have hof := ho.frozen 0
    have c0 := hi.cells (64 * k + 62) (by omega)
    have c1 := hi.cells (64 * k + 63) (by omega)
    have c2 := hi.cells 0 (by omega)
    have c3 := hi.cells 1 (by omega)
    have b0 := hfb.out (64 * k + 62) (by omega)
    have b1 := hfb.out (64 * k + 63) (by omega)
    have b2 := hfb.out 0 (by omega)
    have b3 := hfb.out 1 (by omega)
    unfold bytesV at c0 c1 c2 c3
    have e0 : off + (64 * k + 62) + 1 = off + (64 * k + 63) := by omega
    have n1 := fun (wx : World) (h0 : wx.cell? ⟨b, off + (64 * k + 62), none⟩ = some (.int .u8 (f (64 * k + 62)))) (h1 : wx.cell? ⟨b, off + (64 * k + 62) + 1, none⟩ = some (.int .u8 (f (64 * k + 63)))) =>
      number_any b (off + (64 * k + 62)) (cap - (64 * k + 62)) _ _ wx b0 b1 h0 h1 2 (Nat.le_refl _)
    rw [e0] at n1
    have n2 := fun (wx : World) (h0 : wx.cell? ⟨b, off, none⟩ = some (.int .u8 (f 0))) (h1 : wx.cell? ⟨b, off + 1, none⟩ = some (.int .u8 (f 1))) =>
      number_any b off cap _ _ wx b2 b3 h0 h1 512 (by omega)
    have N1 := Lib.hid n1; clear n1
    have N2 := Lib.hid n2; clear n2
    clear e0
    rw [Nat.add_zero] at c2
    by_cases hk0 : k = 0
    · subst hk0
      by_cases hne : f 0 + 256 * f 1 = f 62 + 256 * f 63
      · have hd : (f 0 + 256 * f 1 != f 62 + 256 * f 63) = false := by rw [bne_eq_false_iff_eq]; exact hne
        have hne' := Lib.hid hne; clear hne
        gi_wp2_with fail
        refine ⟨trivial, (CallsIn.inRound l (callsW _ (N1.out W c0 c1))).mono ?_⟩
        rintro e w' ⟨rfl, nq, rfl⟩
        gi_wp2_with fail
        refine ⟨trivial, (CallsIn.inRound l (callsW _ (N2.out (W.drewN nq) c2 c3))).mono ?_⟩
        rintro e w' ⟨rfl, nq2, rfl⟩
        gi_wp2_with (gi_at_builtin; refine Hold.stop ?_)
        refine Hold.go ?_
        refine wpListIn_append_o rfl _ _ 24 3 _ _ rfl Try.underlying24 info_int rfl (w.heap.size + 3) v 0 (intsV (markI f)) rfl ((hown.drewN _).alloc _) W.heap.size 0 1 1 (fun _ => .int .i64 (f 62 + 256 * f 63)) rfl (RowAt.new (W.drewN (nq + nq2)) #[.int .i64 (f 62 + 256 * f 63)] 3 _ 1 (by simp) (one_cell rfl)).reads (fun _ _ => rfl) (by omega) (by decide) (by simp; omega) ?_
        intro v' W3 hown' hg _ _
        obtain ⟨r1, hI', hK⟩ := marks_step hi0.out (Nat.le_refl _) (nq + nq2) (f 62 + 256 * f 63) v v' ho hown (by unfold markI; rw [if_neg (fun h => h.2 hne'.out)]) hown' hg W0.heap.size
        obtain ⟨g', cap', rfl, _, _, _⟩ := hown'.row (by omega)
        have r1c := r1.cell (i := 0) (by omega)
        have r1f := r1.frozen 0
        gi_wp2
        exact ⟨hK, hI'⟩
      · have hd : (f 0 + 256 * f 1 != f 62 + 256 * f 63) = true := by rw [bne_iff_ne]; exact hne
        gi_wp2_with fail
        refine ⟨trivial, (CallsIn.inRound l (callsW _ (N1.out W c0 c1))).mono ?_⟩
        rintro e w' ⟨rfl, nq, rfl⟩
        gi_wp2_with fail
        refine ⟨trivial, (CallsIn.inRound l (callsW _ (N2.out (W.drewN nq) c2 c3))).mono ?_⟩
        rintro e w' ⟨rfl, nq2, rfl⟩
        gi_wp2_with (gi_at_builtin; refine Hold.stop ?_)
        refine Hold.go ?_
        refine wpListIn_append_o rfl _ _ 24 3 _ _ rfl Try.underlying24 info_int rfl (w.heap.size + 3) v 0 (intsV (markI f)) rfl ((hown.drewN _).alloc _) W.heap.size 0 1 1 (fun _ => .int .i64 (0)) rfl (RowAt.new (W.drewN (nq + nq2)) #[.int .i64 (0)] 3 _ 1 (by simp) (one_cell rfl)).reads (fun _ _ => rfl) (by omega) (by decide) (by simp; omega) ?_
        intro v' W3 hown' hg _ _
        obtain ⟨r1, hI', hK⟩ := marks_step hi0.out (Nat.le_refl _) (nq + nq2) (0) v v' ho hown (by unfold markI; rw [if_pos ⟨rfl, hne⟩]) hown' hg W0.heap.size
        obtain ⟨g', cap', rfl, _, _, _⟩ := hown'.row (by omega)
        have r1c := r1.cell (i := 0) (by omega)
        have r1f := r1.frozen 0
        gi_wp2
        exact ⟨hK, hI'⟩
    · have hk1 : ((k : Int) == 0) = false := by rw [beq_eq_false_iff_ne]; omega
      gi_wp2_with fail
      refine ⟨trivial, (CallsIn.inRound l (callsW _ (N1.out W c0 c1))).mono ?_⟩
      rintro e w' ⟨rfl, nq, rfl⟩
      gi_wp2_with fail
      refine ⟨trivial, ?_⟩
      gi_wp2_with (gi_at_builtin; refine Hold.stop ?_)
      refine Hold.go ?_
      refine wpListIn_append_o rfl _ _ 24 3 _ _ rfl Try.underlying24 info_int rfl (w.heap.size + 3) v k (intsV (markI f)) rfl ((hown.drewN _).alloc _) W.heap.size 0 1 1 (fun _ => .int .i64 (f (64 * k + 62) + 256 * f (64 * k + 63))) rfl (RowAt.new (W.drewN nq) #[.int .i64 (f (64 * k + 62) + 256 * f (64 * k + 63))] 3 _ 1 (by simp) (one_cell rfl)).reads (fun _ _ => rfl) (by omega) (by decide) (by simp; omega) ?_
      intro v' W3 hown' hg _ _
      obtain ⟨r1, hI', hK⟩ := marks_step hi0.out (Nat.le_refl _) nq (f (64 * k + 62) + 256 * f (64 * k + 63)) v v' ho hown (by unfold markI; rw [if_neg (by omega)]) hown' hg W0.heap.size
      obtain ⟨g', cap', rfl, _, _, _⟩ := hown'.row (by omega)
      have r1c := r1.cell (i := 0) (by omega)
      have r1f := r1.frozen 0
      gi_wp2
      exact ⟨hK, hI'⟩
  case done =>
    intro D W hD hi hK
    obtain ⟨v, ho, hown⟩ := hi.out
    obtain ⟨g', cap', rfl, hB, hrow, hmx⟩ := hown.row (by omega)
    have ho0 := ho.cell (i := 0) (by omega)
    have hsz0 := Hsz.out
    have hi0 := Lib.hid hi
    gi_wp2
    refine ⟨by simp, .inl ⟨_, _, rfl, run_takeDeferred hK, ?_⟩⟩
    refine ⟨_, results_tmp rfl _ _ _, g', cap', rfl, by omega, hrow.kept (grownBy_putObj' W D _) (fun r e => by cases e; exact ⟨_, hK, rfl⟩), hmx, ?_⟩
    exact below_keptFrom (row := some D) hi0.out.below (Nat.le_refl _) (Nat.le_refl _) (grownBy_putObj' W D _) (fun r e => by cases e; exact ⟨by omega, _, hK, rfl⟩)
  case stop =>
    intro D c k W _ _ h _
    exact h.elim

end Go.Proofs.Ytjfcjpkfefmhlaa
