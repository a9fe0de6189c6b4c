/- Span: AppendSeq, Collect of spots. -/
import Derived.Test.YtlbohmfhdchabaaSpanL
import Derived.Test.YtlbohmfhdchabaaRangeA
namespace Go.Proofs.Ytlbohmfhdchabaa
open Go.RowKit
attribute [local go_sem] Oper.semAt_some

theorem SpotsRd.kept {B g n : Nat} {a b : Int} {W W' : World} {row : Option Nat} (h : SpotsRd B g n a b W) (hg : W.grownBy W' row) (hr : ∀ r, row = some r → ∃ o : Obj, W.heap[r]? = some o ∧ o.isCells = false) : SpotsRd B g n a b W' :=
  ⟨cell_kept h.1 hg hr, cell_kept h.2.1 hg hr, cell_kept h.2.2.1 hg hr, cell_kept h.2.2.2 hg hr⟩
theorem SpotsRd.below {B g n H : Nat} {a b : Int} {W W' : World} (h : SpotsRd B g n a b W) (hb : Below H W W') (hB : B + 2 < H) (hg : g < H) : SpotsRd B g n a b W' :=
  ⟨(hb.cell (p := ⟨B, 0, none⟩) (show B < H by omega)).trans h.1, (hb.cell (p := ⟨B + 1, 0, none⟩) (show B + 1 < H by omega)).trans h.2.1, (hb.cell (p := ⟨B + 2, 0, none⟩) hB).trans h.2.2.1, (hb.cell (p := ⟨g, 3, none⟩) hg).trans h.2.2.2⟩
theorem Spots.kept {W W' : World} {row : Option Nat} {B : Nat} {v : Value} {m : Nat} {f : Nat → Int × Int} (h : Spots W B v m f) (hg : W.grownBy W' row) (hr : ∀ r, row = some r → ∃ o : Obj, W.heap[r]? = some o ∧ o.isCells = false) : Spots W' B v m f := by
  rcases h with h | ⟨g, cap, hv, hB, hrow, hm⟩
  · exact .inl h
  · exact .inr ⟨g, cap, hv, hB, hrow.kept hg hr, hm⟩
theorem Spots.isCells {W : World} {B : Nat} {v : Value} {m : Nat} {f : Nat → Int × Int} (h : Spots W B v m f) : ∀ r, v.ownBlock = some r → B ≤ r ∧ ∃ o : Obj, W.heap[r]? = some o ∧ o.isCells = true := by
  intro r hr
  rcases h with ⟨rfl, _⟩ | ⟨g, cap, rfl, hB, ⟨cur, hc, _⟩, _⟩
  · cases hr
  · cases hr; exact ⟨hB, _, hc, rfl⟩
theorem Spots.setOther {W : World} {B : Nat} {v : Value} {m : Nat} {f : Nat → Int × Int} (h : Spots W B v m f) (a : Addr) (u : Value) (ha : a.block < B) : Spots (W.setCell a u) B v m f := by
  rcases h with h | ⟨g, cap, hv, hB, hr, hm⟩
  · exact .inl h
  · exact .inr ⟨g, cap, hv, hB, hr.setOther a u (by omega), hm⟩

theorem SpotsRd.setOther {B g n : Nat} {a b : Int} {W : World} (h : SpotsRd B g n a b W) (x : Addr) (u : Value) (hx : x.block ≠ B ∧ x.block ≠ B + 1 ∧ x.block ≠ B + 2 ∧ x.block ≠ g) : SpotsRd B g n a b (W.setCell x u) :=
  ⟨(World.cell?_of_block (a := ⟨B, 0, none⟩) (Below.heap_setCell W x u B (fun e => hx.1 e.symm))).trans h.1, (World.cell?_of_block (a := ⟨B + 1, 0, none⟩) (Below.heap_setCell W x u (B + 1) (fun e => hx.2.1 e.symm))).trans h.2.1,
    (World.cell?_of_block (a := ⟨B + 2, 0, none⟩) (Below.heap_setCell W x u (B + 2) (fun e => hx.2.2.1 e.symm))).trans h.2.2.1, (World.cell?_of_block (a := ⟨g, 3, none⟩) (Below.heap_setCell W x u g (fun e => hx.2.2.2 e.symm))).trans h.2.2.2⟩

/-- What holds between two rounds over spots that fill a list: H is the list's box, D the first block that a round may lay. -/
structure SeqI (B g n : Nat) (a b : Int) (H D : Nat) (w : World) (F : Nat → Int × Int) (c : Nat → Nat) (k : Nat) (W : World) : Prop where
  rd : SpotsRd B g n a b W
  out : ∃ v, RowAt W H 31 1 1 (fun _ => v) ∧ Spots W D v (c k) F
  below : Below H w W
  size : D ≤ W.heap.size
  lt : B + 2 < D ∧ g < D ∧ H < D
  ne : H ≠ B ∧ H ≠ B + 1 ∧ H ≠ B + 2 ∧ H ≠ g

theorem seqI_own {B g n : Nat} {a b : Int} {H D : Nat} {w : World} {F : Nat → Int × Int} {c : Nat → Nat} (hH : H ≤ w.heap.size) : OwnFrom D (SeqI B g n a b H D w F c) := by
  intro k W W' row h hg hr
  have hr' : ∀ r, row = some r → ∃ o : Obj, W.heap[r]? = some o ∧ o.isCells = false := fun r e => (hr r e).2
  obtain ⟨v, h1, h2⟩ := h.out
  have := h.lt
  exact ⟨h.rd.kept hg hr', ⟨v, h1.kept hg hr', h2.kept hg hr'⟩, below_keptFrom (B := D) h.below (by omega) hH hg hr, Nat.le_trans h.size hg.size, h.lt, h.ne⟩

/-- Behind the assignment of a round's spot to a variable of its own, at block q. -/
structure SeqA (B g n : Nat) (a b : Int) (H D : Nat) (w : World) (F : Nat → Int × Int) (c : Nat → Nat) (s : Int × Int) (q : Nat) (k : Nat) (W : World) : Prop where
  I : SeqI B g n a b H D w F c k W
  var : RowAt W q 45 2 2 (st2 (.int .i64 s.1) (.int .i64 s.2))
  gt : D ≤ q

theorem seqA_own {B g n : Nat} {a b : Int} {H D : Nat} {w : World} {F : Nat → Int × Int} {c : Nat → Nat} {s : Int × Int} {q : Nat} (hH : H ≤ w.heap.size) : OwnFrom D (SeqA B g n a b H D w F c s q) := by
  intro k W W' row h hg hr
  have hr' : ∀ r, row = some r → ∃ o : Obj, W.heap[r]? = some o ∧ o.isCells = false := fun r e => (hr r e).2
  exact ⟨seqI_own hH k W W' row h.I hg hr, h.var.kept hg hr', h.gt⟩

theorem SeqI.grow {B g n : Nat} {a b : Int} {H D : Nat} {w : World} {F : Nat → Int × Int} {c : Nat → Nat} {k : Nat} {W W' : World} (h : SeqI B g n a b H D w F c k W) (hH : H ≤ w.heap.size) (hg : W.grownBy W' none) : SeqI B g n a b H D w F c k W' :=
  seqI_own hH k W W' none h hg (fun r e => by cases e)

/-- One spot more in the list. -/
theorem seq_step {B g n : Nat} {a b : Int} {H D : Nat} {w : World} {F : Nat → Int × Int} {c : Nat → Nat} {k : Nat} {W W3 : World} (hi : SeqI B g n a b H D w F c k W) (s : Int × Int) (v v' : Value)
    (ho : RowAt W H 31 1 1 (fun _ => v)) (hown : Spots W D v (c k) F) (hs : s = F (c k)) (hc : c (k + 1) = c k + 1)
    (hown' : Spots W3 D v' (c k + 1) (fun i => if i < c k then F i else (fun _ => s) (i - c k))) (hg : (W.alloc (.cells #[.int .i64 s.1, .int .i64 s.2] 45)).grownBy W3 v.ownBlock) (Bk : Nat) :
    RowAt W3 H 31 1 1 (fun _ => v) ∧ SeqI B g n a b H D w F c (k + 1) (W3.setCell ⟨H, 0, none⟩ v') ∧ KeepsFrom Bk W (W3.setCell ⟨H, 0, none⟩ v') := by
  have hsz := hi.size
  have hlt := hi.lt
  have hne := hi.ne
  have n0 := hown.ne (k := H) hlt.2.2
  have r1 := (ho.alloc (.cells #[.int .i64 s.1, .int .i64 s.2] 45)).grown hg n0
  have hb1 : Below D W W3 := ((Below.refl D W).alloc hsz _).grown hg (by simp; omega) (fun k e => (hown.isCells k e).1)
  refine ⟨r1, ⟨(hi.rd.below hb1 (by omega) (by omega)).setOther _ _ hne, ⟨v', (r1.set 0 v').congr (fun i hi => by simp; omega), ?_⟩, (hi.below.trans (hb1.mono (by omega))).setCell (Nat.le_refl _) _, ?_, hlt, hne⟩, ?_⟩
  · rw [hc]
    exact (hown'.snoc hs).setOther _ _ hlt.2.2
  · have := hg.size
    simp [World.setCell] at this ⊢
    omega
  · exact (((KeepsOthers.alloc _ _).from Bk).trans (keepsFrom_of_grown hg (fun r e => by
      obtain ⟨_, o, ho, hc⟩ := (hown.alloc (.cells #[.int .i64 s.1, .int .i64 s.2] 45)).isCells r e
      exact ⟨o, ho, hc⟩))).trans ((KeepsOthers.setCell _ _ _).from Bk)

def Collected (w : World) (N : Nat) (F : Nat → Int × Int) (e : Ending) (w' : World) : Prop := ∃ v, e = .returned v ∧ Spots w' w.heap.size v N F ∧ Below w.heap.size w w'

/-- The frame of AppendSeq with the round's variable at q. -/
def seqAct (B H : Nat) (s : Int × Int) (q : Nat) : Act :=
  { tmps := #[.slice none 0 0, .func (.func 56) #[] #[.pointer (some ⟨B, 0, none⟩), .pointer (some ⟨B + 1, 0, none⟩), .pointer (some ⟨B + 2, 0, none⟩)], .pointer (some ⟨H, 0, none⟩), undef, .slice none 0 0, .pointer (some ⟨q, 0, none⟩), .func (.func 56) #[] #[.pointer (some ⟨B, 0, none⟩), .pointer (some ⟨B + 1, 0, none⟩), .pointer (some ⟨B + 2, 0, none⟩)], spotA s, undef, undef, undef, undef, undef], defers := [] }

set_option maxHeartbeats 4000000 in
theorem appendSeq_any (B g n : Nat) (a b : Int) (m : Nat) (hm : m = (b - a).toNat) (hn : n ≤ 6) (hab : 0 ≤ a ∧ a ≤ 1000000 ∧ b ≤ 1000000) (w : World) (hrd : SpotsRd B g n a b w) (hlt : B + 2 < w.heap.size ∧ g < w.heap.size) :
    Calls Try.prog 55 #[.slice none 0 0, .func (.func 56) #[] #[.pointer (some ⟨B, 0, none⟩), .pointer (some ⟨B + 1, 0, none⟩), .pointer (some ⟨B + 2, 0, none⟩)]] w (Collected w (n * m) (nthSpot a m)) := by
  have Hrd := Lib.hid hrd; clear hrd
  have hit := spots1_iter 2 B g n a b m hm hn hab
  have hnm : n * m ≤ 6000000 := by
    have h1 : m ≤ 1000000 := by omega
    exact Nat.mul_le_mul hn h1
  have Hit := Lib.hid hit; clear hit hm
  refine (callsIn_wide (n := 3)).1 ?_
  refine callsIn_of_wp_marks Try.func55 rfl trivial ?_ rfl
  simp only [Try.ntmps55, List.size_toArray, List.length_cons, List.length_nil, Nat.reduceAdd, Nat.reduceSub, Array.replicate_succ, Array.replicate_zero, List.push_toArray, List.append_toArray, List.nil_append, List.cons_append]
  gi_wp2_with fail
  have hW0 : SeqI B g n a b w.heap.size (w.heap.size + 1) w (nthSpot a m) (fun k => k) 0 (w.alloc (.cells #[.slice none 0 0] 31)) := by
    have r1 := RowAt.new w #[.slice none 0 0] 31 (fun _ => .slice none 0 0) 1 (by simp) (one_cell rfl)
    have hb : Below w.heap.size w (w.alloc (.cells #[.slice none 0 0] 31)) := (Below.refl _ w).alloc (Nat.le_refl _) _
    exact ⟨Hrd.out.below hb hlt.1 hlt.2, ⟨_, r1, Spots.nil _ _ _⟩, hb, by simp, ⟨by omega, by omega, by omega⟩, ⟨by omega, by omega, by omega, by omega⟩⟩
  have hsz : (w.alloc (.cells #[.slice none 0 0] 31)).heap.size = w.heap.size + 1 := by simp
  generalize hW : w.alloc (.cells #[.slice none 0 0] 31) = W0 at *
  clear hW
  have Hsz := Lib.hid hsz; clear hsz
  refine wpIn_rangeA rfl (fun h => by simp [Fence.wide] at h) (gf := 56) (lb := #[.pointer (some ⟨B, 0, none⟩), .pointer (some ⟨B + 1, 0, none⟩), .pointer (some ⟨B + 2, 0, none⟩)]) rfl trivial (enters_of Try.func56 (by kernel_rfl) rfl)
    Hit.out (fun k => rfl) (SeqI B g n a b w.heap.size (w.heap.size + 1) w (nthSpot a m) (fun k => k)) (fun _ _ _ => False) (by rw [Hsz.out]; exact seqI_own (Nat.le_refl _)) (fun _ _ _ _ _ h _ _ => h) (fun k W h => h.rd) hW0
    (fun a1 k W => ∃ q, a1 = seqAct B w.heap.size (nthSpot a m k) q ∧ SeqA B g n a b w.heap.size (w.heap.size + 1) w (nthSpot a m) (fun k => k) (nthSpot a m k) q k W) ?hA ?assign ?body ?done ?stop
  case hA =>
    intro a1 k W W' row h hg hr
    rw [Hsz.out] at hr
    obtain ⟨q, h1, h2⟩ := h
    exact ⟨q, h1, seqA_own (Nat.le_refl _) k W W' row h2 hg hr⟩
  case assign =>
    intro l k W Kc hi hk hK
    unfold spotArgs spotA
    have hv := row2 W (.int .i64 (nthSpot a m k).1) (.int .i64 (nthSpot a m k).2) 45
    have hi' := hi.grow (Nat.le_refl _) (World.grownBy_alloc W (.cells #[.int .i64 (nthSpot a m k).1, .int .i64 (nthSpot a m k).2] 45) none)
    have hsz := hi.size
    have Hn := Lib.hid (And.intro hi' hv); clear hi' hv hi
    gi_wp2
    exact hK _ _ ⟨W.heap.size, rfl, ⟨Hn.out.1, Hn.out.2, by omega⟩⟩ ((KeepsOthers.alloc _ _).from _)
  case body =>
    intro l a1 k W hA hk
    obtain ⟨q, rfl, hA⟩ := hA
    have hi := hA.I
    obtain ⟨q0, q1⟩ := row2_cells hA.var
    have hsz := hi.size
    obtain ⟨v, ho, hown⟩ := hi.out
    have ho0 := ho.cell (i := 0) (by omega)
    have hof := ho.frozen 0
    obtain ⟨av, cv, rfl⟩ := hown.slice
    have Hi := Lib.hid hi; clear hi hA
    have Ho := Lib.hid ho; clear ho
    have Hown := Lib.hid hown; clear hown
    unfold seqAct
    generalize hs : nthSpot a m k = s at *
    have Hs := Lib.hid hs; clear hs
    gi_wp2_with (gi_at_builtin; refine Hold.stop ?_)
    refine Hold.go ?_
    refine wpListIn_append_sp rfl _ _ rfl (w.heap.size + 1) _ k (nthSpot a m) rfl (Hown.out.alloc _) W.heap.size 0 1 1 (fun _ => s) rfl (cells1 W s.1 s.2) (by omega) (by simp; omega) ?_
    intro v' W3 hown' hgr
    obtain ⟨r1, hI', hK⟩ := seq_step Hi.out s _ v' Ho.out Hown.out Hs.out.symm rfl hown' hgr W0.heap.size
    obtain ⟨a3, c3, rfl⟩ := hown'.slice
    have r1c := r1.cell (i := 0) (by omega)
    have r1f := r1.frozen 0
    have Hn := Lib.hid (And.intro hK hI')
    clear hK hI' hown' hgr r1
    gi_wp2
    exact Hn.out
  case done =>
    intro D W hD hi hK
    obtain ⟨v, ho, hown⟩ := hi.out
    obtain ⟨av, cv, rfl⟩ := hown.slice
    have ho0 := ho.cell (i := 0) (by omega)
    have hsz0 := Hsz.out
    have hi0 := Lib.hid hi
    have Hown := Lib.hid hown; clear hown hi ho
    gi_wp2
    refine ⟨by simp, .inl ⟨_, _, rfl, run_takeDeferred hK, ?_⟩⟩
    refine ⟨_, results_tmp rfl _ _ _, _, rfl, (Hown.out.mono (by omega)).kept (grownBy_putObj' W D _) (fun r e => by cases e; exact ⟨_, hK, rfl⟩), ?_⟩
    exact below_keptFrom (row := some D) hi0.out.below (Nat.le_refl _) (Nat.le_refl _) (grownBy_putObj' W D _) (fun r e => by cases e; exact ⟨by omega, _, hK, rfl⟩)
  case stop =>
    intro D c k W _ _ h _
    exact h.elim

end Go.Proofs.Ytlbohmfhdchabaa
