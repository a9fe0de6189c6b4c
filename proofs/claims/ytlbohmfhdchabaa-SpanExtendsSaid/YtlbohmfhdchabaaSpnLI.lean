/- Span: the law SpanExtends. -/
import Derived.Test.YtlbohmfhdchabaaSpnLE
import Derived.Test.YtlbohmfhdchabaaSpnLH
import Derived.Deep.DrawnRows
import Derived.Deep.CutRange
import Derived.Test.YtlbohmfhdchabaaSpnLF
import Derived.Deep.RegionHeldLaw
namespace Go.Proofs.Ytlbohmfhdchabaa
open Go.RowKit
attribute [local go_sem ↓] Go.wp_at_zero Go.wp_at_succ

theorem ext_refl (A : Lay) : Ext A A := ⟨Int.le_refl _, fun _ _ => sameSp_true rfl (fun _ _ => rfl)⟩
theorem ext_trans {A B C : Lay} (h1 : Ext A B) (h2 : Ext B C) : Ext A C := by
  refine ⟨Int.le_trans h1.1 h2.1, fun p hp => ?_⟩
  obtain ⟨e1, f1⟩ := sameSp_iff.1 (h1.2 p hp)
  obtain ⟨e2, f2⟩ := sameSp_iff.1 (h2.2 p (by have := h1.1; omega))
  exact sameSp_true (e1.trans e2) fun i hi => (f1 i hi).trans (f2 i (by omega))

/-- append at a step of a region that draws. -/
theorem step_append_o {P : Program} {w : World} {ops : Array Oper} {o : Oper} {a : Act} {K : Act → World → Prop} {Q : Exit → Act → World → Prop} {E : Prop} (hgd : o.guard = none) (s x : Operand) (t e : TypeId) (z : Value) (bytes : Nat)
    (hop : o.op = .call { callee := .builtin .append, args := #[s, x], argTypes := #[t, t] }) (ht : P.underlying t = some (.slice e))
    (hinfo : (P.info? e).map (fun i => (i.zero, i.size, i.bytes)) = some (some z, 1, bytes)) (hz : z.cells.size = 1)
    (B : Nat) (v : Value) (n : Nat) (f : Nat → Value) (hs : a.eval s = v) (hown : Own w B e v n f)
    (b off m c : Nat) (h : Nat → Value) (hx : a.eval x = .slice (some ⟨b, off, none⟩) m c) (hc : Cells w b off m h) (h1 : ∀ i, i < m → (h i).oneCell' = true)
    (hm : n + m ≤ 1000000000) (hby : bytes ≤ 1000) (hB : B ≤ w.heap.size)
    (hK : ∀ v' w', Own w' B e v' (n + m) (fun i => if i < n then f i else h (i - n)) → w.grownBy w' v.ownBlock → K (a.put o.dst v') w') :
    if Region.wanted o (yielded ops a.tmps) = true then Oper.wp P o a w K Q else E := by
  rw [if_pos (by simp [Region.wanted, hgd])]
  obtain ⟨v', w', hr, h2, h3, _, _⟩ := append_o s x t e z bytes hop ht hinfo hz B v n f hs hown b off m c h hx hc h1 hm hby hB
  unfold Oper.wp
  rw [hr]
  exact hK v' w' h2 h3

/-- The same at a list that lies in a block, and where the new list lies. -/
theorem step_append_q {P : Program} {w : World} {ops : Array Oper} {o : Oper} {a : Act} {K : Act → World → Prop} {Q : Exit → Act → World → Prop} {E : Prop} (hgd : o.guard = none) (s x : Operand) (t e : TypeId) (z : Value) (bytes : Nat)
    (hop : o.op = .call { callee := .builtin .append, args := #[s, x], argTypes := #[t, t] }) (ht : P.underlying t = some (.slice e))
    (hinfo : (P.info? e).map (fun i => (i.zero, i.size, i.bytes)) = some (some z, 1, bytes)) (hz : z.cells.size = 1)
    (B y n cs : Nat) (f : Nat → Value) (hs : a.eval s = .slice (some ⟨y, 0, none⟩) n cs) (hown : Own w B e (.slice (some ⟨y, 0, none⟩) n cs) n f)
    (b off m c : Nat) (h : Nat → Value) (hx : a.eval x = .slice (some ⟨b, off, none⟩) m c) (hc : Cells w b off m h) (h1 : ∀ i, i < m → (h i).oneCell' = true)
    (hm : n + m ≤ 1000000000) (hby : bytes ≤ 1000) (hB : B ≤ w.heap.size) (hpos : 0 < n + m)
    (hK : ∀ g' c' w', Own w' B e (.slice (some ⟨g', 0, none⟩) (n + m) c') (n + m) (fun i => if i < n then f i else h (i - n)) → w.grownBy w' (some y) → (g' = y ∨ g' = w.heap.size) → K (a.put o.dst (.slice (some ⟨g', 0, none⟩) (n + m) c')) w') :
    if Region.wanted o (yielded ops a.tmps) = true then Oper.wp P o a w K Q else E := by
  rw [if_pos (by simp [Region.wanted, hgd])]
  obtain ⟨v', w', hr, h2, h3, h4, _⟩ := append_o s x t e z bytes hop ht hinfo hz B _ n f hs hown b off m c h hx hc h1 hm hby hB
  unfold Oper.wp
  rw [hr]
  rcases h2 with ⟨rfl, h0⟩ | ⟨g', c', rfl, hg1, hg2, hg3⟩
  · omega
  · refine hK g' c' w' (.inr ⟨g', c', rfl, hg1, hg2, hg3⟩) h3 ?_
    rcases h4 with h | h
    · left; cases h; rfl
    · right; cases h; rfl

theorem below_some {B y : Nat} {w0 w w' : World} (hb : Below B w0 w) (hB : B ≤ w.heap.size) (hg : w.grownBy w' (some y)) (hy : B ≤ y) : Below B w0 w' :=
  hb.grown hg hB (fun k hk => by cases hk; exact hy)
theorem below_set3 {B g : Nat} {w0 w : World} (hb : Below B w0 w) (hg : B ≤ g) (x y z : Value) : Below B w0 (((w.setCell ⟨g, 0, none⟩ x).setCell ⟨g, 1, none⟩ y).setCell ⟨g, 2, none⟩ z) :=
  ((hb.setCell hg x).setCell hg y).setCell hg z
theorem RowAt.set3 {w : World} {g : Nat} {e : TypeId} {a b c : Value} (h : RowAt w g e 3 3 (st3 a b c)) (x y z : Value) : RowAt (((w.setCell ⟨g, 0, none⟩ x).setCell ⟨g, 1, none⟩ y).setCell ⟨g, 2, none⟩ z) g e 3 3 (st3 x y z) :=
  (((h.set 0 x).set 1 y).set 2 z).congr fun i hi => by
    obtain rfl | rfl | rfl : i = 0 ∨ i = 1 ∨ i = 2 := by omega
    · rfl
    · rfl
    · rfl
theorem RowAt.some {W W' : World} {y g : Nat} {e : TypeId} {cap m : Nat} {f : Nat → Value} (h : RowAt W g e cap m f) (hg : W.grownBy W' (some y)) (hne : y ≠ g) : RowAt W' g e cap m f :=
  h.grown hg (fun h => hne (Option.some.inj h))
theorem RowAt.drew' {w : World} {g : Nat} {e : TypeId} {cap n : Nat} {f : Nat → Value} (h : RowAt w g e cap n f) : RowAt w.drew g e cap n f := h.all (Below.refl _ w).drew
theorem Own.first {w : World} {B n : Nat} {e : TypeId} {v : Value} {f h : Nat → Value} (ho : Own w B e v (0 + n) (fun i => if i < 0 then f i else h (i - 0))) : Own w B e v n h := by
  rw [Nat.zero_add] at ho
  exact ho.congr fun i _ => by rw [if_neg (by omega), Nat.sub_zero]
theorem Own.geB {w : World} {B g n c : Nat} {e : TypeId} {f : Nat → Value} (h : Own w B e (.slice (some ⟨g, 0, none⟩) n c) n f) : B ≤ g ∧ g < w.heap.size := by
  rcases h with ⟨h, _⟩ | ⟨g', cap, h, hB, hr, _⟩
  · cases h
  · cases h; exact ⟨hB, hr.lt⟩
theorem row_new0 (w : World) (g : Nat) (e : TypeId) (f : Nat → Value) (hg : w.heap.size = g) : RowAt (w.alloc (.cells #[] e)) g e 0 0 f := by
  subst hg
  exact RowAt.new w #[] e f 0 (Nat.le_refl _) (fun i hi => absurd hi (by omega))
theorem row_new1 (w : World) (g : Nat) (v : Value) (e : TypeId) (hg : w.heap.size = g) : RowAt (w.alloc (.cells #[v] e)) g e 1 1 (fun _ => v) := by
  subst hg
  exact RowAt.new w #[v] e (fun _ => v) 1 (by simp) (one_cell rfl)
theorem row_newZ (w : World) (g : Nat) (e : TypeId) (x y z : Value) (hg : w.heap.size = g) : RowAt (w.alloc (.cells #[x, y, z] e)) g e 3 3 (st3 x y z) := by
  subst hg
  exact row3 w x y z e
theorem RowAt.neType {w : World} {g g' c c' n n' : Nat} {e e' : TypeId} {f f' : Nat → Value} (h : RowAt w g e c n f) (h' : RowAt w g' e' c' n' f') (he : e ≠ e') : g ≠ g' := by
  rintro rfl
  obtain ⟨cur, hg, _⟩ := h
  obtain ⟨cur', hg', _⟩ := h'
  rw [hg] at hg'
  injection hg' with hx
  injection hx with _ hy
  exact he hy
theorem Own.rowAt {w : World} {B g n c : Nat} {e : TypeId} {f : Nat → Value} (h : Own w B e (.slice (some ⟨g, 0, none⟩) n c) n f) : RowAt w g e c n f ∧ c ≤ maxLen := by
  rcases h with ⟨h, _⟩ | ⟨g', cap, h, hB, hr, hm⟩
  · cases h
  · cases h; exact ⟨hr, hm⟩
/-- What Extends returns, as a truth and an error. -/
def ExtV (A B : Lay) (x : Bool) (e : Int) : Prop := (A.Right ∧ B.Right ∧ e = 0 ∧ (x = true ↔ Ext A B)) ∨ (¬ (A.Right ∧ B.Right) ∧ e = 1 ∧ x = false)

theorem Extends_g (A B : Lay) (sa sb : Value) (w : World) (ha : IArg w sa A.n A.M) (hb : IArg w sb B.n B.M) :
    Calls Try.prog 38 #[layV A sa, layV B sb] w fun e w' => ∃ x n, e = .returned (.tuple #[.bool x, .int .i64 n]) ∧ ExtV A B x n ∧ Below w.heap.size w w' :=
  (Extends_any A B sa sb w ha hb).mono fun e w' h => by
    obtain ⟨(⟨h1, h2, h3, rfl⟩ | ⟨h1, h2, h3, rfl⟩ | ⟨h1, rfl⟩), hB⟩ := h
    · exact ⟨true, 0, rfl, .inl ⟨h1, h2, rfl, by simp [h3]⟩, hB⟩
    · exact ⟨false, 0, rfl, .inl ⟨h1, h2, rfl, by simp [h3]⟩, hB⟩
    · exact ⟨false, 1, rfl, .inr ⟨h1, rfl, rfl⟩, hB⟩

/-- The layout with one member more. -/
def Lay.more (L : Lay) (m : Int) : Lay := ⟨L.K, L.n + 1, fun i => if i < L.n then L.M i else m, L.C⟩
theorem fin_arg {L : Lay} {m : Int} (hR : L.Right) (hm : 1 ≤ m ∧ m ≤ 4096) {w : World} {g c : Nat} (h : RowAt w g 3 c (L.n + 1) (fun i => if i < L.n then intsV L.M i else (fun _ => Value.int .i64 m) (i - L.n))) (hc : c ≤ maxLen) :
    IArg w (.slice (some ⟨g, 0, none⟩) (L.n + 1) c) (L.n + 1) (L.more m).M := by
  refine .inr ⟨g, 0, c, rfl, by omega, h.le, hc, (h.congr fun i hi => ?_).reads, fun i hi => ?_⟩
  · unfold intsV Lay.more
    dsimp only
    split <;> rfl
  · unfold Lay.more
    dsimp only
    split
    · have := hR.mem i (by assumption); omega
    · omega

theorem sumI_congr {M M' : Nat → Int} : ∀ k, (∀ i, i < k → M i = M' i) → sumI M k = sumI M' k
  | 0, _ => rfl
  | k + 1, h => by
    simp only [sumI]
    rw [sumI_congr k (fun i hi => h i (by omega)), h k (by omega)]
theorem more_right {L : Lay} (h : L.Right) (hK : L.K = 2) (hn : L.n < 6) {m : Int} (hm : 1 ≤ m ∧ m ≤ 4096) : (L.more m).Right := by
  refine ⟨by show 1 ≤ L.K ∧ L.K ≤ 5; omega, h.chunk, ?_, fun i hi => ?_, fun x => ?_⟩
  · have hK2 : (L.more m).K = 2 := hK
    have hn2 : (L.more m).n = L.n + 1 := rfl
    have := h.nle
    unfold Lay.lo Lay.hi
    rw [hK2, hn2]
    simp
    omega
  · show 1 ≤ (if i < L.n then L.M i else m) ∧ (if i < L.n then L.M i else m) ≤ 4096
    split
    · exact h.mem i (by assumption)
    · exact hm
  · exfalso
    have x : L.K = 3 ∨ L.K = 5 := x
    omega
theorem more_ext {L : Lay} (h : L.Right) (hK : L.K = 2) {m : Int} (hm : 1 ≤ m ∧ m ≤ 4096) : Ext L (L.more m) := by
  have hs : ∀ k, k ≤ L.n → sumI (L.more m).M k = sumI L.M k := fun k hk => sumI_congr k (fun i hi => by show (if i < L.n then L.M i else m) = _; rw [if_pos (by omega)])
  have hlast : sumI (L.more m).M (L.n + 1) = sumI L.M L.n + m := by
    simp only [sumI]
    rw [hs L.n (Nat.le_refl _)]
    show _ + (if L.n < L.n then L.M L.n else m) = _
    rw [if_neg (by omega)]
  have e1 : L.size = sumI L.M L.n := by unfold Lay.size; rw [hK]; rfl
  have e2 : (L.more m).size = sumI L.M L.n + m := by
    unfold Lay.size
    show (if L.K = 1 then _ else if L.K = 2 then sumI (L.more m).M (L.n + 1) else _) = _
    rw [hK, hlast]; rfl
  refine ⟨by rw [e1, e2]; omega, fun p hp => sameSp_true ?_ fun i hi => ?_⟩
  · unfold Lay.num'
    show (if L.K = 4 then L.n else if L.K = 5 then 2 else 1) = (if L.K = 4 then L.n + 1 else if L.K = 5 then 2 else 1)
    rw [hK]; rfl
  · rw [e1] at hp
    obtain ⟨j, hj, h1, h2⟩ := cat_ex L.M p L.n (by omega) hp
    have c1 := catI_eq L.M p hj (fun i hi => (h.mem i hi).1) h1 h2
    have c2 := catI_eq (L.more m).M p (j := j) (n := L.n + 1) (by omega) (fun i hi => by
      show 1 ≤ (if i < L.n then L.M i else m)
      split
      · exact (h.mem i (by assumption)).1
      · exact hm.1) (by rw [hs j (by omega)]; exact h1) (by rw [hs (j + 1) (by omega)]; exact h2)
    unfold Lay.at
    show (if L.K = 1 then _ else if L.K = 2 then (((catI L.M p L.n : Nat) : Int), (p : Int) - sumI L.M (catI L.M p L.n)) else _) = (if L.K = 1 then _ else if L.K = 2 then (((catI (L.more m).M p (L.n + 1) : Nat) : Int), (p : Int) - sumI (L.more m).M (catI (L.more m).M p (L.n + 1))) else _)
    rw [hK, c1, c2, hs j (by omega)]; rfl

theorem keep9 {w w' : World} {g h k : Nat} {e : TypeId} {a b c x y z u v s : Value} (h1 : RowAt w g e 3 3 (st3 a b c)) (h2 : RowAt w h e 3 3 (st3 x y z)) (h3 : RowAt w k e 3 3 (st3 u v s)) (hq : Below w.heap.size w w') :
    RowAt w' g e 3 3 (st3 a b c) ∧ RowAt w' h e 3 3 (st3 x y z) ∧ RowAt w' k e 3 3 (st3 u v s) := ⟨h1.all hq, h2.all hq, h3.all hq⟩

theorem three_setup {w : World} {A B C : Lay} {sa sb sc : Value} (ha : IArg w sa A.n A.M) (hb : IArg w sb B.n B.M) (hc : IArg w sc C.n C.M) :
    (IArg (((w.alloc (.cells #[.int .i64 A.K, sa, .int .i64 A.C] 24)).alloc (.cells #[.int .i64 B.K, sb, .int .i64 B.C] 24)).alloc (.cells #[.int .i64 C.K, sc, .int .i64 C.C] 24)) sa A.n A.M ∧
    IArg (((w.alloc (.cells #[.int .i64 A.K, sa, .int .i64 A.C] 24)).alloc (.cells #[.int .i64 B.K, sb, .int .i64 B.C] 24)).alloc (.cells #[.int .i64 C.K, sc, .int .i64 C.C] 24)) sb B.n B.M ∧
    IArg (((w.alloc (.cells #[.int .i64 A.K, sa, .int .i64 A.C] 24)).alloc (.cells #[.int .i64 B.K, sb, .int .i64 B.C] 24)).alloc (.cells #[.int .i64 C.K, sc, .int .i64 C.C] 24)) sc C.n C.M) ∧
    (RowAt (((w.alloc (.cells #[.int .i64 A.K, sa, .int .i64 A.C] 24)).alloc (.cells #[.int .i64 B.K, sb, .int .i64 B.C] 24)).alloc (.cells #[.int .i64 C.K, sc, .int .i64 C.C] 24)) w.heap.size 24 3 3 (st3 (.int .i64 A.K) sa (.int .i64 A.C)) ∧
    RowAt (((w.alloc (.cells #[.int .i64 A.K, sa, .int .i64 A.C] 24)).alloc (.cells #[.int .i64 B.K, sb, .int .i64 B.C] 24)).alloc (.cells #[.int .i64 C.K, sc, .int .i64 C.C] 24)) (w.heap.size + 1) 24 3 3 (st3 (.int .i64 B.K) sb (.int .i64 B.C)) ∧
    RowAt (((w.alloc (.cells #[.int .i64 A.K, sa, .int .i64 A.C] 24)).alloc (.cells #[.int .i64 B.K, sb, .int .i64 B.C] 24)).alloc (.cells #[.int .i64 C.K, sc, .int .i64 C.C] 24)) (w.heap.size + 2) 24 3 3 (st3 (.int .i64 C.K) sc (.int .i64 C.C))) ∧
    Below w.heap.size w (((w.alloc (.cells #[.int .i64 A.K, sa, .int .i64 A.C] 24)).alloc (.cells #[.int .i64 B.K, sb, .int .i64 B.C] 24)).alloc (.cells #[.int .i64 C.K, sc, .int .i64 C.C] 24)) := by
  obtain ⟨h1, h2, h3, h4, h5⟩ := two_setup ha hb
  have h6 := lay_setup (hc.all h5)
  have hs : ((w.alloc (.cells #[.int .i64 A.K, sa, .int .i64 A.C] 24)).alloc (.cells #[.int .i64 B.K, sb, .int .i64 B.C] 24)).heap.size = w.heap.size + 2 := by simp
  rw [hs] at h6
  have hB := h5.alloc h5.size (.cells #[.int .i64 C.K, sc, .int .i64 C.C] 24)
  exact ⟨⟨ha.all hB, hb.all hB, hc.all hB⟩, ⟨h3.alloc _, h4.alloc _, h6.2.1⟩, hB⟩

set_option maxRecDepth 8000 in
set_option maxHeartbeats 16000000 in
theorem SpanExtends_any (A : Lay) (sa : Value) (B : Lay) (sb : Value) (C : Lay) (sc : Value) (m : Int) (w : World) (ha : IArg w sa A.n A.M) (hb : IArg w sb B.n B.M) (hc : IArg w sc C.n C.M) :
    Calls Try.prog 11 #[layV A sa, layV B sb, layV C sc, .int .i64 m] w (TrueR w) := by
  obtain ⟨⟨hIA, hIB, hIC⟩, ⟨hrA, hrB, hrC⟩, hBel⟩ := three_setup ha hb hc
  obtain ⟨aa, ca, rfl⟩ := ha.slice
  obtain ⟨ab, cb, rfl⟩ := hb.slice
  obtain ⟨ac, cc, rfl⟩ := hc.slice
  obtain ⟨a0, a1, a2⟩ := row3_cells hrA
  have IA := Lib.hid hIA
  have IB := Lib.hid hIB
  have IC := Lib.hid hIC
  clear hIA hIB hIC ha hb hc
  unfold layV
  go_enter Try.func11, Try.ntmps11
  go_wp2_with fail
  generalize (((w.alloc (.cells #[.int .i64 A.K, .slice aa A.n ca, .int .i64 A.C] 24)).alloc (.cells #[.int .i64 B.K, .slice ab B.n cb, .int .i64 B.C] 24)).alloc (.cells #[.int .i64 C.K, .slice ac C.n cc, .int .i64 C.C] 24)) = W at *
  refine (few_any A _ W IA.out).mono ?_
  rintro e w1 ⟨(⟨-, rfl⟩ | ⟨-, rfl⟩), hb⟩
  rotate_left 1
  · have hB1 := hBel.trans (hb.mono hBel.size)
    go_wp2_with fail
    refine (sanity_any _).mono ?_
    rintro e wz ⟨rfl, hbz⟩
    go_wp2
    go_ret
    exact ⟨rfl, hB1.trans (hbz.mono hB1.size)⟩
  obtain ⟨hrA1, hrB1, hrC1⟩ := keep9 hrA hrB hrC hb
  have JA := Lib.hid (IA.out.all hb)
  have JB := Lib.hid (IB.out.all hb)
  have JC := Lib.hid (IC.out.all hb)
  have hB1 := hBel.trans (hb.mono hBel.size)
  obtain ⟨b0, b1, b2⟩ := row3_cells hrB1
  clear a0 a1 a2 hrA hrB hrC IA IB IC hb
  go_wp2_with fail
  refine (few_any B _ w1 JB.out).mono ?_
  rintro e w2 ⟨(⟨-, rfl⟩ | ⟨-, rfl⟩), hb⟩
  rotate_left 1
  · have hB2 := hB1.trans (hb.mono hB1.size)
    go_wp2_with fail
    refine (sanity_any _).mono ?_
    rintro e wz ⟨rfl, hbz⟩
    go_wp2
    go_ret
    exact ⟨rfl, hB2.trans (hbz.mono hB2.size)⟩
  obtain ⟨hrA2, hrB2, hrC2⟩ := keep9 hrA1 hrB1 hrC1 hb
  have IA := Lib.hid (JA.out.all hb)
  have IB := Lib.hid (JB.out.all hb)
  have IC := Lib.hid (JC.out.all hb)
  have hB2 := hB1.trans (hb.mono hB1.size)
  obtain ⟨c0, c1, c2⟩ := row3_cells hrC2
  clear b0 b1 b2 hrA1 hrB1 hrC1 JA JB JC hb
  go_wp2_with fail
  refine (few_any C _ w2 IC.out).mono ?_
  rintro e w3 ⟨(⟨-, rfl⟩ | ⟨-, rfl⟩), hb⟩
  rotate_left 1
  · have hB3 := hB2.trans (hb.mono hB2.size)
    go_wp2_with fail
    refine (sanity_any _).mono ?_
    rintro e wz ⟨rfl, hbz⟩
    go_wp2
    go_ret
    exact ⟨rfl, hB3.trans (hbz.mono hB3.size)⟩
  obtain ⟨hrA3, hrB3, hrC3⟩ := keep9 hrA2 hrB2 hrC2 hb
  have JA := Lib.hid (IA.out.all hb)
  have JB := Lib.hid (IB.out.all hb)
  have JC := Lib.hid (IC.out.all hb)
  have hB3 := hB2.trans (hb.mono hB2.size)
  obtain ⟨a0, a1, a2⟩ := row3_cells hrA3
  clear c0 c1 c2 hrA2 hrB2 hrC2 IA IB IC hb
  go_wp2_with fail
  refine (Extends_g A A _ _ w3 JA.out JA.out).mono ?_
  rintro e w4 ⟨x1, e1, rfl, v1, hb⟩
  obtain ⟨hrA4, hrB4, hrC4⟩ := keep9 hrA3 hrB3 hrC3 hb
  have IA := Lib.hid (JA.out.all hb)
  have IB := Lib.hid (JB.out.all hb)
  have IC := Lib.hid (JC.out.all hb)
  have hB4 := hB3.trans (hb.mono hB3.size)
  have V1 := Lib.hid v1; clear v1
  clear a0 a1 a2 hrA3 hrB3 hrC3 JA JB JC hb
  obtain ⟨a0, a1, a2⟩ := row3_cells hrA4
  obtain ⟨b0, b1, b2⟩ := row3_cells hrB4
  go_wp2_with fail
  refine (Extends_g A B _ _ w4 IA.out IB.out).mono ?_
  rintro e w5 ⟨x2, e2, rfl, v2, hb⟩
  obtain ⟨hrA5, hrB5, hrC5⟩ := keep9 hrA4 hrB4 hrC4 hb
  have JA := Lib.hid (IA.out.all hb)
  have JB := Lib.hid (IB.out.all hb)
  have JC := Lib.hid (IC.out.all hb)
  have hB5 := hB4.trans (hb.mono hB4.size)
  have V2 := Lib.hid v2; clear v2
  clear a0 a1 a2 b0 b1 b2 hrA4 hrB4 hrC4 IA IB IC hb
  obtain ⟨b0, b1, b2⟩ := row3_cells hrB5
  obtain ⟨c0, c1, c2⟩ := row3_cells hrC5
  go_wp2_with fail
  refine (Extends_g B C _ _ w5 JB.out JC.out).mono ?_
  rintro e w6 ⟨x3, e3, rfl, v3, hb⟩
  obtain ⟨hrA6, hrB6, hrC6⟩ := keep9 hrA5 hrB5 hrC5 hb
  have IA := Lib.hid (JA.out.all hb)
  have IB := Lib.hid (JB.out.all hb)
  have IC := Lib.hid (JC.out.all hb)
  have hB6 := hB5.trans (hb.mono hB5.size)
  have V3 := Lib.hid v3; clear v3
  clear b0 b1 b2 c0 c1 c2 hrA5 hrB5 hrC5 JA JB JC hb
  obtain ⟨a0, a1, a2⟩ := row3_cells hrA6
  obtain ⟨c0, c1, c2⟩ := row3_cells hrC6
  go_wp2_with fail
  refine (Extends_g A C _ _ w6 IA.out IC.out).mono ?_
  rintro e w7 ⟨x4, e4, rfl, v4, hb⟩
  have hrA7 := hrA6.all hb
  have JA := Lib.hid (IA.out.all hb)
  have hB7 := hB6.trans (hb.mono hB6.size)
  have V4 := Lib.hid v4; clear v4
  clear a0 a1 a2 c0 c1 c2 hrA6 hrB6 hrC6 IA IB IC hb
  obtain ⟨a0, a1, a2⟩ := row3_cells hrA7
  go_wp2_with fail
  refine (Check_any A _ w7 JA.out).mono ?_
  rintro e w8 ⟨hchk, hb⟩
  have hrA8 := hrA7.all hb
  have IA := Lib.hid (JA.out.all hb)
  have hB8 := hB7.trans (hb.mono hB7.size)
  clear a0 a1 a2 hrA7 JA hb
  obtain ⟨a0, a1, a2⟩ := row3_cells hrA8
  by_cases hRA : A.Right
  rotate_left 1
  · obtain rfl : e = .returned (.int .i64 1) := hchk.elim (fun h => absurd h.1 hRA) (fun h => h.2)
    obtain ⟨rfl, rfl⟩ : e1 = 1 ∧ x1 = false := V1.out.elim (fun h => absurd h.1 hRA) (fun h => h.2)
    obtain ⟨rfl, rfl⟩ : e2 = 1 ∧ x2 = false := V2.out.elim (fun h => absurd h.1 hRA) (fun h => h.2)
    clear hchk hRA V1 V2 V3 V4
    go_wp2_with fail
    refine (sanity_any _).mono ?_
    rintro e wz ⟨rfl, hbz⟩
    go_wp2
    go_ret
    exact ⟨rfl, hB8.trans (hbz.mono hB8.size)⟩
  obtain rfl : e = .returned (.int .i64 0) := hchk.elim (fun h => h.2) (fun h => absurd hRA h.1)
  obtain ⟨rfl, rfl⟩ : e1 = 0 ∧ x1 = true := by
    rcases V1.out with ⟨-, -, h1, h2⟩ | ⟨h, -⟩
    · exact ⟨h1, h2.2 (ext_refl A)⟩
    · exact absurd ⟨hRA, hRA⟩ h
  have hcase : (e2 = 1 ∧ x2 = false) ∨ (e2 = 0 ∧ e3 = 1) ∨ (e2 = 0 ∧ e3 = 0 ∧ e4 = 0 ∧ x2 = false) ∨ (e2 = 0 ∧ e3 = 0 ∧ e4 = 0 ∧ x2 = true ∧ x3 = false) ∨ (e2 = 0 ∧ e3 = 0 ∧ e4 = 0 ∧ x2 = true ∧ x3 = true ∧ x4 = true) := by
    rcases V2.out with ⟨-, hRB, h1, h2⟩ | ⟨-, h1, h2⟩
    rotate_left 1
    · exact .inl ⟨h1, h2⟩
    rcases V3.out with ⟨-, hRC, h3, h4⟩ | ⟨-, h3, -⟩
    rotate_left 1
    · exact .inr (.inl ⟨h1, h3⟩)
    rcases V4.out with ⟨-, -, h5, h6⟩ | ⟨h, -⟩
    rotate_left 1
    · exact absurd ⟨hRA, hRC⟩ h
    cases x2
    · exact .inr (.inr (.inl ⟨h1, h3, h5, rfl⟩))
    cases x3
    · exact .inr (.inr (.inr (.inl ⟨h1, h3, h5, rfl, rfl⟩)))
    · exact .inr (.inr (.inr (.inr ⟨h1, h3, h5, rfl, rfl, h6.2 (ext_trans (h2.1 rfl) (h4.1 rfl))⟩)))
  clear hchk V1 V2 V3 V4
  have RA := Lib.hid hRA; clear hRA
  have hn := RA.out.nle
  go_upto_region 9 with fail
  go_cut [89] from 20 to 89 (fun s89 wx => s89 = .bool false ∧ wx = w8)
  case first =>
    rcases hcase with ⟨rfl, rfl⟩ | ⟨rfl, rfl⟩ | ⟨rfl, rfl, rfl, rfl⟩ | ⟨rfl, rfl, rfl, rfl, rfl⟩ | ⟨rfl, rfl, rfl, rfl, rfl, rfl⟩
    all_goals
      go_wp2_with fail
      go_meet
      case rel => exact ⟨rfl, rfl⟩
  obtain ⟨rfl, hwc⟩ := hcut
  rw [hwc]
  clear hwc hcase
  have hdec : (A.K ≠ 2) ∨ (A.K = 2 ∧ 6 ≤ A.n) ∨ (A.K = 2 ∧ A.n < 6 ∧ m < 1) ∨ (A.K = 2 ∧ A.n < 6 ∧ 1 ≤ m ∧ 4096 < m) ∨ (A.K = 2 ∧ A.n < 6 ∧ 1 ≤ m ∧ m ≤ 4096) := by omega
  rcases hdec with hd1 | ⟨hd1, hd2⟩ | ⟨hd1, hd2, hd3⟩ | ⟨hd1, hd2, hd3, hd4⟩ | ⟨hd1, hd2, hd3, hd4⟩
  · have hk : (A.K != 2) = true := by rw [bne_iff_ne]; exact hd1
    clear hd1
    go_wp2_with fail
    refine (sanity_any _).mono ?_
    rintro e wz ⟨rfl, hbz⟩
    go_wp2
    go_ret
    exact ⟨rfl, hB8.trans (hbz.mono hB8.size)⟩
  · rw [hd1] at a0
    go_wp2_with fail
    refine (sanity_any _).mono ?_
    rintro e wz ⟨rfl, hbz⟩
    go_wp2
    go_ret
    exact ⟨rfl, hB8.trans (hbz.mono hB8.size)⟩
  · rw [hd1] at a0
    go_wp2_with fail
    refine (sanity_any _).mono ?_
    rintro e wz ⟨rfl, hbz⟩
    go_wp2
    go_ret
    exact ⟨rfl, hB8.trans (hbz.mono hB8.size)⟩
  · rw [hd1] at a0
    go_wp2_with fail
    refine (sanity_any _).mono ?_
    rintro e wz ⟨rfl, hbz⟩
    go_wp2
    go_ret
    exact ⟨rfl, hB8.trans (hbz.mono hB8.size)⟩
  · have hRM := more_right RA.out hd1 hd2 ⟨hd3, hd4⟩
    have hEM := more_ext RA.out hd1 (m := m) ⟨hd3, hd4⟩
    have RM := Lib.hid hRM; clear hRM
    have EM := Lib.hid hEM; clear hEM
    obtain ⟨b, off, cap1, heq, hcells⟩ : ∃ b off cap1, Value.slice aa A.n ca = .slice (some ⟨b, off, none⟩) A.n cap1 ∧ Cells w8 b off A.n (intsV A.M) := by
      rcases IA.out with ⟨h0, _⟩ | ⟨b, off, cap1, heq, h0, hcap, hmax, hcells, hrange⟩
      · omega
      · exact ⟨b, off, cap1, heq, hcells⟩
    simp only [Value.slice.injEq, true_and] at heq
    obtain ⟨rfl, rfl⟩ := heq
    have HC := Lib.hid hcells; clear hcells
    have hrA8' := hrA8
    rw [hd1] at hrA8' a0
    go_upto_region 13 with fail
    go_cut [17] from 90 to 123 (fun s17 wx => ∃ g a' c', s17 = .pointer (some ⟨g, 0, none⟩) ∧ RowAt wx g 24 3 3 (st3 (.int .i64 A.K) (.slice a' (A.n + 1) c') (.int .i64 A.C)) ∧ IArg wx (.slice a' (A.n + 1) c') (A.n + 1) (A.more m).M ∧ Below w8.heap.size w8 wx)
    case first =>
      clear IA RM EM hB8 a0 a1 a2 hrA8
      have hd : Below w8.heap.size w8 w8.drew := (Below.refl _ w8).drew
      have ZL := Lib.hid (fun (a : Option Addr) (n cap : Nat) (W : World) => lay_any 2 A.C a n cap (A.more m).M W)
      unfold layV at ZL
      go_region_held_law (fun w' => w'.cell? ⟨w.heap.size, 0, none⟩ = some (.int .i64 2) ∧ w'.cell? ⟨w.heap.size, 1, none⟩ = some (.slice (some ⟨b, off, none⟩) A.n ca) ∧ w'.cell? ⟨w.heap.size, 2, none⟩ = some (.int .i64 A.C) ∧ Below w8.heap.size w8 w') (first | exact keep3 hrA8' hd | exact keep3 hrA8' (below_alloc1 hd _) | exact keep3 hrA8' (below_alloc1 (below_alloc1 hd _) _) | exact keep3 hrA8' (below_alloc1 (below_alloc1 (below_alloc1 hd _) _) _) | exact keep3 hrA8' (below_set3 hd (by omega) _ _ _))
        (first | (have _ := doneB; go_at_call 41; ((with_reducible refine (ZL.out _ _ _ _).mono ?_); rintro e wl ⟨rfl, hbl⟩); (first | (have z := z.all hbl) | (have z := (z.alloc _).all hbl) | (have z := (row_newZ _ _ 24 _ _ _ rfl).all hbl) | skip); (try simp only [World.size_alloc, World.size_drew] at z); (first | (have hown3 := hown2.all hbl) | (have hown3 := (hown2.alloc _).all hbl)); (first | (replace hd := hd.trans (hbl.mono hd.size)) | (replace hd := (below_alloc1 hd _).trans (hbl.mono (below_alloc1 hd _).size)) | (replace hd := (below_alloc1 (below_alloc1 hd _) _).trans (hbl.mono (below_alloc1 (below_alloc1 hd _) _).size)) | (replace hd := (below_alloc1 (below_alloc1 (below_alloc1 hd _) _) _).trans (hbl.mono (below_alloc1 (below_alloc1 (below_alloc1 hd _) _) _).size))); (try (obtain ⟨q0, q1, q2⟩ := row3_cells z; have fz0 := z.frozen 0; have fz1 := z.frozen 1; have fz2 := z.frozen 2))) | (have _ := doneA; (refine step_append_q (by rfl) _ _ 22 3 _ _ (by rfl) Try.underlying22 info_int rfl w8.heap.size _ A.n _ (intsV A.M) (by rfl) ?_ _ 0 1 _ (fun _ => .int .i64 m) (by rfl) ?_ (fun _ _ => rfl) (by omega) (by decide) ?_ (by omega) ?_); (next => (first | exact hown1 | exact hown1.alloc _ | exact (hown1.alloc _).alloc _)); (next => (refine RowAt.reads (e := 3) (cap := 1) ?_; (repeat (first | exact zm | (refine row_new0 _ _ _ _ ?_; (simp; done)) | (refine row_new1 _ _ _ _ ?_; (simp; done)) | (refine RowAt.alloc ?_ _))))); (next => (first | exact hd.size | exact (below_alloc1 hd _).size | exact (below_alloc1 (below_alloc1 hd _) _).size | exact (below_alloc1 (below_alloc1 (below_alloc1 hd _) _) _).size)); ((intro g2 c2' wb hown2 hg2 hob2; (first | (have z := RowAt.some z hg2 (by (have h9 := hown1.geB); (try simp only [World.size_alloc, World.size_drew] at hob1 h9); (try simp only [World.size_alloc, World.size_drew]); omega)) | (have z := RowAt.some (z.alloc _) hg2 (by (have h9 := hown1.geB); (try simp only [World.size_alloc, World.size_drew] at hob1 h9); (try simp only [World.size_alloc, World.size_drew]); omega)) | (have z := RowAt.some (row_newZ _ _ 24 _ _ _ rfl) hg2 (by (have h9 := hown1.geB); (try simp only [World.size_alloc, World.size_drew] at hob1 h9); (try simp only [World.size_alloc, World.size_drew]); omega)) | (have z := RowAt.some ((row_newZ _ _ 24 _ _ _ rfl).alloc _) hg2 (by (have h9 := hown1.geB); (try simp only [World.size_alloc, World.size_drew] at hob1 h9); (try simp only [World.size_alloc, World.size_drew]); omega)) | skip); (try simp only [World.size_alloc, World.size_drew] at z); (first | (replace hd := below_some hd hd.size hg2 hown1.geB.1) | (replace hd := below_some (below_alloc1 hd _) (below_alloc1 hd _).size hg2 hown1.geB.1) | (replace hd := below_some (below_alloc1 (below_alloc1 hd _) _) (below_alloc1 (below_alloc1 hd _) _).size hg2 hown1.geB.1) | (replace hd := below_some (below_alloc1 (below_alloc1 (below_alloc1 hd _) _) _) (below_alloc1 (below_alloc1 (below_alloc1 hd _) _) _).size hg2 hown1.geB.1)); have hwb := hd.size; have doneB := True.intro))) | ((refine step_append_q (by rfl) _ _ 22 3 _ _ (by rfl) Try.underlying22 info_int rfl w8.heap.size _ 0 _ (intsV fun _ => 0) (by rfl) ?_ b off A.n _ (intsV A.M) (by rfl) ?_ (fun _ _ => rfl) (by omega) (by decide) ?_ (by omega) ?_); (next => (refine .inr ⟨_, 0, rfl, ?_, ?_, by decide⟩; (first | omega | (simp; done)); (repeat (first | exact zm | (refine row_new0 _ _ _ _ ?_; (simp; done)) | (refine row_new1 _ _ _ _ ?_; (simp; done)) | (refine RowAt.alloc ?_ _))))); (next => (first | exact HC.out.all hd | exact HC.out.all (below_alloc1 hd _) | exact HC.out.all (below_alloc1 (below_alloc1 hd _) _) | exact HC.out.all (below_alloc1 (below_alloc1 (below_alloc1 hd _) _) _))); (next => (first | exact hd.size | exact (below_alloc1 hd _).size | exact (below_alloc1 (below_alloc1 hd _) _).size | exact (below_alloc1 (below_alloc1 (below_alloc1 hd _) _) _).size)); ((intro g1 c1' wa hown1 hg1 hob1; (replace hown1 := hown1.first); (simp only [Nat.zero_add] at hown1 ⊢); (first | (have z := RowAt.some (RowAt.drew' (row_newZ _ _ 24 _ _ _ rfl)) hg1 (by (try simp only [World.size_alloc, World.size_drew]); omega)) | (have z := RowAt.some (RowAt.drew' ((row_newZ _ _ 24 _ _ _ rfl).alloc _)) hg1 (by (try simp only [World.size_alloc, World.size_drew]); omega)) | (have z := RowAt.some (RowAt.drew' (((row_newZ _ _ 24 _ _ _ rfl).alloc _).alloc _)) hg1 (by (try simp only [World.size_alloc, World.size_drew]); omega)) | skip); (try simp only [World.size_alloc, World.size_drew] at z); (first | (have zm := RowAt.some (RowAt.drew' (row_new1 _ _ (.int .i64 m) 3 rfl)) hg1 (by (try simp only [World.size_alloc, World.size_drew]); omega)) | (have zm := RowAt.some (RowAt.drew' ((row_new1 _ _ (.int .i64 m) 3 rfl).alloc _)) hg1 (by (try simp only [World.size_alloc, World.size_drew]); omega)) | (have zm := RowAt.some (RowAt.drew' (((row_new1 _ _ (.int .i64 m) 3 rfl).alloc _).alloc _)) hg1 (by (try simp only [World.size_alloc, World.size_drew]); omega)) | skip); (try simp only [World.size_alloc, World.size_drew] at zm); (first | (replace hd := below_some hd hd.size hg1 (by omega)) | (replace hd := below_some (below_alloc1 hd _) (below_alloc1 hd _).size hg1 (by omega)) | (replace hd := below_some (below_alloc1 (below_alloc1 hd _) _) (below_alloc1 (below_alloc1 hd _) _).size hg1 (by omega)) | (replace hd := below_some (below_alloc1 (below_alloc1 (below_alloc1 hd _) _) _) (below_alloc1 (below_alloc1 (below_alloc1 hd _) _) _).size hg1 (by omega))); have hwa := hd.size; have doneA := True.intro))))
      all_goals
        have hFr := hown3.rowAt
        go_wp2_with fail
        go_meet
        case rel => first | exact ⟨_, _, _, rfl, by rw [hd1]; exact z.set3 _ _ _, fin_arg RA.out ⟨hd3, hd4⟩ (((hFr.1.setOther _ _ (z.neType hFr.1 (by decide))).setOther _ _ (z.neType hFr.1 (by decide))).setOther _ _ (z.neType hFr.1 (by decide))) hFr.2, below_set3 hd (by omega) _ _ _⟩ | exact ⟨_, _, _, rfl, by rw [hd1]; exact row_newZ _ _ _ _ _ _ rfl, fin_arg RA.out ⟨hd3, hd4⟩ (hFr.1.alloc _) hFr.2, below_alloc1 hd _⟩
    obtain ⟨g, a', c', rfl, hrg, hIg, hbg⟩ := hcut
    generalize wc = w9 at *
    have hrA9 := hrA8.all hbg
    have IA9 := Lib.hid (IA.out.all hbg)
    have IG := Lib.hid hIg
    have hB9 := hB8.trans (hbg.mono hB8.size)
    clear hrA8 hrA8' hIg hbg IA a0 a1 a2
    obtain ⟨a0, a1, a2⟩ := row3_cells hrA9
    obtain ⟨g0, g1, g2⟩ := row3_cells hrg
    have z9 := Extends_g A (A.more m) _ _ w9 IA9.out (show IArg w9 (.slice a' (A.n + 1) c') (A.more m).n (A.more m).M from IG.out)
    have z9' : Calls Try.prog 38 #[.agg #[.int .i64 A.K, .slice (some ⟨b, off, none⟩) A.n ca, .int .i64 A.C], .agg #[.int .i64 A.K, .slice a' (A.n + 1) c', .int .i64 A.C]] w9 (fun e w' => ∃ x n, e = .returned (.tuple #[.bool x, .int .i64 n]) ∧ ExtV A (A.more m) x n ∧ Below w9.heap.size w9 w') := z9
    have Z9 := Lib.hid z9'
    clear z9 z9' hd1 hd2 hd3 hd4 hn hrA9 hrg
    go_wp2_with fail
    with_reducible refine Z9.out.mono ?_
    rintro e w10 ⟨x5, e5, rfl, v5, hb⟩
    obtain ⟨rfl, rfl⟩ : e5 = 0 ∧ x5 = true := by
      rcases v5 with ⟨-, -, h1, h2⟩ | ⟨h, -⟩
      · exact ⟨h1, h2.2 EM.out⟩
      · exact absurd ⟨RA.out, RM.out⟩ h
    clear v5
    go_wp2_with fail
    refine (sanity_any _).mono ?_
    rintro e wz ⟨rfl, hbz⟩
    go_wp2
    go_ret
    exact ⟨rfl, hB9.trans ((hb.trans (hbz.mono hb.size)).mono hB9.size)⟩

end Go.Proofs.Ytlbohmfhdchabaa
