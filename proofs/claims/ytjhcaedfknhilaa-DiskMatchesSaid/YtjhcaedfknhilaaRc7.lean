/- Disk: has. Disk: Sync. -/
import Derived.Test.YtjhcaedfknhilaaRc6
namespace Go.Proofs.Ytjhcaedfknhilaa
set_option linter.unusedVariables false
set_option linter.unusedSimpArgs false
open Go.RowKit
attribute [local go_sem ↓] Go.wp_at_zero Go.wp_at_succ
attribute [local go_sem] Oper.semAt_some
attribute [-go_sem] loadCellsFrom storeCells
attribute [local go_sem] storeCells_one

section
variable {F : Fence} {n : Nat} {P : Program}
/-- A range over a function of two variables, of which the second lies in memory of its own, its address in slot vs. -/
theorem wpIn_rangeB2 {g : Operand} {p0 p1 : Tmp} {assign body : Code} {Q : Exit → Act → World → Prop} {a : Act} {w : World}
    (hro : F.round = none) (h1 : F.depth.isSome = true → 1 ≤ n) {gf : Nat} {lb : Array Value} (hg : a.eval g = .func (.func gf) #[] lb) (hFg : F.fn gf) (eg : ∀ args w, (callFunc gf args).run P w = .ok (.enter gf args) w)
    {e0 e1 : Nat → Value} {K : Nat} {Rd : World → Prop} (hseq : IterN F (n - 1) P gf lb (fun k => #[e0 k, e1 k]) K Rd)
    (I : Nat → World → Prop) (Ix : Code → Nat → World → Prop) (hI : OwnFrom w.heap.size I) (hIx : ∀ c, OwnFrom w.heap.size (Ix c)) (hRd : ∀ k W, I k W → Rd W) (h0 : I 0 w) (vs : Nat) (A : Nat → Nat → World → Prop) (hA : ∀ q, OwnFrom w.heap.size (A q))
    (hassign : ∀ (l : Nat) (k : Nat) (W : World) (Kc : Act → World → Prop), I k W → k < K → (∀ q W1, A q k W1 → KeepsFrom w.heap.size W W1 → Kc { tmps := ((a.tmps.setIfInBounds p0 (e0 k)).setIfInBounds p1 (e1 k)).setIfInBounds vs (.pointer (some ⟨q, 0, none⟩)), defers := [] } W1) →
      assign.wpIn (F.inRound l) (n - 1 - 1) P (Exit.then Kc (fun _ _ _ => False)) { tmps := (a.tmps.setIfInBounds p0 (e0 k)).setIfInBounds p1 (e1 k), defers := [] } W)
    (hbody : ∀ (l : Nat) (q : Nat) (k : Nat) (W : World), A q k W → k < K → body.wpIn (F.inRound l) (n - 1 - 1) P (postN w.heap.size I Ix k W) { tmps := ((a.tmps.setIfInBounds p0 (e0 k)).setIfInBounds p1 (e1 k)).setIfInBounds vs (.pointer (some ⟨q, 0, none⟩)), defers := [] } W)
    (hdone : ∀ (D : Nat) (W : World), w.heap.size ≤ D → I K W → W.heap[D]? = some (.deferred (some [])) → Q .normal { a with defers := { target := .collected D, args := #[] } :: a.defers } W)
    (hstop : ∀ (D : Nat) (c : Code) (k : Nat) (W : World), w.heap.size ≤ D → k < K → Ix c k W → W.heap[D]? = some (.deferred (some [])) → c.wpIn F n P Q { a with defers := { target := .collected D, args := #[] } :: a.defers } W) :
    (Code.rangeFunc g #[p0, p1] assign body).wpIn F n P Q a w := by
  have hz : ∀ k, ((#[p0, p1] : Array Tmp).zip #[e0 k, e1 k]).foldl (fun t (p, v) => t.setIfInBounds p v) a.tmps = (a.tmps.setIfInBounds p0 (e0 k)).setIfInBounds p1 (e1 k) := fun k => by simp
  refine wpIn_rangeA hro h1 hg hFg eg hseq (fun k => rfl) I Ix hI hIx hRd h0 (fun a1 k W => ∃ q, a1 = { tmps := ((a.tmps.setIfInBounds p0 (e0 k)).setIfInBounds p1 (e1 k)).setIfInBounds vs (.pointer (some ⟨q, 0, none⟩)), defers := [] } ∧ A q k W) ?_ ?_ ?_ hdone hstop
  · intro a1 k W W' row h hg' hr
    obtain ⟨q, h2, h3⟩ := h
    exact ⟨q, h2, hA q k W W' row h3 hg' hr⟩
  · intro l k W Kc hi hk hK
    rw [hz]
    exact hassign l k W Kc hi hk (fun q W1 h2 h3 => hK _ W1 ⟨q, rfl, h2⟩ h3)
  · intro l a1 k W h hk
    obtain ⟨q, rfl, h3⟩ := h
    exact hbody l q k W h3 hk
end

/-- What the queue has for a sector: its last element of k. -/
def hasQ (a : Nat → Nat) (f : Nat → Nat → Int) (at0 : Nat) : Nat → Option (Nat → Int)
  | 0 => none
  | k + 1 => if a k = at0 then some (f k) else hasQ a f at0 k
def Dsk.has (D : Dsk) (j : Nat) : Option (Nat → Int) :=
  match hasQ D.qa D.qb j D.q with
  | some f => some f
  | none => if D.bad j then none else some (D.sec j)

theorem zlit (w : World) : w.alloc (.cells #[.int .u8 0, .int .u8 0, .int .u8 0, .int .u8 0, .int .u8 0, .int .u8 0, .int .u8 0, .int .u8 0, .int .u8 0, .int .u8 0, .int .u8 0, .int .u8 0, .int .u8 0, .int .u8 0, .int .u8 0, .int .u8 0, .int .u8 0, .int .u8 0, .int .u8 0, .int .u8 0, .int .u8 0, .int .u8 0, .int .u8 0, .int .u8 0, .int .u8 0, .int .u8 0, .int .u8 0, .int .u8 0, .int .u8 0, .int .u8 0, .int .u8 0, .int .u8 0, .int .u8 0, .int .u8 0, .int .u8 0, .int .u8 0, .int .u8 0, .int .u8 0, .int .u8 0, .int .u8 0, .int .u8 0, .int .u8 0, .int .u8 0, .int .u8 0, .int .u8 0, .int .u8 0, .int .u8 0, .int .u8 0, .int .u8 0, .int .u8 0, .int .u8 0, .int .u8 0, .int .u8 0, .int .u8 0, .int .u8 0, .int .u8 0, .int .u8 0, .int .u8 0, .int .u8 0, .int .u8 0, .int .u8 0, .int .u8 0, .int .u8 0, .int .u8 0] 79) = w.alloc (.cells (Array.replicate 64 (.int .u8 0)) 79) := rfl
theorem row_zsec (w : World) (g : Nat) (hg : w.heap.size = g) : RowAt (w.alloc (.cells (Array.replicate 64 (.int .u8 0)) 79)) g 79 64 64 (fun _ => .int .u8 0) :=
  row_of w _ _ _ (by simp) (fun i hi => by simp [hi]) hg

/-- What a round of has finds. -/
structure HasI (B g gs gb : Nat) (qv : Value) (D : Dsk) (j : Nat) (w : World) (k : Nat) (W : World) : Prop where
  disk : DiskIn B g gs gb qv D W
  below : Below w.heap.size w W
  box : RowAt W w.heap.size 3 1 1 (fun _ => .int .i64 j)
  res : RowAt W (w.heap.size + 1) 79 64 64 (fun _ => .int .u8 0)
  it : RowAt W (w.heap.size + 2) 74 1 1 (fun _ => qv)
  fnd : hasQ D.qa D.qb j D.q = hasQ D.qa D.qb j (D.q - k)
theorem hasI_own {B g gs gb : Nat} {qv : Value} {D : Dsk} {j : Nat} {w : World} : OwnFrom (w.heap.size + 3) (HasI B g gs gb qv D j w) := fun k W W' row h hg hr =>
  have hr2 : ∀ r, row = some r → ∃ o : Obj, W.heap[r]? = some o ∧ o.isCells = false := fun r e => (hr r e).2
  ⟨h.disk.kept hg hr2, below_keptFrom h.below (B := w.heap.size + 3) (by omega) (Nat.le_refl _) hg hr, h.box.kept hg hr2, h.res.kept hg hr2, h.it.kept hg hr2, h.fnd⟩
/-- The variable of a round. -/
def HasA (B g gs gb : Nat) (qv : Value) (D : Dsk) (j : Nat) (w : World) (q k : Nat) (W : World) : Prop :=
  HasI B g gs gb qv D j w k W ∧ w.heap.size + 3 ≤ q ∧ RowAt W q 81 65 65 (putV (fun _ => D.qa (D.q - 1 - k)) (fun _ => D.qb (D.q - 1 - k)))
theorem hasA_own {B g gs gb : Nat} {qv : Value} {D : Dsk} {j : Nat} {w : World} (q : Nat) : OwnFrom (w.heap.size + 3) (HasA B g gs gb qv D j w q) := fun k W W' row h hg hr =>
  ⟨hasI_own k W W' row h.1 hg hr, h.2.1, h.2.2.kept hg (fun r e => (hr r e).2)⟩
/-- What a round leaves that has found it. -/
def HasX (D : Dsk) (j : Nat) (w : World) (c : Code) (k : Nat) (W : World) : Prop :=
  c = .ret ∧ Below w.heap.size w W ∧ hasQ D.qa D.qb j D.q = some (D.qb (D.q - 1 - k)) ∧ RowAt W (w.heap.size + 1) 79 64 64 (secV (fun _ => D.qb (D.q - 1 - k)))
theorem hasX_own {D : Dsk} {j : Nat} {w : World} (c : Code) : OwnFrom (w.heap.size + 3) (HasX D j w c) := fun k W W' row h hg hr =>
  ⟨h.1, below_keptFrom h.2.1 (B := w.heap.size + 3) (by omega) (Nat.le_refl _) hg hr, h.2.2.1, h.2.2.2.kept hg (fun r e => (hr r e).2)⟩

def HasP (D : Dsk) (j : Nat) (w : World) (e : Ending) (w' : World) : Prop :=
  Below w.heap.size w w' ∧ ((∃ f, D.has j = some f ∧ e = .returned (.agg (secL f).toArray)) ∨ (D.has j = none ∧ e = .panicked (failP 7)))

theorem loadC_sec {W : World} {g : Nat} {e : TypeId} {c n : Nat} {A : Nat → Nat} {F : Nat → Nat → Int} (h : RowAt W g e c (n * 65) (putV A F)) {i : Nat} (hi : i < n) :
    (loadCellsFrom ⟨g, i * 65 + 1, none⟩ 0 64 #[]).run Try.prog W = .ok (secL (F i)).toArray W := by
  obtain ⟨h1, h2⟩ := putV_range h hi
  have := run_loadCells_list (P := Try.prog) W ⟨g, i * 65 + 1, none⟩ (secL (F i)) (fun j v hv => by
    rw [Addr.add_mid]
    exact h2 j v hv)
  rw [secL_len] at this
  exact this

theorem storeC_sec {W : World} {g : Nat} {e : TypeId} {c n : Nat} {G : Nat → Value} (h : RowAt W g e c n G) {o : Nat} (f : Nat → Int) (ho : o + 64 ≤ n) :
    (storeCells ⟨g, o, none⟩ (secL f) 0).run Try.prog W = .ok () (W.setCells g o (secL f)) := by
  have ht := h.there (o := o) (m := 64) ho
  have := run_storeCells_cells (P := Try.prog) g o (secL f) 0 W (fun j hj => (ht j (by rw [secL_len] at hj; exact hj)).1) (fun j hj => (ht j (by rw [secL_len] at hj; exact hj)).2) (fun v hv => by
    obtain ⟨j, _, rfl⟩ := List.mem_map.1 hv
    rfl)
  simpa using this

theorem resRow_sec {W : World} {g : Nat} {e : TypeId} {G : Nat → Value} (h : RowAt W g e 64 64 G) (f : Nat → Int) : RowAt (W.setCells g 0 (secL f)) g e 64 64 (secV (fun _ => f)) :=
  (RowAt.setCells (secL f) 0 h).1.congr fun i hi => by
    rw [secL_len, if_pos (by omega), List.getD_eq_getElem?_getD, secL_get f (by omega)]
    unfold secV
    simp [show i % 64 = i from by omega]

theorem resLoad {W : World} {g : Nat} {e : TypeId} {f : Nat → Int} (h : RowAt W g e 64 64 (secV (fun _ => f))) : (loadVar 79 ⟨g, 0, none⟩).run Try.prog W = .ok (.agg (secL f).toArray) W :=
  run_loadVar_mid W g 0 _ _ _ (by have := secV_range (n := 1) (F := fun _ => f) h (i := 0) (by omega); rwa [Nat.zero_mul] at this) under_sec rfl (by rw [secL_len]; exact size_sec)

set_option maxRecDepth 8000 in
set_option maxHeartbeats 4000000 in
theorem has_any {B g gs gb : Nat} {qv : Value} {D : Dsk} (j : Nat) (w : World) (h : DiskIn B g gs gb qv D w) (hj : j < D.n) :
    Calls Try.prog 42 #[.pointer (some ⟨g, 0, none⟩), .int .i64 j] w (HasP D j w) := by
  have hlt := h.lt
  have hsz := h.ok.size
  have hq6 := h.ok.queue
  obtain ⟨x0, cap0, hqs⟩ := h.que.slice
  subst hqs
  have hb1 : Below w.heap.size w (w.alloc (.cells #[.int .i64 j] 3)) := (Below.refl _ w).alloc (Nat.le_refl _) _
  have hb2 := hb1.alloc (by simp) (.cells (Array.replicate 64 (.int .u8 0)) 79)
  have r1 := (row_new1 w w.heap.size (.int .i64 j) 3 rfl).alloc (.cells (Array.replicate 64 (.int .u8 0)) 79)
  have r2 := row_zsec (w.alloc (.cells #[.int .i64 j] 3)) (w.heap.size + 1) (by simp)
  have hs2 : ((w.alloc (.cells #[.int .i64 j] 3)).alloc (.cells (Array.replicate 64 (.int .u8 0)) 79)).heap.size = w.heap.size + 2 := by simp
  have hd2 := h.all hb2
  have Hb2 := Lib.hid hb2
  have Hr1 := Lib.hid r1
  have Hr2 := Lib.hid r2
  have Hs2 := Lib.hid hs2
  have Hd2 := Lib.hid hd2
  clear hb1 hb2 r1 r2 hs2 hd2
  obtain ⟨c0, c1, c2, c3, c4, c5⟩ := h.cells
  have hg := h.row.lt
  clear h
  refine (callsIn_wide (n := 3)).1 ?_
  refine callsIn_of_wp_marks Try.func42 rfl trivial ?_ rfl
  simp only [Try.ntmps42, List.size_toArray, List.length_cons, List.length_nil, Nat.reduceAdd, Nat.reduceSub, Array.replicate_succ, Array.replicate_zero, List.push_toArray, List.append_toArray, List.nil_append, List.cons_append]
  gi_wp2_with fail
  rw [zlit]
  clear c0 c1 c2 c3 c4 c5 hg
  generalize (w.alloc (.cells #[.int .i64 j] 3)).alloc (.cells (Array.replicate 64 (.int .u8 0)) 79) = W2 at *
  refine ⟨trivial, (callsW _ (Backward_any W2)).mono ?_⟩
  rintro e W3 ⟨rfl, rfl⟩
  have r3 := row_new1 W2 (w.heap.size + 2) (.slice x0 D.q cap0) 74 Hs2.out
  have HI0 : HasI B g gs gb (.slice x0 D.q cap0) D j w 0 (W2.alloc (.cells #[.slice x0 D.q cap0] 74)) :=
    ⟨Hd2.out.all ((Below.refl _ W2).alloc (Nat.le_refl _) _), Hb2.out.alloc (by rw [Hs2.out]; omega) _, Hr1.out.alloc _, Hr2.out.alloc _, r3, rfl⟩
  have hs3 : (W2.alloc (.cells #[.slice x0 D.q cap0] 74)).heap.size = w.heap.size + 3 := by rw [World.size_alloc, Hs2.out]
  rw [Hs2.out]
  clear r3 Hb2 Hr1 Hr2 Hd2 Hs2
  generalize W2.alloc (.cells #[.slice x0 D.q cap0] 74) = W3 at *
  have HI := Lib.hid HI0; clear HI0
  have Hs3 := Lib.hid hs3; clear hs3
  gi_wp2_with fail
  refine wpIn_rangeB2 rfl (fun h => by simp [Fence.wide] at h) (gf := 69) (lb := #[.pointer (some ⟨w.heap.size + 2, 0, none⟩)]) rfl trivial (fun _ _ => rfl)
    (e0 := fun k => .int .i64 ((D.q - 1 - k : Nat) : Int)) (e1 := fun k => putA (D.qa (D.q - 1 - k)) (D.qb (D.q - 1 - k))) (backward1_iter _ B (w.heap.size + 2) (.slice x0 D.q cap0) D.q hq6 D.qa D.qb)
    (HasI B g gs gb (.slice x0 D.q cap0) D j w) (HasX D j w) (by rw [Hs3.out]; exact hasI_own) (fun c => by rw [Hs3.out]; exact hasX_own c) (fun k W h => ⟨h.it.cell (by omega), h.disk.que⟩) HI.out
    6 (HasA B g gs gb (.slice x0 D.q cap0) D j w) (fun q => by rw [Hs3.out]; exact hasA_own q) ?assign ?body ?done ?stop
  case assign =>
    intro l k W Kc hi hk hK
    have hv := box_put W (D.qa (D.q - 1 - k)) (D.qb (D.q - 1 - k))
    have hi' := hasI_own k W _ none hi (World.grownBy_alloc W (.cells (Value.int .i64 (D.qa (D.q - 1 - k)) :: secL (D.qb (D.q - 1 - k))).toArray 81) none) (fun r e => by cases e)
    have hk2 := hK W.heap.size _ ⟨hi', by have := hi.it.lt; omega, hv⟩ ((KeepsOthers.alloc _ _).from _)
    have hs := fun w => storeC_put w _ zero_put (D.qa (D.q - 1 - k)) (D.qb (D.q - 1 - k))
    have hlen := secL_len (D.qb (D.q - 1 - k))
    clear hi' hv hi hK HI
    unfold putA at hk2 ⊢
    generalize D.qa (D.q - 1 - k) = a1 at *
    generalize secL (D.qb (D.q - 1 - k)) = cs at *
    simp only [List.setIfInBounds_toArray, List.set_cons_zero, List.set_cons_succ] at hk2 ⊢
    have HK := Lib.hid hk2; clear hk2
    gi_wp2
    exact HK.out
  case body =>
    intro l q k W hA2 hk
    obtain ⟨hi, hqge, hv⟩ := hA2
    have hb0 := hi.box.cell (i := 0) (by omega)
    have hl := loadC_sec (n := 1) hv (i := 0) (by omega)
    have ha := (putV_range (n := 1) hv (i := 0) (by omega)).1
    rw [Nat.zero_mul] at ha hl
    rw [Nat.zero_add] at hl
    have hst := storeC_sec hi.res (o := 0) (D.qb (D.q - 1 - k)) (Nat.le_refl _)
    have hlen := secL_len (D.qb (D.q - 1 - k))
    have hkk : D.q - k = (D.q - 1 - k) + 1 := by omega
    have Hi := Lib.hid hi
    have Hv := Lib.hid hv
    have Hkk := Lib.hid hkk
    simp only [List.setIfInBounds_toArray, List.set_cons_zero, List.set_cons_succ]
    rw [Hs3.out]
    clear hi hv hkk HI hlt hsz hq6 hj
    have hrl := Hi.out.res.lt
    by_cases heq : D.qa (D.q - 1 - k) = j
    · have hbeq : ((D.qa (D.q - 1 - k) : Int) == (j : Int)) = true := by rw [heq, beq_iff_eq]
      have hfnd : hasQ D.qa D.qb j D.q = some (D.qb (D.q - 1 - k)) := by rw [Hi.out.fnd, Hkk.out, hasQ, if_pos heq]
      have Hfin := Lib.hid (And.intro (RowAt.setCells (secL (D.qb (D.q - 1 - k))) 0 Hi.out.res).2 (resRow_sec Hi.out.res (D.qb (D.q - 1 - k))))
      have Hfnd := Lib.hid hfnd
      clear heq hfnd
      generalize D.qa (D.q - 1 - k) = a1 at *
      generalize secL (D.qb (D.q - 1 - k)) = cs at *
      gi_wp2
      obtain ⟨cur, hcur, _⟩ := Hi.out.res
      exact ⟨keepsFrom_of_wrote Hfin.out.1 hcur, rfl, Hfin.out.1.below Hi.out.below (by omega) (by omega), Hfnd.out, Hfin.out.2⟩
    · have hbeq : ((D.qa (D.q - 1 - k) : Int) == (j : Int)) = false := by rw [beq_eq_false_iff_ne]; omega
      have hfnd : hasQ D.qa D.qb j D.q = hasQ D.qa D.qb j (D.q - 1 - k) := by rw [Hi.out.fnd, Hkk.out, hasQ, if_neg heq]
      have Hfnd := Lib.hid hfnd
      clear heq hfnd hst hl
      generalize D.qa (D.q - 1 - k) = a1 at *
      gi_wp2
      exact ⟨KeepsFrom.refl _ _, ⟨Hi.out.disk, Hi.out.below, Hi.out.box, Hi.out.res, Hi.out.it, by rw [show D.q - (k + 1) = D.q - 1 - k from by omega]; exact Hfnd.out⟩⟩
  case done =>
    intro E W hE hi hK
    have hb0 := hi.box.cell (i := 0) (by omega)
    rw [Hs3.out] at hE
    obtain ⟨c0, c1, c2, c3, c4, c5⟩ := hi.disk.cells
    have e1 := hi.disk.bad.cell (i := j) (by omega)
    unfold badV at e1
    have Hi := Lib.hid hi
    have HK := Lib.hid hK
    have hnb := hi.disk.ne
    have hfn : hasQ D.qa D.qb j D.q = none := by rw [hi.fnd, Nat.sub_self, hasQ]
    clear hi hK
    have Hfn := Lib.hid hfn; clear hfn
    have hmo : Try.prog.follows .mixedOrders = true := by kernel_rfl
    rcases hbd : D.bad j with _ | _
    · rw [hbd] at e1
      have Hbd := Lib.hid hbd; clear hbd
      gi_wp2_with fail
      refine wpIn_wide.2 ?_
      go_still_tail 9, hmo
      go_wp2_with fail
      refine (want_ok 7 _).mono ?_
      rintro e w2 ⟨rfl, rfl⟩
      go_wp2_with fail
      have hdv : DiskIn B g gs gb (.slice x0 D.q cap0) D W.drew := Hi.out.disk.all (Below.refl _ W).drew
      have hrv := Hi.out.res.drew
      have hbx := Hi.out.box.drew
      have hEv : W.drew.heap[E]? = some (.deferred (some [])) := HK.out
      have hbv : Below w.heap.size w W.drew := Hi.out.below.drew
      clear c0 c1 c2 c3 c4 c5 hb0 e1 HK Hi hnb
      generalize W.drew = V at *
      have hb0 := hbx.cell (i := 0) (by omega)
      obtain ⟨c0, c1, c2, c3, c4, c5⟩ := hdv.cells
      have hd2 : DiskIn B g gs gb (.slice x0 D.q cap0) D V.drew := hdv.all (Below.refl _ V).drew
      have hr2 := hrv.drew
      have hE2 : V.drew.heap[E]? = some (.deferred (some [])) := hEv
      have hb2 : Below w.heap.size w V.drew := hbv.drew
      clear hdv hrv hbx hEv hbv
      have hrl := hr2.lt
      have Hsec := Lib.hid (secV_range hd2.sec hj)
      have Hfin := Lib.hid (And.intro (RowAt.setCells (secL (D.sec j)) 0 hr2).2 (resRow_sec hr2 (D.sec j)))
      have Hb2 := Lib.hid hb2
      have HE2 := Lib.hid hE2
      have Hth := Lib.hid (hr2.there (o := 0) (m := 64) (Nat.le_refl _))
      clear hd2 hr2 hE2 hb2
      gi_wp2_with fail
      refine wpIn_wide.2 ?_
      have hi1 : (Try.prog.info? 79).map (·.size) = some (secL (D.sec j)).length := by rw [secL_len]; exact size_sec
      have Hl := Lib.hid (run_loadAt_mid _ _ _ _ _ _ Hsec.out under_sec rfl hi1)
      have hi3 : (Try.prog.info? 79).map (·.size) = some (secL (D.sec j)).toArray.size := by rw [List.size_toArray, secL_len]; exact size_sec
      have hlen := secL_len (D.sec j)
      have hone : (secL (D.sec j)).toArray.all (·.oneCell') = true := all_oneCell_toArray fun v hv => by
        obtain ⟨j, _, rfl⟩ := List.mem_map.1 hv
        rfl
      have Hi3 := Lib.hid hi3
      have Hlen := Lib.hid hlen
      have Hone := Lib.hid hone
      clear hi1 hi3 hlen hone Hsec
      generalize secL (D.sec j) = cs at *
      refine wp_region_still_tail 8 hmo (by kernel_rfl) ?_
      simp only [List.take_succ_cons, List.take_zero, List.drop_succ_cons, List.drop_zero]
      iterate 7 still_step
      refine still_load (by rfl) 79 _ (by rfl) ⟨gs, j * 64, none⟩ (by rfl) _ Hl.out ?_
      try refine wpStill_nil ?_
      have Hth2 : V.drew.there (w.heap.size + 1) 0 cs.toArray.size := by
        have h64 : cs.toArray.size = 64 := by simpa using Hlen.out
        rw [h64]; exact Hth.out
      refine wpList_store_mid (w := V.drew) rfl 79 _ _ rfl (w.heap.size + 1) 0 cs.toArray rfl rfl Hth2 Hi3.out Hone.out ?_
      have HW := Hfin.out.1
      have Hrow := Hfin.out.2
      have hgr0 := HW.below Hb2.out (by omega) (Nat.le_add_right _ 1)
      have hE3 : (V.drew.setCells (w.heap.size + 1) 0 cs).heap[E]? = some (.deferred (some [])) := (HW.block (by omega)).trans HE2.out
      clear Hth2 Hth Hfin HE2 Hb2 HW
      show wpList _ _ _ _ _ (V.drew.setCells (w.heap.size + 1) 0 cs)
      generalize V.drew.setCells (w.heap.size + 1) 0 cs = U at *
      go_wp2_with fail
      have Hr := Lib.hid Hrow
      have HG := Lib.hid hgr0
      have HE := Lib.hid hE3
      clear Hrow hgr0 hE3 c0 c1 c2 c3 c4 c5 hb0
      gi_wp2
      refine ⟨by simp, .inl ⟨_, _, rfl, run_takeDeferred HE.out, ?_⟩⟩
      have hgr := grownBy_putObj' U E (.deferred none)
      have hnc : ∀ r, some E = some r → ∃ o : Obj, U.heap[r]? = some o ∧ o.isCells = false := fun r e => by cases e; exact ⟨_, HE.out, rfl⟩
      have hrl2 := resLoad (Hr.out.kept hgr hnc)
      refine ⟨.agg (secL (D.sec j)).toArray, by simp [results, Try.results42, asAddr, Act.put, hrl2], ?_, .inl ⟨_, ?_, rfl⟩⟩
      · exact below_keptFrom (row := some E) (n₀ := w.heap.size) (B := w.heap.size + 3) HG.out (by omega) (Nat.le_refl _) hgr (fun r e => by cases e; exact ⟨by omega, hnc E rfl⟩)
      · unfold Dsk.has
        rw [Hfn.out]
        simp only
        rw [Hbd.out]
        rfl
    · rw [hbd] at e1
      have Hbd := Lib.hid hbd; clear hbd
      gi_wp2_with fail
      refine wpIn_wide.2 ?_
      go_still_tail 9, hmo
      go_wp2_with fail
      refine (want_not 7 _).mono ?_
      rintro e w2 ⟨rfl, rfl⟩
      go_wp2_with fail
      have hE2 : W.drew.heap[E]? = some (.deferred (some [])) := HK.out
      refine ⟨by simp, .inl ⟨_, _, rfl, run_takeDeferred hE2, ?_⟩⟩
      have hgr := grownBy_putObj' W.drew E (.deferred none)
      have hnc : ∀ r, some E = some r → ∃ o : Obj, W.drew.heap[r]? = some o ∧ o.isCells = false := fun r e => by cases e; exact ⟨_, hE2, rfl⟩
      simp [LeavesInM, LeavesIn, failP]
      refine ⟨below_keptFrom (row := some E) (n₀ := w.heap.size) (B := w.heap.size + 3) Hi.out.below.drew (by omega) (Nat.le_refl _) hgr (fun r e => by cases e; exact ⟨by omega, hnc E rfl⟩), .inr ⟨?_, rfl⟩⟩
      unfold Dsk.has
      rw [Hfn.out]
      simp only
      rw [Hbd.out]
      rfl
  case stop =>
    intro E c k W hE hk hx hK
    obtain ⟨rfl, hb, hf, hr⟩ := hx
    have Hx := Lib.hid (And.intro hb (And.intro hf hr))
    have HK := Lib.hid hK
    clear hb hf hr hK
    gi_wp2
    rw [Hs3.out] at hE
    refine ⟨by simp, .inl ⟨_, _, rfl, run_takeDeferred HK.out, ?_⟩⟩
    have hgr := grownBy_putObj' W E (.deferred none)
    have hnc : ∀ r, some E = some r → ∃ o : Obj, W.heap[r]? = some o ∧ o.isCells = false := fun r e => by cases e; exact ⟨_, HK.out, rfl⟩
    have hrl2 := resLoad (Hx.out.2.2.kept hgr hnc)
    refine ⟨.agg (secL (D.qb (D.q - 1 - k))).toArray, by simp [results, Try.results42, asAddr, Act.put, hrl2], ?_, .inl ⟨_, ?_, rfl⟩⟩
    · exact below_keptFrom (row := some E) (n₀ := w.heap.size) (B := w.heap.size + 3) Hx.out.1 (by omega) (Nat.le_refl _) hgr (fun r e => by cases e; exact ⟨by omega, hnc E rfl⟩)
    · unfold Dsk.has; rw [Hx.out.2.1]

end Go.Proofs.Ytjhcaedfknhilaa

namespace Go.Proofs.Ytjhcaedfknhilaa
set_option linter.unusedVariables false
set_option linter.unusedSimpArgs false
open Go.RowKit
attribute [local go_sem ↓] Go.wp_at_zero Go.wp_at_succ

set_option maxHeartbeats 4000000 in
theorem Sync_off {B g gs gb : Nat} {qv : Value} {D : Dsk} (w : World) (h : DiskIn B g gs gb qv D w) (hoff : D.off = true) :
    Calls Try.prog 22 #[.pointer (some ⟨g, 0, none⟩)] w (Out1 B g gs gb qv 7 D w) := by
  have ho := ((row_new1 w w.heap.size (.int .i64 0) 23 rfl).alloc (.cells #[] 85)).alloc (.cells #[] 85)
  have x1 := ho.cell (i := 0) (by omega)
  have f1 := ho.frozen 0
  have Hcat := Lib.hid (catch_fail_n ⟨w.heap.size + 1, 0, none⟩ ⟨w.heap.size, 0, none⟩ 7 _ _ x1 f1)
  have Hd := Lib.hid h
  have HW := Lib.hid ((h.all ((Below.refl _ w).alloc (Nat.le_refl _) (.cells #[.int .i64 0] 23))).all ((Below.refl _ _).alloc (Nat.le_refl _) (.cells #[] 85)))
  have Hoff := Lib.hid hoff
  clear x1 f1 ho h hoff
  go_enter_defers Try.func22, Try.ntmps22
  go_wp2_with fail
  refine (want_ok 23 _).mono ?_
  rintro e w1 ⟨rfl, rfl⟩
  go_wp2_with fail
  refine (ready_not _ HW.out Hoff.out).mono ?_
  rintro e w1 ⟨rfl, rfl⟩
  go_wp2
  refine leaves_cons (f := 38) (args := #[.pointer (some ⟨w.heap.size + 1, 0, none⟩), .pointer (some ⟨w.heap.size, 0, none⟩)]) (by simp) (by simp [go_sem]) ?_
  refine Hcat.out.mono ?_
  rintro e u' w'' ⟨rfl, rfl, rfl⟩
  simp [Leaves, settle, results, Try.results22, go_sem, failR]
  exact out1_panic Hd.out

/-- Sync done. -/
def Dsk.sync (D : Dsk) : Dsk := (D.performs D.qa D.qb D.q).flushed.used
def OutQ (B g gs gb : Nat) (c : Int) (D' : Dsk) (w : World) (e : Ending) (w' : World) : Prop := ∃ qv', Out1 B g gs gb qv' c D' w e w'

set_option maxHeartbeats 4000000 in
theorem Sync_ok {B g gs gb : Nat} {qv : Value} {D : Dsk} (w : World) (h : DiskIn B g gs gb qv D w) (hoff : D.off = false) :
    Calls Try.prog 22 #[.pointer (some ⟨g, 0, none⟩)] w (OutQ B g gs gb 0 D.sync w) := by
  have hlt := h.lt
  have hok := h.ok
  have Hlen := Lib.hid (show D.armed = true → 1 ≤ D.left from fun ha => by
    have := hok.left
    unfold Dsk.off at hoff
    rw [ha] at hoff
    rcases Int.lt_or_le D.left 1 with h1 | h1
    · have : D.left = 0 := by omega
      rw [this] at hoff
      simp at hoff
    · exact h1)
  obtain ⟨x, cap, hqs⟩ := h.que.slice
  subst hqs
  have Hro := Lib.hid ((row_new1 w w.heap.size (.int .i64 0) 23 rfl).alloc (.cells #[] 85))
  have Hbw := Lib.hid (((Below.refl B w).alloc hlt (.cells #[.int .i64 0] 23)).alloc (by simp; omega) (.cells #[] 85))
  have hW := (h.all ((Below.refl _ w).alloc (Nat.le_refl _) (.cells #[.int .i64 0] 23))).all ((Below.refl _ _).alloc (Nat.le_refl _) (.cells #[] 85))
  obtain ⟨c0, c1, c2, c3, c4, c5⟩ := hW.cells
  have Hcw := Lib.hid (calm_below (((Below.refl _ w).alloc (Nat.le_refl _) (.cells #[.int .i64 0] 23)).alloc (by simp) (.cells #[] 85)))
  have HW := Lib.hid hW
  have Hs2 := Lib.hid (show ((w.alloc (.cells #[.int .i64 0] 23)).alloc (.cells #[] 85)).heap.size = w.heap.size + 2 by simp)
  have Hoff := Lib.hid hoff
  have Hok := Lib.hid hok
  clear hW h hoff hok
  go_enter_defers Try.func22, Try.ntmps22
  go_wp2_with fail
  refine (want_ok 23 _).mono ?_
  rintro e w1 ⟨rfl, rfl⟩
  go_wp2_with fail
  refine (ready_ok _ HW.out Hoff.out).mono ?_
  rintro e w1 ⟨rfl, rfl⟩
  generalize (w.alloc (.cells #[.int .i64 0] 23)).alloc (.cells #[] 85) = W at *
  go_wp2_with fail
  refine (Values_any W).mono ?_
  rintro e w3 ⟨rfl, rfl⟩
  go_wp2_with fail
  have hv0 := row_new1 W W.heap.size (.slice x D.q cap) 74 rfl
  have hD3 := HW.out.all ((Below.refl _ W).alloc (Nat.le_refl _) (.cells #[.slice x D.q cap] 74))
  have hB3 : Below B w (W.alloc (.cells #[.slice x D.q cap] 74)) := Hbw.out.alloc (by have := Hs2.out; omega) _
  have hro3 := Hro.out.alloc (.cells #[.slice x D.q cap] 74)
  have hCV := Hcw.out.alloc (.cells #[.slice x D.q cap] 74)
  have hWl : W.heap.size = w.heap.size + 2 := Hs2.out
  clear c0 c1 c2 c3 c4 c5 Hbw Hro HW Hs2 Hcw
  generalize hV : W.alloc (.cells #[.slice x D.q cap] 74) = V at *
  have hvl : V.heap.size = w.heap.size + 3 := by rw [← hV]; simp; omega
  clear hV
  have HCV := Lib.hid hCV; clear hCV
  have Hv := Lib.hid hv0
  have HD3 := Lib.hid hD3
  have HB3 := Lib.hid hB3
  have Hro3 := Lib.hid hro3
  have Hvl := Lib.hid hvl
  have Hwl := Lib.hid hWl
  clear hv0 hD3 hB3 hro3 hvl hWl
  refine (flush_any V HD3.out 61 #[.pointer (some ⟨W.heap.size, 0, none⟩)] D.qa D.qb D.q (QueRd B W.heap.size (.slice x D.q cap) D.q D.qa D.qb) (fun _ _ => rfl)
    (fun N => values1_iter N B W.heap.size (.slice x D.q cap) D.q Hok.out.queue D.qa D.qb) Hok.out.put Hok.out.pbyte (fun U D' hd h1 h2 h3 ho => ?_)).mono ?_
  · refine ⟨(Hv.out.only2 ho (Hv.out.neType HD3.out.sec (by decide)) (Hv.out.neType HD3.out.bad (by decide))).cell (i := 0) (by omega), ?_⟩
    have hq := hd.que
    rw [h1, h2, h3] at hq
    exact hq
  rintro e w4 ⟨rfl, hD4, hB4, hO4⟩
  have hro4 := Hro3.out.only3 hO4 (Hro3.out.neType HD3.out.row (by decide)) (Hro3.out.neType HD3.out.sec (by decide)) (Hro3.out.neType HD3.out.bad (by decide))
  have Hro4 := Lib.hid hro4
  have HD4 := Lib.hid hD4
  have HB4 := Lib.hid (HB3.out.trans hB4)
  have HC4 := Lib.hid (HCV.out.trans (calm_only3 HD3.out hO4))
  clear hro4 hD4 hB4 hO4
  go_wp2_with fail
  have hul : (D.performs D.qa D.qb D.q).flushed.armed = true → 1 ≤ (D.performs D.qa D.qb D.q).flushed.left := by
    obtain ⟨-, -, -, -, -, p1, p2⟩ := D.performs_same D.qa D.qb D.q
    show (D.performs D.qa D.qb D.q).armed = true → 1 ≤ (D.performs D.qa D.qb D.q).left
    rw [p1, p2]
    exact Hlen.out
  have Hul := Lib.hid hul; clear hul
  refine (done_any w4 HD4.out Hul.out).mono ?_
  rintro e w5 ⟨rfl, hD5, hB5, hO5⟩
  have hro5 := Hro4.out.only3 hO5 (Hro4.out.neType HD4.out.row (by decide)) (Hro4.out.neType HD4.out.sec (by decide)) (Hro4.out.neType HD4.out.bad (by decide))
  have hro0 := hro5.set1 (.int .i64 0)
  have HD5 := Lib.hid (hD5.other hro5 0 (.int .i64 0))
  have HB5 := Lib.hid ((HB4.out.trans hB5).setCell (p := ⟨w.heap.size, 0, none⟩) hlt (.int .i64 0))
  have HC5 := Lib.hid ((HC4.out.trans (calm_only3 HD4.out hO5)).setNew (g := w.heap.size) (i := 0) (Nat.le_refl _) (.int .i64 0))
  have e0 := hro5.cell (i := 0) (by omega)
  have f0 := hro5.frozen 0
  have y1 := Lib.hid (hro0.cell (i := 0) (by omega))
  clear hro5 hro0 hD5 hB5 hO5 Hro3 Hro4 HD3 HD4 HB3 HB4
  go_wp2
  refine leaves_cons (f := 38) (args := #[.pointer (some ⟨w.heap.size + 1, 0, none⟩), .pointer (some ⟨w.heap.size, 0, none⟩)]) (by simp) (by simp [go_sem]) ?_
  refine (catch_idle_n _ _ _).mono ?_
  rintro e u' w'' ⟨rfl, rfl, rfl⟩
  simp [Leaves, settle, results, Try.results22, go_sem, y1.out]
  exact ⟨_, rfl, HD5.out, HB5.out, HC5.out⟩

end Go.Proofs.Ytjhcaedfknhilaa
