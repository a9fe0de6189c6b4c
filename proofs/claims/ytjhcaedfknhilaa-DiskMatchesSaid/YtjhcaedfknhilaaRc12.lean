/- A region that draws its order, whose last operation waits for all others: what its loads read must be held up to that last one only. No program in sight. Disk: Load: what is refused at once. Disk: Load: what its loops keep. -/
import Derived.OrdersHeld
import Derived.Deep.MidRow
import Derived.Test.YtjhcaedfknhilaaRc9
import Derived.Test.YtjhcaedfknhilaaRc11
namespace Go.Proofs.Ytjhcaedfknhilaa
set_option linter.unusedVariables false
set_option linter.unusedSimpArgs false
open Go.RowKit

section
variable {P : Program} {ops : Array Oper} {Q : Exit → Act → World → Prop} {md : Region.Mode} {S : World → Prop} {L : Nat}

/-- Whatever order is picked from here on, and S holds behind every operation that is carried out, but for number L. -/
def wpAnyJ (P : Program) (md : Region.Mode) (ops : Array Oper) (Q : Exit → Act → World → Prop) (S : World → Prop) (L : Nat) : Nat → Array Bool → Act → World → Prop
  | 0, listed, a, w => Region.ready md ops listed = [] ∧ Q .normal a w
  | fuel + 1, listed, a, w =>
    (Region.ready md ops listed = [] → Q .normal a w) ∧
    ∀ i ∈ Region.ready md ops listed, wpOp P ops Q i (fun a' w' => (S w' ∨ i = L) ∧ wpAnyJ P md ops Q S L fuel (listed.setIfInBounds i true) a' w') a w

theorem wpAny_of_J : ∀ (fuel : Nat) (listed : Array Bool) (a : Act) (w : World), wpAnyJ P md ops Q S L fuel listed a w → wpAny P md ops Q fuel listed a w
  | 0, _, _, _, h => h
  | fuel + 1, _, _, _, h => ⟨h.1, fun i hi => wpOp_mono (fun a' w' h' => wpAny_of_J fuel _ a' w' h'.2) (h.2 i hi)⟩

/-- Number L waits for number i. -/
def waitB (md : Region.Mode) (ops : Array Oper) (L i : Nat) : Bool :=
  match ops[L]? with
  | none => false
  | some o => o.after.any fun e => Region.binds md e && e.on == i

theorem wait_spec {i : Nat} (h : waitB md ops L i = true) {o : Oper} (ho : ops[L]? = some o) : ∃ e ∈ o.after, Region.binds md e = true ∧ e.on = i := by
  unfold waitB at h
  rw [ho] at h
  have : o.after.any (fun e => Region.binds md e && e.on == i) = true := h
  rw [Array.any_eq_true] at this
  obtain ⟨k, hk, h1⟩ := this
  rw [Bool.and_eq_true, beq_iff_eq] at h1
  exact ⟨_, Array.getElem_mem hk, h1.1, h1.2⟩

theorem wpAnyJ_first {i : Nat} {oi : Oper} {v : Value} (hL : waitB md ops L i = true) (hi : ops[i]? = some oi) (hsel : ∀ (j : Nat) (o : Oper) cs b, ops[j]? = some o → o.op ≠ .select cs b)
    (hQ : ∀ c a w, Q (.panic c) (a.put oi.dst v) w → Q (.panic c) a w) :
    ∀ (fuel : Nat) (listed : Array Bool) (a : Act) (w : World),
      (∀ j oj, ops[j]? = some oj → j ≠ i → listed.getD j true = false → (∀ e ∈ oj.after, Region.binds md e = true → e.on ≠ i) → oi.apart ops oj = true) →
      i ∈ Region.ready md ops listed → YieldsIf P ops S oi v a → S w →
      wpAnyJ P md ops Q S L fuel (listed.setIfInBounds i true) (a.put oi.dst v) w → wpAnyJ P md ops Q S L (fuel + 1) listed a w := by
  intro fuel
  induction fuel with
  | zero =>
    intro listed a w _ hr hy hS H
    refine ⟨fun h => (by rw [h] at hr; cases hr), fun j hj => ?_⟩
    by_cases hji : j = i
    · subst hji; exact hy.wpOp hi hS ⟨.inl hS, H⟩
    · have := ready_mono hj hji
      rw [H.1] at this
      cases this
  | succ fuel ih =>
    intro listed a w hfree hr hy hS H
    refine ⟨fun h => (by rw [h] at hr; cases hr), fun j hj => ?_⟩
    by_cases hji : j = i
    · subst hji; exact hy.wpOp hi hS ⟨.inl hS, H⟩
    · have h1 := H.2 j (ready_mono hj hji)
      obtain ⟨hjun, oj, hoj, hall⟩ := mem_ready.1 hj
      have hnot : ∀ e ∈ oj.after, Region.binds md e = true → e.on ≠ i := fun e he hb heq => by
        have h1 := hall e he hb
        have h0 := (mem_ready.1 hr).1
        rw [heq] at h1
        rcases Nat.lt_or_ge i listed.size with h' | h'
        · simp [h'] at h0 h1; rw [h0] at h1; cases h1
        · simp [Array.getElem?_eq_none h'] at h1
      have hjL : j ≠ L := by
        rintro rfl
        obtain ⟨e, he, hb, heq⟩ := wait_spec hL hoj
        exact hnot e he hb heq
      have h2 := wpOp_putIf hoj (hfree j oj hoj hji hjun hnot) (fun cs b => hsel i oi cs b hi) (fun cs b => hsel j oj cs b hoj) hQ hy h1
      have hfree' : ∀ k ok, ops[k]? = some ok → k ≠ i → (listed.setIfInBounds j true).getD k true = false →
          (∀ e ∈ ok.after, Region.binds md e = true → e.on ≠ i) → oi.apart ops ok = true := fun k ok hk hki hun hno => by
        refine hfree k ok hk hki ?_ hno
        by_cases hjk : j = k
        · subst hjk; exact hjun
        · rw [getD_set_ne true hjk] at hun; exact hun
      refine wpOp_mono (fun a' w' h3 => ?_) h2
      have hS' : S w' := h3.2.1.resolve_right hjL
      refine ⟨.inl hS', ih (listed.setIfInBounds j true) a' w' hfree' (ready_mono hr (Ne.symm hji)) h3.1 hS' ?_⟩
      rw [Array.setIfInBounds_comm _ _ hji]
      exact h3.2.2

/-- Number i is taken first. -/
theorem wpAnyJ_take {i : Nat} {oi : Oper} {v : Value} {fuel : Nat} {listed : Array Bool} {a : Act} {w : World} (hL : waitB md ops L i = true) (hi' : ops.toList[i]? = some oi)
    (hs : Region.noSelect ops = true) (hf : Region.free md ops listed i = true) (hr : (Region.ready md ops listed).contains i = true)
    (hQ : ∀ c a w, Q (.panic c) (a.put oi.dst v) w → Q (.panic c) a w) (hS : S w) (hy : YieldsIf P ops S oi v a)
    (h : wpAnyJ P md ops Q S L fuel (listed.setIfInBounds i true) (a.put oi.dst v) w) : wpAnyJ P md ops Q S L (fuel + 1) listed a w :=
  have hi : ops[i]? = some oi := by rw [← Array.getElem?_toList]; exact hi'
  wpAnyJ_first hL hi (Region.noSelect_spec hs) hQ fuel listed a w (Region.free_spec hi hf) (by simpa using hr) hy hS h

/-- Only number i may come up, and is carried out. -/
theorem wpAnyJ_one {i : Nat} {oi : Oper} {fuel : Nat} {listed : Array Bool} {a : Act} {w : World} (hr : Region.ready md ops listed = [i]) (hi' : ops.toList[i]? = some oi)
    (h : ∀ K : Act → World → Prop, (∀ a' w', (S w' ∨ i = L) → wpAnyJ P md ops Q S L fuel (listed.setIfInBounds i true) a' w' → K a' w') →
      if Region.wanted oi (yielded ops a.tmps) = true then Oper.wp P oi a w K Q else K (a.put oi.dst undef) w) : wpAnyJ P md ops Q S L (fuel + 1) listed a w := by
  have hi : ops[i]? = some oi := by rw [← Array.getElem?_toList]; exact hi'
  refine ⟨(fun h0 => by rw [hr] at h0; cases h0), fun j hj => ?_⟩
  rw [hr] at hj
  obtain rfl := List.mem_singleton.1 hj
  have h' := h _ (fun a' w' h1 h2 => And.intro h1 h2)
  unfold wpOp
  rw [hi]
  dsimp only
  split at h'
  · rw [if_pos (by assumption)]; exact .inl h'
  · rw [if_neg (by assumption)]; exact h'

theorem wpAnyJ_done {listed : Array Bool} {a : Act} {w : World} (hr : Region.ready md ops listed = []) (h : Q .normal a w) : ∀ fuel, wpAnyJ P md ops Q S L fuel listed a w
  | 0 => ⟨hr, h⟩
  | _ + 1 => ⟨fun _ => h, by rw [hr]; simp⟩

/-- The beginning. -/
theorem wp_region_J {id : Nat} {a : Act} {w : World} (L : Nat) (S : World → Prop) (hm : P.follows .mixedOrders = true)
    (h : wpAnyJ P .any ops Q S L ops.size (Array.replicate ops.size false) a w.drew) : (Code.region id ops true).wp P Q a w :=
  wp_region_any hm (wpAny_of_J _ _ _ _ h)
end

/-- What an operation that is wanted yields. -/
theorem yieldsIf_run {P : Program} {ops : Array Oper} {S : World → Prop} {o : Oper} {v : Value} {a : Act} (hw : Region.wanted o (yielded ops a.tmps) = true) (h : ∀ w, S w → (execOp a.eval o).run P w = .ok (.value v) w) : YieldsIf P ops S o v a := .inl ⟨hw, h⟩

end Go.Proofs.Ytjhcaedfknhilaa

namespace Go.Proofs.Ytjhcaedfknhilaa
set_option linter.unusedVariables false
set_option linter.unusedSimpArgs false
open Go.RowKit
attribute [local go_sem ↓] Go.wp_at_zero Go.wp_at_succ

def Dev.ok1 (X : Dev) : Prop := X.n % 64 = 0 ∧ 1 ≤ X.n / 64 ∧ X.n / 64 ≤ 4096 ∧ X.q ≤ 65536
def Dev.ok2 (X : Dev) : Prop := 0 ≤ X.left ∧ (X.armed = true ∨ X.left = 0) ∧ ¬ (X.dead = true ∧ (X.armed = true ∨ 0 < X.q))
def Dev.okQ (X : Dev) (k : Nat) : Prop := ∀ i, i < k → 0 ≤ X.qa i ∧ X.qa i < (X.n / 64 : Nat) ∧ X.ql i = 64
def Dev.okB (X : Dev) (k : Nat) : Prop := ∀ i, i < k → 0 ≤ X.bad i ∧ X.bad i < (X.n / 64 : Nat) ∧ (i = 0 ∨ X.bad (i - 1) < X.bad i)
/-- A device is valid. -/
structure Dev.Right (X : Dev) : Prop where
  h1 : X.ok1
  h2 : X.ok2
  h3 : X.okQ X.q
  h4 : X.okB X.m

/-- What Load leaves that refuses. -/
def LoadNo (w : World) (e : Ending) (w' : World) : Prop := e = .returned (.tuple #[.pointer none, .int .i64 1]) ∧ Below w.heap.size w w'

/-- What the walk of Load has at hand: the box of the argument, of the disk, of the error. -/
structure LoadI (w : World) (dv qv bv : Value) (X : Dev) (p : Value) (W : World) : Prop where
  below : Below w.heap.size w W
  box : RowAt W w.heap.size 31 6 6 (st6 dv qv bv (.bool X.dead) (.bool X.armed) (.int .i64 X.left))
  out : RowAt W (w.heap.size + 1) 22 1 1 (fun _ => p)
  err : RowAt W (w.heap.size + 1 + 1) 23 1 1 (fun _ => .int .i64 0)
theorem LoadI.all {w W W' : World} {dv qv bv p : Value} {X : Dev} (h : LoadI w dv qv bv X p W) (hb : Below W.heap.size W W') : LoadI w dv qv bv X p W' :=
  ⟨h.below.trans (hb.mono h.below.size), h.box.all hb, h.out.all hb, h.err.all hb⟩
theorem LoadI.cells {w W : World} {dv qv bv p : Value} {X : Dev} (h : LoadI w dv qv bv X p W) :
    W.cell? ⟨w.heap.size, 0, none⟩ = some dv ∧ W.cell? ⟨w.heap.size, 1, none⟩ = some qv ∧ W.cell? ⟨w.heap.size, 2, none⟩ = some bv ∧ W.cell? ⟨w.heap.size, 3, none⟩ = some (.bool X.dead) ∧ W.cell? ⟨w.heap.size, 4, none⟩ = some (.bool X.armed) ∧ W.cell? ⟨w.heap.size, 5, none⟩ = some (.int .i64 X.left) :=
  ⟨h.box.cell (i := 0) (by omega), h.box.cell (i := 1) (by omega), h.box.cell (i := 2) (by omega), h.box.cell (i := 3) (by omega), h.box.cell (i := 4) (by omega), h.box.cell (i := 5) (by omega)⟩
theorem loadI_first (w : World) (dv qv bv : Value) (X : Dev) :
    LoadI w dv qv bv X (.pointer none) (((w.alloc (.cells #[dv, qv, bv, .bool X.dead, .bool X.armed, .int .i64 X.left] 31)).alloc (.cells #[.pointer none] 22)).alloc (.cells #[.int .i64 0] 23)) :=
  ⟨(((Below.refl _ w).alloc (Nat.le_refl _) _).alloc (by simp) _).alloc (by simp; omega) _, ((row_six w dv qv bv _ _ _ _).alloc _).alloc _, (row_new1 _ (w.heap.size + 1) _ _ (by simp)).alloc _, row_new1 _ (w.heap.size + 1 + 1) _ _ (by simp)⟩
/-- Behind a panic. -/
theorem LoadI.catch {w W : World} {dv qv bv p : Value} {X : Dev} (h : LoadI w dv qv bv X p W) :
    CallsD Try.prog 32 #[.pointer (some ⟨w.heap.size + 1, 0, none⟩), .pointer (some ⟨w.heap.size + 1 + 1, 0, none⟩)] (.panicking (failP 1)) W fun e u' w' =>
      e = .returned (.tuple #[]) ∧ u' = .panicking (failR 1) ∧ w' = (W.setCell ⟨w.heap.size + 1, 0, none⟩ (.pointer none)).setCell ⟨w.heap.size + 1 + 1, 0, none⟩ (.int .i64 1) :=
  catch_fail_d _ _ 1 W _ _ (h.out.cell (i := 0) (by omega)) (h.out.frozen 0) ((h.err.setOther ⟨w.heap.size + 1, 0, none⟩ (.pointer none) (by simp)).cell (i := 0) (by omega)) ((h.err.setOther ⟨w.heap.size + 1, 0, none⟩ (.pointer none) (by simp)).frozen 0)
theorem LoadI.fin {w W : World} {dv qv bv p : Value} {X : Dev} (h : LoadI w dv qv bv X p W) :
    ((W.setCell ⟨w.heap.size + 1, 0, none⟩ (.pointer none)).setCell ⟨w.heap.size + 1 + 1, 0, none⟩ (.int .i64 1)).cell? ⟨w.heap.size + 1, 0, none⟩ = some (.pointer none) ∧
    ((W.setCell ⟨w.heap.size + 1, 0, none⟩ (.pointer none)).setCell ⟨w.heap.size + 1 + 1, 0, none⟩ (.int .i64 1)).cell? ⟨w.heap.size + 1 + 1, 0, none⟩ = some (.int .i64 1) ∧
    Below w.heap.size w ((W.setCell ⟨w.heap.size + 1, 0, none⟩ (.pointer none)).setCell ⟨w.heap.size + 1 + 1, 0, none⟩ (.int .i64 1)) :=
  ⟨((h.out.set1 (.pointer none)).setOther ⟨w.heap.size + 1 + 1, 0, none⟩ (.int .i64 1) (by simp)).cell (i := 0) (by omega), ((h.err.setOther ⟨w.heap.size + 1, 0, none⟩ (.pointer none) (by simp)).set1 (.int .i64 1)).cell (i := 0) (by omega),
    (h.below.setCell (p := ⟨w.heap.size + 1, 0, none⟩) (Nat.le_add_right _ _) _).setCell (p := ⟨w.heap.size + 1 + 1, 0, none⟩) (by show w.heap.size ≤ w.heap.size + 1 + 1; omega) _⟩

set_option maxRecDepth 100000 in
set_option maxHeartbeats 4000000 in
theorem Load_bad1 {B : Nat} {dv qv bv : Value} {X : Dev} (w : World) (h : DevAt B w dv qv bv X) (hn : ¬ X.ok1) : Calls Try.prog 28 #[devV dv qv bv X] w (LoadNo w) := by
  obtain ⟨dx, dcap, hds, hdm⟩ := h.data.slice
  obtain ⟨qx, qcap, hqs, hqm⟩ := h.queue.slice
  obtain ⟨bx, bcap, hbs, hbm⟩ := h.bad.slice
  subst hds hqs hbs
  unfold maxLen at hdm hqm hbm
  have HI := Lib.hid (loadI_first w (.slice dx X.n dcap) (.slice qx X.q qcap) (.slice bx X.m bcap) X)
  obtain ⟨c0, c1, c2, c3, c4, c5⟩ := HI.out.cells
  have hdec : ((X.n : Int) % 64 == 0) = false ∨ (∃ k, X.n = k * 64 ∧ k ≤ 9223372036854775807 ∧ (X.n = 0 ∨ (1 ≤ k ∧ decide ((k : Int) ≤ 4096) = false) ∨ (1 ≤ k ∧ decide ((k : Int) ≤ 4096) = true ∧ decide ((X.q : Int) ≤ 65536) = false ∧ 65536 < (X.q : Int) ∧ 65536 < X.q))) := by
    by_cases h1 : X.n % 64 = 0
    · refine .inr ⟨X.n / 64, by omega, by omega, ?_⟩
      by_cases h2 : 1 ≤ X.n / 64
      · by_cases h3 : X.n / 64 ≤ 4096
        · have h4 : ¬ X.q ≤ 65536 := fun h4 => hn ⟨h1, h2, h3, h4⟩
          exact .inr (.inr ⟨h2, decide_eq_true (by omega), decide_eq_false (by omega), by omega, by omega⟩)
        · exact .inr (.inl ⟨h2, decide_eq_false (by omega)⟩)
      · exact .inl (by omega)
    · exact .inl (by rw [beq_eq_false_iff_ne]; omega)
  clear h hn
  rcases hdec with h1 | ⟨k, hk, hk9, h1 | ⟨h1, h2⟩ | ⟨h1, h2, h3, h4, h5⟩⟩
  · unfold devV
    go_enter_defers Try.func28, Try.ntmps28
    go_wp2_with fail
    generalize ((w.alloc (.cells #[.slice dx X.n dcap, .slice qx X.q qcap, .slice bx X.m bcap, .bool X.dead, .bool X.armed, .int .i64 X.left] 31)).alloc (.cells #[.pointer none] 22)).alloc (.cells #[.int .i64 0] 23) = W at *
    refine (want_not 1 _).mono ?_
    rintro e w1 ⟨rfl, rfl⟩
    go_wp2
    refine leaves_cons (f := 32) (args := #[.pointer (some ⟨w.heap.size + 1, 0, none⟩), .pointer (some ⟨w.heap.size + 1 + 1, 0, none⟩)]) (by simp) (by simp [go_sem]) ?_
    refine HI.out.catch.mono ?_
    rintro e u' w'' ⟨rfl, rfl, rfl⟩
    have y0 := HI.out.fin.1
    have y1 := HI.out.fin.2.1
    have Hbb := Lib.hid HI.out.fin.2.2
    simp [Leaves, settle, results, Try.results28, go_sem, y0, y1, failR]
    exact ⟨rfl, Hbb.out⟩
  · clear c0 c1 c2 c3 c4 c5
    clear hk
    rw [h1] at HI hdm ⊢
    obtain ⟨c0, c1, c2, c3, c4, c5⟩ := HI.out.cells
    clear h1
    unfold devV
    go_enter_defers Try.func28, Try.ntmps28
    go_wp2_with fail
    generalize ((w.alloc (.cells #[.slice dx 0 dcap, .slice qx X.q qcap, .slice bx X.m bcap, .bool X.dead, .bool X.armed, .int .i64 X.left] 31)).alloc (.cells #[.pointer none] 22)).alloc (.cells #[.int .i64 0] 23) = W at *
    refine (want_not 1 _).mono ?_
    rintro e w1 ⟨rfl, rfl⟩
    go_wp2
    refine leaves_cons (f := 32) (args := #[.pointer (some ⟨w.heap.size + 1, 0, none⟩), .pointer (some ⟨w.heap.size + 1 + 1, 0, none⟩)]) (by simp) (by simp [go_sem]) ?_
    refine HI.out.catch.mono ?_
    rintro e u' w'' ⟨rfl, rfl, rfl⟩
    have y0 := HI.out.fin.1
    have y1 := HI.out.fin.2.1
    have Hbb := Lib.hid HI.out.fin.2.2
    simp [Leaves, settle, results, Try.results28, go_sem, y0, y1, failR]
    exact ⟨rfl, Hbb.out⟩
  · clear c0 c1 c2 c3 c4 c5
    rw [hk] at HI hdm ⊢
    obtain ⟨c0, c1, c2, c3, c4, c5⟩ := HI.out.cells
    clear hk
    unfold devV
    go_enter_defers Try.func28, Try.ntmps28
    go_wp2_with fail
    generalize ((w.alloc (.cells #[.slice dx (k * 64) dcap, .slice qx X.q qcap, .slice bx X.m bcap, .bool X.dead, .bool X.armed, .int .i64 X.left] 31)).alloc (.cells #[.pointer none] 22)).alloc (.cells #[.int .i64 0] 23) = W at *
    refine (want_not 1 _).mono ?_
    rintro e w1 ⟨rfl, rfl⟩
    go_wp2
    refine leaves_cons (f := 32) (args := #[.pointer (some ⟨w.heap.size + 1, 0, none⟩), .pointer (some ⟨w.heap.size + 1 + 1, 0, none⟩)]) (by simp) (by simp [go_sem]) ?_
    refine HI.out.catch.mono ?_
    rintro e u' w'' ⟨rfl, rfl, rfl⟩
    have y0 := HI.out.fin.1
    have y1 := HI.out.fin.2.1
    have Hbb := Lib.hid HI.out.fin.2.2
    simp [Leaves, settle, results, Try.results28, go_sem, y0, y1, failR]
    exact ⟨rfl, Hbb.out⟩
  · clear c0 c1 c2 c3 c4 c5
    rw [hk] at HI hdm ⊢
    obtain ⟨c0, c1, c2, c3, c4, c5⟩ := HI.out.cells
    clear hk
    unfold devV
    go_enter_defers Try.func28, Try.ntmps28
    go_wp2_with fail
    generalize ((w.alloc (.cells #[.slice dx (k * 64) dcap, .slice qx X.q qcap, .slice bx X.m bcap, .bool X.dead, .bool X.armed, .int .i64 X.left] 31)).alloc (.cells #[.pointer none] 22)).alloc (.cells #[.int .i64 0] 23) = W at *
    refine (want_not 1 _).mono ?_
    rintro e w1 ⟨rfl, rfl⟩
    go_wp2
    refine leaves_cons (f := 32) (args := #[.pointer (some ⟨w.heap.size + 1, 0, none⟩), .pointer (some ⟨w.heap.size + 1 + 1, 0, none⟩)]) (by simp) (by simp [go_sem]) ?_
    refine HI.out.catch.mono ?_
    rintro e u' w'' ⟨rfl, rfl, rfl⟩
    have y0 := HI.out.fin.1
    have y1 := HI.out.fin.2.1
    have Hbb := Lib.hid HI.out.fin.2.2
    simp [Leaves, settle, results, Try.results28, go_sem, y0, y1, failR]
    exact ⟨rfl, Hbb.out⟩

set_option maxRecDepth 100000 in
set_option maxHeartbeats 4000000 in
theorem Load_bad2 {B : Nat} {dv qv bv : Value} {X : Dev} (w : World) (h : DevAt B w dv qv bv X) (h1 : X.ok1) (hn : ¬ X.ok2) : Calls Try.prog 28 #[devV dv qv bv X] w (LoadNo w) := by
  obtain ⟨dx, dcap, hds, hdm⟩ := h.data.slice
  obtain ⟨qx, qcap, hqs, hqm⟩ := h.queue.slice
  obtain ⟨bx, bcap, hbs, hbm⟩ := h.bad.slice
  subst hds hqs hbs
  unfold maxLen at hdm hqm hbm
  have HI := Lib.hid (loadI_first w (.slice dx X.n dcap) (.slice qx X.q qcap) (.slice bx X.m bcap) X)
  obtain ⟨c0, c1, c2, c3, c4, c5⟩ := HI.out.cells
  obtain ⟨a1, a2, a3, a4⟩ := h1
  obtain ⟨k, hk⟩ : ∃ k, X.n = k * 64 := ⟨X.n / 64, by omega⟩
  have hk1 : 1 ≤ k := by omega
  have hk2 : decide ((k : Int) ≤ 4096) = true := decide_eq_true (by omega)
  have hq2 : decide ((X.q : Int) ≤ 65536) = true := decide_eq_true (by omega)
  have hq3 : (X.q : Int) ≤ 65536 := by omega
  clear c0 c1 c2 c3 c4 c5
  rw [hk] at HI hdm ⊢
  obtain ⟨c0, c1, c2, c3, c4, c5⟩ := HI.out.cells
  clear a1 a2 a3 hk h
  unfold devV
  go_enter_defers Try.func28, Try.ntmps28
  go_wp2_with fail
  generalize ((w.alloc (.cells #[.slice dx (k * 64) dcap, .slice qx X.q qcap, .slice bx X.m bcap, .bool X.dead, .bool X.armed, .int .i64 X.left] 31)).alloc (.cells #[.pointer none] 22)).alloc (.cells #[.int .i64 0] 23) = W at *
  refine (want_ok 1 _).mono ?_
  rintro e w1 ⟨rfl, rfl⟩
  rcases hL : decide (0 ≤ X.left) with _ | _
  · go_wp2_with fail
    refine (want_not 1 _).mono ?_
    rintro e w1 ⟨rfl, rfl⟩
    go_wp2
    refine leaves_cons (f := 32) (args := #[.pointer (some ⟨w.heap.size + 1, 0, none⟩), .pointer (some ⟨w.heap.size + 1 + 1, 0, none⟩)]) (by simp) (by simp [go_sem]) ?_
    refine HI.out.catch.mono ?_
    rintro e u' w'' ⟨rfl, rfl, rfl⟩
    have y0 := HI.out.fin.1
    have y1 := HI.out.fin.2.1
    have Hbb := Lib.hid HI.out.fin.2.2
    simp [Leaves, settle, results, Try.results28, go_sem, y0, y1, failR]
    exact ⟨rfl, Hbb.out⟩
  have hL0 : 0 ≤ X.left := of_decide_eq_true hL
  rcases hA : X.armed with _ | _
  · rw [hA] at c4
    rcases hZ : (X.left == 0) with _ | _
    · have HA := Lib.hid hA; clear hA
      go_wp2_with fail
      refine (want_not 1 _).mono ?_
      rintro e w1 ⟨rfl, rfl⟩
      go_wp2
      refine leaves_cons (f := 32) (args := #[.pointer (some ⟨w.heap.size + 1, 0, none⟩), .pointer (some ⟨w.heap.size + 1 + 1, 0, none⟩)]) (by simp) (by simp [go_sem]) ?_
      refine HI.out.catch.mono ?_
      rintro e u' w'' ⟨rfl, rfl, rfl⟩
      have y0 := HI.out.fin.1
      have y1 := HI.out.fin.2.1
      have Hbb := Lib.hid HI.out.fin.2.2
      simp [Leaves, settle, results, Try.results28, go_sem, y0, y1, failR]
      exact ⟨rfl, Hbb.out⟩
    have hZ0 : X.left = 0 := eq_of_beq hZ
    rcases hD : X.dead with _ | _
    · exact absurd ⟨hL0, .inr hZ0, fun hd => by rw [hD] at hd; cases hd.1⟩ hn
    rcases hQ : decide (0 < X.q) with _ | _
    · have hq0 : ¬ 0 < X.q := of_decide_eq_false hQ
      refine absurd ⟨hL0, .inr hZ0, fun hd => ?_⟩ hn
      rcases hd.2 with h9 | h9
      · rw [hA] at h9; cases h9
      · omega
    have hq0 : 0 < X.q := of_decide_eq_true hQ
    rw [hD] at c3
    have HA := Lib.hid hA; clear hA
    have HD := Lib.hid hD; clear hD
    have HZ := Lib.hid hZ0; clear hZ0
    go_wp2_with fail
    refine (want_not 1 _).mono ?_
    rintro e w1 ⟨rfl, rfl⟩
    go_wp2
    refine leaves_cons (f := 32) (args := #[.pointer (some ⟨w.heap.size + 1, 0, none⟩), .pointer (some ⟨w.heap.size + 1 + 1, 0, none⟩)]) (by simp) (by simp [go_sem]) ?_
    refine HI.out.catch.mono ?_
    rintro e u' w'' ⟨rfl, rfl, rfl⟩
    have y0 := HI.out.fin.1
    have y1 := HI.out.fin.2.1
    have Hbb := Lib.hid HI.out.fin.2.2
    simp [Leaves, settle, results, Try.results28, go_sem, y0, y1, failR]
    exact ⟨rfl, Hbb.out⟩
  · rw [hA] at c4
    rcases hD : X.dead with _ | _
    · exact absurd ⟨hL0, .inl hA, fun hd => by rw [hD] at hd; cases hd.1⟩ hn
    rw [hD] at c3
    have HA := Lib.hid hA; clear hA
    have HD := Lib.hid hD; clear hD
    go_wp2_with fail
    refine (want_not 1 _).mono ?_
    rintro e w1 ⟨rfl, rfl⟩
    go_wp2
    refine leaves_cons (f := 32) (args := #[.pointer (some ⟨w.heap.size + 1, 0, none⟩), .pointer (some ⟨w.heap.size + 1 + 1, 0, none⟩)]) (by simp) (by simp [go_sem]) ?_
    refine HI.out.catch.mono ?_
    rintro e u' w'' ⟨rfl, rfl, rfl⟩
    have y0 := HI.out.fin.1
    have y1 := HI.out.fin.2.1
    have Hbb := Lib.hid HI.out.fin.2.2
    simp [Leaves, settle, results, Try.results28, go_sem, y0, y1, failR]
    exact ⟨rfl, Hbb.out⟩

end Go.Proofs.Ytjhcaedfknhilaa

namespace Go.Proofs.Ytjhcaedfknhilaa
set_option linter.unusedVariables false
set_option linter.unusedSimpArgs false
open Go.RowKit

/-- A device's disk, of which i sectors, j elements of the queue and l bad ones are there. -/
def Dev.st (X : Dev) (i j l : Nat) : Dsk :=
  ⟨X.n / 64, fun a b => if a < i then X.data (a * 64 + b) else 0, metB X.bad l, j, fun a => (X.qa a).toNat, fun a b => if a < X.q then X.qb a b else 0, X.dead, X.armed, X.left, X.n / 64, X.n / 64⟩
def Dev.dsk (X : Dev) : Dsk := X.st (X.n / 64) X.q X.m

theorem QArg.bytes {B : Nat} {w : World} {v : Value} {q : Nat} {a : Nat → Int} {l : Nat → Nat} {f : Nat → Nat → Int} (h : QArg B w v q a l f) {i : Nat} (hi : i < q) : ∀ j, 0 ≤ f i j ∧ f i j < 256 := by
  rcases h with ⟨_, (⟨h0, _⟩ | ⟨_, _, _, _, _, _, _, _, _, _, h7⟩)⟩
  · omega
  · exact (h7 i hi).1

theorem st_ok {B : Nat} {w : World} {dv qv bv : Value} {X : Dev} (h : DevAt B w dv qv bv X) (h1 : X.ok1) (h2 : X.ok2) {i j l : Nat} (hj : j ≤ X.q) (hq : X.okQ j) : (X.st i j l).Ok := by
  obtain ⟨a1, a2, a3, a4⟩ := h1
  refine ⟨⟨a2, a3⟩, fun a b => ?_, Nat.le_trans hj a4, fun a ha => ?_, fun a b => ?_, ⟨h2.1, h.left.2⟩⟩
  · show 0 ≤ (if a < i then X.data (a * 64 + b) else 0) ∧ (if a < i then X.data (a * 64 + b) else 0) < 256
    split
    · exact h.data.1 _
    · omega
  · obtain ⟨b1, b2, b3⟩ := hq a ha
    show (X.qa a).toNat < X.n / 64
    omega
  · show 0 ≤ (if a < X.q then X.qb a b else 0) ∧ (if a < X.q then X.qb a b else 0) < 256
    split
    · exact h.queue.bytes (by assumption) b
    · omega

structure LoadJ (B : Nat) (w : World) (dv qv bv : Value) (X : Dev) (g gs gb : Nat) (uv : Value) (i j l : Nat) (W : World) : Prop where
  load : LoadI w dv qv bv X (.pointer (some ⟨g, 0, none⟩)) W
  disk : DiskIn w.heap.size g gs gb uv (X.st i j l) W
  dev : DevAt B W dv qv bv X
theorem LoadJ.all {B : Nat} {w W W' : World} {dv qv bv : Value} {X : Dev} {g gs gb : Nat} {uv : Value} {i j l : Nat} (h : LoadJ B w dv qv bv X g gs gb uv i j l W) (hb : Below W.heap.size W W') : LoadJ B w dv qv bv X g gs gb uv i j l W' :=
  ⟨h.load.all hb, h.disk.all hb, h.dev.all hb⟩

theorem keeps_wrote {B g : Nat} {W W' : World} {e : TypeId} {c n : Nat} {F : Nat → Value} (hw : Wrote W W' g) (hr : RowAt W g e c n F) (he : diskT e = true) (hB : B ≤ g) : Keeps B W W' := by
  refine ⟨hw.1.size, fun b o ho hn => (hw.block ?_).trans ho⟩
  rintro rfl
  obtain ⟨cur, hg, _⟩ := hr
  rw [hg] at ho
  cases ho
  rcases hn with hn | hn
  · omega
  · have h9 : (!diskT e) = true := hn
    rw [he] at h9; cases h9
theorem keeps_set {B g i : Nat} {W : World} {e : TypeId} {c n : Nat} {F : Nat → Value} (hr : RowAt W g e c n F) (he : diskT e = true) (hB : B ≤ g) (v : Value) : Keeps B W (W.setCell ⟨g, i, none⟩ v) :=
  keeps_wrote (wrote_setCell W ⟨g, i, none⟩ v) hr he hB

theorem LoadJ.sec {B : Nat} {w W W' : World} {dv qv bv : Value} {X : Dev} {g gs gb : Nat} {uv : Value} {i j l : Nat} (h : LoadJ B w dv qv bv X g gs gb uv i j l W) (hB : B ≤ w.heap.size) (hw : Wrote W W' gs)
    (hrow : RowAt W' gs 79 ((X.n / 64) * 64) ((X.n / 64) * 64) (fun m => if i * 64 ≤ m ∧ m < i * 64 + 64 then byteF (fun b => X.data (i * 64 + b)) (m - i * 64) else secV (X.st i j l).sec m)) :
    LoadJ B w dv qv bv X g gs gb uv (i + 1) j l W' := by
  obtain ⟨n1, n2, n3⟩ := h.disk.ne
  have ho := h.disk.ok
  have hk := keeps_wrote hw h.disk.sec rfl (Nat.le_trans hB h.disk.base.2.1)
  refine ⟨⟨hw.below h.load.below h.load.below.size h.disk.base.2.1, h.load.box.wrote hw (h.load.box.neType h.disk.sec (by decide)), h.load.out.wrote hw (h.load.out.neType h.disk.sec (by decide)), h.load.err.wrote hw (h.load.err.neType h.disk.sec (by decide))⟩,
    ⟨h.disk.row.wrote hw n1, hrow.congr fun m hm => ?_, h.disk.bad.wrote hw (Ne.symm n3), ?_, h.disk.base, ⟨ho.size, fun a b => ?_, ho.queue, ho.put, ho.pbyte, ho.left⟩⟩, h.dev.keep hk⟩
  · unfold secV byteF Dev.st
    dsimp only
    by_cases h1 : i * 64 ≤ m ∧ m < i * 64 + 64
    · rw [if_pos h1, if_pos (by omega), show m / 64 = i from by omega, show m % 64 = m - i * 64 from by omega]
    · rw [if_neg h1]
      by_cases h2 : m / 64 < i
      · rw [if_pos h2, if_pos (by omega)]
      · rw [if_neg h2, if_neg (by omega)]
  · rcases h.disk.que with h9 | ⟨gq, cq, q1, q2, q3, q4⟩
    · exact .inl h9
    · exact .inr ⟨gq, cq, q1, q2, q3.wrote hw (q3.neType h.disk.sec (by decide)), q4⟩
  · show 0 ≤ (if a < i + 1 then X.data (a * 64 + b) else 0) ∧ (if a < i + 1 then X.data (a * 64 + b) else 0) < 256
    split
    · exact h.dev.data.1 _
    · omega

theorem LoadJ.bad {B : Nat} {w W : World} {dv qv bv : Value} {X : Dev} {g gs gb : Nat} {uv : Value} {i j l m : Nat} (h : LoadJ B w dv qv bv X g gs gb uv i j l W) (hB : B ≤ w.heap.size) (hm : X.bad l = m) :
    LoadJ B w dv qv bv X g gs gb uv i j (l + 1) (W.setCell ⟨gb, m, none⟩ (.bool true)) := by
  obtain ⟨n1, n2, n3⟩ := h.disk.ne
  have ho := h.disk.ok
  have hk := keeps_set (i := m) h.disk.bad rfl (Nat.le_trans hB h.disk.base.2.2) (.bool true)
  refine ⟨⟨h.load.below.setCell (p := ⟨gb, m, none⟩) h.disk.base.2.2 _, h.load.box.setOther _ _ (h.disk.bad.neType h.load.box (by decide)), h.load.out.setOther _ _ (h.disk.bad.neType h.load.out (by decide)), h.load.err.setOther _ _ (h.disk.bad.neType h.load.err (by decide))⟩,
    ⟨h.disk.row.setOther _ _ (Ne.symm n2), h.disk.sec.setOther _ _ (Ne.symm n3), (h.disk.bad.set m (.bool true)).congr fun a ha => ?_, h.disk.que.other h.disk.bad (by decide) m _, h.disk.base, ⟨ho.size, ho.byte, ho.queue, ho.put, ho.pbyte, ho.left⟩⟩, h.dev.keep hk⟩
  unfold badV
  show (if a = m then Value.bool true else .bool (metB X.bad l a)) = .bool (metB X.bad (l + 1) a)
  by_cases ham : a = m
  · rw [if_pos ham, metB_true.2 ⟨l, by omega, by rw [hm, ham]⟩]
  · rw [if_neg ham]
    congr 1
    unfold metB
    show anyB _ l = (anyB _ l || X.bad l == (a : Int))
    have : (X.bad l == (a : Int)) = false := by rw [beq_eq_false_iff_ne]; omega
    rw [this, Bool.or_false]

theorem LoadJ.put {B : Nat} {w w2 w3 : World} {dv qv bv : Value} {X : Dev} {g gs gb : Nat} {uv uv' : Value} {i j l : Nat} (h : LoadJ B w dv qv bv X g gs gb uv i j l w2) (hB : B ≤ w.heap.size) (hj : j < X.q) (h4 : X.q ≤ 65536) (ha : 0 ≤ X.qa j ∧ X.qa j < (X.n / 64 : Nat))
    (hown : OwnK w3 w.heap.size 81 65 uv' (j + 1) (fun m => if m < j * 65 then putV (X.st i j l).qa (X.st i j l).qb m else putV (fun _ => (X.qa j).toNat) (fun _ => X.qb j) (m - j * 65))) (hg : w2.grownBy w3 uv.ownBlock) :
    LoadJ B w dv qv bv X g gs gb uv' i (j + 1) l (w3.setCell ⟨g, 2, none⟩ uv') ∧ (∃ v, w3.cell? ⟨g, 2, none⟩ = some v) ∧ w3.frozen? ⟨g, 2, none⟩ = false := by
  obtain ⟨n1, n2, n3⟩ := h.disk.ne
  have ho := h.disk.ok
  have ow := h.disk.que.own
  have qg : uv.ownBlock ≠ some g := fun e => by have := ow.typed e h.disk.row; revert this; decide
  have qs : uv.ownBlock ≠ some gs := fun e => by have := ow.typed e h.disk.sec; revert this; decide
  have qb : uv.ownBlock ≠ some gb := fun e => by have := ow.typed e h.disk.bad; revert this; decide
  have hr3 := h.disk.row.grown hg qg
  have hown2 : OwnK w3 w.heap.size 81 65 uv' (j + 1) (putV (X.st i (j + 1) l).qa (X.st i (j + 1) l).qb) := hown.congr fun m hm => by
    by_cases h1 : m < j * 65
    · rw [if_pos h1]; rfl
    · rw [if_neg h1]
      unfold putV Dev.st
      dsimp only
      rw [show (m - j * 65) % 65 = m % 65 from by omega, show m / 65 = j from by omega, if_pos hj]
  have hown3 : OwnK (w3.setCell ⟨g, 2, none⟩ uv') w.heap.size 81 65 uv' (j + 1) (putV (X.st i (j + 1) l).qa (X.st i (j + 1) l).qb) := by
    rcases hown2 with h9 | ⟨gq, cq, q1, q2, q3, q4⟩
    · exact .inl h9
    · exact .inr ⟨gq, cq, q1, q2, q3.setOther _ _ (hr3.neType q3 (by decide)), q4⟩
  have hk1 : Keeps B w2 w3 := by
    refine ⟨hg.size, fun b o hb hn => (hg.block b (Array.getElem?_eq_some_iff.1 hb).1 fun e => ?_).trans hb⟩
    rcases ow with ⟨rfl, _⟩ | ⟨gq, cq, rfl, q2, ⟨cur, q3, _⟩, q4⟩
    · cases e
    · cases e
      rw [q3] at hb
      cases hb
      rcases hn with hn | hn
      · have hn2 : gq < B := hn
        omega
      · cases hn
  have hk := hk1.trans (keeps_set (i := 2) hr3 rfl (Nat.le_trans hB h.disk.base.1) uv')
  have hb3 : Below w.heap.size w w3 := h.load.below.grown hg h.load.below.size (fun k hk => (ow.isCells k hk).1)
  have hbox := h.load.box.grown hg (fun e => by have := ow.typed e h.load.box; revert this; decide)
  have hout := h.load.out.grown hg (fun e => by have := ow.typed e h.load.out; revert this; decide)
  have herr := h.load.err.grown hg (fun e => by have := ow.typed e h.load.err; revert this; decide)
  refine ⟨⟨⟨hb3.setCell (p := ⟨g, 2, none⟩) h.disk.base.1 _, hbox.setOther _ _ (hr3.neType hbox (by decide)), hout.setOther _ _ (hr3.neType hout (by decide)), herr.setOther _ _ (hr3.neType herr (by decide))⟩,
    ⟨(hr3.set 2 uv').congr fun m hm => ?_, (h.disk.sec.grown hg qs).setOther _ _ n1, (h.disk.bad.grown hg qb).setOther _ _ n2, puts_of_own hown3, h.disk.base, ⟨ho.size, ho.byte, ?_, fun a ha2 => ?_, ho.pbyte, ho.left⟩⟩, h.dev.keep hk⟩, ⟨_, hr3.cell (i := 2) (by omega)⟩, hr3.frozen 2⟩
  · obtain rfl | rfl | rfl | rfl | rfl | rfl : m = 0 ∨ m = 1 ∨ m = 2 ∨ m = 3 ∨ m = 4 ∨ m = 5 := by omega
    all_goals rfl
  · show j + 1 ≤ 65536
    omega
  · have ha3 : a < j + 1 := ha2
    show (X.qa a).toNat < X.n / 64
    by_cases haj : a = j
    · subst haj; omega
    · exact ho.put a (show a < j by omega)

end Go.Proofs.Ytjhcaedfknhilaa
