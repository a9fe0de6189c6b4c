/- A range over a function whose rounds are numbered: one law for the statement, one form for the iterator's contract. -/
import Derived.Test.YtjhcaedfknhilaaOps
import Derived.RangeFuncWrites
import Derived.RangeFuncLeaves
import Derived.Shelf.RegionOpen
import Derived.RangeFuncCalls
import Derived.RangeFuncNested
import Derived.TacticsInMore
import Derived.LoopNIn
import Derived.LoopIn
namespace Go.Proofs.Ytjhcaedfknhilaa
open Go.RowKit

/-- THE ITERATOR's CONTRACT: it hands over encs 0, encs 1, .., encs (K - 1), in this order, unless a round says 'no more'. Rd: what it must find in memory before each round. -/
def IterN (F : Fence) (n : Nat) (P : Program) (gf : Nat) (lb : Array Value) (encs : Nat → Array Value) (K : Nat) (Rd : World → Prop) : Prop :=
  ∀ (l : Nat) (J Jx : Nat → World → Prop) (W : World), (∀ k W1, J k W1 → Rd W1) → (∀ k W1 W2, J k W1 → W1.grownBy W2 none → J k W2) → (∀ k W1 W2, Jx k W1 → W1.grownBy W2 none → Jx k W2) →
    (∀ k W1, J k W1 → k < K → YieldAt F (n - 1) P l (encs k) W1 fun e W' => (e = .returned (.bool true) ∧ J (k + 1) W') ∨ (e = .returned (.bool false) ∧ Jx k W')) →
    J 0 W → CallsIn F n P gf (#[.func (.yield l) #[] #[]] ++ lb) W fun e W' => (∃ v, e = .returned v) ∧ (J K W' ∨ ∃ k, k < K ∧ Jx k W')

/-- How a round may be left. -/
def postN (B : Nat) (I : Nat → World → Prop) (Ix : Code → Nat → World → Prop) (k : Nat) (W : World) : Exit → Act → World → Prop
  | .normal, _, W' => KeepsFrom B W W' ∧ I (k + 1) W'
  | .ret, _, W' => KeepsFrom B W W' ∧ Ix .ret k W'
  | .exit id, _, W' => KeepsFrom B W W' ∧ Ix (.exit id) k W'
  | .goto t, _, W' => KeepsFrom B W W' ∧ Ix (.goto t) k W'
  | .panic _, _, _ => False
  | .outgrown, _, _ => False

variable {F : Fence} {n : Nat} {P : Program}

theorem wpIn_rangeN {g : Operand} {ps : Array Tmp} {assign body : Code} {Q : Exit → Act → World → Prop} {a : Act} {w : World}
    (hro : F.round = none) (h1 : F.depth.isSome = true → 1 ≤ n) {gf : Nat} {lb : Array Value} (hg : a.eval g = .func (.func gf) #[] lb) (hFg : F.fn gf) (eg : ∀ args w, (callFunc gf args).run P w = .ok (.enter gf args) w)
    {encs : Nat → Array Value} {K : Nat} {Rd : World → Prop} (hseq : IterN F (n - 1) P gf lb encs K Rd) (hps : ∀ k, (encs k).size = ps.size)
    (I : Nat → World → Prop) (Ix : Code → Nat → World → Prop) (hI : OwnFrom w.heap.size I) (hIx : ∀ c, OwnFrom w.heap.size (Ix c)) (hRd : ∀ k W, I k W → Rd W) (h0 : I 0 w) (a₁ : Nat → Act)
    (hassign : ∀ (l : Nat) (k : Nat) (W : World) (K : Act → World → Prop), K (a₁ k) W →
      assign.wpIn (F.inRound l) (n - 1 - 1) P (Exit.then K (fun _ _ _ => False)) { tmps := (ps.zip (encs k)).foldl (fun t (p, v) => t.setIfInBounds p v) a.tmps, defers := [] } W)
    (hbody : ∀ (l : Nat) (k : Nat) (W : World), I k W → k < K → body.wpIn (F.inRound l) (n - 1 - 1) P (postN w.heap.size I Ix k W) (a₁ k) W)
    (hdone : ∀ (D : Nat) (W : World), w.heap.size ≤ D → I K W → W.heap[D]? = some (.deferred (some [])) → Q .normal { a with defers := { target := .collected D, args := #[] } :: a.defers } W)
    (hstop : ∀ (D : Nat) (c : Code) (k : Nat) (W : World), w.heap.size ≤ D → k < K → Ix c k W → W.heap[D]? = some (.deferred (some [])) → c.wpIn F n P Q { a with defers := { target := .collected D, args := #[] } :: a.defers } W) :
    (Code.rangeFunc g ps assign body).wpIn F n P Q a w := by
  refine wpIn_rangeFunc ?_
  intro fn hfn
  rw [hro]
  obtain ⟨rec, hrec⟩ : ∃ rec : LoopState → Option Code → Loop, rec = fun st pe => { state := st, pending := pe, fn, tmps := a.tmps, params := ps, assign, body, defers := w.heap.size } := ⟨_, rfl⟩
  obtain ⟨W1, hW1⟩ : ∃ W1, (w.alloc (.deferred (some []))).alloc (.loop (rec .ready none)) = W1 := ⟨_, rfl⟩
  have hL1 : W1.heap[w.heap.size + 1]? = some (.loop (rec .ready none)) := by
    rw [← hW1]; have := World.alloc_heap_new (w.alloc (.deferred (some []))) (.loop (rec .ready none)); rwa [World.size_alloc] at this
  have hK1 : W1.heap[w.heap.size]? = some (.deferred (some [])) := by
    rw [← hW1]; exact (Below.heap_alloc _ _ _ (by simp)).trans (World.alloc_heap_new w _)
  have hI1 : I 0 W1 := by rw [← hW1]; exact hI.alloc _ (hI.alloc _ h0)
  refine ⟨w.heap.size + 1, [{ target := .collected w.heap.size, args := #[] }], W1, { target := .fn (.func gf) lb, args := #[.func (.yield (w.heap.size + 1)) #[] #[]] }, W1, gf,
    #[.func (.yield (w.heap.size + 1)) #[] #[]] ++ lb, W1, ?_, ?_, ?_, ?_, h1, ?_⟩
  · rw [← hW1, hrec]; exact run_enterLoop_outer _ _ _ _ _
  · simp only [resolve, hg]
    simp [go_sem]
  · intro f' hf'; simp [Target.leads] at hf'; subst hf'; exact hFg
  · simp [invoke, go_sem, eg]
  · refine (hseq (w.heap.size + 1)
      (fun k W => I k W ∧ W.heap[w.heap.size + 1]? = some (.loop (rec .ready none)) ∧ W.heap[w.heap.size]? = some (.deferred (some [])))
      (fun k W => ∃ c, Ix c k W ∧ W.heap[w.heap.size + 1]? = some (.loop (rec .done (some c))) ∧ W.heap[w.heap.size]? = some (.deferred (some [])))
      W1 (fun k W h => hRd k W h.1)
      (fun s A B hs hg' => ⟨hI s A B none hs.1 hg' (fun r e => by cases e), (hg'.block _ (Array.getElem?_eq_some_iff.1 hs.2.1).1 (by simp)).trans hs.2.1, (hg'.block _ (Array.getElem?_eq_some_iff.1 hs.2.2).1 (by simp)).trans hs.2.2⟩)
      (fun s A B hs hg' => by
        obtain ⟨c, hc, hl, hk⟩ := hs
        exact ⟨c, hIx c s A B none hc hg' (fun r e => by cases e), (hg'.block _ (Array.getElem?_eq_some_iff.1 hl).1 (by simp)).trans hl, (hg'.block _ (Array.getElem?_eq_some_iff.1 hk).1 (by simp)).trans hk⟩)
      ?_ ⟨hI1, hL1, hK1⟩).mono ?_
    · rintro k W ⟨hi, hl, hk⟩ hlen
      have hlt : w.heap.size + 1 < W.heap.size := (Array.getElem?_eq_some_iff.1 hl).1
      have hy := run_yield (P := P) (args := encs k) hl (by rw [hrec]; exact hps k)
      rw [hrec] at hy
      refine ⟨fn, _, assign, body, hy, roundIn_of_wpIn hfn (hassign _ k W _ ⟨_, run_beginRound hl (by rw [hrec]), ?_⟩)⟩
      have hl2 : (W.putObj (w.heap.size + 1) (.loop { rec .ready none with state := .busy })).heap[w.heap.size + 1]? = some (.loop { rec .ready none with state := .busy }) := World.putObj_heap_same hlt
      have hk2 : (W.putObj (w.heap.size + 1) (.loop { rec .ready none with state := .busy })).heap[w.heap.size]? = some (.deferred (some [])) := (World.putObj_heap_other (by omega)).trans hk
      refine wpIn_mono (hbody _ k _ (hI.putObj _ hi (by omega) hl rfl) hlen) ?_
      have fin : ∀ (jump : Option Code) (W3 : World), KeepsFrom w.heap.size (W.putObj (w.heap.size + 1) (.loop { rec .ready none with state := .busy })) W3 →
          (Instr.endRound (w.heap.size + 1) jump).run P W3 = .ok (.bool jump.isNone) (W3.putObj (w.heap.size + 1) (.loop (rec (if jump.isNone then .ready else .done) jump))) ∧
          W3.heap[w.heap.size + 1]? = some (.loop { rec .ready none with state := .busy }) ∧
          (W3.putObj (w.heap.size + 1) (.loop (rec (if jump.isNone then .ready else .done) jump))).heap[w.heap.size + 1]? = some (.loop (rec (if jump.isNone then .ready else .done) jump)) ∧
          (W3.putObj (w.heap.size + 1) (.loop (rec (if jump.isNone then .ready else .done) jump))).heap[w.heap.size]? = some (.deferred (some [])) := fun jump W3 hk3 => by
        have hl3 := hk3.same _ _ (by omega) hl2 rfl
        have := run_endRound (P := P) jump hl3
        rw [hrec] at this ⊢
        exact ⟨this, by rw [hrec] at hl3; exact hl3, World.putObj_heap_same (Array.getElem?_eq_some_iff.1 hl3).1, (World.putObj_heap_other (by omega)).trans (hk3.same _ _ (Nat.le_refl _) hk2 rfl)⟩
      rintro e a3 W3 hp
      cases e with
      | normal =>
        obtain ⟨hk3, hi3⟩ := hp
        obtain ⟨hr, hl3, hl4, hk4⟩ := fin none W3 hk3
        exact ⟨_, _, hr, .inl ⟨rfl, hI.putObj _ hi3 (by omega) hl3 rfl, hl4, hk4⟩⟩
      | ret =>
        obtain ⟨hk3, hi3⟩ := hp
        obtain ⟨hr, hl3, hl4, hk4⟩ := fin (some .ret) W3 hk3
        exact ⟨_, _, hr, .inr ⟨rfl, .ret, (hIx _).putObj _ hi3 (by omega) hl3 rfl, hl4, hk4⟩⟩
      | exit id =>
        obtain ⟨hk3, hi3⟩ := hp
        obtain ⟨hr, hl3, hl4, hk4⟩ := fin (some (.exit id)) W3 hk3
        exact ⟨_, _, hr, .inr ⟨rfl, .exit id, (hIx _).putObj _ hi3 (by omega) hl3 rfl, hl4, hk4⟩⟩
      | goto t =>
        obtain ⟨hk3, hi3⟩ := hp
        obtain ⟨hr, hl3, hl4, hk4⟩ := fin (some (.goto t)) W3 hk3
        exact ⟨_, _, hr, .inr ⟨rfl, .goto t, (hIx _).putObj _ hi3 (by omega) hl3 rfl, hl4, hk4⟩⟩
      | panic ch => exact hp.elim
      | outgrown => exact hp.elim
    · rintro e W2 ⟨⟨v, rfl⟩, (⟨hi, hl, hk⟩ | ⟨k, hkK, c, hi, hl, hk⟩)⟩
      · exact ⟨none, _, by have := run_endLoop (P := P) hl (by rw [hrec]; simp); rw [hrec] at this; exact this, hdone _ _ (Nat.le_refl _) (hI.putObj _ hi (by omega) hl rfl) ((World.putObj_heap_other (by omega)).trans hk)⟩
      · exact ⟨some c, _, by have := run_endLoop (P := P) hl (by rw [hrec]; simp); rw [hrec] at this; exact this, hstop _ c k _ (Nat.le_refl _) hkK ((hIx c).putObj _ hi (by omega) hl rfl) ((World.putObj_heap_other (by omega)).trans hk)⟩

/-! ### What abides the turn of a block that is no cells -/
theorem RowAt.kept {W W' : World} {row : Option Nat} {g : Nat} {e : TypeId} {cap m : Nat} {f : Nat → Value} (h : RowAt W g e cap m f) (hg : W.grownBy W' row) (hr : ∀ r, row = some r → ∃ o : Obj, W.heap[r]? = some o ∧ o.isCells = false) : RowAt W' g e cap m f := by
  obtain ⟨cur, hc, rest⟩ := h
  exact ⟨cur, (grownBy_keeps_cells hg hr hc rfl).trans hc, rest⟩

theorem Cells.kept {W W' : World} {row : Option Nat} {b o m : Nat} {f : Nat → Value} (h : Cells W b o m f) (hg : W.grownBy W' row) (hr : ∀ r, row = some r → ∃ o : Obj, W.heap[r]? = some o ∧ o.isCells = false) : Cells W' b o m f :=
  fun i hi => cell_kept (h i hi) hg hr

theorem Own.kept {W W' : World} {row : Option Nat} {B : Nat} {e : TypeId} {v : Value} {m : Nat} {f : Nat → Value} (h : Own W B e v m f) (hg : W.grownBy W' row) (hr : ∀ r, row = some r → ∃ o : Obj, W.heap[r]? = some o ∧ o.isCells = false) : Own W' B e v m f := by
  rcases h with h | ⟨g, cap, hv, hB, hrow, hm⟩
  · exact .inl h
  · exact .inr ⟨g, cap, hv, hB, hrow.kept hg hr, hm⟩

theorem below_keptFrom {n₀ B : Nat} {w W W' : World} {row : Option Nat} (h : Below n₀ w W) (hB : n₀ ≤ B) (hs : n₀ ≤ w.heap.size) (hg : W.grownBy W' row) (hr : ∀ r, row = some r → B ≤ r ∧ ∃ o : Obj, W.heap[r]? = some o ∧ o.isCells = false) : Below n₀ w W' :=
  h.grown hg (Nat.le_trans hs h.size) (fun k e => Nat.le_trans hB (hr k e).1)

/-- The body's word, from what its steps leave. -/
theorem keepsFrom_of_below {B : Nat} {W W' : World} (h : Below W.heap.size W W') : KeepsFrom B W W' :=
  ⟨h.size, fun k _ _ hk _ => (h.block k (Array.getElem?_eq_some_iff.1 hk).1).trans hk⟩

theorem keepsFrom_of_wrote {B g : Nat} {W W' : World} (h : Wrote W W' g) {cs : Array Value} {e : TypeId} {fr : Nat × Nat} (hg : W.heap[g]? = some (.cells cs e fr)) : KeepsFrom B W W' :=
  ⟨h.1.size, fun k _ _ hk ho => by
    by_cases hkg : k = g
    · subst hkg; rw [hg] at hk; cases hk; cases ho
    · exact (h.block hkg).trans hk⟩

theorem keepsFrom_of_grown {B : Nat} {row : Option Nat} {W W' : World} (h : W.grownBy W' row) (hr : ∀ r, row = some r → ∃ o : Obj, W.heap[r]? = some o ∧ o.isCells = true) : KeepsFrom B W W' :=
  ⟨h.size, fun k _ _ hk ho => by
    refine (h.block k (Array.getElem?_eq_some_iff.1 hk).1 (fun e => ?_)).trans hk
    obtain ⟨o', ho', hc⟩ := hr k e.symm
    rw [hk] at ho'; cases ho'; rw [ho] at hc; cases hc⟩

theorem Own.isCells {W : World} {B : Nat} {e : TypeId} {v : Value} {m : Nat} {f : Nat → Value} (h : Own W B e v m f) : ∀ r, v.ownBlock = some r → B ≤ r ∧ ∃ o : Obj, W.heap[r]? = some o ∧ o.isCells = true := by
  intro r hr
  rcases h with ⟨rfl, _⟩ | ⟨g, cap, rfl, hB, ⟨cur, hc, _⟩, _⟩
  · cases hr
  · cases hr; exact ⟨hB, _, hc, rfl⟩

theorem RowAt.grown {W W' : World} {row : Option Nat} {g : Nat} {e : TypeId} {cap m : Nat} {f : Nat → Value} (h : RowAt W g e cap m f) (hg : W.grownBy W' row) (hne : row ≠ some g) : RowAt W' g e cap m f := by
  have hlt := h.lt
  obtain ⟨cur, hc, rest⟩ := h
  exact ⟨cur, (hg.block g hlt (fun e => hne e.symm)).trans hc, rest⟩

theorem Cells.grown {W W' : World} {row : Option Nat} {b o m : Nat} {f : Nat → Value} (h : Cells W b o m f) (hg : W.grownBy W' row) (hne : row ≠ some b) : Cells W' b o m f :=
  fun i hi => (World.cell?_of_block (a := ⟨b, o + i, none⟩) (hg.block b (World.block_lt_of_cell? W ⟨b, o + i, none⟩ (h i hi)) (fun e => hne e.symm))).trans (h i hi)

theorem Cells.setOther {W : World} {b o m : Nat} {f : Nat → Value} (h : Cells W b o m f) (a : Addr) (v : Value) (ha : a.block ≠ b) : Cells (W.setCell a v) b o m f :=
  fun i hi => (World.cell?_of_block (a := ⟨b, o + i, none⟩) (Below.heap_setCell W a v b (fun e => ha e.symm))).trans (h i hi)

theorem Cells.drewN {W : World} {b o m : Nat} {f : Nat → Value} (h : Cells W b o m f) (k : Nat) : Cells (W.drewN k) b o m f := h

theorem Cells.alloc {W : World} {b o m : Nat} {f : Nat → Value} (h : Cells W b o m f) (x : Obj) : Cells (W.alloc x) b o m f :=
  h.all ((Below.refl _ _).alloc (Nat.le_refl _) _)

theorem Own.drewN {W : World} {B : Nat} {e : TypeId} {v : Value} {m : Nat} {f : Nat → Value} (h : Own W B e v m f) (k : Nat) : Own (W.drewN k) B e v m f := by
  rcases h with h | ⟨g, cap, hv, hB, hr, hm⟩
  · exact .inl h
  · exact .inr ⟨g, cap, hv, hB, hr.drewN k, hm⟩

theorem Own.alloc {W : World} {B : Nat} {e : TypeId} {v : Value} {m : Nat} {f : Nat → Value} (h : Own W B e v m f) (o : Obj) : Own (W.alloc o) B e v m f :=
  h.all ((Below.refl _ _).alloc (Nat.le_refl _) _)

theorem Own.setOther {W : World} {B : Nat} {e : TypeId} {v : Value} {m : Nat} {f : Nat → Value} (h : Own W B e v m f) (a : Addr) (u : Value) (ha : a.block < B) : Own (W.setCell a u) B e v m f := by
  rcases h with h | ⟨g, cap, hv, hB, hr, hm⟩
  · exact .inl h
  · exact .inr ⟨g, cap, hv, hB, hr.setOther a u (by omega), hm⟩

theorem Own.ne {W : World} {B : Nat} {e : TypeId} {v : Value} {m : Nat} {f : Nat → Value} (h : Own W B e v m f) {k : Nat} (hk : k < B) : v.ownBlock ≠ some k := by
  intro e
  have := (h.isCells k e).1
  omega

/-- What is said of cells hangs on the heap alone. -/
theorem RowAt.heap {W W' : World} {g : Nat} {e : TypeId} {cap m : Nat} {f : Nat → Value} (h : RowAt W g e cap m f) (hh : W'.heap = W.heap) : RowAt W' g e cap m f := by
  obtain ⟨cur, hc, rest⟩ := h
  exact ⟨cur, by rw [hh]; exact hc, rest⟩
theorem Cells.heap {W W' : World} {b o m : Nat} {f : Nat → Value} (h : Cells W b o m f) (hh : W'.heap = W.heap) : Cells W' b o m f :=
  fun i hi => by rw [← h i hi]; simp [World.cell?, hh]
theorem Own.heap {W W' : World} {B : Nat} {e : TypeId} {v : Value} {m : Nat} {f : Nat → Value} (h : Own W B e v m f) (hh : W'.heap = W.heap) : Own W' B e v m f := by
  rcases h with h | ⟨g, cap, hv, hB, hr, hm⟩
  · exact .inl h
  · exact .inr ⟨g, cap, hv, hB, hr.heap hh, hm⟩

theorem below_drewN (B : Nat) (W : World) (k : Nat) : Below B W (W.drewN k) := ⟨rfl, rfl, rfl, Nat.le_refl _, fun _ _ => rfl⟩

theorem keepsFrom_drewN (B : Nat) (W : World) (k : Nat) : KeepsFrom B W (W.drewN k) := ⟨Nat.le_refl _, fun _ _ _ h _ => h⟩

/-- A contract at the wide fence, at whatever room. -/
theorem callsW {P : Program} {f : FuncId} {args : Array Value} {w : World} {R : Ending → World → Prop} (n : Nat) (h : Calls P f args w R) : CallsIn Fence.wide n P f args w R := callsIn_wide.2 h

end Go.Proofs.Ytjhcaedfknhilaa
