/- A range over a function whose rounds are numbered: one law for the statement, one form for the iterator's contract. Go's bit operations on numbers, in Lean's own arithmetic. Disk: want, and caught, which recovers from its panic. What every package's walks need: lists of numbers as arguments, small structs, numbers. Disk: rows of sectors; blank. -/
import Derived.RangeFuncWrites
import Derived.RangeFuncLeaves
import Derived.Shelf.RegionOpen
import Derived.RangeFuncCalls
import Derived.RangeFuncNested
import Derived.TacticsInMore
import Derived.LoopNIn
import Derived.LoopIn
import Derived.Test.YtjhcaedfknhilaaProg
import Derived.Laws.MakeOwn
import Derived.Deep.Cut
import Derived.Deep.CutRange
import Derived.Deep.DrawnRows
import Derived.Deep.RegionHeld
import Derived.Test.YtjhcaedfknhilaaRc1
namespace Go.Proofs.Ytjhcaedfknhilaa
set_option linter.unusedVariables false
set_option linter.unusedSimpArgs false
open Go.RowKit

/-- THE ITERATOR's CONTRACT: it hands over encs 0, encs 1, .., encs (K - 1), in this order, unless a round says 'no more'. Rd: what it must find in memory before each round. -/
def IterN (F : Fence) (n : Nat) (P : Program) (gf : Nat) (lb : Array Value) (encs : Nat → Array Value) (K : Nat) (Rd : World → Prop) : Prop :=
  ∀ (l : Nat) (J Jx : Nat → World → Prop) (W : World), (∀ k W1, J k W1 → Rd W1) → (∀ k W1 W2, J k W1 → W1.grownBy W2 none → J k W2) → (∀ k W1 W2, Jx k W1 → W1.grownBy W2 none → Jx k W2) →
    (∀ k W1, J k W1 → k < K → YieldAt F (n - 1) P l (encs k) W1 fun e W' => (e = .returned (.bool true) ∧ J (k + 1) W') ∨ (e = .returned (.bool false) ∧ Jx k W')) →
    J 0 W → CallsIn F n P gf (#[.func (.yield l) #[] #[]] ++ lb) W fun e W' => (∃ v, e = .returned v) ∧ (J K W' ∨ ∃ k, k < K ∧ Jx k W')

/-- How a round may be left. -/
def postN (B : Nat) (I : Nat → World → Prop) (Ix : Code → Nat → World → Prop) (k : Nat) (W : World) : Exit → Act → World → Prop
  | .normal, _, W' => KeepsFrom B W W' ∧ I (k + 1) W'
  | .ret, _, W' => KeepsFrom B W W' ∧ Ix .ret k W'
  | .exit id, _, W' => KeepsFrom B W W' ∧ Ix (.exit id) k W'
  | .goto t, _, W' => KeepsFrom B W W' ∧ Ix (.goto t) k W'
  | .panic _, _, _ => False
  | .outgrown, _, _ => False

variable {F : Fence} {n : Nat} {P : Program}

theorem wpIn_rangeN {g : Operand} {ps : Array Tmp} {assign body : Code} {Q : Exit → Act → World → Prop} {a : Act} {w : World}
    (hro : F.round = none) (h1 : F.depth.isSome = true → 1 ≤ n) {gf : Nat} {lb : Array Value} (hg : a.eval g = .func (.func gf) #[] lb) (hFg : F.fn gf) (eg : ∀ args w, (callFunc gf args).run P w = .ok (.enter gf args) w)
    {encs : Nat → Array Value} {K : Nat} {Rd : World → Prop} (hseq : IterN F (n - 1) P gf lb encs K Rd) (hps : ∀ k, (encs k).size = ps.size)
    (I : Nat → World → Prop) (Ix : Code → Nat → World → Prop) (hI : OwnFrom w.heap.size I) (hIx : ∀ c, OwnFrom w.heap.size (Ix c)) (hRd : ∀ k W, I k W → Rd W) (h0 : I 0 w) (a₁ : Nat → Act)
    (hassign : ∀ (l : Nat) (k : Nat) (W : World) (K : Act → World → Prop), K (a₁ k) W →
      assign.wpIn (F.inRound l) (n - 1 - 1) P (Exit.then K (fun _ _ _ => False)) { tmps := (ps.zip (encs k)).foldl (fun t (p, v) => t.setIfInBounds p v) a.tmps, defers := [] } W)
    (hbody : ∀ (l : Nat) (k : Nat) (W : World), I k W → k < K → body.wpIn (F.inRound l) (n - 1 - 1) P (postN w.heap.size I Ix k W) (a₁ k) W)
    (hdone : ∀ (D : Nat) (W : World), w.heap.size ≤ D → I K W → W.heap[D]? = some (.deferred (some [])) → Q .normal { a with defers := { target := .collected D, args := #[] } :: a.defers } W)
    (hstop : ∀ (D : Nat) (c : Code) (k : Nat) (W : World), w.heap.size ≤ D → k < K → Ix c k W → W.heap[D]? = some (.deferred (some [])) → c.wpIn F n P Q { a with defers := { target := .collected D, args := #[] } :: a.defers } W) :
    (Code.rangeFunc g ps assign body).wpIn F n P Q a w := by
  refine wpIn_rangeFunc ?_
  intro fn hfn
  rw [hro]
  obtain ⟨rec, hrec⟩ : ∃ rec : LoopState → Option Code → Loop, rec = fun st pe => { state := st, pending := pe, fn, tmps := a.tmps, params := ps, assign, body, defers := w.heap.size } := ⟨_, rfl⟩
  obtain ⟨W1, hW1⟩ : ∃ W1, (w.alloc (.deferred (some []))).alloc (.loop (rec .ready none)) = W1 := ⟨_, rfl⟩
  have hL1 : W1.heap[w.heap.size + 1]? = some (.loop (rec .ready none)) := by
    rw [← hW1]; have := World.alloc_heap_new (w.alloc (.deferred (some []))) (.loop (rec .ready none)); rwa [World.size_alloc] at this
  have hK1 : W1.heap[w.heap.size]? = some (.deferred (some [])) := by
    rw [← hW1]; exact (Below.heap_alloc _ _ _ (by simp)).trans (World.alloc_heap_new w _)
  have hI1 : I 0 W1 := by rw [← hW1]; exact hI.alloc _ (hI.alloc _ h0)
  refine ⟨w.heap.size + 1, [{ target := .collected w.heap.size, args := #[] }], W1, { target := .fn (.func gf) lb, args := #[.func (.yield (w.heap.size + 1)) #[] #[]] }, W1, gf,
    #[.func (.yield (w.heap.size + 1)) #[] #[]] ++ lb, W1, ?_, ?_, ?_, ?_, h1, ?_⟩
  · rw [← hW1, hrec]; exact run_enterLoop_outer _ _ _ _ _
  · simp only [resolve, hg]
    simp [go_sem]
  · intro f' hf'; simp [Target.leads] at hf'; subst hf'; exact hFg
  · simp [invoke, go_sem, eg]
  · refine (hseq (w.heap.size + 1)
      (fun k W => I k W ∧ W.heap[w.heap.size + 1]? = some (.loop (rec .ready none)) ∧ W.heap[w.heap.size]? = some (.deferred (some [])))
      (fun k W => ∃ c, Ix c k W ∧ W.heap[w.heap.size + 1]? = some (.loop (rec .done (some c))) ∧ W.heap[w.heap.size]? = some (.deferred (some [])))
      W1 (fun k W h => hRd k W h.1)
      (fun s A B hs hg' => ⟨hI s A B none hs.1 hg' (fun r e => by cases e), (hg'.block _ (Array.getElem?_eq_some_iff.1 hs.2.1).1 (by simp)).trans hs.2.1, (hg'.block _ (Array.getElem?_eq_some_iff.1 hs.2.2).1 (by simp)).trans hs.2.2⟩)
      (fun s A B hs hg' => by
        obtain ⟨c, hc, hl, hk⟩ := hs
        exact ⟨c, hIx c s A B none hc hg' (fun r e => by cases e), (hg'.block _ (Array.getElem?_eq_some_iff.1 hl).1 (by simp)).trans hl, (hg'.block _ (Array.getElem?_eq_some_iff.1 hk).1 (by simp)).trans hk⟩)
      ?_ ⟨hI1, hL1, hK1⟩).mono ?_
    · rintro k W ⟨hi, hl, hk⟩ hlen
      have hlt : w.heap.size + 1 < W.heap.size := (Array.getElem?_eq_some_iff.1 hl).1
      have hy := run_yield (P := P) (args := encs k) hl (by rw [hrec]; exact hps k)
      rw [hrec] at hy
      refine ⟨fn, _, assign, body, hy, roundIn_of_wpIn hfn (hassign _ k W _ ⟨_, run_beginRound hl (by rw [hrec]), ?_⟩)⟩
      have hl2 : (W.putObj (w.heap.size + 1) (.loop { rec .ready none with state := .busy })).heap[w.heap.size + 1]? = some (.loop { rec .ready none with state := .busy }) := World.putObj_heap_same hlt
      have hk2 : (W.putObj (w.heap.size + 1) (.loop { rec .ready none with state := .busy })).heap[w.heap.size]? = some (.deferred (some [])) := (World.putObj_heap_other (by omega)).trans hk
      refine wpIn_mono (hbody _ k _ (hI.putObj _ hi (by omega) hl rfl) hlen) ?_
      have fin : ∀ (jump : Option Code) (W3 : World), KeepsFrom w.heap.size (W.putObj (w.heap.size + 1) (.loop { rec .ready none with state := .busy })) W3 →
          (Instr.endRound (w.heap.size + 1) jump).run P W3 = .ok (.bool jump.isNone) (W3.putObj (w.heap.size + 1) (.loop (rec (if jump.isNone then .ready else .done) jump))) ∧
          W3.heap[w.heap.size + 1]? = some (.loop { rec .ready none with state := .busy }) ∧
          (W3.putObj (w.heap.size + 1) (.loop (rec (if jump.isNone then .ready else .done) jump))).heap[w.heap.size + 1]? = some (.loop (rec (if jump.isNone then .ready else .done) jump)) ∧
          (W3.putObj (w.heap.size + 1) (.loop (rec (if jump.isNone then .ready else .done) jump))).heap[w.heap.size]? = some (.deferred (some [])) := fun jump W3 hk3 => by
        have hl3 := hk3.same _ _ (by omega) hl2 rfl
        have := run_endRound (P := P) jump hl3
        rw [hrec] at this ⊢
        exact ⟨this, by rw [hrec] at hl3; exact hl3, World.putObj_heap_same (Array.getElem?_eq_some_iff.1 hl3).1, (World.putObj_heap_other (by omega)).trans (hk3.same _ _ (Nat.le_refl _) hk2 rfl)⟩
      rintro e a3 W3 hp
      cases e with
      | normal =>
        obtain ⟨hk3, hi3⟩ := hp
        obtain ⟨hr, hl3, hl4, hk4⟩ := fin none W3 hk3
        exact ⟨_, _, hr, .inl ⟨rfl, hI.putObj _ hi3 (by omega) hl3 rfl, hl4, hk4⟩⟩
      | ret =>
        obtain ⟨hk3, hi3⟩ := hp
        obtain ⟨hr, hl3, hl4, hk4⟩ := fin (some .ret) W3 hk3
        exact ⟨_, _, hr, .inr ⟨rfl, .ret, (hIx _).putObj _ hi3 (by omega) hl3 rfl, hl4, hk4⟩⟩
      | exit id =>
        obtain ⟨hk3, hi3⟩ := hp
        obtain ⟨hr, hl3, hl4, hk4⟩ := fin (some (.exit id)) W3 hk3
        exact ⟨_, _, hr, .inr ⟨rfl, .exit id, (hIx _).putObj _ hi3 (by omega) hl3 rfl, hl4, hk4⟩⟩
      | goto t =>
        obtain ⟨hk3, hi3⟩ := hp
        obtain ⟨hr, hl3, hl4, hk4⟩ := fin (some (.goto t)) W3 hk3
        exact ⟨_, _, hr, .inr ⟨rfl, .goto t, (hIx _).putObj _ hi3 (by omega) hl3 rfl, hl4, hk4⟩⟩
      | panic ch => exact hp.elim
      | outgrown => exact hp.elim
    · rintro e W2 ⟨⟨v, rfl⟩, (⟨hi, hl, hk⟩ | ⟨k, hkK, c, hi, hl, hk⟩)⟩
      · exact ⟨none, _, by have := run_endLoop (P := P) hl (by rw [hrec]; simp); rw [hrec] at this; exact this, hdone _ _ (Nat.le_refl _) (hI.putObj _ hi (by omega) hl rfl) ((World.putObj_heap_other (by omega)).trans hk)⟩
      · exact ⟨some c, _, by have := run_endLoop (P := P) hl (by rw [hrec]; simp); rw [hrec] at this; exact this, hstop _ c k _ (Nat.le_refl _) hkK ((hIx c).putObj _ hi (by omega) hl rfl) ((World.putObj_heap_other (by omega)).trans hk)⟩

/-! ### What abides the turn of a block that is no cells -/
theorem RowAt.kept {W W' : World} {row : Option Nat} {g : Nat} {e : TypeId} {cap m : Nat} {f : Nat → Value} (h : RowAt W g e cap m f) (hg : W.grownBy W' row) (hr : ∀ r, row = some r → ∃ o : Obj, W.heap[r]? = some o ∧ o.isCells = false) : RowAt W' g e cap m f := by
  obtain ⟨cur, hc, rest⟩ := h
  exact ⟨cur, (grownBy_keeps_cells hg hr hc rfl).trans hc, rest⟩

theorem Cells.kept {W W' : World} {row : Option Nat} {b o m : Nat} {f : Nat → Value} (h : Cells W b o m f) (hg : W.grownBy W' row) (hr : ∀ r, row = some r → ∃ o : Obj, W.heap[r]? = some o ∧ o.isCells = false) : Cells W' b o m f :=
  fun i hi => cell_kept (h i hi) hg hr

theorem Own.kept {W W' : World} {row : Option Nat} {B : Nat} {e : TypeId} {v : Value} {m : Nat} {f : Nat → Value} (h : Own W B e v m f) (hg : W.grownBy W' row) (hr : ∀ r, row = some r → ∃ o : Obj, W.heap[r]? = some o ∧ o.isCells = false) : Own W' B e v m f := by
  rcases h with h | ⟨g, cap, hv, hB, hrow, hm⟩
  · exact .inl h
  · exact .inr ⟨g, cap, hv, hB, hrow.kept hg hr, hm⟩

theorem below_keptFrom {n₀ B : Nat} {w W W' : World} {row : Option Nat} (h : Below n₀ w W) (hB : n₀ ≤ B) (hs : n₀ ≤ w.heap.size) (hg : W.grownBy W' row) (hr : ∀ r, row = some r → B ≤ r ∧ ∃ o : Obj, W.heap[r]? = some o ∧ o.isCells = false) : Below n₀ w W' :=
  h.grown hg (Nat.le_trans hs h.size) (fun k e => Nat.le_trans hB (hr k e).1)

/-- The body's word, from what its steps leave. -/
theorem keepsFrom_of_below {B : Nat} {W W' : World} (h : Below W.heap.size W W') : KeepsFrom B W W' :=
  ⟨h.size, fun k _ _ hk _ => (h.block k (Array.getElem?_eq_some_iff.1 hk).1).trans hk⟩

theorem keepsFrom_of_wrote {B g : Nat} {W W' : World} (h : Wrote W W' g) {cs : Array Value} {e : TypeId} {fr : Nat × Nat} (hg : W.heap[g]? = some (.cells cs e fr)) : KeepsFrom B W W' :=
  ⟨h.1.size, fun k _ _ hk ho => by
    by_cases hkg : k = g
    · subst hkg; rw [hg] at hk; cases hk; cases ho
    · exact (h.block hkg).trans hk⟩

theorem keepsFrom_of_grown {B : Nat} {row : Option Nat} {W W' : World} (h : W.grownBy W' row) (hr : ∀ r, row = some r → ∃ o : Obj, W.heap[r]? = some o ∧ o.isCells = true) : KeepsFrom B W W' :=
  ⟨h.size, fun k _ _ hk ho => by
    refine (h.block k (Array.getElem?_eq_some_iff.1 hk).1 (fun e => ?_)).trans hk
    obtain ⟨o', ho', hc⟩ := hr k e.symm
    rw [hk] at ho'; cases ho'; rw [ho] at hc; cases hc⟩

theorem Own.isCells {W : World} {B : Nat} {e : TypeId} {v : Value} {m : Nat} {f : Nat → Value} (h : Own W B e v m f) : ∀ r, v.ownBlock = some r → B ≤ r ∧ ∃ o : Obj, W.heap[r]? = some o ∧ o.isCells = true := by
  intro r hr
  rcases h with ⟨rfl, _⟩ | ⟨g, cap, rfl, hB, ⟨cur, hc, _⟩, _⟩
  · cases hr
  · cases hr; exact ⟨hB, _, hc, rfl⟩

theorem RowAt.grown {W W' : World} {row : Option Nat} {g : Nat} {e : TypeId} {cap m : Nat} {f : Nat → Value} (h : RowAt W g e cap m f) (hg : W.grownBy W' row) (hne : row ≠ some g) : RowAt W' g e cap m f := by
  have hlt := h.lt
  obtain ⟨cur, hc, rest⟩ := h
  exact ⟨cur, (hg.block g hlt (fun e => hne e.symm)).trans hc, rest⟩

theorem Cells.grown {W W' : World} {row : Option Nat} {b o m : Nat} {f : Nat → Value} (h : Cells W b o m f) (hg : W.grownBy W' row) (hne : row ≠ some b) : Cells W' b o m f :=
  fun i hi => (World.cell?_of_block (a := ⟨b, o + i, none⟩) (hg.block b (World.block_lt_of_cell? W ⟨b, o + i, none⟩ (h i hi)) (fun e => hne e.symm))).trans (h i hi)

theorem Cells.setOther {W : World} {b o m : Nat} {f : Nat → Value} (h : Cells W b o m f) (a : Addr) (v : Value) (ha : a.block ≠ b) : Cells (W.setCell a v) b o m f :=
  fun i hi => (World.cell?_of_block (a := ⟨b, o + i, none⟩) (Below.heap_setCell W a v b (fun e => ha e.symm))).trans (h i hi)

theorem Cells.drewN {W : World} {b o m : Nat} {f : Nat → Value} (h : Cells W b o m f) (k : Nat) : Cells (W.drewN k) b o m f := h

theorem Cells.alloc {W : World} {b o m : Nat} {f : Nat → Value} (h : Cells W b o m f) (x : Obj) : Cells (W.alloc x) b o m f :=
  h.all ((Below.refl _ _).alloc (Nat.le_refl _) _)

theorem Own.drewN {W : World} {B : Nat} {e : TypeId} {v : Value} {m : Nat} {f : Nat → Value} (h : Own W B e v m f) (k : Nat) : Own (W.drewN k) B e v m f := by
  rcases h with h | ⟨g, cap, hv, hB, hr, hm⟩
  · exact .inl h
  · exact .inr ⟨g, cap, hv, hB, hr.drewN k, hm⟩

theorem Own.alloc {W : World} {B : Nat} {e : TypeId} {v : Value} {m : Nat} {f : Nat → Value} (h : Own W B e v m f) (o : Obj) : Own (W.alloc o) B e v m f :=
  h.all ((Below.refl _ _).alloc (Nat.le_refl _) _)

theorem Own.setOther {W : World} {B : Nat} {e : TypeId} {v : Value} {m : Nat} {f : Nat → Value} (h : Own W B e v m f) (a : Addr) (u : Value) (ha : a.block < B) : Own (W.setCell a u) B e v m f := by
  rcases h with h | ⟨g, cap, hv, hB, hr, hm⟩
  · exact .inl h
  · exact .inr ⟨g, cap, hv, hB, hr.setOther a u (by omega), hm⟩

theorem Own.ne {W : World} {B : Nat} {e : TypeId} {v : Value} {m : Nat} {f : Nat → Value} (h : Own W B e v m f) {k : Nat} (hk : k < B) : v.ownBlock ≠ some k := by
  intro e
  have := (h.isCells k e).1
  omega

/-- What is said of cells hangs on the heap alone. -/
theorem RowAt.heap {W W' : World} {g : Nat} {e : TypeId} {cap m : Nat} {f : Nat → Value} (h : RowAt W g e cap m f) (hh : W'.heap = W.heap) : RowAt W' g e cap m f := by
  obtain ⟨cur, hc, rest⟩ := h
  exact ⟨cur, by rw [hh]; exact hc, rest⟩
theorem Cells.heap {W W' : World} {b o m : Nat} {f : Nat → Value} (h : Cells W b o m f) (hh : W'.heap = W.heap) : Cells W' b o m f :=
  fun i hi => by rw [← h i hi]; simp [World.cell?, hh]
theorem Own.heap {W W' : World} {B : Nat} {e : TypeId} {v : Value} {m : Nat} {f : Nat → Value} (h : Own W B e v m f) (hh : W'.heap = W.heap) : Own W' B e v m f := by
  rcases h with h | ⟨g, cap, hv, hB, hr, hm⟩
  · exact .inl h
  · exact .inr ⟨g, cap, hv, hB, hr.heap hh, hm⟩

theorem below_drewN (B : Nat) (W : World) (k : Nat) : Below B W (W.drewN k) := ⟨rfl, rfl, rfl, Nat.le_refl _, fun _ _ => rfl⟩

theorem keepsFrom_drewN (B : Nat) (W : World) (k : Nat) : KeepsFrom B W (W.drewN k) := ⟨Nat.le_refl _, fun _ _ _ h _ => h⟩

/-- A contract at the wide fence, at whatever room. -/
theorem callsW {P : Program} {f : FuncId} {args : Array Value} {w : World} {R : Ending → World → Prop} (n : Nat) (h : Calls P f args w R) : CallsIn Fence.wide n P f args w R := callsIn_wide.2 h

end Go.Proofs.Ytjhcaedfknhilaa

namespace Go.Proofs.Ytjhcaedfknhilaa
set_option linter.unusedVariables false
set_option linter.unusedSimpArgs false

theorem wraps_i64 (n : Int) (h0 : 0 ≤ n) (h1 : n < 2 ^ 63) : IntKind.i64.wrap n = n := by rw [IntKind.wrap_i64]; omega

/-- x & (2^i - 1), whatever x. -/
theorem and_mask_i64 (i : Nat) (hi : i ≤ 62) (x : Int) : bits .and .i64 x (2 ^ i - 1) = x % 2 ^ i := by
  have hpos : 0 < 2 ^ i := Nat.two_pow_pos i
  have h64 : (2 : Nat) ^ i ≤ 2 ^ 62 := Nat.pow_le_pow_right (by decide) hi
  have hdvd : (2 ^ i : Int) ∣ 2 ^ 64 := ⟨2 ^ (64 - i), by rw [← Int.pow_add]; congr 1; omega⟩
  have hc : ((2 : Int) ^ i - 1) = ((2 ^ i - 1 : Nat) : Int) := by rw [Int.natCast_sub hpos]; simp
  have h1 : (BitVec.ofInt 64 x).toNat = (x % 2 ^ 64).toNat := by rw [BitVec.toNat_ofInt]; rfl
  have h2 : (BitVec.ofInt 64 ((2 ^ i - 1 : Nat) : Int)).toNat = 2 ^ i - 1 := by
    rw [BitVec.ofInt_natCast, BitVec.toNat_ofNat]; exact Nat.mod_eq_of_lt (by omega)
  rw [hc]
  show IntKind.i64.wrap ((BitVec.ofInt 64 x &&& BitVec.ofInt 64 ((2 ^ i - 1 : Nat) : Int)).toNat : Int) = _
  rw [BitVec.toNat_and, h1, h2, Nat.and_two_pow_sub_one_eq_mod]
  have h3 : (((x % 2 ^ 64).toNat % 2 ^ i : Nat) : Int) = x % 2 ^ i := by
    rw [Int.natCast_emod, Int.toNat_of_nonneg (Int.emod_nonneg _ (by decide))]
    simp only [Int.natCast_pow]
    exact Int.emod_emod_of_dvd x hdvd
  have h4 : (x % 2 ^ 64).toNat % 2 ^ i < 2 ^ i := Nat.mod_lt _ hpos
  rw [wraps_i64 _ (by omega) (by omega), h3]

theorem and1_i64 (x : Int) : bits .and .i64 x 1 = x % 2 := and_mask_i64 1 (by decide) x
theorem and7_i64 (x : Int) : bits .and .i64 x 7 = x % 8 := and_mask_i64 3 (by decide) x
theorem and255_i64 (x : Int) : bits .and .i64 x 255 = x % 256 := and_mask_i64 8 (by decide) x

theorem and_nat_i64 (a b : Nat) (ha : a < 256) (hb : b < 256) : bits .and .i64 (a : Int) (b : Int) = ((a &&& b : Nat) : Int) :=
  (bits_nat .i64 8 (by decide) (fun n h0 h1 => wraps_i64 n h0 (by omega)) a b ha hb).1
theorem or_nat_i64 (a b : Nat) (ha : a < 256) (hb : b < 256) : bits .or .i64 (a : Int) (b : Int) = ((a ||| b : Nat) : Int) :=
  (bits_nat .i64 8 (by decide) (fun n h0 h1 => wraps_i64 n h0 (by omega)) a b ha hb).2

/-- Bit s of a number. -/
def bitI (m : Int) (s : Nat) : Bool := m / 2 ^ s % 2 == 1

theorem bitI_nat (a s : Nat) : bitI (a : Int) s = a.testBit s := by
  unfold bitI
  rw [Nat.testBit_eq_decide_div_mod_eq, Bool.eq_iff_iff]
  simp only [beq_iff_eq, decide_eq_true_eq]
  have : ((a : Int) / 2 ^ s % 2) = ((a / 2 ^ s % 2 : Nat) : Int) := by simp
  rw [this]; omega

end Go.Proofs.Ytjhcaedfknhilaa

namespace Go.Proofs.Ytjhcaedfknhilaa
set_option linter.unusedVariables false
set_option linter.unusedSimpArgs false
open Go.RowKit

theorem rep18 : Array.replicate 18 undef = #[undef, undef, undef, undef, undef, undef, undef, undef, undef, undef, undef, undef, undef, undef, undef, undef, undef, undef] := rfl

/-- The panic of want. -/
def failP (n : Int) : List PanicEntry := [{ v := .iface 104 (.int .i64 n), recovered := false }]
def failR (n : Int) : List PanicEntry := [{ v := .iface 104 (.int .i64 n), recovered := true }]

theorem want_ok (n : Int) (w : World) : Calls Try.prog 33 #[.bool true, .int .i64 n] w fun e w' => e = .returned (.tuple #[]) ∧ w = w' := by
  go_enter Try.func33, Try.ntmps33
  go_wp2
  go_end0
  exact ⟨rfl, rfl⟩
theorem want_not (n : Int) (w : World) : Calls Try.prog 33 #[.bool false, .int .i64 n] w fun e w' => e = .panicked (failP n) ∧ w = w' := by
  go_enter Try.func33, Try.ntmps33
  go_wp2
  exact ⟨rfl, rfl, rfl⟩

set_option maxHeartbeats 400000 in
/-- Behind a panic of want: it is recovered, and an error is set. -/
theorem catch_fail_d (p q : Addr) (n : Int) (w : World) (v u : Value) (hc : w.cell? p = some v) (hz : w.frozen? p = false) (hc2 : (w.setCell p (.pointer none)).cell? q = some u) (hz2 : (w.setCell p (.pointer none)).frozen? q = false) :
    CallsD Try.prog 32 #[.pointer (some p), .pointer (some q)] (.panicking (failP n)) w fun e u' w' =>
      e = .returned (.tuple #[]) ∧ u' = .panicking (failR n) ∧ w' = (w.setCell p (.pointer none)).setCell q (.int .i64 n) := by
  refine callsD_of_wpS Try.func32 rfl fun c₀ cs hu => ?_
  apply wpS_seq
  apply wpS_region
  simp [rep18, wpOpsS, go_sem, recoverD, hu, failP, Try.ntmps32, Exit.thenS]
  refine wpS_of_wp ?_
  have hta : ∀ w, (Instr.typeAssert (.iface 104 (.int .i64 n)) 20 104 true).run Try.prog w = .ok (.tuple #[.int .i64 n, .bool true]) w := fun w => by kernel_rfl
  go_wp2
  refine ⟨rfl, _, rfl, _, results_none rfl _ _ _, rfl, rfl, rfl⟩

set_option maxHeartbeats 400000 in
/-- Behind a return: nothing to recover. -/
theorem catch_idle_d (p q : Addr) (w : World) :
    CallsD Try.prog 32 #[.pointer (some p), .pointer (some q)] .returning w fun e u' w' => e = .returned (.tuple #[]) ∧ u' = .returning ∧ w' = w := by
  refine callsD_of_wpS Try.func32 rfl fun c₀ cs hu => ?_
  apply wpS_seq
  apply wpS_region
  simp [rep18, wpOpsS, go_sem, recoverD, hu, Try.ntmps32, Exit.thenS]
  refine wpS_of_wp ?_
  go_wp2
  refine ⟨rfl, .returning, ?_, _, results_none rfl _ _ _, rfl, rfl, rfl⟩
  rw [← hu]

set_option maxHeartbeats 400000 in
/-- Behind a panic of want: it is recovered, and an error is set. -/
theorem catch_fail_b (p q : Addr) (n : Int) (w : World) (v u : Value) (hc : w.cell? p = some v) (hz : w.frozen? p = false) (hc2 : (w.setCell p (.slice none 0 0)).cell? q = some u) (hz2 : (w.setCell p (.slice none 0 0)).frozen? q = false) :
    CallsD Try.prog 41 #[.pointer (some p), .pointer (some q)] (.panicking (failP n)) w fun e u' w' =>
      e = .returned (.tuple #[]) ∧ u' = .panicking (failR n) ∧ w' = (w.setCell p (.slice none 0 0)).setCell q (.int .i64 n) := by
  refine callsD_of_wpS Try.func41 rfl fun c₀ cs hu => ?_
  apply wpS_seq
  apply wpS_region
  simp [rep18, wpOpsS, go_sem, recoverD, hu, failP, Try.ntmps41, Exit.thenS]
  refine wpS_of_wp ?_
  have hta : ∀ w, (Instr.typeAssert (.iface 104 (.int .i64 n)) 20 104 true).run Try.prog w = .ok (.tuple #[.int .i64 n, .bool true]) w := fun w => by kernel_rfl
  go_wp2
  refine ⟨rfl, _, rfl, _, results_none rfl _ _ _, rfl, rfl, rfl⟩

set_option maxHeartbeats 400000 in
/-- Behind a return: nothing to recover. -/
theorem catch_idle_b (p q : Addr) (w : World) :
    CallsD Try.prog 41 #[.pointer (some p), .pointer (some q)] .returning w fun e u' w' => e = .returned (.tuple #[]) ∧ u' = .returning ∧ w' = w := by
  refine callsD_of_wpS Try.func41 rfl fun c₀ cs hu => ?_
  apply wpS_seq
  apply wpS_region
  simp [rep18, wpOpsS, go_sem, recoverD, hu, Try.ntmps41, Exit.thenS]
  refine wpS_of_wp ?_
  go_wp2
  refine ⟨rfl, .returning, ?_, _, results_none rfl _ _ _, rfl, rfl, rfl⟩
  rw [← hu]

set_option maxHeartbeats 400000 in
/-- Behind a panic of want: it is recovered, and an error is set. -/
theorem catch_fail_n (p q : Addr) (n : Int) (w : World) (u : Value) (hc2 : (w.alloc (.cells #[] 85)).cell? q = some u) (hz2 : (w.alloc (.cells #[] 85)).frozen? q = false) :
    CallsD Try.prog 38 #[.pointer (some p), .pointer (some q)] (.panicking (failP n)) w fun e u' w' =>
      e = .returned (.tuple #[]) ∧ u' = .panicking (failR n) ∧ w' = (w.alloc (.cells #[] 85)).setCell q (.int .i64 n) := by
  refine callsD_of_wpS Try.func38 rfl fun c₀ cs hu => ?_
  apply wpS_seq
  apply wpS_region
  simp [rep18, wpOpsS, go_sem, recoverD, hu, failP, Try.ntmps38, Exit.thenS]
  refine wpS_of_wp ?_
  have hta : ∀ w, (Instr.typeAssert (.iface 104 (.int .i64 n)) 20 104 true).run Try.prog w = .ok (.tuple #[.int .i64 n, .bool true]) w := fun w => by kernel_rfl
  go_wp2
  refine ⟨rfl, _, rfl, _, results_none rfl _ _ _, rfl, rfl, rfl⟩

set_option maxHeartbeats 400000 in
/-- Behind a return: nothing to recover. -/
theorem catch_idle_n (p q : Addr) (w : World) :
    CallsD Try.prog 38 #[.pointer (some p), .pointer (some q)] .returning w fun e u' w' => e = .returned (.tuple #[]) ∧ u' = .returning ∧ w' = w := by
  refine callsD_of_wpS Try.func38 rfl fun c₀ cs hu => ?_
  apply wpS_seq
  apply wpS_region
  simp [rep18, wpOpsS, go_sem, recoverD, hu, Try.ntmps38, Exit.thenS]
  refine wpS_of_wp ?_
  go_wp2
  refine ⟨rfl, .returning, ?_, _, results_none rfl _ _ _, rfl, rfl, rfl⟩
  rw [← hu]

end Go.Proofs.Ytjhcaedfknhilaa

namespace Go.Proofs.Ytjhcaedfknhilaa
set_option linter.unusedVariables false
set_option linter.unusedSimpArgs false
open Go.RowKit

theorem size_int : (Try.prog.info? 3).map (·.size) = some 1 := by kernel_rfl
theorem info_int : (Try.prog.info? 3).map (fun i => (i.zero, i.size, i.bytes)) = some (some (.int .i64 0), 1, 8) := by kernel_rfl
theorem info_bool : (Try.prog.info? 4).map (fun i => (i.zero, i.size, i.bytes)) = some (some (.bool false), 1, 1) := by kernel_rfl

theorem ret_i64 {a b : Int} (h : a = b) : Ending.returned (.int .i64 a) = .returned (.int .i64 b) := by rw [h]
theorem ret_bool {a b : Bool} (h : a = b) : Ending.returned (.bool a) = .returned (.bool b) := by rw [h]

def intsV (f : Nat → Int) (i : Nat) : Value := .int .i64 (f i)
theorem one_cell {cur : Array Value} {v : Value} (h : cur[0]? = some v) : ∀ i, i < 1 → cur[i]? = some ((fun _ => v) i) := fun i hi => by
  obtain rfl : i = 0 := by omega
  exact h
theorem RowAt.set1 {W : World} {g : Nat} {e : TypeId} {cap : Nat} {v : Value} (h : RowAt W g e cap 1 (fun _ => v)) (u : Value) : RowAt (W.setCell ⟨g, 0, none⟩ u) g e cap 1 (fun _ => u) :=
  (h.set 0 u).congr fun i hi => by
    obtain rfl : i = 0 := by omega
    rw [if_pos rfl]

theorem Own.wrote {w w' : World} {B g : Nat} {e : TypeId} {v : Value} {n : Nat} {f : Nat → Value} (h : Own w B e v n f) (hw : Wrote w w' g) (hg : g < B) : Own w' B e v n f := by
  rcases h with h | ⟨r, cap, rfl, hB, hrow, hm⟩
  · exact .inl h
  · exact .inr ⟨r, cap, rfl, hB, hrow.wrote hw (by omega), hm⟩

theorem make_o {P : Program} (t e : TypeId) (z : Value) (bytes : Nat) (ht : P.underlying t = some (.slice e)) (hinfo : (P.info? e).map (fun i => (i.zero, i.size, i.bytes)) = some (some z, 1, bytes)) (hz : z.cells = #[z])
    (hby : bytes ≤ 1000) (k : IntKind) (n : Nat) (hn : n ≤ 1000000) (w : World) :
    ∃ w1, (Instr.makeSlice t (.int k n) (.int k n)).run P w = .ok (.slice (some ⟨w.heap.size, 0, none⟩) n n) w1 ∧ RowAt w1 w.heap.size e n n (fun _ => z) ∧ Below w.heap.size w w1 ∧ w1.heap.size = w.heap.size + 1 := by
  obtain ⟨i, hi⟩ : ∃ i, P.info? e = some i := by
    cases h : P.info? e with
    | none => rw [h] at hinfo; cases hinfo
    | some i => exact ⟨i, rfl⟩
  rw [hi] at hinfo
  simp only [Option.map_some, Option.some.injEq, Prod.mk.injEq] at hinfo
  obtain ⟨hzero, hsize, hbytes⟩ := hinfo
  have hb2 : i.bytes * n ≤ 1000 * 1000000 := Nat.mul_le_mul (by omega) hn
  have hr := run_make (P := P) w t e i z ht hi hzero k k n n (by omega) (by omega) (by omega) (by omega)
  rw [hz, hsize, Nat.mul_one, Int.toNat_natCast] at hr
  refine ⟨_, hr, ?_, (Below.refl _ _).alloc (Nat.le_refl _) _, by simp⟩
  have := RowAt.new w (madeCells #[z] n) e (fun _ => z) n (by simp [size_madeCells]) (fun i hi => by simp [madeCells, hi, Nat.mod_one])
  simpa [size_madeCells] using this

theorem i64_of_wf {m : Int} (hm : (Lit.int .i64 m).wf = true) : -9223372036854775808 ≤ m ∧ m ≤ 9223372036854775807 := by
  simp [Lit.wf] at hm
  exact hm

theorem tmod_cases (m d : Int) (_ : 0 < d) : (0 ≤ m ∧ Int.tmod m d = m % d) ∨ (m < 0 ∧ Int.tmod m d = -((-m) % d)) := by
  by_cases h : 0 ≤ m
  · exact .inl ⟨h, Int.tmod_eq_emod_of_nonneg h⟩
  · refine .inr ⟨by omega, ?_⟩
    have := Int.neg_tmod (a := -m) (b := d)
    rw [Int.neg_neg] at this
    rw [this, Int.tmod_eq_emod_of_nonneg (by omega)]

/-- A list of numbers as an argument. -/
def IArg (w : World) (v : Value) (n : Nat) (f : Nat → Int) : Prop :=
  (n = 0 ∧ ∃ a cap, v = .slice a 0 cap) ∨ ∃ b off cap, v = .slice (some ⟨b, off, none⟩) n cap ∧ 0 < n ∧ n ≤ cap ∧ cap ≤ maxLen ∧ Cells w b off n (intsV f) ∧ ∀ i, i < n → -9223372036854775808 ≤ f i ∧ f i ≤ 9223372036854775807

theorem IArg.all {w w' : World} {v : Value} {n : Nat} {f : Nat → Int} (h : IArg w v n f) (hb : Below w.heap.size w w') : IArg w' v n f := by
  rcases h with h | ⟨b, off, cap, h1, h2, h3, h4, h5, h6⟩
  · exact .inl h
  · exact .inr ⟨b, off, cap, h1, h2, h3, h4, h5.all hb, h6⟩

theorem IArg.slice {w : World} {v : Value} {n : Nat} {f : Nat → Int} (h : IArg w v n f) : ∃ a cap, v = .slice a n cap := by
  rcases h with ⟨rfl, a, cap, rfl⟩ | ⟨b, off, cap, rfl, _⟩
  · exact ⟨_, _, rfl⟩
  · exact ⟨_, _, rfl⟩

/-- Two and three cells. -/
def st2 (a b : Value) (i : Nat) : Value := if i = 0 then a else b
def st3 (a b c : Value) (i : Nat) : Value := if i = 0 then a else if i = 1 then b else c
theorem row2 (w : World) (a b : Value) (e : TypeId) : RowAt (w.alloc (.cells #[a, b] e)) w.heap.size e 2 2 (st2 a b) :=
  RowAt.new w #[a, b] e (st2 a b) 2 (by simp) (fun i hi => by rcases i with _ | _ | i <;> first | rfl | omega)
theorem row3 (w : World) (a b c : Value) (e : TypeId) : RowAt (w.alloc (.cells #[a, b, c] e)) w.heap.size e 3 3 (st3 a b c) :=
  RowAt.new w #[a, b, c] e (st3 a b c) 3 (by simp) (fun i hi => by rcases i with _ | _ | _ | i <;> first | rfl | omega)

end Go.Proofs.Ytjhcaedfknhilaa

namespace Go.Proofs.Ytjhcaedfknhilaa
set_option linter.unusedVariables false
set_option linter.unusedSimpArgs false
open Go.RowKit
attribute [local go_sem ↓] Go.wp_at_zero Go.wp_at_succ

theorem info_sec : (Try.prog.info? 79).map (fun i => (i.zero.map (·.cells), i.size, i.bytes)) = some (some (Array.replicate 64 (.int .u8 0)), 64, 64) := by kernel_rfl
theorem info_boolD : (Try.prog.info? 4).map (fun i => (i.zero.map (·.cells), i.size, i.bytes)) = some (some (Array.replicate 1 (.bool false)), 1, 1) := by kernel_rfl

/-- make of n elements of k cells each, whose zero value is k times the same cell: for every world. -/
theorem make_k {P : Program} (t e : TypeId) (z : Value) (sz bytes : Nat) (ht : P.underlying t = some (.slice e)) (hinfo : (P.info? e).map (fun i => (i.zero.map (·.cells), i.size, i.bytes)) = some (some (Array.replicate sz z), sz, bytes)) (hs : 0 < sz)
    (hby : bytes ≤ 1000) (k : IntKind) (n : Nat) (hn : n ≤ 1000000) :
    ∃ cur : Array Value, cur.size = n * sz ∧ (∀ i, i < n * sz → cur[i]? = some z) ∧ ∀ w : World, (Instr.makeSlice t (.int k n) (.int k n)).run P w = .ok (.slice (some ⟨w.heap.size, 0, none⟩) n n) (w.alloc (.cells cur e)) := by
  obtain ⟨i, hi⟩ : ∃ i, P.info? e = some i := by
    cases h : P.info? e with
    | none => rw [h] at hinfo; cases hinfo
    | some i => exact ⟨i, rfl⟩
  rw [hi] at hinfo
  simp only [Option.map_some, Option.some.injEq, Prod.mk.injEq] at hinfo
  obtain ⟨hzero, hsize, hbytes⟩ := hinfo
  obtain ⟨zv, hzv, hcells⟩ : ∃ zv, i.zero = some zv ∧ zv.cells = Array.replicate sz z := by
    cases h : i.zero with
    | none => rw [h] at hzero; cases hzero
    | some zv => rw [h] at hzero; exact ⟨zv, rfl, by simpa using hzero⟩
  have hb2 : i.bytes * n ≤ 1000 * 1000000 := Nat.mul_le_mul (by omega) hn
  refine ⟨madeCells (Array.replicate sz z) (n * sz), by simp [size_madeCells], fun j hj => ?_, fun w => ?_⟩
  · simp [madeCells, hj, Nat.mod_lt _ hs]
  · have hr := run_make (P := P) w t e i zv ht hi hzv k k n n (by omega) (by omega) (by omega) (by omega)
    rw [hcells, hsize, Int.toNat_natCast] at hr
    exact hr

theorem row_of (w : World) (cur : Array Value) (e : TypeId) (f : Nat → Value) {n g : Nat} (hs : cur.size = n) (hc : ∀ i, i < n → cur[i]? = some (f i)) (hg : w.heap.size = g) : RowAt (w.alloc (.cells cur e)) g e n n f := by
  subst hs hg
  exact RowAt.new w cur e f _ (Nat.le_refl _) hc
theorem RowAt.drew {w : World} {g : Nat} {e : TypeId} {cap n : Nat} {f : Nat → Value} (h : RowAt w g e cap n f) : RowAt w.drew g e cap n f := h.all (Below.refl _ w).drew

theorem RowAt.neType {w : World} {g g' c c' n n' : Nat} {e e' : TypeId} {f f' : Nat → Value} (h : RowAt w g e c n f) (h' : RowAt w g' e' c' n' f') (he : e ≠ e') : g ≠ g' := by
  rintro rfl
  obtain ⟨cur, hg, _⟩ := h
  obtain ⟨cur', hg', _⟩ := h'
  rw [hg] at hg'
  injection hg' with hx
  injection hx with _ hy
  exact he hy

/-- A medium as a value. -/
def medV (gs gb n : Nat) : Value := .agg #[.slice (some ⟨gs, 0, none⟩) n n, .slice (some ⟨gb, 0, none⟩) n n]

set_option maxHeartbeats 1000000 in
theorem blank_any (n : Nat) (hn : n ≤ 4096) (w : World) :
    Calls Try.prog 34 #[.int .i64 n] w fun e w' => ∃ gs gb, e = .returned (medV gs gb n) ∧ w.heap.size ≤ gs ∧ w.heap.size ≤ gb ∧ gs ≠ gb ∧
      RowAt w' gs 79 (n * 64) (n * 64) (fun _ => .int .u8 0) ∧ RowAt w' gb 4 (n * 1) (n * 1) (fun _ => .bool false) ∧ Below w.heap.size w w' := by
  obtain ⟨c1, hs1, hc1, hm1⟩ := make_k (P := Try.prog) 69 79 _ _ _ Try.underlying69 info_sec (by decide) (by decide) .i64 n (by omega)
  obtain ⟨c2, hs2, hc2, hm2⟩ := make_k (P := Try.prog) 70 4 _ _ _ Try.underlying70 info_boolD (by decide) (by decide) .i64 n (by omega)
  have Hs1 := Lib.hid hs1; clear hs1
  have Hs2 := Lib.hid hs2; clear hs2
  have Hc1 := Lib.hid hc1; clear hc1
  have Hc2 := Lib.hid hc2; clear hc2
  go_enter Try.func34, Try.ntmps34
  go_upto_region 1 with fail
  go_region
  · have hr := (((row2 w (.slice (some ⟨w.heap.size + 1, 0, none⟩) n n) (.slice (some ⟨w.heap.size + 1 + 1, 0, none⟩) n n) 72).alloc (.cells c1 79)).alloc (.cells c2 4)).drew
    have e0 := hr.cell (i := 0) (by omega)
    have e1 := hr.cell (i := 1) (by omega)
    have rs := ((row_of (g := w.heap.size + 1) (w.alloc (.cells #[.slice (some ⟨w.heap.size + 1, 0, none⟩) n n, .slice (some ⟨w.heap.size + 1 + 1, 0, none⟩) n n] 72)) c1 79 (fun _ => .int .u8 0) Hs1.out Hc1.out (by simp)).alloc (.cells c2 4)).drew
    have rb := (row_of (g := w.heap.size + 1 + 1) ((w.alloc (.cells #[.slice (some ⟨w.heap.size + 1, 0, none⟩) n n, .slice (some ⟨w.heap.size + 1 + 1, 0, none⟩) n n] 72)).alloc (.cells c1 79)) c2 4 (fun _ => .bool false) Hs2.out Hc2.out (by simp)).drew
    go_wp2
    refine bodyPost_ret (v := medV (w.heap.size + 1) (w.heap.size + 1 + 1) n) (by simp [results, Try.results34, go_sem, e0, e1, medV, st2]) rfl ⟨_, _, rfl, ?_, ?_, ?_, rs, rb, ?_⟩
    · omega
    · omega
    · omega
    · exact ((((Below.refl _ w).alloc (Nat.le_refl _) _).alloc (by simp) _).alloc (by simp; omega) _).drew
  · have hr := (((row2 w (.slice (some ⟨w.heap.size + 1 + 1, 0, none⟩) n n) (.slice (some ⟨w.heap.size + 1, 0, none⟩) n n) 72).alloc (.cells c2 4)).alloc (.cells c1 79)).drew
    have e0 := hr.cell (i := 0) (by omega)
    have e1 := hr.cell (i := 1) (by omega)
    have rs := (row_of (g := w.heap.size + 1 + 1) ((w.alloc (.cells #[.slice (some ⟨w.heap.size + 1 + 1, 0, none⟩) n n, .slice (some ⟨w.heap.size + 1, 0, none⟩) n n] 72)).alloc (.cells c2 4)) c1 79 (fun _ => .int .u8 0) Hs1.out Hc1.out (by simp)).drew
    have rb := ((row_of (g := w.heap.size + 1) (w.alloc (.cells #[.slice (some ⟨w.heap.size + 1 + 1, 0, none⟩) n n, .slice (some ⟨w.heap.size + 1, 0, none⟩) n n] 72)) c2 4 (fun _ => .bool false) Hs2.out Hc2.out (by simp)).alloc (.cells c1 79)).drew
    go_wp2
    refine bodyPost_ret (v := medV (w.heap.size + 1 + 1) (w.heap.size + 1) n) (by simp [results, Try.results34, go_sem, e0, e1, medV, st2]) rfl ⟨_, _, rfl, ?_, ?_, ?_, rs, rb, ?_⟩
    · omega
    · omega
    · omega
    · exact ((((Below.refl _ w).alloc (Nat.le_refl _) _).alloc (by simp) _).alloc (by simp; omega) _).drew

end Go.Proofs.Ytjhcaedfknhilaa
