/- A range over a function whose rounds are numbered, where the round's variable lies in memory of its own. Disk: flush. -/
import Derived.Test.YtjhcaedfknhilaaRc2
import Derived.Test.YtjhcaedfknhilaaRc5
namespace Go.Proofs.Ytjhcaedfknhilaa
set_option linter.unusedVariables false
set_option linter.unusedSimpArgs false
open Go.RowKit
variable {F : Fence} {n : Nat} {P : Program}

/-- The same, where the round's variable lies in memory of its own: A tells what the assignment leaves. -/
theorem wpIn_rangeA {g : Operand} {ps : Array Tmp} {assign body : Code} {Q : Exit → Act → World → Prop} {a : Act} {w : World}
    (hro : F.round = none) (h1 : F.depth.isSome = true → 1 ≤ n) {gf : Nat} {lb : Array Value} (hg : a.eval g = .func (.func gf) #[] lb) (hFg : F.fn gf) (eg : ∀ args w, (callFunc gf args).run P w = .ok (.enter gf args) w)
    {encs : Nat → Array Value} {K : Nat} {Rd : World → Prop} (hseq : IterN F (n - 1) P gf lb encs K Rd) (hps : ∀ k, (encs k).size = ps.size)
    (I : Nat → World → Prop) (Ix : Code → Nat → World → Prop) (hI : OwnFrom w.heap.size I) (hIx : ∀ c, OwnFrom w.heap.size (Ix c)) (hRd : ∀ k W, I k W → Rd W) (h0 : I 0 w) (A : Act → Nat → World → Prop) (hA : ∀ a1, OwnFrom w.heap.size (A a1))
    (hassign : ∀ (l : Nat) (k : Nat) (W : World) (Kc : Act → World → Prop), I k W → k < K → (∀ a1 W1, A a1 k W1 → KeepsFrom w.heap.size W W1 → Kc a1 W1) →
      assign.wpIn (F.inRound l) (n - 1 - 1) P (Exit.then Kc (fun _ _ _ => False)) { tmps := (ps.zip (encs k)).foldl (fun t (p, v) => t.setIfInBounds p v) a.tmps, defers := [] } W)
    (hbody : ∀ (l : Nat) (a1 : Act) (k : Nat) (W : World), A a1 k W → k < K → body.wpIn (F.inRound l) (n - 1 - 1) P (postN w.heap.size I Ix k W) a1 W)
    (hdone : ∀ (D : Nat) (W : World), w.heap.size ≤ D → I K W → W.heap[D]? = some (.deferred (some [])) → Q .normal { a with defers := { target := .collected D, args := #[] } :: a.defers } W)
    (hstop : ∀ (D : Nat) (c : Code) (k : Nat) (W : World), w.heap.size ≤ D → k < K → Ix c k W → W.heap[D]? = some (.deferred (some [])) → c.wpIn F n P Q { a with defers := { target := .collected D, args := #[] } :: a.defers } W) :
    (Code.rangeFunc g ps assign body).wpIn F n P Q a w := by
  refine wpIn_rangeFunc ?_
  intro fn hfn
  rw [hro]
  obtain ⟨rec, hrec⟩ : ∃ rec : LoopState → Option Code → Loop, rec = fun st pe => { state := st, pending := pe, fn, tmps := a.tmps, params := ps, assign, body, defers := w.heap.size } := ⟨_, rfl⟩
  obtain ⟨W1, hW1⟩ : ∃ W1, (w.alloc (.deferred (some []))).alloc (.loop (rec .ready none)) = W1 := ⟨_, rfl⟩
  have hL1 : W1.heap[w.heap.size + 1]? = some (.loop (rec .ready none)) := by
    rw [← hW1]; have := World.alloc_heap_new (w.alloc (.deferred (some []))) (.loop (rec .ready none)); rwa [World.size_alloc] at this
  have hK1 : W1.heap[w.heap.size]? = some (.deferred (some [])) := by
    rw [← hW1]; exact (Below.heap_alloc _ _ _ (by simp)).trans (World.alloc_heap_new w _)
  have hI1 : I 0 W1 := by rw [← hW1]; exact hI.alloc _ (hI.alloc _ h0)
  refine ⟨w.heap.size + 1, [{ target := .collected w.heap.size, args := #[] }], W1, { target := .fn (.func gf) lb, args := #[.func (.yield (w.heap.size + 1)) #[] #[]] }, W1, gf,
    #[.func (.yield (w.heap.size + 1)) #[] #[]] ++ lb, W1, ?_, ?_, ?_, ?_, h1, ?_⟩
  · rw [← hW1, hrec]; exact run_enterLoop_outer _ _ _ _ _
  · simp only [resolve, hg]
    simp [go_sem]
  · intro f' hf'; simp [Target.leads] at hf'; subst hf'; exact hFg
  · simp [invoke, go_sem, eg]
  · refine (hseq (w.heap.size + 1)
      (fun k W => I k W ∧ W.heap[w.heap.size + 1]? = some (.loop (rec .ready none)) ∧ W.heap[w.heap.size]? = some (.deferred (some [])))
      (fun k W => ∃ c, Ix c k W ∧ W.heap[w.heap.size + 1]? = some (.loop (rec .done (some c))) ∧ W.heap[w.heap.size]? = some (.deferred (some [])))
      W1 (fun k W h => hRd k W h.1)
      (fun s A B hs hg' => ⟨hI s A B none hs.1 hg' (fun r e => by cases e), (hg'.block _ (Array.getElem?_eq_some_iff.1 hs.2.1).1 (by simp)).trans hs.2.1, (hg'.block _ (Array.getElem?_eq_some_iff.1 hs.2.2).1 (by simp)).trans hs.2.2⟩)
      (fun s A B hs hg' => by
        obtain ⟨c, hc, hl, hk⟩ := hs
        exact ⟨c, hIx c s A B none hc hg' (fun r e => by cases e), (hg'.block _ (Array.getElem?_eq_some_iff.1 hl).1 (by simp)).trans hl, (hg'.block _ (Array.getElem?_eq_some_iff.1 hk).1 (by simp)).trans hk⟩)
      ?_ ⟨hI1, hL1, hK1⟩).mono ?_
    · rintro k W ⟨hi, hl, hk⟩ hlen
      have hlt : w.heap.size + 1 < W.heap.size := (Array.getElem?_eq_some_iff.1 hl).1
      have hy := run_yield (P := P) (args := encs k) hl (by rw [hrec]; exact hps k)
      rw [hrec] at hy
      refine ⟨fn, _, assign, body, hy, roundIn_of_wpIn hfn (hassign _ k W _ hi hlen ?_)⟩
      intro a1 W1 hA1 hkeep
      have hl1 : W1.heap[w.heap.size + 1]? = some (.loop (rec .ready none)) := hkeep.same _ _ (by omega) hl rfl
      have hk1 : W1.heap[w.heap.size]? = some (.deferred (some [])) := hkeep.same _ _ (Nat.le_refl _) hk rfl
      have hlt1 : w.heap.size + 1 < W1.heap.size := (Array.getElem?_eq_some_iff.1 hl1).1
      refine ⟨_, run_beginRound hl1 (by rw [hrec]), ?_⟩
      have hl2 : (W1.putObj (w.heap.size + 1) (.loop { rec .ready none with state := .busy })).heap[w.heap.size + 1]? = some (.loop { rec .ready none with state := .busy }) := World.putObj_heap_same hlt1
      have hk2 : (W1.putObj (w.heap.size + 1) (.loop { rec .ready none with state := .busy })).heap[w.heap.size]? = some (.deferred (some [])) := (World.putObj_heap_other (by omega)).trans hk1
      refine wpIn_mono (hbody _ a1 k _ ((hA a1).putObj _ hA1 (by omega) hl1 rfl) hlen) ?_
      have fin : ∀ (jump : Option Code) (W3 : World), KeepsFrom w.heap.size (W1.putObj (w.heap.size + 1) (.loop { rec .ready none with state := .busy })) W3 →
          (Instr.endRound (w.heap.size + 1) jump).run P W3 = .ok (.bool jump.isNone) (W3.putObj (w.heap.size + 1) (.loop (rec (if jump.isNone then .ready else .done) jump))) ∧
          W3.heap[w.heap.size + 1]? = some (.loop { rec .ready none with state := .busy }) ∧
          (W3.putObj (w.heap.size + 1) (.loop (rec (if jump.isNone then .ready else .done) jump))).heap[w.heap.size + 1]? = some (.loop (rec (if jump.isNone then .ready else .done) jump)) ∧
          (W3.putObj (w.heap.size + 1) (.loop (rec (if jump.isNone then .ready else .done) jump))).heap[w.heap.size]? = some (.deferred (some [])) := fun jump W3 hk3 => by
        have hl3 := hk3.same _ _ (by omega) hl2 rfl
        have := run_endRound (P := P) jump hl3
        rw [hrec] at this ⊢
        exact ⟨this, by rw [hrec] at hl3; exact hl3, World.putObj_heap_same (Array.getElem?_eq_some_iff.1 hl3).1, (World.putObj_heap_other (by omega)).trans (hk3.same _ _ (Nat.le_refl _) hk2 rfl)⟩
      rintro e a3 W3 hp
      cases e with
      | normal =>
        obtain ⟨hk3, hi3⟩ := hp
        obtain ⟨hr, hl3, hl4, hk4⟩ := fin none W3 hk3
        exact ⟨_, _, hr, .inl ⟨rfl, hI.putObj _ hi3 (by omega) hl3 rfl, hl4, hk4⟩⟩
      | ret =>
        obtain ⟨hk3, hi3⟩ := hp
        obtain ⟨hr, hl3, hl4, hk4⟩ := fin (some .ret) W3 hk3
        exact ⟨_, _, hr, .inr ⟨rfl, .ret, (hIx _).putObj _ hi3 (by omega) hl3 rfl, hl4, hk4⟩⟩
      | exit id =>
        obtain ⟨hk3, hi3⟩ := hp
        obtain ⟨hr, hl3, hl4, hk4⟩ := fin (some (.exit id)) W3 hk3
        exact ⟨_, _, hr, .inr ⟨rfl, .exit id, (hIx _).putObj _ hi3 (by omega) hl3 rfl, hl4, hk4⟩⟩
      | goto t =>
        obtain ⟨hk3, hi3⟩ := hp
        obtain ⟨hr, hl3, hl4, hk4⟩ := fin (some (.goto t)) W3 hk3
        exact ⟨_, _, hr, .inr ⟨rfl, .goto t, (hIx _).putObj _ hi3 (by omega) hl3 rfl, hl4, hk4⟩⟩
      | panic ch => exact hp.elim
      | outgrown => exact hp.elim
    · rintro e W2 ⟨⟨v, rfl⟩, (⟨hi, hl, hk⟩ | ⟨k, hkK, c, hi, hl, hk⟩)⟩
      · exact ⟨none, _, by have := run_endLoop (P := P) hl (by rw [hrec]; simp); rw [hrec] at this; exact this, hdone _ _ (Nat.le_refl _) (hI.putObj _ hi (by omega) hl rfl) ((World.putObj_heap_other (by omega)).trans hk)⟩
      · exact ⟨some c, _, by have := run_endLoop (P := P) hl (by rw [hrec]; simp); rw [hrec] at this; exact this, hstop _ c k _ (Nat.le_refl _) hkK ((hIx c).putObj _ hi (by omega) hl rfl) ((World.putObj_heap_other (by omega)).trans hk)⟩

/-- The same, the variable's address in slot vs. -/
theorem wpIn_rangeB {g : Operand} {p0 : Tmp} {assign body : Code} {Q : Exit → Act → World → Prop} {a : Act} {w : World}
    (hro : F.round = none) (h1 : F.depth.isSome = true → 1 ≤ n) {gf : Nat} {lb : Array Value} (hg : a.eval g = .func (.func gf) #[] lb) (hFg : F.fn gf) (eg : ∀ args w, (callFunc gf args).run P w = .ok (.enter gf args) w)
    {en : Nat → Value} {K : Nat} {Rd : World → Prop} (hseq : IterN F (n - 1) P gf lb (fun k => #[en k]) K Rd) 
    (I : Nat → World → Prop) (Ix : Code → Nat → World → Prop) (hI : OwnFrom w.heap.size I) (hIx : ∀ c, OwnFrom w.heap.size (Ix c)) (hRd : ∀ k W, I k W → Rd W) (h0 : I 0 w) (vs : Nat) (A : Nat → Nat → World → Prop) (hA : ∀ q, OwnFrom w.heap.size (A q))
    (hassign : ∀ (l : Nat) (k : Nat) (W : World) (Kc : Act → World → Prop), I k W → k < K → (∀ q W1, A q k W1 → KeepsFrom w.heap.size W W1 → Kc { tmps := (a.tmps.setIfInBounds p0 (en k)).setIfInBounds vs (.pointer (some ⟨q, 0, none⟩)), defers := [] } W1) →
      assign.wpIn (F.inRound l) (n - 1 - 1) P (Exit.then Kc (fun _ _ _ => False)) { tmps := a.tmps.setIfInBounds p0 (en k), defers := [] } W)
    (hbody : ∀ (l : Nat) (q : Nat) (k : Nat) (W : World), A q k W → k < K → body.wpIn (F.inRound l) (n - 1 - 1) P (postN w.heap.size I Ix k W) { tmps := (a.tmps.setIfInBounds p0 (en k)).setIfInBounds vs (.pointer (some ⟨q, 0, none⟩)), defers := [] } W)
    (hdone : ∀ (D : Nat) (W : World), w.heap.size ≤ D → I K W → W.heap[D]? = some (.deferred (some [])) → Q .normal { a with defers := { target := .collected D, args := #[] } :: a.defers } W)
    (hstop : ∀ (D : Nat) (c : Code) (k : Nat) (W : World), w.heap.size ≤ D → k < K → Ix c k W → W.heap[D]? = some (.deferred (some [])) → c.wpIn F n P Q { a with defers := { target := .collected D, args := #[] } :: a.defers } W) :
    (Code.rangeFunc g #[p0] assign body).wpIn F n P Q a w := by
  have hz : ∀ k, ((#[p0] : Array Tmp).zip #[en k]).foldl (fun t (p, v) => t.setIfInBounds p v) a.tmps = a.tmps.setIfInBounds p0 (en k) := fun k => by simp
  refine wpIn_rangeA hro h1 hg hFg eg hseq (fun k => rfl) I Ix hI hIx hRd h0 (fun a1 k W => ∃ q, a1 = { tmps := (a.tmps.setIfInBounds p0 (en k)).setIfInBounds vs (.pointer (some ⟨q, 0, none⟩)), defers := [] } ∧ A q k W) ?_ ?_ ?_ hdone hstop
  · intro a1 k W W' row h hg' hr
    obtain ⟨q, h2, h3⟩ := h
    exact ⟨q, h2, hA q k W W' row h3 hg' hr⟩
  · intro l k W Kc hi hk hK
    rw [hz]
    exact hassign l k W Kc hi hk (fun q W1 h2 h3 => hK _ W1 ⟨q, rfl, h2⟩ h3)
  · intro l a1 k W h hk
    obtain ⟨q, rfl, h3⟩ := h
    exact hbody l q k W h3 hk

end Go.Proofs.Ytjhcaedfknhilaa

namespace Go.Proofs.Ytjhcaedfknhilaa
set_option linter.unusedVariables false
set_option linter.unusedSimpArgs false
open Go.RowKit
attribute [local go_sem ↓] Go.wp_at_zero Go.wp_at_succ
attribute [local go_sem] Oper.semAt_some
attribute [-go_sem] loadCellsFrom storeCells
attribute [local go_sem] storeCells_one

theorem RowAt.only3 {W W' : World} {a b c g : Nat} {e : TypeId} {cap n : Nat} {f : Nat → Value} (h : RowAt W g e cap n f) (ho : Only3 a b c W W') (h1 : g ≠ a) (h2 : g ≠ b) (h3 : g ≠ c) : RowAt W' g e cap n f := by
  have hlt := h.lt
  obtain ⟨cur, hc, rest⟩ := h
  exact ⟨cur, (ho.2 g hlt h1 h2 h3).trans hc, rest⟩
theorem RowAt.only2 {W W' : World} {a b g : Nat} {e : TypeId} {cap n : Nat} {f : Nat → Value} (h : RowAt W g e cap n f) (ho : Only2 a b W W') (h1 : g ≠ a) (h2 : g ≠ b) : RowAt W' g e cap n f := by
  have hlt := h.lt
  obtain ⟨cur, hc, rest⟩ := h
  exact ⟨cur, (ho.2 g hlt h1 h2).trans hc, rest⟩
theorem Only2.keptFrom {a b : Nat} {w W W' : World} {row : Option Nat} (h : Only2 a b w W) (hg : W.grownBy W' row) (hr : ∀ r, row = some r → w.heap.size ≤ r) : Only2 a b w W' :=
  ⟨Nat.le_trans h.1 hg.size, fun k hk h1 h2 => (hg.block k (Nat.lt_of_lt_of_le hk h.1) (fun e => by have := hr k e.symm; omega)).trans (h.2 k hk h1 h2)⟩
theorem Puts.kept {W W' : World} {row : Option Nat} {B : Nat} {v : Value} {q : Nat} {a : Nat → Nat} {f : Nat → Nat → Int} (h : Puts W B v q a f) (hg : W.grownBy W' row) (hr : ∀ r, row = some r → ∃ o : Obj, W.heap[r]? = some o ∧ o.isCells = false) : Puts W' B v q a f := by
  rcases h with h | ⟨g, cap, h1, h2, h3, h4⟩
  · exact .inl h
  · exact .inr ⟨g, cap, h1, h2, h3.kept hg hr, h4⟩
theorem DiskIn.kept {B g gs gb : Nat} {qv : Value} {D : Dsk} {W W' : World} {row : Option Nat} (h : DiskIn B g gs gb qv D W) (hg : W.grownBy W' row) (hr : ∀ r, row = some r → ∃ o : Obj, W.heap[r]? = some o ∧ o.isCells = false) : DiskIn B g gs gb qv D W' :=
  ⟨h.row.kept hg hr, h.sec.kept hg hr, h.bad.kept hg hr, h.que.kept hg hr, h.base, h.ok⟩

def Dsk.performs (D : Dsk) (A : Nat → Nat) (F : Nat → Nat → Int) : Nat → Dsk
  | 0 => D
  | k + 1 => (D.performs A F k).perform (A k) (F k)
theorem Dsk.performs_same (D : Dsk) (A : Nat → Nat) (F : Nat → Nat → Int) : ∀ k, (D.performs A F k).n = D.n ∧ (D.performs A F k).q = D.q ∧ (D.performs A F k).qa = D.qa ∧ (D.performs A F k).qb = D.qb ∧ (D.performs A F k).dead = D.dead ∧ (D.performs A F k).armed = D.armed ∧ (D.performs A F k).left = D.left
  | 0 => ⟨rfl, rfl, rfl, rfl, rfl, rfl, rfl⟩
  | k + 1 => D.performs_same A F k
def Dsk.flushed (D : Dsk) : Dsk := { D with q := 0 }

/-- What a round of flush finds. -/
structure FlushI (B g gs gb : Nat) (qv : Value) (D : Dsk) (A : Nat → Nat) (F : Nat → Nat → Int) (w : World) (k : Nat) (W : World) : Prop where
  disk : DiskIn B g gs gb qv (D.performs A F k) W
  only : Only2 gs gb w W
  below : Below B w W
  box : RowAt W w.heap.size 22 1 1 (fun _ => .pointer (some ⟨g, 0, none⟩))
theorem flushI_own {B g gs gb : Nat} {qv : Value} {D : Dsk} {A : Nat → Nat} {F : Nat → Nat → Int} {w : World} (hB : B ≤ w.heap.size) : OwnFrom (w.heap.size + 1) (FlushI B g gs gb qv D A F w) := fun k W W' row h hg hr =>
  have hr2 : ∀ r, row = some r → ∃ o : Obj, W.heap[r]? = some o ∧ o.isCells = false := fun r e => (hr r e).2
  ⟨h.disk.kept hg hr2, h.only.keptFrom hg (fun r e => by have := (hr r e).1; omega), below_keptFrom h.below (B := w.heap.size + 1) (by omega) hB hg hr, h.box.kept hg hr2⟩
theorem FlushI.lt {B g gs gb : Nat} {qv : Value} {D : Dsk} {A : Nat → Nat} {F : Nat → Nat → Int} {w : World} {k : Nat} {W : World} (h : FlushI B g gs gb qv D A F w k W) : w.heap.size + 1 ≤ W.heap.size := h.box.lt

/-- The variable of a round. -/
def FlushA (B g gs gb : Nat) (qv : Value) (D : Dsk) (A : Nat → Nat) (F : Nat → Nat → Int) (w : World) (q k : Nat) (W : World) : Prop :=
  FlushI B g gs gb qv D A F w k W ∧ RowAt W q 81 65 65 (putV (fun _ => A k) (fun _ => F k))
theorem flushA_own {B g gs gb : Nat} {qv : Value} {D : Dsk} {A : Nat → Nat} {F : Nat → Nat → Int} {w : World} (hB : B ≤ w.heap.size) (q : Nat) : OwnFrom (w.heap.size + 1) (FlushA B g gs gb qv D A F w q) := fun k W W' row h hg hr =>
  ⟨flushI_own hB k W W' row h.1 hg hr, h.2.kept hg (fun r e => (hr r e).2)⟩

theorem flush_step {B g gs gb : Nat} {qv : Value} {D : Dsk} {A : Nat → Nat} {F : Nat → Nat → Int} {w W W' : World} {k : Nat} (hi : FlushI B g gs gb qv D A F w k W) (hd : DiskIn B g gs gb qv ((D.performs A F k).perform (A k) (F k)) W') (hb : Below B W W') (ho : Only2 gs gb W W') :
    KeepsFrom (w.heap.size + 1) W W' ∧ FlushI B g gs gb qv D A F w (k + 1) W' := by
  have hs := hi.disk.sec
  have hm := hi.disk.bad
  refine ⟨⟨ho.1, fun r o _ hr hc => ?_⟩, ⟨hd, hi.only.trans ho, hi.below.trans hb, hi.box.only2 ho (hi.box.neType hs (by decide)) (hi.box.neType hm (by decide))⟩⟩
  refine (ho.2 r (Array.getElem?_eq_some_iff.1 hr).1 ?_ ?_).trans hr
  · rintro rfl
    obtain ⟨cur, h1, _⟩ := hs
    rw [h1] at hr; cases hr; cases hc
  · rintro rfl
    obtain ⟨cur, h1, _⟩ := hm
    rw [h1] at hr; cases hr; cases hc

theorem flushed_in {B g gs gb : Nat} {qv : Value} {D : Dsk} {W : World} (h : DiskIn B g gs gb qv D W) : DiskIn B g gs gb (.slice none 0 0) D.flushed (W.setCell ⟨g, 2, none⟩ (.slice none 0 0)) := by
  obtain ⟨n1, n2, n3⟩ := h.ne
  have ho := h.ok
  refine ⟨(h.row.set 2 (.slice none 0 0)).congr fun j hj => ?_, h.sec.setOther _ _ n1, h.bad.setOther _ _ n2, .inl ⟨rfl, rfl⟩, h.base,
    ⟨ho.size, ho.byte, Nat.zero_le _, fun i hi => absurd hi (Nat.not_lt_zero i), ho.pbyte, ho.left⟩⟩
  obtain rfl | rfl | rfl | rfl | rfl | rfl : j = 0 ∨ j = 1 ∨ j = 2 ∨ j = 3 ∨ j = 4 ∨ j = 5 := by omega
  all_goals rfl

set_option maxRecDepth 8000 in
set_option maxHeartbeats 4000000 in
theorem flush_any {B g gs gb : Nat} {qv : Value} {D : Dsk} (w : World) (h : DiskIn B g gs gb qv D w) (gf : Nat) (lb : Array Value) (A : Nat → Nat) (F : Nat → Nat → Int) (K : Nat) (Rd : World → Prop)
    (hen : ∀ args w, (callFunc gf args).run Try.prog w = .ok (.enter gf args) w) (hit : ∀ N, IterN Fence.wide N Try.prog gf lb (fun k => #[putA (A k) (F k)]) K Rd) (hA : ∀ k, k < K → A k < D.n) (hF : ∀ i j, 0 ≤ F i j ∧ F i j < 256)
    (hRd : ∀ W D', DiskIn B g gs gb qv D' W → D'.q = D.q → D'.qa = D.qa → D'.qb = D.qb → Only2 gs gb w W → Rd W) :
    Calls Try.prog 43 #[.pointer (some ⟨g, 0, none⟩), .func (.func gf) #[] lb] w fun e w' => e = .returned (.tuple #[]) ∧ DiskIn B g gs gb (.slice none 0 0) (D.performs A F K).flushed w' ∧ Below B w w' ∧ Only3 g gs gb w w' := by
  have hlt := h.lt
  have hI0 : FlushI B g gs gb qv D A F w 0 (w.alloc (.cells #[.pointer (some ⟨g, 0, none⟩)] 22)) :=
    ⟨h.all ((Below.refl _ w).alloc (Nat.le_refl _) _), only2_below ((Below.refl _ w).alloc (Nat.le_refl _) _), (Below.refl B w).alloc hlt _, row_new1 w w.heap.size _ _ rfl⟩
  have hs1 : (w.alloc (.cells #[.pointer (some ⟨g, 0, none⟩)] 22)).heap.size = w.heap.size + 1 := by simp
  refine (callsIn_wide (n := 3)).1 ?_
  refine callsIn_of_wp_marks Try.func43 rfl trivial ?_ rfl
  simp only [Try.ntmps43, List.size_toArray, List.length_cons, List.length_nil, Nat.reduceAdd, Nat.reduceSub, Array.replicate_succ, Array.replicate_zero, List.push_toArray, List.append_toArray, List.nil_append, List.cons_append]
  gi_wp2_with fail
  generalize w.alloc (.cells #[.pointer (some ⟨g, 0, none⟩)] 22) = W0 at *
  refine wpIn_rangeB rfl (fun h => by simp [Fence.wide] at h) (gf := gf) (lb := lb) rfl trivial hen (en := fun k => putA (A k) (F k)) (hit _)
    (FlushI B g gs gb qv D A F w) (fun _ _ _ => False) (by rw [hs1]; exact flushI_own hlt) (fun _ _ _ _ _ h _ _ => h) (fun k W h => by
      obtain ⟨-, p1, p2, p3, -⟩ := D.performs_same A F k
      exact hRd W _ h.disk p1 p2 p3 h.only) hI0
    4 (FlushA B g gs gb qv D A F w) (fun q => by rw [hs1]; exact flushA_own hlt q) ?assign ?body ?done ?stop
  case assign =>
    intro l k W Kc hi hk hK
    have hv := box_put W (A k) (F k)
    have hi' := flushI_own hlt k W _ none hi (World.grownBy_alloc W (.cells (Value.int .i64 (A k) :: secL (F k)).toArray 81) none) (fun r e => by cases e)
    have hk2 := hK W.heap.size _ ⟨hi', hv⟩ ((KeepsOthers.alloc _ _).from _)
    have hs := fun w => storeC_put w _ zero_put (A k) (F k)
    have hlen := secL_len (F k)
    clear hi' hv hi hK hRd hit
    unfold putA at hk2 ⊢
    generalize secL (F k) = cs at *
    simp only [List.setIfInBounds_toArray, List.set_cons_zero, List.set_cons_succ] at hk2 ⊢
    have HK := Lib.hid hk2; clear hk2
    gi_wp2
    exact HK.out
  case body =>
    intro l q k W hA2 hk
    obtain ⟨hi, hv⟩ := hA2
    obtain ⟨pn, -⟩ := D.performs_same A F k
    have hb0 := (RowAt.drew hi.box).cell (i := 0) (by omega)
    have hl := loadC_put (n := 1) (RowAt.drew hv) (i := 0) (by omega)
    rw [Nat.zero_mul] at hl
    have HP := Lib.hid (perform_any (A k) (F k) W.drew (hi.disk.all (Below.refl _ W).drew) (by rw [pn]; exact hA k hk) (hF k))
    have Hi := Lib.hid hi
    have hlen := secL_len (F k)
    have hdr : Below B W W.drew := (Below.refl _ W).drew
    rw [hs1]
    clear hi hv hRd hit hI0 hA hF hen h
    unfold putA at HP ⊢
    generalize secL (F k) = cs at *
    have Hdr := Lib.hid hdr; clear hdr
    have hmo : Try.prog.follows .mixedOrders = true := by kernel_rfl
    simp only [List.setIfInBounds_toArray, List.set_cons_zero, List.set_cons_succ]
    gi_wp2_with fail
    gi_region_with_o (refine ⟨trivial, (CallsIn.inRound l (callsW _ HP.out)).mono ?_⟩; rintro e w2 ⟨rfl, hD, hB, hO⟩)
    all_goals
      gi_wp2
      exact flush_step Hi.out hD (Hdr.out.trans hB) ⟨hO.1, hO.2⟩
  case done =>
    intro E W hD hi hK
    have hb0 := hi.box.cell (i := 0) (by omega)
    obtain ⟨c0, c1, c2, c3, c4, c5⟩ := hi.disk.cells
    have z2 := hi.disk.row.frozen 2
    have Hi := Lib.hid hi
    clear hi hit hRd hI0 hA hF hen
    have hne : E ≠ g := by
      rintro rfl
      obtain ⟨cur, h1, _⟩ := Hi.out.disk.row
      rw [h1] at hK; cases hK
    have hK' : (W.setCell ⟨g, 2, none⟩ (.slice none 0 0)).heap[E]? = some (.deferred (some [])) := (Below.heap_setCell W ⟨g, 2, none⟩ (.slice none 0 0) E hne).trans hK
    have hE : w.heap.size + 1 ≤ E := by omega
    have HK := Lib.hid hK'; clear hK' hK
    gi_wp2
    refine ⟨by simp, .inl ⟨_, _, rfl, run_takeDeferred HK.out, ?_⟩⟩
    have hgr := grownBy_putObj' (W.setCell ⟨g, 2, none⟩ (.slice none 0 0)) E (.deferred none)
    have hnc : ∀ r, some E = some r → ∃ o : Obj, (W.setCell ⟨g, 2, none⟩ (.slice none 0 0)).heap[r]? = some o ∧ o.isCells = false := fun r e => by cases e; exact ⟨_, HK.out, rfl⟩
    refine ⟨.tuple #[], by simp [results, Try.results43, go_sem], rfl, DiskIn.kept (flushed_in Hi.out.disk) hgr hnc, ?_, ?_⟩
    · exact below_keptFrom (row := some E) (n₀ := B) (B := w.heap.size + 1) (Hi.out.below.setCell (p := ⟨g, 2, none⟩) Hi.out.disk.base.1 _) (by omega) hlt hgr (fun r e => by cases e; exact ⟨hE, hnc E rfl⟩)
    · refine ⟨?_, fun k hk h1 h2 h3 => ?_⟩
      · have := hgr.size
        have := Hi.out.only.1
        simp at *
        omega
      · refine (hgr.block k (by have := Hi.out.only.1; simp; omega) (fun e => by cases e; omega)).trans ?_
        exact (Below.heap_setCell W ⟨g, 2, none⟩ _ k h1).trans (Hi.out.only.2 k hk h2 h3)
  case stop =>
    intro D c k W _ _ h _
    exact h.elim

end Go.Proofs.Ytjhcaedfknhilaa
