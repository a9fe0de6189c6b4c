/- Devices as plain data: in memory, and plainly. -/
import Derived.Test.YtjhcaedfknhilaaDiskX
namespace Go.Proofs.Ytjhcaedfknhilaa
open Go.RowKit

/-- What a world keeps for such lists: all ahead of B, and all that is no disk's. -/
def Keeps (B : Nat) (w w' : World) : Prop := w.heap.size ≤ w'.heap.size ∧ ∀ (b : Nat) (o : Obj), w.heap[b]? = some o → (b < B ∨ notDisk o = true) → w'.heap[b]? = some o
theorem Keeps.refl (B : Nat) (w : World) : Keeps B w w := ⟨Nat.le_refl _, fun _ _ h _ => h⟩
theorem Keeps.trans {B : Nat} {w w1 w2 : World} (h : Keeps B w w1) (h' : Keeps B w1 w2) : Keeps B w w2 := ⟨Nat.le_trans h.1 h'.1, fun b o ho hn => h'.2 b o (h.2 b o ho hn) hn⟩
theorem keeps_below {B : Nat} {w w' : World} (h : Below w.heap.size w w') : Keeps B w w' := ⟨h.size, fun b o ho _ => (h.block b (Array.getElem?_eq_some_iff.1 ho).1).trans ho⟩
theorem keeps_calm {B : Nat} {w w' : World} (h : Below B w w') (hc : Calm w w') : Keeps B w w' := ⟨hc.1, fun b o ho hn => by
  rcases hn with hn | hn
  · exact (h.block b hn).trans ho
  · exact hc.2 b o ho hn⟩
/-- The types that such lists lie in. -/
def dataT (e : TypeId) : Bool := e == 5 || e == 3 || e == 62
def isData : Obj → Bool
  | .cells _ e _ => dataT e
  | _ => false
theorem data_notDisk {o : Obj} (h : isData o = true) : notDisk o = true := by
  cases o with
  | cells c e f =>
    have h' : dataT e = true := h
    show (!diskT e) = true
    unfold dataT at h'
    unfold diskT
    simp only [Bool.or_eq_true, beq_iff_eq] at h'
    rcases h' with (rfl | rfl) | rfl <;> rfl
  | _ => cases h
/-- What keeps all ahead of B, and all such lists. -/
def KeepsD (B : Nat) (w w' : World) : Prop := w.heap.size ≤ w'.heap.size ∧ ∀ (b : Nat) (o : Obj), w.heap[b]? = some o → (b < B ∨ isData o = true) → w'.heap[b]? = some o
theorem Keeps.data {B : Nat} {w w' : World} (h : Keeps B w w') : KeepsD B w w' := ⟨h.1, fun b o ho hn => h.2 b o ho (hn.imp id data_notDisk)⟩
theorem KeepsD.trans {B : Nat} {w w1 w2 : World} (h : KeepsD B w w1) (h' : KeepsD B w1 w2) : KeepsD B w w2 := ⟨Nat.le_trans h.1 h'.1, fun b o ho hn => h'.2 b o (h.2 b o ho hn) hn⟩
/-- A store into a block from B on that is no such list. -/
theorem keepsD_set {B g i : Nat} {W : World} {e : TypeId} {c n : Nat} {F : Nat → Value} (hr : RowAt W g e c n F) (he : dataT e = false) (hB : B ≤ g) (v : Value) : KeepsD B W (W.setCell ⟨g, i, none⟩ v) := by
  refine ⟨by simp, fun b o ho hn => (Below.heap_setCell W ⟨g, i, none⟩ v b ?_).trans ho⟩
  rintro rfl
  obtain ⟨cur, hg, _⟩ := hr
  rw [hg] at ho
  cases ho
  rcases hn with hn | hn
  · omega
  · have h9 : dataT e = true := hn
    rw [he] at h9; cases h9
theorem Blk.keep {B : Nat} {w w' : World} {e : TypeId} {b : Nat} (h : Blk B w e b) (hk : KeepsD B w w') (he : dataT e = true) : Blk B w' e b := by
  rcases h with h | ⟨cur, fr, h⟩
  · exact .inl h
  · exact .inr ⟨cur, fr, hk.2 b _ h (.inr he)⟩
theorem Cells.keep {B : Nat} {w w' : World} {b off n : Nat} {f : Nat → Value} {e : TypeId} (h : Cells w b off n f) (hb : Blk B w e b) (hk : KeepsD B w w') (he : dataT e = true) : Cells w' b off n f := by
  intro i hi
  have h1 := h i hi
  have hl := World.block_lt_of_cell? w ⟨b, off + i, none⟩ h1
  have ho : w.heap[b]? = some w.heap[b] := Array.getElem?_eq_getElem hl
  have : w'.heap[b]? = some w.heap[b] := hk.2 b _ ho (by
    rcases hb with hb | ⟨cur, fr, hb⟩
    · exact .inl hb
    · refine .inr ?_
      rw [ho] at hb
      injection hb with hb
      rw [hb]
      exact he)
  exact (World.cell?_of_block (a := ⟨b, off + i, none⟩) (this.trans ho.symm)).trans h1
theorem NArg.keep {B : Nat} {w w' : World} {v : Value} {n : Nat} {f : Nat → Int} (h : NArg B w v n f) (hk : KeepsD B w w') : NArg B w' v n f := by
  rcases h with ⟨hf, (h | ⟨b, off, cap, h1, h2, h3, h4, h5, h6⟩)⟩
  · exact ⟨hf, .inl h⟩
  · exact ⟨hf, .inr ⟨b, off, cap, h1, h2, h3, h4, h5.keep h6 hk rfl, h6.keep hk rfl⟩⟩
theorem BArg.keep {B : Nat} {w w' : World} {v : Value} {n : Nat} {f : Nat → Int} (h : BArg B w v n f) (hk : KeepsD B w w') : BArg B w' v n f := by
  rcases h with ⟨hf, (h | ⟨b, off, cap, h1, h2, h3, h4, h5, h6⟩)⟩
  · exact ⟨hf, .inl h⟩
  · exact ⟨hf, .inr ⟨b, off, cap, h1, h2, h3, h4, h5.keep (e := 5) h6 hk rfl, Blk.keep (e := 5) h6 hk rfl⟩⟩

/-- The cells of a list of Puts. -/
def putC (a : Nat → Int) (bv : Nat → Value) (k : Nat) : Value := if k % 2 = 0 then .int .i64 (a (k / 2)) else bv (k / 2)
/-- A list of Puts: their sectors, how many bytes each has, and the bytes. -/
def QArg (B : Nat) (w : World) (v : Value) (q : Nat) (a : Nat → Int) (l : Nat → Nat) (f : Nat → Nat → Int) : Prop :=
  (∀ i, -9223372036854775808 ≤ a i ∧ a i ≤ 9223372036854775807) ∧ ((q = 0 ∧ ∃ x cap, v = .slice x 0 cap) ∨ ∃ b off cap bv, v = .slice (some ⟨b, off, none⟩) q cap ∧ 0 < q ∧ q ≤ cap ∧ cap ≤ maxLen ∧ Cells w b off (q * 2) (putC a bv) ∧ Blk B w 62 b ∧ ∀ i, i < q → BArg B w (bv i) (l i) (f i))
theorem QArg.slice {B : Nat} {w : World} {v : Value} {q : Nat} {a : Nat → Int} {l : Nat → Nat} {f : Nat → Nat → Int} (h : QArg B w v q a l f) : ∃ x cap, v = .slice x q cap ∧ q ≤ maxLen := by
  rcases h with ⟨_, (⟨rfl, a, cap, rfl⟩ | ⟨b, off, cap, bv, rfl, _, h1, h2, _⟩)⟩
  · exact ⟨_, _, rfl, Nat.zero_le _⟩
  · exact ⟨_, _, rfl, Nat.le_trans h1 h2⟩
theorem QArg.keep {B : Nat} {w w' : World} {v : Value} {q : Nat} {a : Nat → Int} {l : Nat → Nat} {f : Nat → Nat → Int} (h : QArg B w v q a l f) (hk : KeepsD B w w') : QArg B w' v q a l f := by
  rcases h with ⟨hf, (h | ⟨b, off, cap, bv, h1, h2, h3, h4, h5, h6, h7⟩)⟩
  · exact ⟨hf, .inl h⟩
  · exact ⟨hf, .inr ⟨b, off, cap, bv, h1, h2, h3, h4, h5.keep h6 hk rfl, h6.keep hk rfl, fun i hi => (h7 i hi).keep hk⟩⟩

/-- A device, plainly. -/
structure Dev where
  n : Nat
  data : Nat → Int
  q : Nat
  qa : Nat → Int
  ql : Nat → Nat
  qb : Nat → Nat → Int
  m : Nat
  bad : Nat → Int
  dead : Bool
  armed : Bool
  left : Int

def devV (dv qv bv : Value) (X : Dev) : Value := .agg #[dv, qv, bv, .bool X.dead, .bool X.armed, .int .i64 X.left]
structure DevAt (B : Nat) (w : World) (dv qv bv : Value) (X : Dev) : Prop where
  data : BArg B w dv X.n X.data
  queue : QArg B w qv X.q X.qa X.ql X.qb
  bad : NArg B w bv X.m X.bad
  left : -9223372036854775808 ≤ X.left ∧ X.left ≤ 9223372036854775807
theorem DevAt.keepD {B : Nat} {w w' : World} {dv qv bv : Value} {X : Dev} (h : DevAt B w dv qv bv X) (hk : KeepsD B w w') : DevAt B w' dv qv bv X :=
  ⟨h.data.keep hk, h.queue.keep hk, h.bad.keep hk, h.left⟩
theorem DevAt.keep {B : Nat} {w w' : World} {dv qv bv : Value} {X : Dev} (h : DevAt B w dv qv bv X) (hk : Keeps B w w') : DevAt B w' dv qv bv X := h.keepD hk.data
theorem DevAt.all {B : Nat} {w w' : World} {dv qv bv : Value} {X : Dev} (h : DevAt B w dv qv bv X) (hb : Below w.heap.size w w') : DevAt B w' dv qv bv X := h.keep (keeps_below hb)

/-- Lists of the call's own. -/
theorem narg_own {B B' : Nat} {w : World} {v : Value} {n : Nat} {f : Nat → Int} (h : Own w B' 3 v n (intsV f)) (hf : ∀ i, -9223372036854775808 ≤ f i ∧ f i ≤ 9223372036854775807) : NArg B w v n f := by
  refine ⟨hf, ?_⟩
  by_cases hn : n = 0
  · subst hn
    obtain ⟨a, c, rfl⟩ := Own.slice h
    exact .inl ⟨rfl, _, _, rfl⟩
  · obtain ⟨g, cap, rfl, hB, hr, hm⟩ := h.row (by omega)
    have hrow := hr
    obtain ⟨cur, hg, _⟩ := hr
    exact .inr ⟨g, 0, cap, rfl, by omega, hrow.le, hm, hrow.reads, .inr ⟨cur, _, hg⟩⟩
theorem barg_own {B B' : Nat} {w : World} {v : Value} {n : Nat} {f : Nat → Int} (h : Own w B' 5 v n (byteF f)) (hf : ∀ i, 0 ≤ f i ∧ f i < 256) : BArg B w v n f := by
  refine ⟨hf, ?_⟩
  by_cases hn : n = 0
  · subst hn
    obtain ⟨a, c, rfl⟩ := Own.slice h
    exact .inl ⟨rfl, _, _, rfl⟩
  · obtain ⟨g, cap, rfl, hB, hr, hm⟩ := h.row (by omega)
    have hrow := hr
    obtain ⟨cur, hg, _⟩ := hr
    exact .inr ⟨g, 0, cap, rfl, by omega, hrow.le, hm, hrow.reads, .inr ⟨cur, _, hg⟩⟩
theorem qarg_own {B B' : Nat} {w : World} {v : Value} {q : Nat} {a : Nat → Int} {l : Nat → Nat} {f : Nat → Nat → Int} {bv : Nat → Value} (h : OwnK w B' 62 2 v q (putC a bv)) (ha : ∀ i, -9223372036854775808 ≤ a i ∧ a i ≤ 9223372036854775807)
    (hb : ∀ i, i < q → BArg B w (bv i) (l i) (f i)) : QArg B w v q a l f := by
  refine ⟨ha, ?_⟩
  rcases h with ⟨rfl, rfl⟩ | ⟨g, cap, rfl, hB, hr, hle, hm⟩
  · exact .inl ⟨rfl, _, _, rfl⟩
  · by_cases hn : q = 0
    · subst hn
      exact .inl ⟨rfl, _, _, rfl⟩
    · have hrow := hr
      obtain ⟨cur, hg, _⟩ := hr
      exact .inr ⟨g, 0, cap, bv, rfl, by omega, hle, hm, hrow.reads, .inr ⟨cur, _, hg⟩, hb⟩

end Go.Proofs.Ytjhcaedfknhilaa
