/- Disk: Load: what its loops keep. -/
import Derived.Test.YtjhcaedfknhilaaLoadA
namespace Go.Proofs.Ytjhcaedfknhilaa
open Go.RowKit

/-- A device's disk, of which i sectors, j elements of the queue and l bad ones are there. -/
def Dev.st (X : Dev) (i j l : Nat) : Dsk :=
  ⟨X.n / 64, fun a b => if a < i then X.data (a * 64 + b) else 0, metB X.bad l, j, fun a => (X.qa a).toNat, fun a b => if a < X.q then X.qb a b else 0, X.dead, X.armed, X.left, X.n / 64, X.n / 64⟩
def Dev.dsk (X : Dev) : Dsk := X.st (X.n / 64) X.q X.m

theorem QArg.bytes {B : Nat} {w : World} {v : Value} {q : Nat} {a : Nat → Int} {l : Nat → Nat} {f : Nat → Nat → Int} (h : QArg B w v q a l f) {i : Nat} (hi : i < q) : ∀ j, 0 ≤ f i j ∧ f i j < 256 := by
  rcases h with ⟨_, (⟨h0, _⟩ | ⟨_, _, _, _, _, _, _, _, _, _, h7⟩)⟩
  · omega
  · exact (h7 i hi).1

theorem st_ok {B : Nat} {w : World} {dv qv bv : Value} {X : Dev} (h : DevAt B w dv qv bv X) (h1 : X.ok1) (h2 : X.ok2) {i j l : Nat} (hj : j ≤ X.q) (hq : X.okQ j) : (X.st i j l).Ok := by
  obtain ⟨a1, a2, a3, a4⟩ := h1
  refine ⟨⟨a2, a3⟩, fun a b => ?_, Nat.le_trans hj a4, fun a ha => ?_, fun a b => ?_, ⟨h2.1, h.left.2⟩⟩
  · show 0 ≤ (if a < i then X.data (a * 64 + b) else 0) ∧ (if a < i then X.data (a * 64 + b) else 0) < 256
    split
    · exact h.data.1 _
    · omega
  · obtain ⟨b1, b2, b3⟩ := hq a ha
    show (X.qa a).toNat < X.n / 64
    omega
  · show 0 ≤ (if a < X.q then X.qb a b else 0) ∧ (if a < X.q then X.qb a b else 0) < 256
    split
    · exact h.queue.bytes (by assumption) b
    · omega

structure LoadJ (B : Nat) (w : World) (dv qv bv : Value) (X : Dev) (g gs gb : Nat) (uv : Value) (i j l : Nat) (W : World) : Prop where
  load : LoadI w dv qv bv X (.pointer (some ⟨g, 0, none⟩)) W
  disk : DiskIn w.heap.size g gs gb uv (X.st i j l) W
  dev : DevAt B W dv qv bv X
theorem LoadJ.all {B : Nat} {w W W' : World} {dv qv bv : Value} {X : Dev} {g gs gb : Nat} {uv : Value} {i j l : Nat} (h : LoadJ B w dv qv bv X g gs gb uv i j l W) (hb : Below W.heap.size W W') : LoadJ B w dv qv bv X g gs gb uv i j l W' :=
  ⟨h.load.all hb, h.disk.all hb, h.dev.all hb⟩

theorem keeps_wrote {B g : Nat} {W W' : World} {e : TypeId} {c n : Nat} {F : Nat → Value} (hw : Wrote W W' g) (hr : RowAt W g e c n F) (he : diskT e = true) (hB : B ≤ g) : Keeps B W W' := by
  refine ⟨hw.1.size, fun b o ho hn => (hw.block ?_).trans ho⟩
  rintro rfl
  obtain ⟨cur, hg, _⟩ := hr
  rw [hg] at ho
  cases ho
  rcases hn with hn | hn
  · omega
  · have h9 : (!diskT e) = true := hn
    rw [he] at h9; cases h9
theorem keeps_set {B g i : Nat} {W : World} {e : TypeId} {c n : Nat} {F : Nat → Value} (hr : RowAt W g e c n F) (he : diskT e = true) (hB : B ≤ g) (v : Value) : Keeps B W (W.setCell ⟨g, i, none⟩ v) :=
  keeps_wrote (wrote_setCell W ⟨g, i, none⟩ v) hr he hB

theorem LoadJ.sec {B : Nat} {w W W' : World} {dv qv bv : Value} {X : Dev} {g gs gb : Nat} {uv : Value} {i j l : Nat} (h : LoadJ B w dv qv bv X g gs gb uv i j l W) (hB : B ≤ w.heap.size) (hw : Wrote W W' gs)
    (hrow : RowAt W' gs 79 ((X.n / 64) * 64) ((X.n / 64) * 64) (fun m => if i * 64 ≤ m ∧ m < i * 64 + 64 then byteF (fun b => X.data (i * 64 + b)) (m - i * 64) else secV (X.st i j l).sec m)) :
    LoadJ B w dv qv bv X g gs gb uv (i + 1) j l W' := by
  obtain ⟨n1, n2, n3⟩ := h.disk.ne
  have ho := h.disk.ok
  have hk := keeps_wrote hw h.disk.sec rfl (Nat.le_trans hB h.disk.base.2.1)
  refine ⟨⟨hw.below h.load.below h.load.below.size h.disk.base.2.1, h.load.box.wrote hw (h.load.box.neType h.disk.sec (by decide)), h.load.out.wrote hw (h.load.out.neType h.disk.sec (by decide)), h.load.err.wrote hw (h.load.err.neType h.disk.sec (by decide))⟩,
    ⟨h.disk.row.wrote hw n1, hrow.congr fun m hm => ?_, h.disk.bad.wrote hw (Ne.symm n3), ?_, h.disk.base, ⟨ho.size, fun a b => ?_, ho.queue, ho.put, ho.pbyte, ho.left⟩⟩, h.dev.keep hk⟩
  · unfold secV byteF Dev.st
    dsimp only
    by_cases h1 : i * 64 ≤ m ∧ m < i * 64 + 64
    · rw [if_pos h1, if_pos (by omega), show m / 64 = i from by omega, show m % 64 = m - i * 64 from by omega]
    · rw [if_neg h1]
      by_cases h2 : m / 64 < i
      · rw [if_pos h2, if_pos (by omega)]
      · rw [if_neg h2, if_neg (by omega)]
  · rcases h.disk.que with h9 | ⟨gq, cq, q1, q2, q3, q4⟩
    · exact .inl h9
    · exact .inr ⟨gq, cq, q1, q2, q3.wrote hw (q3.neType h.disk.sec (by decide)), q4⟩
  · show 0 ≤ (if a < i + 1 then X.data (a * 64 + b) else 0) ∧ (if a < i + 1 then X.data (a * 64 + b) else 0) < 256
    split
    · exact h.dev.data.1 _
    · omega

theorem LoadJ.bad {B : Nat} {w W : World} {dv qv bv : Value} {X : Dev} {g gs gb : Nat} {uv : Value} {i j l m : Nat} (h : LoadJ B w dv qv bv X g gs gb uv i j l W) (hB : B ≤ w.heap.size) (hm : X.bad l = m) :
    LoadJ B w dv qv bv X g gs gb uv i j (l + 1) (W.setCell ⟨gb, m, none⟩ (.bool true)) := by
  obtain ⟨n1, n2, n3⟩ := h.disk.ne
  have ho := h.disk.ok
  have hk := keeps_set (i := m) h.disk.bad rfl (Nat.le_trans hB h.disk.base.2.2) (.bool true)
  refine ⟨⟨h.load.below.setCell (p := ⟨gb, m, none⟩) h.disk.base.2.2 _, h.load.box.setOther _ _ (h.disk.bad.neType h.load.box (by decide)), h.load.out.setOther _ _ (h.disk.bad.neType h.load.out (by decide)), h.load.err.setOther _ _ (h.disk.bad.neType h.load.err (by decide))⟩,
    ⟨h.disk.row.setOther _ _ (Ne.symm n2), h.disk.sec.setOther _ _ (Ne.symm n3), (h.disk.bad.set m (.bool true)).congr fun a ha => ?_, h.disk.que.other h.disk.bad (by decide) m _, h.disk.base, ⟨ho.size, ho.byte, ho.queue, ho.put, ho.pbyte, ho.left⟩⟩, h.dev.keep hk⟩
  unfold badV
  show (if a = m then Value.bool true else .bool (metB X.bad l a)) = .bool (metB X.bad (l + 1) a)
  by_cases ham : a = m
  · rw [if_pos ham, metB_true.2 ⟨l, by omega, by rw [hm, ham]⟩]
  · rw [if_neg ham]
    congr 1
    unfold metB
    show anyB _ l = (anyB _ l || X.bad l == (a : Int))
    have : (X.bad l == (a : Int)) = false := by rw [beq_eq_false_iff_ne]; omega
    rw [this, Bool.or_false]

theorem LoadJ.put {B : Nat} {w w2 w3 : World} {dv qv bv : Value} {X : Dev} {g gs gb : Nat} {uv uv' : Value} {i j l : Nat} (h : LoadJ B w dv qv bv X g gs gb uv i j l w2) (hB : B ≤ w.heap.size) (hj : j < X.q) (h4 : X.q ≤ 65536) (ha : 0 ≤ X.qa j ∧ X.qa j < (X.n / 64 : Nat))
    (hown : OwnK w3 w.heap.size 81 65 uv' (j + 1) (fun m => if m < j * 65 then putV (X.st i j l).qa (X.st i j l).qb m else putV (fun _ => (X.qa j).toNat) (fun _ => X.qb j) (m - j * 65))) (hg : w2.grownBy w3 uv.ownBlock) :
    LoadJ B w dv qv bv X g gs gb uv' i (j + 1) l (w3.setCell ⟨g, 2, none⟩ uv') ∧ (∃ v, w3.cell? ⟨g, 2, none⟩ = some v) ∧ w3.frozen? ⟨g, 2, none⟩ = false := by
  obtain ⟨n1, n2, n3⟩ := h.disk.ne
  have ho := h.disk.ok
  have ow := h.disk.que.own
  have qg : uv.ownBlock ≠ some g := fun e => by have := ow.typed e h.disk.row; revert this; decide
  have qs : uv.ownBlock ≠ some gs := fun e => by have := ow.typed e h.disk.sec; revert this; decide
  have qb : uv.ownBlock ≠ some gb := fun e => by have := ow.typed e h.disk.bad; revert this; decide
  have hr3 := h.disk.row.grown hg qg
  have hown2 : OwnK w3 w.heap.size 81 65 uv' (j + 1) (putV (X.st i (j + 1) l).qa (X.st i (j + 1) l).qb) := hown.congr fun m hm => by
    by_cases h1 : m < j * 65
    · rw [if_pos h1]; rfl
    · rw [if_neg h1]
      unfold putV Dev.st
      dsimp only
      rw [show (m - j * 65) % 65 = m % 65 from by omega, show m / 65 = j from by omega, if_pos hj]
  have hown3 : OwnK (w3.setCell ⟨g, 2, none⟩ uv') w.heap.size 81 65 uv' (j + 1) (putV (X.st i (j + 1) l).qa (X.st i (j + 1) l).qb) := by
    rcases hown2 with h9 | ⟨gq, cq, q1, q2, q3, q4⟩
    · exact .inl h9
    · exact .inr ⟨gq, cq, q1, q2, q3.setOther _ _ (hr3.neType q3 (by decide)), q4⟩
  have hk1 : Keeps B w2 w3 := by
    refine ⟨hg.size, fun b o hb hn => (hg.block b (Array.getElem?_eq_some_iff.1 hb).1 fun e => ?_).trans hb⟩
    rcases ow with ⟨rfl, _⟩ | ⟨gq, cq, rfl, q2, ⟨cur, q3, _⟩, q4⟩
    · cases e
    · cases e
      rw [q3] at hb
      cases hb
      rcases hn with hn | hn
      · have hn2 : gq < B := hn
        omega
      · cases hn
  have hk := hk1.trans (keeps_set (i := 2) hr3 rfl (Nat.le_trans hB h.disk.base.1) uv')
  have hb3 : Below w.heap.size w w3 := h.load.below.grown hg h.load.below.size (fun k hk => (ow.isCells k hk).1)
  have hbox := h.load.box.grown hg (fun e => by have := ow.typed e h.load.box; revert this; decide)
  have hout := h.load.out.grown hg (fun e => by have := ow.typed e h.load.out; revert this; decide)
  have herr := h.load.err.grown hg (fun e => by have := ow.typed e h.load.err; revert this; decide)
  refine ⟨⟨⟨hb3.setCell (p := ⟨g, 2, none⟩) h.disk.base.1 _, hbox.setOther _ _ (hr3.neType hbox (by decide)), hout.setOther _ _ (hr3.neType hout (by decide)), herr.setOther _ _ (hr3.neType herr (by decide))⟩,
    ⟨(hr3.set 2 uv').congr fun m hm => ?_, (h.disk.sec.grown hg qs).setOther _ _ n1, (h.disk.bad.grown hg qb).setOther _ _ n2, puts_of_own hown3, h.disk.base, ⟨ho.size, ho.byte, ?_, fun a ha2 => ?_, ho.pbyte, ho.left⟩⟩, h.dev.keep hk⟩, ⟨_, hr3.cell (i := 2) (by omega)⟩, hr3.frozen 2⟩
  · obtain rfl | rfl | rfl | rfl | rfl | rfl : m = 0 ∨ m = 1 ∨ m = 2 ∨ m = 3 ∨ m = 4 ∨ m = 5 := by omega
    all_goals rfl
  · show j + 1 ≤ 65536
    omega
  · have ha3 : a < j + 1 := ha2
    show (X.qa a).toNat < X.n / 64
    by_cases haj : a = j
    · subst haj; omega
    · exact ho.put a (show a < j by omega)

end Go.Proofs.Ytjhcaedfknhilaa
