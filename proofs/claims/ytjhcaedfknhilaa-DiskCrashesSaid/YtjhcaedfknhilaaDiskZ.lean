/- Disk: Copy. -/
import Derived.Test.YtjhcaedfknhilaaDiskY
import Derived.Deep.RegionHeldLaw
namespace Go.Proofs.Ytjhcaedfknhilaa
open Go.RowKit
attribute [local go_sem ↓] Go.wp_at_zero Go.wp_at_succ
attribute [-go_sem] loadCellsFrom storeCells
attribute [local go_sem] storeCells_one

theorem size_dsk : (Try.prog.info? 76).map (·.size) = some 6 := by kernel_rfl
theorem loadC_dsk {W : World} {g : Nat} {a b c d e f : Value} (h : RowAt W g 76 6 6 (st6 a b c d e f)) : (loadCellsFrom ⟨g, 0, none⟩ 0 6 #[]).run Try.prog W = .ok #[a, b, c, d, e, f] W := by
  have := run_loadCells_list (P := Try.prog) W ⟨g, 0, none⟩ [a, b, c, d, e, f] (fun j v hj => by
    have hj6 : j < 6 := by
      rcases Nat.lt_or_ge j 6 with h1 | h1
      · exact h1
      · rw [List.getElem?_eq_none (by simp; omega)] at hj; cases hj
    rw [Addr.add_mid, Nat.zero_add]
    have := h.cell (i := j) hj6
    rw [this]
    obtain rfl | rfl | rfl | rfl | rfl | rfl : j = 0 ∨ j = 1 ∨ j = 2 ∨ j = 3 ∨ j = 4 ∨ j = 5 := by omega
    all_goals (cases hj; rfl))
  exact this
theorem storeC_dsk (w : World) (z : Array Value) (hz : z.size = 6) (a b c d e f : Value) (h1 : ∀ v ∈ [a, b, c, d, e, f], v.oneCell' = true) :
    (storeCells ⟨w.heap.size, 0, none⟩ [a, b, c, d, e, f] 0).run Try.prog (w.alloc (.cells z 76)) = .ok () (w.alloc (.cells #[a, b, c, d, e, f] 76)) := by
  have := run_storeCells_new (P := Try.prog) w 76 z #[a, b, c, d, e, f] size_dsk (by rw [hz]; rfl) (all_oneCell_toArray h1)
  simpa using this

/-- What has been cloned so far. -/
structure CopyI (D : Dsk) (V : World) (s b p : Option Value) (W : World) : Prop where
  below : Below V.heap.size V W
  sec : ∀ v, s = some v → OwnK W V.heap.size 79 64 v D.n (secV D.sec)
  bad : ∀ v, b = some v → OwnK W V.heap.size 4 1 v D.n (badV D.bad)
  que : ∀ v, p = some v → OwnK W V.heap.size 81 65 v D.q (putV D.qa D.qb)
theorem CopyI.init (D : Dsk) (V : World) : CopyI D V none none none V := ⟨Below.refl _ _, (fun _ e => by cases e), (fun _ e => by cases e), (fun _ e => by cases e)⟩
theorem CopyI.all {D : Dsk} {V W W' : World} {s b p : Option Value} (h : CopyI D V s b p W) (hb : Below W.heap.size W W') : CopyI D V s b p W' :=
  ⟨h.below.trans (hb.mono h.below.size), fun v e => (h.sec v e).all hb, fun v e => (h.bad v e).all hb, fun v e => (h.que v e).all hb⟩
theorem CopyI.putS {D : Dsk} {V W W' : World} {s b p : Option Value} {v : Value} (h : CopyI D V s b p W) (hb : Below W.heap.size W W') (ho : OwnK W' W.heap.size 79 64 v D.n (secV D.sec)) : CopyI D V (some v) b p W' :=
  have h' := h.all hb
  ⟨h'.below, fun _ e => by cases e; exact ho.mono h.below.size, h'.bad, h'.que⟩
theorem CopyI.putB {D : Dsk} {V W W' : World} {s b p : Option Value} {v : Value} (h : CopyI D V s b p W) (hb : Below W.heap.size W W') (ho : OwnK W' W.heap.size 4 1 v D.n (badV D.bad)) : CopyI D V s (some v) p W' :=
  have h' := h.all hb
  ⟨h'.below, h'.sec, fun _ e => by cases e; exact ho.mono h.below.size, h'.que⟩
theorem CopyI.putQ {D : Dsk} {V W W' : World} {s b p : Option Value} {v : Value} (h : CopyI D V s b p W) (hb : Below W.heap.size W W') (ho : OwnK W' W.heap.size 81 65 v D.q (putV D.qa D.qb)) : CopyI D V s b (some v) W' :=
  have h' := h.all hb
  ⟨h'.below, h'.sec, h'.bad, fun _ e => by cases e; exact ho.mono h.below.size⟩

/-- A clone of the queue, nil or not. -/
theorem Clone_que {B : Nat} {qv : Value} {D : Dsk} (w : World) (h : Puts w B qv D.q D.qa D.qb) (hq : D.q ≤ 65536) :
    Calls Try.prog 50 #[qv] w (ClonedP_put D.q (putV D.qa D.qb) w) := by
  rcases h with ⟨rfl, hq0⟩ | ⟨g, cap, rfl, hB, hr, hcap⟩
  · refine (Clone_put_nil w).mono ?_
    rintro e w' ⟨rfl, rfl⟩
    rw [hq0]
    exact ⟨_, rfl, .inl ⟨rfl, rfl⟩, Below.refl _ _⟩
  · exact Clone_put g 0 D.q cap _ w hr.reads (fun i _ => putV_one _ _ i) (by omega)

theorem copyKeep {B g gs gb : Nat} {qv : Value} {D : Dsk} {V W : World} (h : DiskIn B g gs gb qv D V) (hb : Below V.heap.size V W) :
    W.cell? ⟨g, 0, none⟩ = some (.slice (some ⟨gs, 0, none⟩) D.n D.cs) ∧ W.cell? ⟨g, 1, none⟩ = some (.slice (some ⟨gb, 0, none⟩) D.n D.cb) ∧ W.cell? ⟨g, 2, none⟩ = some qv :=
  have := (h.all hb).cells
  ⟨this.1, this.2.1, this.2.2.1⟩
theorem copySet {g c i : Nat} {W : World} {a b d v : Value} (h : W.cell? ⟨g, 0, none⟩ = some a ∧ W.cell? ⟨g, 1, none⟩ = some b ∧ W.cell? ⟨g, 2, none⟩ = some d) (hne : g ≠ c) :
    (W.setCell ⟨c, i, none⟩ v).cell? ⟨g, 0, none⟩ = some a ∧ (W.setCell ⟨c, i, none⟩ v).cell? ⟨g, 1, none⟩ = some b ∧ (W.setCell ⟨c, i, none⟩ v).cell? ⟨g, 2, none⟩ = some d :=
  have hb := Below.heap_setCell W ⟨c, i, none⟩ v g hne
  ⟨(World.cell?_of_block (a := ⟨g, 0, none⟩) hb).trans h.1, (World.cell?_of_block (a := ⟨g, 1, none⟩) hb).trans h.2.1, (World.cell?_of_block (a := ⟨g, 2, none⟩) hb).trans h.2.2⟩

theorem OwnK.pos {w : World} {B : Nat} {e : TypeId} {k : Nat} {v : Value} {n : Nat} {f : Nat → Value} (h : OwnK w B e k v n f) (hn : 0 < n) : ∃ g cap, v = .slice (some ⟨g, 0, none⟩) n cap ∧ B ≤ g ∧ RowAt w g e (cap * k) (n * k) f ∧ n ≤ cap ∧ cap ≤ maxLen := by
  rcases h with ⟨_, h⟩ | h
  · omega
  · exact h
theorem copy_fin {D : Dsk} {w0 V W : World} {B c : Nat} {sv bv pv a0 a1 a2 : Value} (h : CopyI D V (some sv) (some bv) (some pv) W) (hb0 : Below B w0 W) (hok : D.Ok) (hB : B ≤ V.heap.size) (hc : B ≤ c) (hr : RowAt W c 76 6 6 (st6 a0 a1 a2 (.bool D.dead) (.bool D.armed) (.int .i64 D.left))) :
    ∃ gs' gb' cs cb, DiskIn B c gs' gb' pv { D with cs := cs, cb := cb } (((W.setCell ⟨c, 0, none⟩ sv).setCell ⟨c, 1, none⟩ bv).setCell ⟨c, 2, none⟩ pv) ∧ Below B w0 (((W.setCell ⟨c, 0, none⟩ sv).setCell ⟨c, 1, none⟩ bv).setCell ⟨c, 2, none⟩ pv) := by
  have hn := hok.size
  obtain ⟨gs', cs, rfl, s1, s2, _, _⟩ := (h.sec _ rfl).pos (by omega)
  obtain ⟨gb', cb, rfl, b1, b2, _, _⟩ := (h.bad _ rfl).pos (by omega)
  have hq := h.que _ rfl
  have ns : c ≠ gs' := hr.neType s2 (by decide)
  have nb : c ≠ gb' := hr.neType b2 (by decide)
  refine ⟨gs', gb', cs, cb, ⟨(((hr.set 0 _).set 1 _).set 2 _).congr fun j hj => ?_, ((s2.setOther _ _ ns).setOther _ _ ns).setOther _ _ ns, ((b2.setOther _ _ nb).setOther _ _ nb).setOther _ _ nb, ?_, ⟨hc, by omega, by omega⟩, ⟨hok.size, hok.byte, hok.queue, hok.put, hok.pbyte, hok.left⟩⟩, ((hb0.setCell (p := ⟨c, 0, none⟩) hc _).setCell (p := ⟨c, 1, none⟩) hc _).setCell (p := ⟨c, 2, none⟩) hc _⟩
  · obtain rfl | rfl | rfl | rfl | rfl | rfl : j = 0 ∨ j = 1 ∨ j = 2 ∨ j = 3 ∨ j = 4 ∨ j = 5 := by omega
    all_goals rfl
  · rcases hq with hq | ⟨gq, cq, h1, h2, h3, h4, h5⟩
    · exact .inl hq
    · have nq : c ≠ gq := hr.neType h3 (by decide)
      exact .inr ⟨gq, cq, h1, by omega, ((h3.setOther _ _ nq).setOther _ _ nq).setOther _ _ nq, h5⟩

set_option maxRecDepth 8000 in
set_option maxHeartbeats 4000000 in
theorem Copy_any {B g gs gb : Nat} {qv : Value} {D : Dsk} (w : World) (h : DiskIn B g gs gb qv D w) :
    Calls Try.prog 25 #[.pointer (some ⟨g, 0, none⟩)] w fun e w' => ∃ g' gs' gb' qv' cs cb, e = .returned (.pointer (some ⟨g', 0, none⟩)) ∧ DiskIn w.heap.size g' gs' gb' qv' { D with cs := cs, cb := cb } w' ∧ Below w.heap.size w w' := by
  have hok := h.ok
  have hgl := h.row.lt
  obtain ⟨x, cap, hqs⟩ := h.que.slice
  have hqn : qv.oneCell' = true := by rw [hqs]; rfl
  have hl6 := loadC_dsk h.row
  have hs6 := storeC_dsk w #[.slice none 0 0, .slice none 0 0, .slice none 0 0, .bool false, .bool false, .int .i64 0] rfl (.slice (some ⟨gs, 0, none⟩) D.n D.cs) (.slice (some ⟨gb, 0, none⟩) D.n D.cb) qv (.bool D.dead) (.bool D.armed) (.int .i64 D.left) (six_one rfl rfl hqn rfl rfl rfl)
  have hb1 : Below w.heap.size w (w.alloc (.cells #[.slice (some ⟨gs, 0, none⟩) D.n D.cs, .slice (some ⟨gb, 0, none⟩) D.n D.cb, qv, .bool D.dead, .bool D.armed, .int .i64 D.left] 76)) := (Below.refl _ w).alloc (Nat.le_refl _) _
  have Hr1 := Lib.hid (row_six w (.slice (some ⟨gs, 0, none⟩) D.n D.cs) (.slice (some ⟨gb, 0, none⟩) D.n D.cb) qv (.bool D.dead) (.bool D.armed) (.int .i64 D.left) 76)
  have Hb1 := Lib.hid hb1
  have Hd := Lib.hid h
  have HD1 := Lib.hid (h.all hb1)
  have Hs1 := Lib.hid (show (w.alloc (.cells #[.slice (some ⟨gs, 0, none⟩) D.n D.cs, .slice (some ⟨gb, 0, none⟩) D.n D.cb, qv, .bool D.dead, .bool D.armed, .int .i64 D.left] 76)).heap.size = w.heap.size + 1 by simp)
  clear h hb1 hqn hqs hok
  go_enter Try.func25, Try.ntmps25
  go_upto_region 4 with fail
  clear hl6 hs6
  generalize w.alloc (.cells #[.slice (some ⟨gs, 0, none⟩) D.n D.cs, .slice (some ⟨gb, 0, none⟩) D.n D.cb, qv, .bool D.dead, .bool D.armed, .int .i64 D.left] 76) = V at *
  have HDV := Lib.hid (HD1.out.all (Below.refl _ V).drew)
  have hne : g ≠ w.heap.size := by omega
  have hn := HDV.out.ok.size
  have hq6 := HDV.out.ok.queue
  have HInv := Lib.hid (CopyI.init D V.drew)
  have Hne := Lib.hid hne; clear hne
  go_region_held_law (fun w' => w'.cell? ⟨g, 0, none⟩ = some (.slice (some ⟨gs, 0, none⟩) D.n D.cs) ∧ w'.cell? ⟨g, 1, none⟩ = some (.slice (some ⟨gb, 0, none⟩) D.n D.cb) ∧ w'.cell? ⟨g, 2, none⟩ = some qv)
    (first | exact copyKeep HDV.out HInv.out.below | exact copySet (copyKeep HDV.out HInv.out.below) Hne.out | exact copySet (copySet (copyKeep HDV.out HInv.out.below) Hne.out) Hne.out | exact copySet (copySet (copySet (copyKeep HDV.out HInv.out.below) Hne.out) Hne.out) Hne.out)
    (first | (go_at_call 48; ((with_reducible refine (Clone_sec gs 0 D.n D.cs (secV D.sec) _ (HDV.out.all HInv.out.below).sec.reads (fun _ _ => rfl) (by omega)).mono ?_); rintro e w3 ⟨v, rfl, ho, hb⟩); (obtain ⟨va, vc, rfl⟩ := ho.slice); (replace HInv := Lib.hid (HInv.out.putS hb ho)); clear ho hb) | (go_at_call 49; ((with_reducible refine (Clone_bool gb 0 D.n D.cb (badV D.bad) _ (HDV.out.all HInv.out.below).bad.reads (fun _ _ => rfl) (by omega)).mono ?_); rintro e w3 ⟨v, rfl, ho, hb⟩); (obtain ⟨va, vc, rfl⟩ := ho.slice); (replace HInv := Lib.hid (HInv.out.putB hb ho)); clear ho hb) | (go_at_call 50; ((with_reducible refine (Clone_que _ (HDV.out.all HInv.out.below).que hq6).mono ?_); rintro e w3 ⟨v, rfl, ho, hb⟩); (obtain ⟨va, vc, rfl⟩ := ho.slice); (replace HInv := Lib.hid (HInv.out.putQ hb ho)); (have hr5 := Hr1.out.drew.all HInv.out.below); (have y0 := hr5.cell (i := 0) (by omega)); (have y1 := hr5.cell (i := 1) (by omega)); (have y2 := hr5.cell (i := 2) (by omega)); (have z0 := hr5.frozen 0); (have z1 := hr5.frozen 1); (have z2 := hr5.frozen 2); (have Hr5 := Lib.hid hr5); clear ho hb hr5))
  obtain ⟨gs', gb', cs, cb, hfin⟩ := copy_fin (B := w.heap.size) (w0 := w) HInv.out ((Hb1.out.drew).trans (HInv.out.below.mono (by have := Hs1.out; show w.heap.size ≤ V.heap.size; omega))) Hd.out.ok (Nat.le_of_lt (by have := Hs1.out; show w.heap.size < V.heap.size; omega)) (Nat.le_refl _) Hr5.out
  have Hfin := Lib.hid hfin
  clear hfin
  go_wp2
  go_ret
  exact ⟨_, _, _, _, _, _, rfl, Hfin.out⟩

end Go.Proofs.Ytjhcaedfknhilaa
