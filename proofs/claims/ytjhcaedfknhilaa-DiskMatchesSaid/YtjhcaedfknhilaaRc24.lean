/- What model makes of an act. -/
import Derived.Test.YtjhcaedfknhilaaRc23
namespace Go.Proofs.Ytjhcaedfknhilaa
set_option linter.unusedVariables false
set_option linter.unusedSimpArgs false
open Go.RowKit
attribute [local go_sem ↓] Go.wp_at_zero Go.wp_at_succ
attribute [-go_sem] loadCellsFrom storeCells
attribute [local go_sem] storeCells_one

/-- A device and an error, of an act. -/
def MOut (B : Nat) (D : Dsk) (A : Deed) (w : World) (e : Ending) (w' : World) : Prop :=
  ∃ D' c dv qv bv, e = .returned (.tuple #[devV dv qv bv D'.dev, .int .i64 c]) ∧ Does D A D' c 0 (fun _ => 0) ∧ DevAt B w' dv qv bv D'.dev ∧ Below w.heap.size w w'
theorem m_out {B : Nat} {D D' : Dsk} {A : Deed} {c : Int} {w w' : World} {e : Ending} (h : RefOut B D' c w e w') (hd : Does D A D' c 0 (fun _ => 0)) : MOut B D A w e w' := by
  obtain ⟨dv, qv, bv, h1, h2, h3⟩ := h
  exact ⟨D', c, dv, qv, bv, h1, hd, h2, h3⟩
theorem m_write {B : Nat} {D : Dsk} {A : Deed} {w w' : World} {e : Ending} (hk : A.kind = 1) (h : RefWriteP B D A.at' A.n A.bytes w e w') : MOut B D A w e w' := by
  rcases h with ⟨h1, h⟩ | ⟨h1, h2, ⟨h3, h⟩ | ⟨h3, h4, h⟩ | ⟨h3, h4, h⟩⟩
  · exact m_out h (.inr (.inl ⟨hk, rfl, .inl ⟨h1, rfl, rfl⟩⟩))
  · exact m_out h (.inr (.inl ⟨hk, rfl, .inr ⟨h1, h2, .inl ⟨h3, rfl, rfl⟩⟩⟩))
  · exact m_out h (.inr (.inl ⟨hk, rfl, .inr ⟨h1, h2, .inr (.inl ⟨h3, h4, rfl, rfl⟩)⟩⟩))
  · exact m_out h (.inr (.inl ⟨hk, rfl, .inr ⟨h1, h2, .inr (.inr ⟨h3, h4, rfl, rfl⟩)⟩⟩))
theorem m_sync {B : Nat} {D : Dsk} {A : Deed} {w w' : World} {e : Ending} (hk : A.kind = 2) (h : RefSyncP B D w e w') : MOut B D A w e w' := by
  rcases h with ⟨h1, h⟩ | ⟨h1, h⟩
  · exact m_out h (.inr (.inr (.inl ⟨hk, rfl, .inl ⟨h1, rfl, rfl⟩⟩)))
  · exact m_out h (.inr (.inr (.inl ⟨hk, rfl, .inr ⟨h1, rfl, rfl⟩⟩)))
theorem m_crash {B : Nat} {D : Dsk} {A : Deed} {w w' : World} {e : Ending} (hk : A.kind = 3) (h : RefCrashP B D A.k A.keep w e w') : MOut B D A w e w' := by
  rcases h with ⟨h1, h⟩ | ⟨h1, h⟩
  · exact m_out h (.inr (.inr (.inr (.inl ⟨hk, rfl, .inl ⟨h1, rfl, rfl⟩⟩))))
  · exact m_out h (.inr (.inr (.inr (.inl ⟨hk, rfl, .inr ⟨h1, rfl, rfl⟩⟩))))
theorem m_spoil {B : Nat} {D : Dsk} {A : Deed} {w w' : World} {e : Ending} (hk : A.kind = 4) (h : RefSpoilP B D A.at' w e w') : MOut B D A w e w' := by
  rcases h with ⟨h1, h⟩ | ⟨h1, h2, h⟩
  · exact m_out h (.inr (.inr (.inr (.inr (.inl ⟨hk, rfl, .inl ⟨h1, rfl, rfl⟩⟩)))))
  · exact m_out h (.inr (.inr (.inr (.inr (.inl ⟨hk, rfl, .inr ⟨h1, h2, rfl, rfl⟩⟩)))))
theorem m_stop {B : Nat} {D : Dsk} {A : Deed} {w w' : World} {e : Ending} (hk : A.kind = 7) (h : RefStopP B D A.at' w e w') : MOut B D A w e w' := by
  rcases h with ⟨h1, h⟩ | ⟨h1, h2, h⟩ | ⟨h1, h2, h⟩
  · exact m_out h (.inr (.inr (.inr (.inr (.inr (.inr (.inr (.inl ⟨hk, rfl, .inl ⟨h1, rfl, rfl⟩⟩))))))))
  · exact m_out h (.inr (.inr (.inr (.inr (.inr (.inr (.inr (.inl ⟨hk, rfl, .inr (.inl ⟨h1, h2, rfl, rfl⟩)⟩))))))))
  · exact m_out h (.inr (.inr (.inr (.inr (.inr (.inr (.inr (.inl ⟨hk, rfl, .inr (.inr ⟨h1, h2, rfl, rfl⟩)⟩))))))))
theorem m_die {B : Nat} {D : Dsk} {A : Deed} {w w' : World} {e : Ending} (hk : A.kind = 5) (h : RefOne B D.die w e w') : ∃ D' dv qv bv, e = .returned (devV dv qv bv D'.dev) ∧ Does D A D' 0 0 (fun _ => 0) ∧ DevAt B w' dv qv bv D'.dev ∧ Below w.heap.size w w' := by
  obtain ⟨dv, qv, bv, h1, h2, h3⟩ := h
  exact ⟨_, dv, qv, bv, h1, .inr (.inr (.inr (.inr (.inr (.inl ⟨hk, rfl, rfl, rfl⟩))))), h2, h3⟩
theorem m_replace {B : Nat} {D : Dsk} {A : Deed} {w w' : World} {e : Ending} (hk : A.kind = 6) (h : RefOne B (Dsk.zero D.n) w e w') : ∃ D' dv qv bv, e = .returned (devV dv qv bv D'.dev) ∧ Does D A D' 0 0 (fun _ => 0) ∧ DevAt B w' dv qv bv D'.dev ∧ Below w.heap.size w w' := by
  obtain ⟨dv, qv, bv, h1, h2, h3⟩ := h
  exact ⟨_, dv, qv, bv, h1, .inr (.inr (.inr (.inr (.inr (.inr (.inl ⟨hk, rfl, rfl, rfl⟩)))))), h2, h3⟩
theorem m_read {B : Nat} {D : Dsk} {A : Deed} {w w' : World} {e : Ending} (hk : A.kind = 0) (h : RefReadP B D A.at' A.many w e w') : ∃ v c n f, e = .returned (.tuple #[v, .int .i64 c]) ∧ Does D A D c n f ∧ BArg B w' v n f ∧ Below w.heap.size w w' := by
  obtain ⟨v, c, he, hb, hr⟩ := h
  rcases hr with ⟨h1, rfl, rfl⟩ | ⟨h1, h2, rfl, rfl⟩ | ⟨h1, h2, h3, rfl, rfl⟩ | ⟨h1, h2, h3, rfl, h4⟩
  · exact ⟨_, _, 0, fun _ => 0, he, .inl ⟨hk, rfl, .inl ⟨h1, rfl, rfl⟩⟩, barg_nil B w', hb⟩
  · exact ⟨_, _, 0, fun _ => 0, he, .inl ⟨hk, rfl, .inr (.inl ⟨h1, h2, rfl, rfl⟩)⟩, barg_nil B w', hb⟩
  · exact ⟨_, _, 0, fun _ => 0, he, .inl ⟨hk, rfl, .inr (.inr (.inl ⟨h1, h2, h3, rfl, rfl⟩))⟩, barg_nil B w', hb⟩
  · exact ⟨_, _, _, _, he, .inl ⟨hk, rfl, .inr (.inr (.inr ⟨h1, h2, h3, rfl, rfl, rfl⟩))⟩, h4, hb⟩

/-- What model returns. -/
def ModelP (B : Nat) (D : Dsk) (A : Deed) (w : World) (e : Ending) (w' : World) : Prop :=
  ∃ D' c n f v dv qv bv, e = .returned (.tuple #[devV dv qv bv D'.dev, v, .int .i64 c]) ∧ Does D A D' c n f ∧ BArg B w' v n f ∧ DevAt B w' dv qv bv D'.dev ∧ Below w.heap.size w w'

set_option maxRecDepth 100000 in
set_option maxHeartbeats 8000000 in
theorem model_any {B : Nat} {dv qv bv av kv : Value} {D : Dsk} {A : Deed} (w : World) (h : DevAt B w dv qv bv D.dev) (hok : D.Ok) (hA : DeedAt B w av kv A) (hn : A.k ≤ 65536) (hB : B ≤ w.heap.size) :
    Calls Try.prog 29 #[devV dv qv bv D.dev, deedV av kv A] w (ModelP B D A w) := by
  obtain ⟨dx, dc, rfl, -⟩ := h.data.slice
  obtain ⟨qx, qc, rfl, -⟩ := h.queue.slice
  obtain ⟨bx, bc, rfl, -⟩ := h.bad.slice
  obtain ⟨ax, ac, rfl, -⟩ := hA.bytes.slice
  obtain ⟨kx, kc, rfl, -⟩ := hA.keep.slice
  have hI : RefI w (w.heap.size + 1 + 1) (.slice dx D.dev.n dc) (.slice qx D.dev.q qc) (.slice bx D.dev.m bc) (.bool D.dev.dead) (.bool D.dev.armed) (.int .i64 D.dev.left) (((w.alloc (.cells #[.slice dx D.dev.n dc, .slice qx D.dev.q qc, .slice bx D.dev.m bc, .bool D.dev.dead, .bool D.dev.armed, .int .i64 D.dev.left] 31)).alloc (.cells #[.int .i64 A.kind, .int .i64 A.at', .int .i64 A.many, .slice ax A.n ac, .slice kx A.k kc] 51)).alloc (.cells #[.slice none 0 0, .slice none 0 0, .slice none 0 0, .bool false, .bool false, .int .i64 0] 31)) := by
    have h9 := row_six ((w.alloc (.cells #[.slice dx D.dev.n dc, .slice qx D.dev.q qc, .slice bx D.dev.m bc, .bool D.dev.dead, .bool D.dev.armed, .int .i64 D.dev.left] 31)).alloc (.cells #[.int .i64 A.kind, .int .i64 A.at', .int .i64 A.many, .slice ax A.n ac, .slice kx A.k kc] 51)) (.slice none 0 0) (.slice none 0 0) (.slice none 0 0) (.bool false) (.bool false) (.int .i64 0) 31
    rw [World.size_alloc, World.size_alloc] at h9
    exact ⟨by omega, (((Below.refl _ w).alloc (Nat.le_refl _) _).alloc (by simp) _).alloc (by simp; omega) _, ((row_six w _ _ _ _ _ _ 31).alloc _).alloc _, h9⟩
  have hP := (row_five (w.alloc (.cells #[.slice dx D.dev.n dc, .slice qx D.dev.q qc, .slice bx D.dev.m bc, .bool D.dev.dead, .bool D.dev.armed, .int .i64 D.dev.left] 31)) (.int .i64 A.kind) (.int .i64 A.at') (.int .i64 A.many) (.slice ax A.n ac) (.slice kx A.k kc) 51).alloc (.cells #[.slice none 0 0, .slice none 0 0, .slice none 0 0, .bool false, .bool false, .int .i64 0] 31)
  rw [World.size_alloc] at hP
  obtain ⟨a0, a1, a2, a3, a4⟩ := cells5 hP
  have HD := Lib.hid (h.all hI.below)
  have HA := Lib.hid (hA.all hI.below)
  have HI := Lib.hid hI
  have Hok := Lib.hid hok
  have HB := Lib.hid (show B ≤ w.heap.size from hB)
  clear h hI hP hok hA
  unfold devV deedV
  go_enter Try.func29, Try.ntmps29
  go_upto_region 3 with fail
  generalize ((w.alloc (.cells #[.slice dx D.dev.n dc, .slice qx D.dev.q qc, .slice bx D.dev.m bc, .bool D.dev.dead, .bool D.dev.armed, .int .i64 D.dev.left] 31)).alloc (.cells #[.int .i64 A.kind, .int .i64 A.at', .int .i64 A.many, .slice ax A.n ac, .slice kx A.k kc] 51)).alloc (.cells #[.slice none 0 0, .slice none 0 0, .slice none 0 0, .bool false, .bool false, .int .i64 0] 31) = W at *
  have hBW : B ≤ W.heap.size := by have := HI.out.below.size; omega
  have hload := HI.out.load
  have hcase : A.kind = 0 ∨ A.kind = 1 ∨ A.kind = 2 ∨ A.kind = 3 ∨ A.kind = 4 ∨ A.kind = 5 ∨ A.kind = 6 ∨ A.kind = 7 ∨ (A.kind < 0 ∨ 7 < A.kind) := by omega
  rcases hcase with hc | hc | hc | hc | hc | hc | hc | hc | hc
  · have hk : A.kind = 0 := hc
    have hm := RefRead_any A.at' A.many W HD.out Hok.out
    rw [hk] at a0
    have Hk := Lib.hid hk
    clear hc hk
    go_wp2_with fail
    refine hm.mono ?_
    rintro e w2 hr
    obtain ⟨v, c, n, f, rfl, hdo, hbv, hb⟩ := m_read Hk.out hr
    have HI2 := Lib.hid (HI.out.all hb)
    have HD2 := Lib.hid (HD.out.all hb)
    have Hdo := Lib.hid hdo
    have Hbv := Lib.hid hbv
    clear hload hr hb hdo hbv hm a0 a1 a2 a3 a4
    have HZ := Lib.hid (HI2.out.fin HB.out (x0 := .slice dx D.dev.n dc) (x1 := .slice qx D.dev.q qc) (x2 := .slice bx D.dev.m bc) (x3 := .bool D.dev.dead) (x4 := .bool D.dev.armed) (x5 := .int .i64 D.dev.left) (six_one rfl rfl rfl rfl rfl rfl))
    have hs := HZ.out.store
    have hload := HI2.out.load
    have hld := HZ.out.load
    go_wp2_with fail
    have hfin : ModelP B D A w (.returned (.tuple #[.agg #[.slice dx D.dev.n dc, .slice qx D.dev.q qc, .slice bx D.dev.m bc, .bool D.dev.dead, .bool D.dev.armed, .int .i64 D.dev.left], v, .int .i64 c])) _ := ⟨D, c, n, f, v, _, _, _, rfl, Hdo.out, Hbv.out.keep HZ.out.keeps, HD2.out.keepD HZ.out.keeps, HZ.out.below⟩
    refine bodyPost_ret (v := .tuple #[.agg #[.slice dx D.dev.n dc, .slice qx D.dev.q qc, .slice bx D.dev.m bc, .bool D.dev.dead, .bool D.dev.armed, .int .i64 D.dev.left], v, .int .i64 c]) (by simp [results, Try.results29, asAddr, hld]) rfl ?_
    exact hfin
  · have hk : A.kind = 1 := hc
    have hm := RefWrite_any A.at' W HD.out Hok.out HA.out.bytes hBW
    rw [hk] at a0
    have Hk := Lib.hid hk
    clear hc hk
    go_wp2_with fail
    refine hm.mono ?_
    rintro e w2 hr
    obtain ⟨D2, c, dv2, qv2, bv2, rfl, hdo, hd, hb⟩ := m_write Hk.out hr
    obtain ⟨d2, dc2, rfl, -⟩ := hd.data.slice
    obtain ⟨q2, qc2, rfl, -⟩ := hd.queue.slice
    obtain ⟨b2, bc2, rfl, -⟩ := hd.bad.slice
    have HI2 := Lib.hid (HI.out.all hb)
    have HD2 := Lib.hid hd
    have Hdo := Lib.hid hdo
    clear hload hr hb hdo hd hm a0 a1 a2 a3 a4
    have hs0 := storeC_six HI2.out.box (six_one (a := .slice d2 D2.dev.n dc2) (b := .slice q2 D2.dev.q qc2) (c := .slice b2 D2.dev.m bc2) (d := .bool D2.dev.dead) (e := .bool D2.dev.armed) (f := .int .i64 D2.dev.left) rfl rfl rfl rfl rfl rfl)
    have hput := HI2.out.put HB.out (.slice d2 D2.dev.n dc2) (.slice q2 D2.dev.q qc2) (.slice b2 D2.dev.m bc2) (.bool D2.dev.dead) (.bool D2.dev.armed) (.int .i64 D2.dev.left)
    have HI3 := Lib.hid hput.1
    have HD3 := Lib.hid (HD2.out.keepD hput.2)
    clear hput
    unfold devV
    go_upto_region 20 with fail
    clear hs0
    generalize w2.setCells w.heap.size 0 [.slice d2 D2.dev.n dc2, .slice q2 D2.dev.q qc2, .slice b2 D2.dev.m bc2, .bool D2.dev.dead, .bool D2.dev.armed, .int .i64 D2.dev.left] = w3 at *
    have HZ := Lib.hid (HI3.out.fin HB.out (x0 := .slice d2 D2.dev.n dc2) (x1 := .slice q2 D2.dev.q qc2) (x2 := .slice b2 D2.dev.m bc2) (x3 := .bool D2.dev.dead) (x4 := .bool D2.dev.armed) (x5 := .int .i64 D2.dev.left) (six_one rfl rfl rfl rfl rfl rfl))
    have hs := HZ.out.store
    have hload := HI3.out.load
    have hld := HZ.out.load
    go_wp2_with fail
    have hfin : ModelP B D A w (.returned (.tuple #[.agg #[.slice d2 D2.dev.n dc2, .slice q2 D2.dev.q qc2, .slice b2 D2.dev.m bc2, .bool D2.dev.dead, .bool D2.dev.armed, .int .i64 D2.dev.left], .slice none 0 0, .int .i64 c])) _ := ⟨D2, c, 0, (fun _ => 0), .slice none 0 0, _, _, _, rfl, Hdo.out, barg_nil B _, HD3.out.keepD HZ.out.keeps, HZ.out.below⟩
    refine bodyPost_ret (v := .tuple #[.agg #[.slice d2 D2.dev.n dc2, .slice q2 D2.dev.q qc2, .slice b2 D2.dev.m bc2, .bool D2.dev.dead, .bool D2.dev.armed, .int .i64 D2.dev.left], .slice none 0 0, .int .i64 c]) (by simp [results, Try.results29, asAddr, hld]) rfl ?_
    exact hfin
  · have hk : A.kind = 2 := hc
    have hm := RefSync_any W HD.out Hok.out hBW
    rw [hk] at a0
    have Hk := Lib.hid hk
    clear hc hk
    go_wp2_with fail
    refine hm.mono ?_
    rintro e w2 hr
    obtain ⟨D2, c, dv2, qv2, bv2, rfl, hdo, hd, hb⟩ := m_sync (A := A) Hk.out hr
    obtain ⟨d2, dc2, rfl, -⟩ := hd.data.slice
    obtain ⟨q2, qc2, rfl, -⟩ := hd.queue.slice
    obtain ⟨b2, bc2, rfl, -⟩ := hd.bad.slice
    have HI2 := Lib.hid (HI.out.all hb)
    have HD2 := Lib.hid hd
    have Hdo := Lib.hid hdo
    clear hload hr hb hdo hd hm a0 a1 a2 a3 a4
    have hs0 := storeC_six HI2.out.box (six_one (a := .slice d2 D2.dev.n dc2) (b := .slice q2 D2.dev.q qc2) (c := .slice b2 D2.dev.m bc2) (d := .bool D2.dev.dead) (e := .bool D2.dev.armed) (f := .int .i64 D2.dev.left) rfl rfl rfl rfl rfl rfl)
    have hput := HI2.out.put HB.out (.slice d2 D2.dev.n dc2) (.slice q2 D2.dev.q qc2) (.slice b2 D2.dev.m bc2) (.bool D2.dev.dead) (.bool D2.dev.armed) (.int .i64 D2.dev.left)
    have HI3 := Lib.hid hput.1
    have HD3 := Lib.hid (HD2.out.keepD hput.2)
    clear hput
    unfold devV
    go_upto_region 20 with fail
    clear hs0
    generalize w2.setCells w.heap.size 0 [.slice d2 D2.dev.n dc2, .slice q2 D2.dev.q qc2, .slice b2 D2.dev.m bc2, .bool D2.dev.dead, .bool D2.dev.armed, .int .i64 D2.dev.left] = w3 at *
    have HZ := Lib.hid (HI3.out.fin HB.out (x0 := .slice d2 D2.dev.n dc2) (x1 := .slice q2 D2.dev.q qc2) (x2 := .slice b2 D2.dev.m bc2) (x3 := .bool D2.dev.dead) (x4 := .bool D2.dev.armed) (x5 := .int .i64 D2.dev.left) (six_one rfl rfl rfl rfl rfl rfl))
    have hs := HZ.out.store
    have hload := HI3.out.load
    have hld := HZ.out.load
    go_wp2_with fail
    have hfin : ModelP B D A w (.returned (.tuple #[.agg #[.slice d2 D2.dev.n dc2, .slice q2 D2.dev.q qc2, .slice b2 D2.dev.m bc2, .bool D2.dev.dead, .bool D2.dev.armed, .int .i64 D2.dev.left], .slice none 0 0, .int .i64 c])) _ := ⟨D2, c, 0, (fun _ => 0), .slice none 0 0, _, _, _, rfl, Hdo.out, barg_nil B _, HD3.out.keepD HZ.out.keeps, HZ.out.below⟩
    refine bodyPost_ret (v := .tuple #[.agg #[.slice d2 D2.dev.n dc2, .slice q2 D2.dev.q qc2, .slice b2 D2.dev.m bc2, .bool D2.dev.dead, .bool D2.dev.armed, .int .i64 D2.dev.left], .slice none 0 0, .int .i64 c]) (by simp [results, Try.results29, asAddr, hld]) rfl ?_
    exact hfin
  · have hk : A.kind = 3 := hc
    have hm := RefCrash_any W HD.out Hok.out HA.out.keep hn hBW
    rw [hk] at a0
    have Hk := Lib.hid hk
    clear hc hk
    go_wp2_with fail
    refine hm.mono ?_
    rintro e w2 hr
    obtain ⟨D2, c, dv2, qv2, bv2, rfl, hdo, hd, hb⟩ := m_crash Hk.out hr
    obtain ⟨d2, dc2, rfl, -⟩ := hd.data.slice
    obtain ⟨q2, qc2, rfl, -⟩ := hd.queue.slice
    obtain ⟨b2, bc2, rfl, -⟩ := hd.bad.slice
    have HI2 := Lib.hid (HI.out.all hb)
    have HD2 := Lib.hid hd
    have Hdo := Lib.hid hdo
    clear hload hr hb hdo hd hm a0 a1 a2 a3 a4
    have hs0 := storeC_six HI2.out.box (six_one (a := .slice d2 D2.dev.n dc2) (b := .slice q2 D2.dev.q qc2) (c := .slice b2 D2.dev.m bc2) (d := .bool D2.dev.dead) (e := .bool D2.dev.armed) (f := .int .i64 D2.dev.left) rfl rfl rfl rfl rfl rfl)
    have hput := HI2.out.put HB.out (.slice d2 D2.dev.n dc2) (.slice q2 D2.dev.q qc2) (.slice b2 D2.dev.m bc2) (.bool D2.dev.dead) (.bool D2.dev.armed) (.int .i64 D2.dev.left)
    have HI3 := Lib.hid hput.1
    have HD3 := Lib.hid (HD2.out.keepD hput.2)
    clear hput
    unfold devV
    go_upto_region 20 with fail
    clear hs0
    generalize w2.setCells w.heap.size 0 [.slice d2 D2.dev.n dc2, .slice q2 D2.dev.q qc2, .slice b2 D2.dev.m bc2, .bool D2.dev.dead, .bool D2.dev.armed, .int .i64 D2.dev.left] = w3 at *
    have HZ := Lib.hid (HI3.out.fin HB.out (x0 := .slice d2 D2.dev.n dc2) (x1 := .slice q2 D2.dev.q qc2) (x2 := .slice b2 D2.dev.m bc2) (x3 := .bool D2.dev.dead) (x4 := .bool D2.dev.armed) (x5 := .int .i64 D2.dev.left) (six_one rfl rfl rfl rfl rfl rfl))
    have hs := HZ.out.store
    have hload := HI3.out.load
    have hld := HZ.out.load
    go_wp2_with fail
    have hfin : ModelP B D A w (.returned (.tuple #[.agg #[.slice d2 D2.dev.n dc2, .slice q2 D2.dev.q qc2, .slice b2 D2.dev.m bc2, .bool D2.dev.dead, .bool D2.dev.armed, .int .i64 D2.dev.left], .slice none 0 0, .int .i64 c])) _ := ⟨D2, c, 0, (fun _ => 0), .slice none 0 0, _, _, _, rfl, Hdo.out, barg_nil B _, HD3.out.keepD HZ.out.keeps, HZ.out.below⟩
    refine bodyPost_ret (v := .tuple #[.agg #[.slice d2 D2.dev.n dc2, .slice q2 D2.dev.q qc2, .slice b2 D2.dev.m bc2, .bool D2.dev.dead, .bool D2.dev.armed, .int .i64 D2.dev.left], .slice none 0 0, .int .i64 c]) (by simp [results, Try.results29, asAddr, hld]) rfl ?_
    exact hfin
  · have hk : A.kind = 4 := hc
    have hm := RefSpoil_any A.at' W HD.out Hok.out hBW
    rw [hk] at a0
    have Hk := Lib.hid hk
    clear hc hk
    go_wp2_with fail
    refine hm.mono ?_
    rintro e w2 hr
    obtain ⟨D2, c, dv2, qv2, bv2, rfl, hdo, hd, hb⟩ := m_spoil Hk.out hr
    obtain ⟨d2, dc2, rfl, -⟩ := hd.data.slice
    obtain ⟨q2, qc2, rfl, -⟩ := hd.queue.slice
    obtain ⟨b2, bc2, rfl, -⟩ := hd.bad.slice
    have HI2 := Lib.hid (HI.out.all hb)
    have HD2 := Lib.hid hd
    have Hdo := Lib.hid hdo
    clear hload hr hb hdo hd hm a0 a1 a2 a3 a4
    have hs0 := storeC_six HI2.out.box (six_one (a := .slice d2 D2.dev.n dc2) (b := .slice q2 D2.dev.q qc2) (c := .slice b2 D2.dev.m bc2) (d := .bool D2.dev.dead) (e := .bool D2.dev.armed) (f := .int .i64 D2.dev.left) rfl rfl rfl rfl rfl rfl)
    have hput := HI2.out.put HB.out (.slice d2 D2.dev.n dc2) (.slice q2 D2.dev.q qc2) (.slice b2 D2.dev.m bc2) (.bool D2.dev.dead) (.bool D2.dev.armed) (.int .i64 D2.dev.left)
    have HI3 := Lib.hid hput.1
    have HD3 := Lib.hid (HD2.out.keepD hput.2)
    clear hput
    unfold devV
    go_upto_region 20 with fail
    clear hs0
    generalize w2.setCells w.heap.size 0 [.slice d2 D2.dev.n dc2, .slice q2 D2.dev.q qc2, .slice b2 D2.dev.m bc2, .bool D2.dev.dead, .bool D2.dev.armed, .int .i64 D2.dev.left] = w3 at *
    have HZ := Lib.hid (HI3.out.fin HB.out (x0 := .slice d2 D2.dev.n dc2) (x1 := .slice q2 D2.dev.q qc2) (x2 := .slice b2 D2.dev.m bc2) (x3 := .bool D2.dev.dead) (x4 := .bool D2.dev.armed) (x5 := .int .i64 D2.dev.left) (six_one rfl rfl rfl rfl rfl rfl))
    have hs := HZ.out.store
    have hload := HI3.out.load
    have hld := HZ.out.load
    go_wp2_with fail
    have hfin : ModelP B D A w (.returned (.tuple #[.agg #[.slice d2 D2.dev.n dc2, .slice q2 D2.dev.q qc2, .slice b2 D2.dev.m bc2, .bool D2.dev.dead, .bool D2.dev.armed, .int .i64 D2.dev.left], .slice none 0 0, .int .i64 c])) _ := ⟨D2, c, 0, (fun _ => 0), .slice none 0 0, _, _, _, rfl, Hdo.out, barg_nil B _, HD3.out.keepD HZ.out.keeps, HZ.out.below⟩
    refine bodyPost_ret (v := .tuple #[.agg #[.slice d2 D2.dev.n dc2, .slice q2 D2.dev.q qc2, .slice b2 D2.dev.m bc2, .bool D2.dev.dead, .bool D2.dev.armed, .int .i64 D2.dev.left], .slice none 0 0, .int .i64 c]) (by simp [results, Try.results29, asAddr, hld]) rfl ?_
    exact hfin
  · have hk : A.kind = 5 := hc
    have hm := RefDie_any W HD.out hBW
    rw [hk] at a0
    have Hk := Lib.hid hk
    clear hc hk
    go_wp2_with fail
    refine hm.mono ?_
    rintro e w2 hr
    obtain ⟨D2, dv2, qv2, bv2, rfl, hdo, hd, hb⟩ := m_die (A := A) Hk.out hr
    obtain ⟨d2, dc2, rfl, -⟩ := hd.data.slice
    obtain ⟨q2, qc2, rfl, -⟩ := hd.queue.slice
    obtain ⟨b2, bc2, rfl, -⟩ := hd.bad.slice
    have HI2 := Lib.hid (HI.out.all hb)
    have HD2 := Lib.hid hd
    have Hdo := Lib.hid hdo
    clear hload hr hb hdo hd hm a0 a1 a2 a3 a4
    have hs0 := storeC_six HI2.out.box (six_one (a := .slice d2 D2.dev.n dc2) (b := .slice q2 D2.dev.q qc2) (c := .slice b2 D2.dev.m bc2) (d := .bool D2.dev.dead) (e := .bool D2.dev.armed) (f := .int .i64 D2.dev.left) rfl rfl rfl rfl rfl rfl)
    have hput := HI2.out.put HB.out (.slice d2 D2.dev.n dc2) (.slice q2 D2.dev.q qc2) (.slice b2 D2.dev.m bc2) (.bool D2.dev.dead) (.bool D2.dev.armed) (.int .i64 D2.dev.left)
    have HI3 := Lib.hid hput.1
    have HD3 := Lib.hid (HD2.out.keepD hput.2)
    clear hput
    unfold devV
    go_upto_region 20 with fail
    clear hs0
    generalize w2.setCells w.heap.size 0 [.slice d2 D2.dev.n dc2, .slice q2 D2.dev.q qc2, .slice b2 D2.dev.m bc2, .bool D2.dev.dead, .bool D2.dev.armed, .int .i64 D2.dev.left] = w3 at *
    have HZ := Lib.hid (HI3.out.fin HB.out (x0 := .slice d2 D2.dev.n dc2) (x1 := .slice q2 D2.dev.q qc2) (x2 := .slice b2 D2.dev.m bc2) (x3 := .bool D2.dev.dead) (x4 := .bool D2.dev.armed) (x5 := .int .i64 D2.dev.left) (six_one rfl rfl rfl rfl rfl rfl))
    have hs := HZ.out.store
    have hload := HI3.out.load
    have hld := HZ.out.load
    go_wp2_with fail
    have hfin : ModelP B D A w (.returned (.tuple #[.agg #[.slice d2 D2.dev.n dc2, .slice q2 D2.dev.q qc2, .slice b2 D2.dev.m bc2, .bool D2.dev.dead, .bool D2.dev.armed, .int .i64 D2.dev.left], .slice none 0 0, .int .i64 0])) _ := ⟨D2, 0, 0, (fun _ => 0), .slice none 0 0, _, _, _, rfl, Hdo.out, barg_nil B _, HD3.out.keepD HZ.out.keeps, HZ.out.below⟩
    refine bodyPost_ret (v := .tuple #[.agg #[.slice d2 D2.dev.n dc2, .slice q2 D2.dev.q qc2, .slice b2 D2.dev.m bc2, .bool D2.dev.dead, .bool D2.dev.armed, .int .i64 D2.dev.left], .slice none 0 0, .int .i64 0]) (by simp [results, Try.results29, asAddr, hld]) rfl ?_
    exact hfin
  · have hk : A.kind = 6 := hc
    have hm := RefReplace_any W HD.out Hok.out hBW
    rw [hk] at a0
    have Hk := Lib.hid hk
    clear hc hk
    go_wp2_with fail
    refine hm.mono ?_
    rintro e w2 hr
    obtain ⟨D2, dv2, qv2, bv2, rfl, hdo, hd, hb⟩ := m_replace (A := A) Hk.out hr
    obtain ⟨d2, dc2, rfl, -⟩ := hd.data.slice
    obtain ⟨q2, qc2, rfl, -⟩ := hd.queue.slice
    obtain ⟨b2, bc2, rfl, -⟩ := hd.bad.slice
    have HI2 := Lib.hid (HI.out.all hb)
    have HD2 := Lib.hid hd
    have Hdo := Lib.hid hdo
    clear hload hr hb hdo hd hm a0 a1 a2 a3 a4
    have hs0 := storeC_six HI2.out.box (six_one (a := .slice d2 D2.dev.n dc2) (b := .slice q2 D2.dev.q qc2) (c := .slice b2 D2.dev.m bc2) (d := .bool D2.dev.dead) (e := .bool D2.dev.armed) (f := .int .i64 D2.dev.left) rfl rfl rfl rfl rfl rfl)
    have hput := HI2.out.put HB.out (.slice d2 D2.dev.n dc2) (.slice q2 D2.dev.q qc2) (.slice b2 D2.dev.m bc2) (.bool D2.dev.dead) (.bool D2.dev.armed) (.int .i64 D2.dev.left)
    have HI3 := Lib.hid hput.1
    have HD3 := Lib.hid (HD2.out.keepD hput.2)
    clear hput
    unfold devV
    go_upto_region 20 with fail
    clear hs0
    generalize w2.setCells w.heap.size 0 [.slice d2 D2.dev.n dc2, .slice q2 D2.dev.q qc2, .slice b2 D2.dev.m bc2, .bool D2.dev.dead, .bool D2.dev.armed, .int .i64 D2.dev.left] = w3 at *
    have HZ := Lib.hid (HI3.out.fin HB.out (x0 := .slice d2 D2.dev.n dc2) (x1 := .slice q2 D2.dev.q qc2) (x2 := .slice b2 D2.dev.m bc2) (x3 := .bool D2.dev.dead) (x4 := .bool D2.dev.armed) (x5 := .int .i64 D2.dev.left) (six_one rfl rfl rfl rfl rfl rfl))
    have hs := HZ.out.store
    have hload := HI3.out.load
    have hld := HZ.out.load
    go_wp2_with fail
    have hfin : ModelP B D A w (.returned (.tuple #[.agg #[.slice d2 D2.dev.n dc2, .slice q2 D2.dev.q qc2, .slice b2 D2.dev.m bc2, .bool D2.dev.dead, .bool D2.dev.armed, .int .i64 D2.dev.left], .slice none 0 0, .int .i64 0])) _ := ⟨D2, 0, 0, (fun _ => 0), .slice none 0 0, _, _, _, rfl, Hdo.out, barg_nil B _, HD3.out.keepD HZ.out.keeps, HZ.out.below⟩
    refine bodyPost_ret (v := .tuple #[.agg #[.slice d2 D2.dev.n dc2, .slice q2 D2.dev.q qc2, .slice b2 D2.dev.m bc2, .bool D2.dev.dead, .bool D2.dev.armed, .int .i64 D2.dev.left], .slice none 0 0, .int .i64 0]) (by simp [results, Try.results29, asAddr, hld]) rfl ?_
    exact hfin
  · have hk : A.kind = 7 := hc
    have hm := RefStop_any A.at' W HD.out hBW HA.out.at'
    rw [hk] at a0
    have Hk := Lib.hid hk
    clear hc hk
    go_wp2_with fail
    refine hm.mono ?_
    rintro e w2 hr
    obtain ⟨D2, c, dv2, qv2, bv2, rfl, hdo, hd, hb⟩ := m_stop Hk.out hr
    obtain ⟨d2, dc2, rfl, -⟩ := hd.data.slice
    obtain ⟨q2, qc2, rfl, -⟩ := hd.queue.slice
    obtain ⟨b2, bc2, rfl, -⟩ := hd.bad.slice
    have HI2 := Lib.hid (HI.out.all hb)
    have HD2 := Lib.hid hd
    have Hdo := Lib.hid hdo
    clear hload hr hb hdo hd hm a0 a1 a2 a3 a4
    have hs0 := storeC_six HI2.out.box (six_one (a := .slice d2 D2.dev.n dc2) (b := .slice q2 D2.dev.q qc2) (c := .slice b2 D2.dev.m bc2) (d := .bool D2.dev.dead) (e := .bool D2.dev.armed) (f := .int .i64 D2.dev.left) rfl rfl rfl rfl rfl rfl)
    have hput := HI2.out.put HB.out (.slice d2 D2.dev.n dc2) (.slice q2 D2.dev.q qc2) (.slice b2 D2.dev.m bc2) (.bool D2.dev.dead) (.bool D2.dev.armed) (.int .i64 D2.dev.left)
    have HI3 := Lib.hid hput.1
    have HD3 := Lib.hid (HD2.out.keepD hput.2)
    clear hput
    unfold devV
    go_upto_region 20 with fail
    clear hs0
    generalize w2.setCells w.heap.size 0 [.slice d2 D2.dev.n dc2, .slice q2 D2.dev.q qc2, .slice b2 D2.dev.m bc2, .bool D2.dev.dead, .bool D2.dev.armed, .int .i64 D2.dev.left] = w3 at *
    have HZ := Lib.hid (HI3.out.fin HB.out (x0 := .slice d2 D2.dev.n dc2) (x1 := .slice q2 D2.dev.q qc2) (x2 := .slice b2 D2.dev.m bc2) (x3 := .bool D2.dev.dead) (x4 := .bool D2.dev.armed) (x5 := .int .i64 D2.dev.left) (six_one rfl rfl rfl rfl rfl rfl))
    have hs := HZ.out.store
    have hload := HI3.out.load
    have hld := HZ.out.load
    go_wp2_with fail
    have hfin : ModelP B D A w (.returned (.tuple #[.agg #[.slice d2 D2.dev.n dc2, .slice q2 D2.dev.q qc2, .slice b2 D2.dev.m bc2, .bool D2.dev.dead, .bool D2.dev.armed, .int .i64 D2.dev.left], .slice none 0 0, .int .i64 c])) _ := ⟨D2, c, 0, (fun _ => 0), .slice none 0 0, _, _, _, rfl, Hdo.out, barg_nil B _, HD3.out.keepD HZ.out.keeps, HZ.out.below⟩
    refine bodyPost_ret (v := .tuple #[.agg #[.slice d2 D2.dev.n dc2, .slice q2 D2.dev.q qc2, .slice b2 D2.dev.m bc2, .bool D2.dev.dead, .bool D2.dev.armed, .int .i64 D2.dev.left], .slice none 0 0, .int .i64 c]) (by simp [results, Try.results29, asAddr, hld]) rfl ?_
    exact hfin
  · have k0 : (A.kind == 0) = false := beq_eq_false_iff_ne.2 (by omega)
    have k1 : (A.kind == 1) = false := beq_eq_false_iff_ne.2 (by omega)
    have k2 : (A.kind == 2) = false := beq_eq_false_iff_ne.2 (by omega)
    have k3 : (A.kind == 3) = false := beq_eq_false_iff_ne.2 (by omega)
    have k4 : (A.kind == 4) = false := beq_eq_false_iff_ne.2 (by omega)
    have k5 : (A.kind == 5) = false := beq_eq_false_iff_ne.2 (by omega)
    have k6 : (A.kind == 6) = false := beq_eq_false_iff_ne.2 (by omega)
    have k7 : (A.kind == 7) = false := beq_eq_false_iff_ne.2 (by omega)
    have Hc := Lib.hid hc
    clear hc hload
    have HZ := Lib.hid (HI.out.fin HB.out (x0 := .slice dx D.dev.n dc) (x1 := .slice qx D.dev.q qc) (x2 := .slice bx D.dev.m bc) (x3 := .bool D.dev.dead) (x4 := .bool D.dev.armed) (x5 := .int .i64 D.dev.left) (six_one rfl rfl rfl rfl rfl rfl))
    have hs := HZ.out.store
    have hload := HI.out.load
    have hld := HZ.out.load
    go_wp2_with fail
    have hfin : ModelP B D A w (.returned (.tuple #[.agg #[.slice dx D.dev.n dc, .slice qx D.dev.q qc, .slice bx D.dev.m bc, .bool D.dev.dead, .bool D.dev.armed, .int .i64 D.dev.left], .slice none 0 0, .int .i64 0])) _ := ⟨D, 0, 0, (fun _ => 0), .slice none 0 0, _, _, _, rfl, (.inr (.inr (.inr (.inr (.inr (.inr (.inr (.inr ⟨Hc.out, rfl, rfl, rfl⟩)))))))), barg_nil B _, HD.out.keepD HZ.out.keeps, HZ.out.below⟩
    refine bodyPost_ret (v := .tuple #[.agg #[.slice dx D.dev.n dc, .slice qx D.dev.q qc, .slice bx D.dev.m bc, .bool D.dev.dead, .bool D.dev.armed, .int .i64 D.dev.left], .slice none 0 0, .int .i64 0]) (by simp [results, Try.results29, asAddr, hld]) rfl ?_
    exact hfin

end Go.Proofs.Ytjhcaedfknhilaa
