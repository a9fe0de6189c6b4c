/- Disk: Read. -/
import Derived.Test.YtjhcaedfknhilaaDiskT
namespace Go.Proofs.Ytjhcaedfknhilaa
open Go.RowKit
attribute [local go_sem ↓] Go.wp_at_zero Go.wp_at_succ
attribute [-go_sem] loadCellsFrom storeCells
attribute [local go_sem] storeCells_one

theorem info_u8d : (Try.prog.info? 5).map (fun i => (i.zero, i.size, i.bytes)) = some (some (.int .u8 0), 1, 1) := by kernel_rfl
theorem one_sec (f : Nat → Int) : ((secL f).toArray).all (·.oneCell') = true := all_oneCell_toArray fun v hv => by
  obtain ⟨j, _, rfl⟩ := List.mem_map.1 hv
  rfl
/-- A sector stored into a box that was made last. -/
theorem storeC_secZ (w : World) (f : Nat → Int) :
    (storeCells ⟨w.heap.size, 0, none⟩ (secL f) 0).run Try.prog (w.alloc (.cells #[.int .u8 0, .int .u8 0, .int .u8 0, .int .u8 0, .int .u8 0, .int .u8 0, .int .u8 0, .int .u8 0, .int .u8 0, .int .u8 0, .int .u8 0, .int .u8 0, .int .u8 0, .int .u8 0, .int .u8 0, .int .u8 0, .int .u8 0, .int .u8 0, .int .u8 0, .int .u8 0, .int .u8 0, .int .u8 0, .int .u8 0, .int .u8 0, .int .u8 0, .int .u8 0, .int .u8 0, .int .u8 0, .int .u8 0, .int .u8 0, .int .u8 0, .int .u8 0, .int .u8 0, .int .u8 0, .int .u8 0, .int .u8 0, .int .u8 0, .int .u8 0, .int .u8 0, .int .u8 0, .int .u8 0, .int .u8 0, .int .u8 0, .int .u8 0, .int .u8 0, .int .u8 0, .int .u8 0, .int .u8 0, .int .u8 0, .int .u8 0, .int .u8 0, .int .u8 0, .int .u8 0, .int .u8 0, .int .u8 0, .int .u8 0, .int .u8 0, .int .u8 0, .int .u8 0, .int .u8 0, .int .u8 0, .int .u8 0, .int .u8 0, .int .u8 0] 79)) = .ok () (w.alloc (.cells (secL f).toArray 79)) := by
  rw [zlit]
  have := run_storeCells_new (P := Try.prog) w 79 (Array.replicate 64 (.int .u8 0)) (secL f).toArray (by rw [List.size_toArray, secL_len]; exact size_sec) (by simp [secL_len]) (one_sec f)
  simpa using this
theorem box_sec (w : World) (f : Nat → Int) : RowAt (w.alloc (.cells (secL f).toArray 79)) w.heap.size 79 64 64 (fun i => .int .u8 (f i)) :=
  row_of w _ _ _ (by simp [secL_len]) (fun i hi => by rw [List.getElem?_toArray]; exact secL_get f hi) rfl

def Dsk.hasF (D : Dsk) (j : Nat) : Nat → Int := (D.has j).getD (fun _ => 0)
/-- The bytes that Read returns. -/
def readV (D : Dsk) (a : Nat) (k : Nat) : Value := .int .u8 (D.hasF (a + k / 64) (k % 64))
def readOk (D : Dsk) (a m : Nat) : Prop := ∀ i, i < m → ∃ f, D.has (a + i) = some f

theorem Own.slice {w : World} {B : Nat} {e : TypeId} {v : Value} {n : Nat} {f : Nat → Value} (h : Own w B e v n f) : ∃ a cap, v = .slice a n cap := by
  rcases h with ⟨rfl, rfl⟩ | ⟨g, cap, rfl, _⟩
  · exact ⟨_, _, rfl⟩
  · exact ⟨_, _, rfl⟩
/-- What a round of Read finds. -/
structure ReadI (w : World) (D : Dsk) (a i : Nat) (v : Value) (wr : World) : Prop where
  ok : readOk D a i
  below : Below w.heap.size w wr
  box : RowAt wr w.heap.size 27 1 1 (fun _ => v)
  err : RowAt wr (w.heap.size + 1) 23 1 1 (fun _ => .int .i64 0)
  own : Own wr (w.heap.size + 2) 5 v (i * 64) (readV D a)

theorem ReadI.next {w wr w2 w3 : World} {D : Dsk} {a i : Nat} {v v' : Value} {f : Nat → Int} (h : ReadI w D a i v wr) (hf : D.has (a + i) = some f) (hb : Below wr.heap.size wr w2)
    (hown : Own w3 (w.heap.size + 2) 5 v' (i * 64 + 64) (fun k => if k < i * 64 then readV D a k else (fun j => Value.int .u8 (f j)) (k - i * 64))) (hg : w2.grownBy w3 v.ownBlock) :
    ReadI w D a (i + 1) v' (w3.setCell ⟨w.heap.size, 0, none⟩ v') := by
  have hrl := h.err.lt
  have ho2 := h.own.all hb
  have hn0 : v.ownBlock ≠ some w.heap.size := h.own.ne (by omega)
  have hn1 : v.ownBlock ≠ some (w.heap.size + 1) := h.own.ne (by omega)
  have hb3 : Below w.heap.size w w3 := (h.below.trans (hb.mono (by omega))).grown hg (by have := hb.size; omega) (fun k hk => by have := (h.own.isCells k hk).1; omega)
  have hbox := (h.box.all hb).grown hg hn0
  have herr := (h.err.all hb).grown hg hn1
  refine ⟨fun k hk => ?_, hb3.setCell (p := ⟨w.heap.size, 0, none⟩) (Nat.le_refl _) _, hbox.set1 v', herr.setOther _ _ (by simp), ?_⟩
  · by_cases hki : k = i
    · subst hki; exact ⟨f, hf⟩
    · exact h.ok k (by omega)
  · rw [show (i + 1) * 64 = i * 64 + 64 from by omega]
    refine (hown.congr fun k hk => ?_).setOther _ _ (by simp)
    by_cases hk2 : k < i * 64
    · rw [if_pos hk2]
    · rw [if_neg hk2]
      unfold readV Dsk.hasF
      rw [show k / 64 = i from by omega, hf, show k % 64 = k - i * 64 from by omega]
      rfl

/-- What Read leaves. -/
def ReadP (B g gs gb : Nat) (qv : Value) (D : Dsk) (a m : Nat) (w : World) (e : Ending) (w' : World) : Prop :=
  (¬ readOk D a m ∧ Read2 B g gs gb qv 7 D w e w') ∨
  (readOk D a m ∧ ∃ v, e = .returned (.tuple #[v, .int .i64 0]) ∧ Own w' w.heap.size 5 v (m * 64) (readV D a) ∧ DiskIn B g gs gb qv D w' ∧ Below w.heap.size w w')

set_option maxRecDepth 8000 in
set_option maxHeartbeats 4000000 in
theorem Read_any {B g gs gb : Nat} {qv : Value} {D : Dsk} (a m : Nat) (w : World) (h : DiskIn B g gs gb qv D w) (ha : a + m ≤ D.n) (hoff : D.off = false) :
    Calls Try.prog 20 #[.pointer (some ⟨g, 0, none⟩), .int .i64 a, .int .i64 m] w (ReadP B g gs gb qv D a m w) := by
  have hsz := h.ok.size
  have hb2 : Below w.heap.size w ((w.alloc (.cells #[.slice none 0 0] 27)).alloc (.cells #[.int .i64 0] 23)) := ((Below.refl _ w).alloc (Nat.le_refl _) _).alloc (by simp) _
  have hI0 : ReadI w D a 0 (.slice none 0 0) ((w.alloc (.cells #[.slice none 0 0] 27)).alloc (.cells #[.int .i64 0] 23)) :=
    ⟨fun i hi => absurd hi (Nat.not_lt_zero i), hb2, (row_new1 w w.heap.size (.slice none 0 0) 27 rfl).alloc _, row_new1 (w.alloc (.cells #[.slice none 0 0] 27)) (w.heap.size + 1) (.int .i64 0) 23 (by simp), .inl ⟨rfl, by omega⟩⟩
  have hW := h.all hb2
  obtain ⟨c0, c1, c2, c3, c4, c5⟩ := hW.cells
  have HI0 := Lib.hid hI0
  have HW := Lib.hid hW
  have Hd := Lib.hid h
  have Hoff := Lib.hid hoff
  clear hI0 hW h hoff hb2
  have h1 : (0 : Int) ≤ a := by omega
  have h2 : (0 : Int) ≤ m := by omega
  have d3 : decide (a ≤ D.n) = true := decide_eq_true (by omega)
  have d4 : decide ((m : Int) ≤ (D.n : Int) - a) = true := decide_eq_true (by omega)
  have hmo : Try.prog.follows .mixedOrders = true := by kernel_rfl
  go_enter_defers Try.func20, Try.ntmps20
  go_wp2_with fail
  refine (want_ok 23 _).mono ?_
  rintro e w1 ⟨rfl, rfl⟩
  go_wp2_with fail
  refine (want_ok 1 _).mono ?_
  rintro e w1 ⟨rfl, rfl⟩
  go_wp2_with fail
  refine (ready_ok _ HW.out Hoff.out).mono ?_
  rintro e w1 ⟨rfl, rfl⟩
  clear c0 c1 c2 c3 c4 c5
  generalize (w.alloc (.cells #[.slice none 0 0] 27)).alloc (.cells #[.int .i64 0] 23) = W at *
  go_wp2_with fail
  go_loopw [45] (fun t wr => ∃ i : Nat, i ≤ m ∧ t = .int .i64 i ∧ ∃ v, ReadI w D a i v wr) (fun t _ => m - (intOf t).toNat)
  case atStart => exact ⟨0, by omega, by go_num, _, HI0.out⟩
  case round =>
    obtain ⟨i, hi, rfl, v, hI⟩ := hrel
    have HI := Lib.hid hI; clear hI
    have hDr := Hd.out.all HI.out.below
    have HDr := Lib.hid hDr; clear hDr
    by_cases hlt2 : i < m
    · have hdlt : decide ((i : Int) < m) = true := decide_eq_true (by omega)
      go_wp2_with fail
      have hsum : (a : Int) + i = ((a + i : Nat) : Int) := by omega
      rw [hsum]
      clear hsum
      refine (has_any (a + i) wr HDr.out (by omega)).mono ?_
      rintro e w2 ⟨hb, (⟨f, hf, rfl⟩ | ⟨hf, rfl⟩)⟩
      · have Hf := Lib.hid hf
        have Hb := Lib.hid hb
        clear hf hb
        have hs := fun w => storeC_secZ w f
        have hlen := secL_len f
        have hrow := box_sec w2 f
        have hb4 : Below wr.heap.size wr (w2.alloc (.cells (secL f).toArray 79)) := Hb.out.alloc Hb.out.size _
        have Hrow := Lib.hid hrow
        have Hb4 := Lib.hid hb4
        clear hrow hb4
        generalize secL f = cs at *
        go_upto_region 9 with fail
        have hbx := HI.out.box.all Hb4.out
        generalize hV : w2.alloc (.cells cs.toArray 79) = V at *
        clear hV
        have hbx0 := hbx.cell (i := 0) (by omega)
        have hbz0 := hbx.frozen 0
        have hrl := HI.out.err.lt
        go_still_tail 2, hmo
        refine wpList_append_o (w := V.drew) rfl _ _ 27 5 _ _ rfl Try.underlying27 info_u8d rfl (w.heap.size + 2) v (i * 64) (readV D a) rfl (HI.out.own.all Hb4.out.drew) w2.heap.size 0 64 64 (fun k => .int .u8 (f k)) rfl Hrow.out.drew.reads (fun _ _ => rfl) (by omega) (by decide) (by have := Hb4.out.size; show w.heap.size + 2 ≤ V.heap.size; omega) ?_
        intro v' w3 hown' hgr _ _
        have hbx3 := (hbx.drew).grown hgr (HI.out.own.ne (by omega))
        have hbx3c := hbx3.cell (i := 0) (by omega)
        have hbx3z := hbx3.frozen 0
        obtain ⟨av, cv, rfl⟩ := (Own.slice hown')
        have HN := Lib.hid (HI.out.next Hf.out Hb4.out.drew hown' hgr)
        clear hown' hgr hbx hbx0 hbz0 hbx3
        go_wp2
        go_roundw
        case rel => exact ⟨i + 1, by omega, by go_num, _, HN.out⟩
        case measure => simp [intOf]; omega
      · have hbx := HI.out.box.all hb
        have her := HI.out.err.all hb
        have hne : w.heap.size + 1 ≠ w.heap.size := by omega
        have Hcat := Lib.hid (catch_fail_b ⟨w.heap.size, 0, none⟩ ⟨w.heap.size + 1, 0, none⟩ 7 w2 _ _ (hbx.cell (i := 0) (by omega)) (hbx.frozen 0) ((her.setOther ⟨w.heap.size, 0, none⟩ (.slice none 0 0) (by simp)).cell (i := 0) (by omega)) ((her.setOther ⟨w.heap.size, 0, none⟩ (.slice none 0 0) (by simp)).frozen 0))
        have y0 := Lib.hid (((hbx.set1 (.slice none 0 0)).setOther ⟨w.heap.size + 1, 0, none⟩ (.int .i64 7) (by simp)).cell (i := 0) (by omega))
        have y1 := Lib.hid (((her.setOther ⟨w.heap.size, 0, none⟩ (.slice none 0 0) (by simp)).set1 (.int .i64 7)).cell (i := 0) (by omega))
        have Hno := Lib.hid (show ¬ readOk D a m from fun hr => by
          obtain ⟨f, hf2⟩ := hr i hlt2
          rw [hf] at hf2; cases hf2)
        have hbb : Below w.heap.size w ((w2.setCell ⟨w.heap.size, 0, none⟩ (.slice none 0 0)).setCell ⟨w.heap.size + 1, 0, none⟩ (.int .i64 7)) := ((HI.out.below.trans (hb.mono HI.out.below.size)).setCell (p := ⟨w.heap.size, 0, none⟩) (Nat.le_refl _) _).setCell (p := ⟨w.heap.size + 1, 0, none⟩) (Nat.le_add_right _ _) _
        have Hbb := Lib.hid hbb
        clear hbb hf hbx her hb hne
        go_wp2
        refine leaves_cons (f := 41) (args := #[.pointer (some ⟨w.heap.size, 0, none⟩), .pointer (some ⟨w.heap.size + 1, 0, none⟩)]) (by simp) (by simp [go_sem]) ?_
        refine Hcat.out.mono ?_
        rintro e u' w'' ⟨rfl, rfl, rfl⟩
        simp [Leaves, settle, results, Try.results20, go_sem, y0.out, y1.out, failR]
        exact .inl ⟨Hno.out, rfl, Hd.out.all Hbb.out, Hbb.out⟩
    · obtain rfl : i = m := by omega
      have hdlt : decide ((i : Int) < i) = false := decide_eq_false (by omega)
      have hrl := HI.out.err.lt
      obtain ⟨av, cv, rfl⟩ := (Own.slice HI.out.own)
      have hbx0 := HI.out.box.cell (i := 0) (by omega)
      have hbz0 := HI.out.box.frozen 0
      have her0 := HI.out.err.cell (i := 0) (by omega)
      have hez0 := HI.out.err.frozen 0
      have y0 := Lib.hid (((HI.out.box.set1 (.slice av (i * 64) cv)).setOther ⟨w.heap.size + 1, 0, none⟩ (.int .i64 0) (by simp)).cell (i := 0) (by omega))
      have y1 := Lib.hid (((HI.out.err.setOther ⟨w.heap.size, 0, none⟩ (.slice av (i * 64) cv) (by simp)).set1 (.int .i64 0)).cell (i := 0) (by omega))
      have Hbb := Lib.hid ((HI.out.below.setCell (p := ⟨w.heap.size, 0, none⟩) (Nat.le_refl _) (.slice av (i * 64) cv)).setCell (p := ⟨w.heap.size + 1, 0, none⟩) (Nat.le_add_right _ _) (.int .i64 0))
      have Hown := Lib.hid (((HI.out.own.setOther ⟨w.heap.size, 0, none⟩ (.slice av (i * 64) cv) (by simp)).setOther ⟨w.heap.size + 1, 0, none⟩ (.int .i64 0) (by simp)).mono (B' := w.heap.size) (by omega))
      go_wp2
      refine leaves_cons (f := 41) (args := #[.pointer (some ⟨w.heap.size, 0, none⟩), .pointer (some ⟨w.heap.size + 1, 0, none⟩)]) (by simp) (by simp [go_sem]) ?_
      refine (catch_idle_b _ _ _).mono ?_
      rintro e u' w'' ⟨rfl, rfl, rfl⟩
      simp [Leaves, settle, results, Try.results20, go_sem, y0.out, y1.out]
      exact .inr ⟨HI.out.ok, _, rfl, Hown.out, Hd.out.all Hbb.out, Hbb.out⟩

end Go.Proofs.Ytjhcaedfknhilaa
