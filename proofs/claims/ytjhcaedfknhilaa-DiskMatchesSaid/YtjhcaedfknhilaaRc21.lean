/- The reference: Write. -/
import Derived.Test.YtjhcaedfknhilaaRc20
namespace Go.Proofs.Ytjhcaedfknhilaa
set_option linter.unusedVariables false
set_option linter.unusedSimpArgs false
open Go.RowKit
attribute [local go_sem ↓] Go.wp_at_zero Go.wp_at_succ
attribute [-go_sem] loadCellsFrom storeCells
attribute [local go_sem] storeCells_one

def RefWriteP (B : Nat) (D : Dsk) (p : Int) (n : Nat) (f : Nat → Int) (w : World) (e : Ending) (w' : World) : Prop :=
  ((n % 64 ≠ 0 ∨ ¬ inD D p (n / 64 : Nat)) ∧ RefOut B D 1 w e w') ∨ (n % 64 = 0 ∧ inD D p (n / 64 : Nat) ∧ ((D.off = true ∧ RefOut B D 7 w e w') ∨ (D.off = false ∧ ¬ D.q + n / 64 ≤ 65536 ∧ RefOut B D 5 w e w') ∨
    (D.off = false ∧ D.q + n / 64 ≤ 65536 ∧ RefOut B (D.write p.toNat (n / 64) f) 0 w e w')))
theorem BArg.grownT {B B' k : Nat} {w w' : World} {v u : Value} {n m : Nat} {f : Nat → Int} {e : TypeId} {F : Nat → Value} (h : BArg B w v n f) (ho : OwnK w B' e k u m F) (he : 5 ≠ e) (hB : B ≤ B') (hg : w.grownBy w' u.ownBlock) : BArg B w' v n f := by
  rcases h with ⟨hf, (h | ⟨b, off, cap, h1, h2, h3, h4, h5, h6⟩)⟩
  · exact ⟨hf, .inl h⟩
  · have hne : u.ownBlock ≠ some b := fun e9 => by
      obtain ⟨hb, o, h7, _⟩ := ho.isCells b e9
      rcases h6 with h6 | ⟨cur, fr, h6⟩
      · omega
      · rcases ho with ⟨rfl, _⟩ | ⟨g, c, rfl, q1, ⟨cur2, q3, _⟩, _⟩
        · cases e9
        · cases e9
          rw [q3] at h6
          injection h6 with h6
          injection h6 with _ h8
          exact he h8.symm
    have hblk : ∀ i, i < n → w'.cell? ⟨b, off + i, none⟩ = w.cell? ⟨b, off + i, none⟩ := fun i hi => by
      have h7 := h5 i hi
      have hl := World.block_lt_of_cell? w ⟨b, off + i, none⟩ h7
      exact World.cell?_of_block (a := ⟨b, off + i, none⟩) (hg.block b hl (fun e9 => hne e9.symm))
    refine ⟨hf, .inr ⟨b, off, cap, h1, h2, h3, h4, fun i hi => (hblk i hi).trans (h5 i hi), ?_⟩⟩
    rcases h6 with h6 | ⟨cur, fr, h6⟩
    · exact .inl h6
    · exact .inr ⟨cur, fr, (hg.block b (Array.getElem?_eq_some_iff.1 h6).1 (fun e9 => hne e9.symm)).trans h6⟩
theorem RefI.grown {w W W' : World} {r : Nat} {a b c d e f : Value} (h : RefI w r a b c d e f W) {row : Option Nat} (hg : W.grownBy W' row) (hr : ∀ k, row = some k → w.heap.size + 2 ≤ k) (h1 : r = w.heap.size + 1) : RefI w r a b c d e f W' := by
  have hl := h.box.lt
  exact ⟨h.hr, h.below.grown hg (by omega) (fun k hk => by have := hr k hk; omega), h.box.grown hg (fun e9 => by have := hr _ e9; omega), h.res.grown hg (fun e9 => by have := hr _ e9; omega)⟩
theorem bytes_cap {B : Nat} {W : World} {ex : Option Addr} {n ecap : Nat} {f : Nat → Int} (h : BArg B W (.slice ex n ecap) n f) (hn : 0 < n) : ∃ b off, ex = some ⟨b, off, none⟩ ∧ n ≤ ecap ∧ ecap ≤ maxLen ∧ Cells W b off n (byteF f) := by
  rcases h with ⟨_, (⟨h0, _⟩ | ⟨b, off, cap, hv, _, h2, h3, h4, _⟩)⟩
  · omega
  · injection hv with e1 e2 e3
    subst e1 e3
    exact ⟨b, off, rfl, h2, h3, h4⟩
/-- What a round of Write finds. -/
structure WrI (B : Nat) (D : Dsk) (q A : Nat) (f : Nat → Int) (dv bv : Value) (w : World) (i : Nat) (x : Option Addr) (c : Nat) (bvs : Nat → Value) (wr : World) : Prop where
  hq : D.q = q
  box : RefI w (w.heap.size + 1) dv (.slice x (q + i) c) bv (.bool D.dev.dead) (.bool D.dev.armed) (.int .i64 D.dev.left) wr
  que : OwnK wr (w.heap.size + 2) 62 2 (.slice x (q + i) c) (q + i) (putC (D.wrote A i f).dev.qa bvs)
  byt : ∀ j, j < q + i → BArg B wr (bvs j) 64 ((D.wrote A i f).qb j)
theorem WrI.all {B : Nat} {D : Dsk} {q A : Nat} {f : Nat → Int} {dv bv : Value} {w : World} {i : Nat} {x : Option Addr} {c : Nat} {bvs : Nat → Value} {wr w2 : World} (h : WrI B D q A f dv bv w i x c bvs wr) (hb : Below wr.heap.size wr w2) : WrI B D q A f dv bv w i x c bvs w2 :=
  ⟨h.hq, h.box.all hb, h.que.all hb, fun j hj => (h.byt j hj).all hb⟩
theorem wrote_qa {D : Dsk} {A i j : Nat} {f : Nat → Int} (h : j < D.q + i) : (D.wrote A i f).dev.qa j = if j < D.q then (D.qa j : Int) else ((A + (j - D.q) : Nat) : Int) := by
  show qaF (D.wrote A i f) j = _
  unfold qaF
  rw [if_pos (show j < (D.wrote A i f).q from h)]
  show ((if j < D.q then D.qa j else A + (j - D.q) : Nat) : Int) = _
  split <;> rfl
theorem WrI.next {B : Nat} {D : Dsk} {q A : Nat} {f : Nat → Int} {dv bv : Value} {w : World} {i : Nat} {x : Option Addr} {c : Nat} {bvs : Nat → Value} {V W' : World} (h : WrI B D q A f dv bv w i x c bvs V) (hB : B ≤ w.heap.size) {uv : Value} (hu : BArg B V uv 64 (fun l => f (i * 64 + l)))
    {x' : Option Addr} {c' : Nat} (hown : OwnK W' (w.heap.size + 2) 62 2 (.slice x' (q + i + 1) c') (q + i + 1) (fun j => if j < (q + i) * 2 then putC (D.wrote A i f).dev.qa bvs j else st2 (.int .i64 ((A + i : Nat) : Int)) uv (j - (q + i) * 2))) (hg : V.grownBy W' (Value.slice x (q + i) c).ownBlock) :
    WrI B D q A f dv bv w (i + 1) x' c' (fun j => if j < q + i then bvs j else uv) (W'.setCell ⟨w.heap.size, 1, none⟩ (.slice x' (q + i + 1) c')) ∧ (∃ u, W'.cell? ⟨w.heap.size, 1, none⟩ = some u) ∧ W'.frozen? ⟨w.heap.size, 1, none⟩ = false := by
  have hq := h.hq
  subst hq
  have hI := h.box.grown hg (fun k hk => (h.que.isCells k hk).1) rfl
  have hs := hI.set hB 1 (.slice x' (D.q + i + 1) c') (a' := dv) (b' := .slice x' (D.q + i + 1) c') (c' := bv) (d' := .bool D.dev.dead) (e' := .bool D.dev.armed) (f' := .int .i64 D.dev.left) (fun k hk => by
    obtain rfl | rfl | rfl | rfl | rfl | rfl : k = 0 ∨ k = 1 ∨ k = 2 ∨ k = 3 ∨ k = 4 ∨ k = 5 := by omega
    all_goals rfl)
  refine ⟨⟨rfl, hs.1, ?_, fun j hj => ?_⟩, ⟨_, hI.box.cell (i := 1) (by omega)⟩, hI.box.frozen 1⟩
  · refine (OwnK.congr hown fun j hj => ?_).setOther _ _ (by simp)
    unfold putC
    by_cases hj2 : j < (D.q + i) * 2
    · rw [if_pos hj2]
      by_cases h0 : j % 2 = 0
      · rw [if_pos h0, if_pos h0, wrote_qa (by omega), wrote_qa (by omega)]
      · rw [if_neg h0, if_neg h0]
        dsimp only
        rw [if_pos (by omega)]
    · rw [if_neg hj2]
      unfold st2
      by_cases h0 : j % 2 = 0
      · rw [if_pos h0, if_pos (by omega), wrote_qa (by omega), if_neg (by omega), show A + (j / 2 - D.q) = A + i by omega]
      · rw [if_neg h0, if_neg (by omega)]
        dsimp only
        rw [if_neg (by omega)]
  · by_cases hik : j < D.q + i
    · simp only [if_pos hik]
      exact ((h.byt j hik).grownT h.que (by decide) (by omega) hg).keep hs.2
    · simp only [if_neg hik]
      obtain rfl : j = D.q + i := by omega
      have h9 := (hu.grownT h.que (by decide) (by omega) hg).keep hs.2
      have he : (D.wrote A (i + 1) f).qb (D.q + i) = fun l => f (i * 64 + l) := by
        funext l
        show (if D.q + i < D.q then _ else f ((D.q + i - D.q) * 64 + l)) = _
        rw [if_neg (by omega), show D.q + i - D.q = i by omega]
      rw [he]
      exact h9
theorem WrI.dev {B : Nat} {D : Dsk} {q A : Nat} {f : Nat → Int} {dv qv bv : Value} {w : World} {i : Nat} {x : Option Addr} {c : Nat} {bvs : Nat → Value} {wr : World} (h : WrI B D q A f dv bv w i x c bvs wr) (hd : DevAt B w dv qv bv D.dev) (hok : D.Ok) (hA : A + i ≤ D.n) : DevAt B wr dv (.slice x (q + i) c) bv (D.wrote A i f).dev := by
  have hq := h.hq
  subst hq
  have hd2 := hd.all h.box.below
  refine ⟨hd2.data, ?_, hd2.bad, hd2.left⟩
  refine qarg_own (l := fun _ => 64) h.que (fun j => ?_) (fun j hj => h.byt j hj)
  show -9223372036854775808 ≤ qaF (D.wrote A i f) j ∧ qaF (D.wrote A i f) j ≤ 9223372036854775807
  have hsz := hok.size
  by_cases hj : j < D.q + i
  · have h9 := wrote_qa (A := A) (f := f) hj
    have h10 : qaF (D.wrote A i f) j = if j < D.q then (D.qa j : Int) else ((A + (j - D.q) : Nat) : Int) := h9
    rw [h10]
    split
    · have := hok.put j (by assumption)
      omega
    · omega
  · unfold qaF
    rw [if_neg (show ¬ j < (D.wrote A i f).q from hj)]
    exact z0
/-- New bytes. -/
theorem WrI.fresh {B : Nat} {D : Dsk} {q A : Nat} {f : Nat → Int} {dv bv : Value} {w : World} {i : Nat} {x : Option Addr} {c : Nat} {bvs : Nat → Value} {V w4 : World} {g : Nat → Int} {ua : Option Addr} {uc : Nat} (h : WrI B D q A f dv bv w i x c bvs V) (hl : w.heap.size + 2 ≤ V.heap.size)
    (hown : Own w4 (w.heap.size + 2) 5 (.slice ua (0 + 64) uc) (0 + 64) (fun k => if k < 0 then undef else byteF g (k - 0))) (hg : (V.alloc (.cells #[] 5)).grownBy w4 (Value.slice (some ⟨V.heap.size, 0, none⟩) 0 0).ownBlock) (hgb : ∀ l, 0 ≤ g l ∧ g l < 256) :
    w4.cell? ⟨w.heap.size, 1, none⟩ = some (.slice x (q + i) c) ∧ w.heap.size + 1 < w4.heap.size ∧ WrI B D q A f dv bv w i x c bvs w4 ∧ BArg B w4 (.slice ua (0 + 64) uc) 64 g := by
  have hb : Below V.heap.size V w4 := ((Below.refl _ V).alloc (Nat.le_refl _) _).grown hg (by simp) (fun k hk => by simp [Value.ownBlock] at hk; omega)
  have h4 := h.all hb
  exact ⟨h4.box.box.cell (i := 1) (by omega), by have := hb.size; omega, h4, barg_own (B' := w.heap.size + 2) (hown.congr fun i hi => by simp) hgb⟩
theorem WrI.init {B : Nat} {D : Dsk} {A : Nat} {f : Nat → Int} {dv qv bv : Value} {w : World} {x : Option Addr} {c q : Nat} {bvs : Nat → Value} {V : World} (hq : D.q = q) (h : RefI w (w.heap.size + 1) dv qv bv (.bool D.dev.dead) (.bool D.dev.armed) (.int .i64 D.dev.left) V) (hB : B ≤ w.heap.size)
    (hown : OwnK V (w.heap.size + 2) 62 2 (.slice x q c) q (putC D.dev.qa bvs)) (hb : ∀ j, j < q → BArg B V (bvs j) 64 (D.qb j)) : WrI B D q A f dv bv w 0 x c bvs (V.setCell ⟨w.heap.size, 1, none⟩ (.slice x q c)) := by
  subst hq
  have hs := h.set hB 1 (.slice x D.q c) (a' := dv) (b' := .slice x D.q c) (c' := bv) (d' := .bool D.dev.dead) (e' := .bool D.dev.armed) (f' := .int .i64 D.dev.left) (fun k hk => by
    obtain rfl | rfl | rfl | rfl | rfl | rfl : k = 0 ∨ k = 1 ∨ k = 2 ∨ k = 3 ∨ k = 4 ∨ k = 5 := by omega
    all_goals rfl)
  refine ⟨rfl, hs.1, (hown.congr fun j hj => ?_).setOther _ _ (by simp), fun j hj => ?_⟩
  · unfold putC
    by_cases h0 : j % 2 = 0
    · rw [if_pos h0, if_pos h0, wrote_qa (by omega), if_pos (by omega), qa_dev (by omega)]
    · rw [if_neg h0, if_neg h0]
  · have he : (D.wrote A 0 f).qb j = D.qb j := by
      funext l
      show (if j < D.q then D.qb j l else _) = _
      rw [if_pos (by omega)]
    rw [he]
    exact (hb j hj).keep hs.2

set_option maxRecDepth 100000 in
set_option maxHeartbeats 8000000 in
theorem RefWrite_any {B : Nat} {dv qv bv sv : Value} {D : Dsk} {n : Nat} {f : Nat → Int} (p : Int) (w : World) (h : DevAt B w dv qv bv D.dev) (hok : D.Ok) (hk : BArg B w sv n f) (hB : B ≤ w.heap.size) :
    Calls Try.prog 52 #[devV dv qv bv D.dev, .int .i64 p, sv] w (RefWriteP B D p n f w) := by
  obtain ⟨kx, kc, rfl, hkm⟩ := hk.slice
  unfold maxLen at hkm
  have HD0 := Lib.hid h
  have HK0 := Lib.hid hk
  have Hok := Lib.hid hok
  have hqq : D.dev.q ≤ 65536 := hok.queue
  have hsz := hok.size
  clear hok
  obtain ⟨dx, dc, rfl, -⟩ := h.data.slice
  obtain ⟨qx, qc, rfl, hqm⟩ := h.queue.slice
  obtain ⟨bx, bc, rfl, -⟩ := h.bad.slice
  have hI := refI_new w (.slice dx D.dev.n dc) (.slice qx D.dev.q qc) (.slice bx D.dev.m bc) (.bool D.dev.dead) (.bool D.dev.armed) (.int .i64 D.dev.left)
  have HD := Lib.hid (h.all hI.below)
  have HI := Lib.hid hI
  have HK := Lib.hid (hk.all hI.below)
  clear h hI hqm hk
  unfold devV
  go_enter Try.func52, Try.ntmps52
  go_upto_region 1 with fail
  generalize (w.alloc (.cells #[.slice dx D.dev.n dc, .slice qx D.dev.q qc, .slice bx D.dev.m bc, .bool D.dev.dead, .bool D.dev.armed, .int .i64 D.dev.left] 31)).alloc (.cells #[.slice none 0 0, .slice none 0 0, .slice none 0 0, .bool false, .bool false, .int .i64 0] 31) = W at *
  by_cases hn : n % 64 = 0
  rotate_left 1
  · have hne : ((n : Int) % 64 != 0) = true := by rw [bne_iff_ne]; omega
    have Hn := Lib.hid hn
    clear hn
    have HZ := Lib.hid (HI.out.fin hB (x0 := .slice dx D.dev.n dc) (x1 := .slice qx D.dev.q qc) (x2 := .slice bx D.dev.m bc) (x3 := .bool D.dev.dead) (x4 := .bool D.dev.armed) (x5 := .int .i64 D.dev.left) (six_one rfl rfl rfl rfl rfl rfl))
    have hs := HZ.out.store
    have hload := HI.out.load
    have hld := HZ.out.load
    go_wp2_with fail
    have hfin : RefOut B (D) 1 w (.returned (.tuple #[.agg #[.slice dx D.dev.n dc, .slice qx D.dev.q qc, .slice bx D.dev.m bc, .bool D.dev.dead, .bool D.dev.armed, .int .i64 D.dev.left], .int .i64 1])) _ := ⟨_, _, _, rfl, HD.out.keepD HZ.out.keeps, HZ.out.below⟩
    refine bodyPost_ret (v := .tuple #[.agg #[.slice dx D.dev.n dc, .slice qx D.dev.q qc, .slice bx D.dev.m bc, .bool D.dev.dead, .bool D.dev.armed, .int .i64 D.dev.left], .int .i64 1]) (by simp [results, Try.results52, asAddr, hld]) rfl ?_
    exact (.inl ⟨.inl Hn.out, hfin⟩)
  obtain ⟨k, rfl⟩ : ∃ k, n = k * 64 := ⟨n / 64, by omega⟩
  have hnk : k * 64 / 64 = k := by omega
  have Hnk := Lib.hid hnk
  have Hn := Lib.hid hn
  have hload := HI.out.load
  clear hnk hn
  go_wp2_with fail
  refine (within_any p k W HD.out).mono ?_
  rintro e w2 ⟨⟨b, rfl, hin⟩, hb⟩
  rw [inX_dev] at hin
  have HI2 := Lib.hid (HI.out.all hb)
  have HD2 := Lib.hid (HD.out.all hb)
  have HK2 := Lib.hid (HK.out.all hb)
  clear hload hb HI HD HK
  rcases bool_cases b with rfl | rfl
  · have Hin := Lib.hid (show ¬ inD D p (k * 64 / 64 : Nat) from fun h => by rw [Hnk.out] at h; have := hin.2 h; cases this)
    clear hin
    have HZ := Lib.hid (HI2.out.fin hB (x0 := .slice dx D.dev.n dc) (x1 := .slice qx D.dev.q qc) (x2 := .slice bx D.dev.m bc) (x3 := .bool D.dev.dead) (x4 := .bool D.dev.armed) (x5 := .int .i64 D.dev.left) (six_one rfl rfl rfl rfl rfl rfl))
    have hs := HZ.out.store
    have hload := HI2.out.load
    have hld := HZ.out.load
    go_wp2_with fail
    have hfin : RefOut B (D) 1 w (.returned (.tuple #[.agg #[.slice dx D.dev.n dc, .slice qx D.dev.q qc, .slice bx D.dev.m bc, .bool D.dev.dead, .bool D.dev.armed, .int .i64 D.dev.left], .int .i64 1])) _ := ⟨_, _, _, rfl, HD2.out.keepD HZ.out.keeps, HZ.out.below⟩
    refine bodyPost_ret (v := .tuple #[.agg #[.slice dx D.dev.n dc, .slice qx D.dev.q qc, .slice bx D.dev.m bc, .bool D.dev.dead, .bool D.dev.armed, .int .i64 D.dev.left], .int .i64 1]) (by simp [results, Try.results52, asAddr, hld]) rfl ?_
    exact (.inl ⟨.inr Hin.out, hfin⟩)
  have Hin := Lib.hid (hin.1 rfl)
  have hload := HI2.out.load
  clear hin
  go_wp2_with fail
  refine (off_any w2 HD2.out).mono ?_
  rintro e w3 ⟨rfl, hb⟩
  rw [dev_off]
  have HI3 := Lib.hid (HI2.out.all hb)
  have HD3 := Lib.hid (HD2.out.all hb)
  have HK3 := Lib.hid (HK2.out.all hb)
  clear hload hb HI2 HD2 HK2
  rcases bool_cases D.off with ho | ho
  rotate_left 1
  · rw [ho]
    have Ho := Lib.hid ho
    clear ho
    have HZ := Lib.hid (HI3.out.fin hB (x0 := .slice dx D.dev.n dc) (x1 := .slice qx D.dev.q qc) (x2 := .slice bx D.dev.m bc) (x3 := .bool D.dev.dead) (x4 := .bool D.dev.armed) (x5 := .int .i64 D.dev.left) (six_one rfl rfl rfl rfl rfl rfl))
    have hs := HZ.out.store
    have hload := HI3.out.load
    have hld := HZ.out.load
    go_wp2_with fail
    have hfin : RefOut B (D) 7 w (.returned (.tuple #[.agg #[.slice dx D.dev.n dc, .slice qx D.dev.q qc, .slice bx D.dev.m bc, .bool D.dev.dead, .bool D.dev.armed, .int .i64 D.dev.left], .int .i64 7])) _ := ⟨_, _, _, rfl, HD3.out.keepD HZ.out.keeps, HZ.out.below⟩
    refine bodyPost_ret (v := .tuple #[.agg #[.slice dx D.dev.n dc, .slice qx D.dev.q qc, .slice bx D.dev.m bc, .bool D.dev.dead, .bool D.dev.armed, .int .i64 D.dev.left], .int .i64 7]) (by simp [results, Try.results52, asAddr, hld]) rfl ?_
    exact (.inr ⟨Hn.out, by rw [Hnk.out]; exact Hin.out, .inl ⟨Ho.out, hfin⟩⟩)
  rw [ho]
  have Ho := Lib.hid ho
  clear ho
  obtain ⟨q, hq⟩ : ∃ q, D.dev.q = q := ⟨_, rfl⟩
  have Hq := Lib.hid hq
  rw [hq] at hqq
  obtain ⟨-, x1, -⟩ := cells6 HI3.out.box
  have x1' : w3.cell? ⟨w.heap.size, 1, none⟩ = some (.slice qx q qc) := by rw [← hq]; exact x1
  have hw1 : IntKind.i64.wrap ((q : Int) + k) = (q : Int) + k := IntWalk.i64_in _ (by omega)
  clear x1 hq
  by_cases hfull : q + k ≤ 65536
  rotate_left 1
  · have d1 : decide ((q : Int) + k > 65536) = true := decide_eq_true (by omega)
    have Hfull := Lib.hid hfull
    clear hfull
    have HZ := Lib.hid (HI3.out.fin hB (x0 := .slice dx D.dev.n dc) (x1 := .slice qx D.dev.q qc) (x2 := .slice bx D.dev.m bc) (x3 := .bool D.dev.dead) (x4 := .bool D.dev.armed) (x5 := .int .i64 D.dev.left) (six_one rfl rfl rfl rfl rfl rfl))
    have hs := HZ.out.store
    have hload := HI3.out.load
    have hld := HZ.out.load
    go_wp2_with fail
    have hfin : RefOut B (D) 5 w (.returned (.tuple #[.agg #[.slice dx D.dev.n dc, .slice qx D.dev.q qc, .slice bx D.dev.m bc, .bool D.dev.dead, .bool D.dev.armed, .int .i64 D.dev.left], .int .i64 5])) _ := ⟨_, _, _, rfl, HD3.out.keepD HZ.out.keeps, HZ.out.below⟩
    refine bodyPost_ret (v := .tuple #[.agg #[.slice dx D.dev.n dc, .slice qx D.dev.q qc, .slice bx D.dev.m bc, .bool D.dev.dead, .bool D.dev.armed, .int .i64 D.dev.left], .int .i64 5]) (by simp [results, Try.results52, asAddr, hld]) rfl ?_
    exact (.inr ⟨Hn.out, by rw [Hnk.out]; exact Hin.out, .inr (.inl ⟨Ho.out, by rw [Hnk.out]; have := Hfull.out; have := Hq.out; show ¬ D.dev.q + k ≤ 65536; omega, hfin⟩)⟩)
  have d1 : decide ((q : Int) + k > 65536) = false := decide_eq_false (by omega)
  have Hfull := Lib.hid hfull
  obtain ⟨i1, i2, i3, i4⟩ := Hin.out
  obtain ⟨A, rfl⟩ : ∃ A : Nat, p = A := ⟨p.toNat, by omega⟩
  obtain ⟨N, hN⟩ : ∃ N, D.n = N := ⟨_, rfl⟩
  have HN := Lib.hid hN
  rw [hN] at hsz
  have hAM : A + k ≤ N := by rw [hN] at i3 i4; omega
  clear i1 i2 i3 i4 hN
  go_upto_region 8 with fail
  obtain ⟨zp, hzp⟩ := info_aput
  have Hzp := Lib.hid hzp
  clear hzp
  go_cut [] from 10 to 64 (fun wx => ∃ x c bvs, WrI B D q A f (.slice dx D.dev.n dc) (.slice bx D.dev.m bc) w 0 x c bvs wx)
  case first =>
    have hl3 := HI3.out.res.lt
    have hI3 := HI3.out.all ((Below.refl _ w3).alloc (Nat.le_refl _) (.cells #[] 62))
    have x3 := cell_al (.cells #[] 62) x1'
    have hrow : ∀ F, OwnK (w3.alloc (.cells #[] 62)) (w.heap.size + 2) 62 2 (.slice (some ⟨w3.heap.size, 0, none⟩) 0 0) 0 F := fun F =>
      .inr ⟨w3.heap.size, 0, rfl, by omega, ⟨#[], heap_alloc_new w3 _, by simp, by simp, fun i hi => by omega⟩, Nat.le_refl _, by decide⟩
    have Hrow := Lib.hid hrow
    have Hl3 := Lib.hid hl3
    rcases HD3.out.queue with ⟨_, (⟨h0, xa, xc, hxa⟩ | ⟨b, o, cap, bvs, hv, q1, q2, q3, q4, q5, q6⟩)⟩
    · have hq0 : q = 0 := by rw [← Hq.out]; exact h0
      have HI4 := Lib.hid hI3
      have hin := WrI.init (B := B) (A := A) (f := f) (bvs := fun _ => undef) (show D.q = 0 from h0) hI3 hB (hrow _) (fun j hj => absurd hj (Nat.not_lt_zero j))
      have hiB := hI3.box.frozen 1
      have Hin0 := Lib.hid hin
      subst hq0
      clear hI3 hrow hin h0 hxa hl3
      go_wp2_with (with_reducible refine stopB .append ?_)
      refine Hold.go ?_
      refine wpList_val rfl (append_zero _ _ 28 62 zp 2 32 rfl Try.underlying28 Hzp.out.1 w3.heap.size 0 0 rfl (Nat.le_refl 0) qx qc rfl) ?_
      go_wp2
      go_meet
      case rel => exact ⟨_, _, _, Hin0.out⟩
    · cases hv
      have hqd : D.dev.q = q := Hq.out
      rw [hqd] at q1 q2 q4 q6
      have hcl : Cells (w3.alloc (.cells #[] 62)) b o (q * 2) (putC D.dev.qa bvs) := fun j hj => cell_al _ (q4 j hj)
      have Hcl := Lib.hid hcl
      have H6 := Lib.hid q6
      have HI4 := Lib.hid hI3
      clear hI3 hrow q4 q5 q6 hcl hqd
      go_wp2_with (with_reducible refine stopB .append ?_)
      refine Hold.go ?_
      refine wpList_append_k rfl _ _ 28 62 zp 2 32 rfl Try.underlying28 Hzp.out.1 Hzp.out.2 (by decide) (w.heap.size + 2) _ 0 (fun _ => undef) rfl (Hrow.out _) b o q qc (putC D.dev.qa bvs) rfl Hcl.out (fun j hj => by
        unfold putC
        split
        · rfl
        · obtain ⟨_, _, h9, _⟩ := (H6.out (j / 2) (by omega)).slice
          rw [h9]
          rfl) (by omega) (by decide) (by simp; omega) ?_
      intro v9 w9 hown hgr
      obtain ⟨x9, c9, rfl⟩ := hown.slice
      rw [Nat.zero_add] at hown ⊢
      have hown2 := hown.congr (f' := putC D.dev.qa bvs) (fun i hi => by rw [if_neg (by omega), Nat.zero_mul, Nat.sub_zero])
      have hI5 := HI4.out.grown hgr (fun k hk => ((Hrow.out fun _ => undef).isCells k hk).1) rfl
      have hiB := hI5.box.frozen 1
      have hc1 := hI5.box.cell (i := 1) (by omega)
      have Hin0 := Lib.hid (WrI.init (B := B) (A := A) (f := f) (show D.q = q from Hq.out) hI5 hB hown2 (fun j hj => ((H6.out j hj).all ((Below.refl _ w3).alloc (Nat.le_refl _) _)).grownT (Hrow.out fun _ => undef) (by decide) (by omega) hgr))
      clear hown hown2 hI5 hgr
      go_wp2
      go_meet
      case rel => exact ⟨_, _, _, Hin0.out⟩
  obtain ⟨x0, c0, bvs0, hW0⟩ := hcut
  have HW0 := Lib.hid hW0
  clear hW0 x1'
  go_wp2_with fail
  go_loopw [9] (fun t wr => ∃ i : Nat, i ≤ k ∧ t = .int .i64 i ∧ ∃ x c bvs, WrI B D q A f (.slice dx D.dev.n dc) (.slice bx D.dev.m bc) w i x c bvs wr) (fun t _ => k - (intOf t).toNat)
  case atStart => exact ⟨0, by omega, by go_num, _, _, _, HW0.out⟩
  case round =>
    obtain ⟨i, hi, rfl, x, c, bvs, hI⟩ := hrel
    have HI := Lib.hid hI
    clear hI
    by_cases hlt : i < k
    · have hdlt : decide ((i : Int) < k) = true := decide_eq_true (by omega)
      have hbd : Below wr.heap.size wr wr.drew := (Below.refl _ wr).drew
      have HV := Lib.hid (HI.out.all hbd)
      have hkc := HK0.out.all (HI.out.box.below)
      obtain ⟨b8, o8, rfl, hkc2, -, hcells⟩ := bytes_cap hkc (show 0 < k * 64 by omega)
      have Hcl := Lib.hid (show Cells (wr.drew.alloc (.cells #[] 5)) b8 (o8 + i * 64) 64 (byteF fun l => f (i * 64 + l)) from fun l hl => by
        have h9 := hcells (i * 64 + l) (by omega)
        rw [← Nat.add_assoc] at h9
        exact cell_al _ (show wr.drew.cell? ⟨b8, o8 + i * 64 + l, none⟩ = _ from h9))
      have Hlen := Lib.hid (show (i + 1) * 64 - i * 64 = 64 by omega)
      have x1 : wr.drew.cell? ⟨w.heap.size, 1, none⟩ = some (.slice x (q + i) c) := HV.out.box.box.cell (i := 1) (by omega)
      have x2 : (wr.alloc (.cells #[] 5)).drew.cell? ⟨w.heap.size, 1, none⟩ = some (.slice x (q + i) c) := (show (wr.drew.alloc (.cells #[] 5)).cell? _ = _ from cell_al _ x1)
      have hx := HV.out.box.box.lt
      have hx9 : w.heap.size < wr.heap.size := hx
      have hl9 : w.heap.size + 2 ≤ wr.heap.size := HV.out.box.res.lt
      have qa1 : IntKind.i64.wrap ((A : Int) + i) = (A : Int) + i := IntWalk.i64_in _ (by omega)
      have ww1 : IntKind.i64.wrap ((i : Int) * 64) = (i : Int) * 64 := IntWalk.i64_in _ (by omega)
      have ww2 : IntKind.i64.wrap ((i : Int) + 1) = (i : Int) + 1 := IntWalk.i64_in _ (by omega)
      have ww3 : IntKind.i64.wrap (((i : Int) + 1) * 64) = ((i : Int) + 1) * 64 := IntWalk.i64_in _ (by omega)
      have e1 : 0 ≤ ((i : Int) + 1) * 64 := by omega
      have e2 : ((i : Int) + 1) * 64 ≤ kc := by omega
      have e3 : 0 ≤ (i : Int) * 64 := by omega
      have e4 : max (((i : Int) + 1) * 64) 0 = ((i : Int) + 1) * 64 := by omega
      have e5 : (i : Int) ≤ (i : Int) + 1 := by omega
      have e6 : ((i : Int) * 64).toNat = i * 64 := by omega
      have e7 : (((i : Int) + 1) * 64).toNat = (i + 1) * 64 := by omega
      have e8 : ¬ (kc = i * 64) := by omega
      have Hsum := Lib.hid (show ((A : Int) + i) = ((A + i : Nat) : Int) by omega)
      clear hkc hcells hbd
      go_upto_region 12 with fail
      refine wp_calm ?_
      go_region_law (first | ((refine step_append_o (by rfl) _ _ 27 5 _ _ (by rfl) Try.underlying27 info_u8d (by rfl) (w.heap.size + 2) (.slice (some ⟨wr.heap.size, 0, none⟩) 0 0) 0 (fun _ => undef) (by rfl) (own_empty wr.drew 5 (w.heap.size + 2) hl9 _) b8 (o8 + i * 64) 64 (kc - i * 64) (byteF fun l => f (i * 64 + l)) (by exact congrArg (fun l => Value.slice (some ⟨b8, o8 + i * 64, none⟩) l (kc - i * 64)) Hlen.out) Hcl.out (fun _ _ => rfl) (by omega) (by decide) (by simp; omega) ?_); intro uv w4 hown hgr; (obtain ⟨ua, uc, rfl⟩ := Own.slice hown); (have HA4 := Lib.hid (WrI.fresh HV.out hl9 hown hgr fun l => HK0.out.1 _)); (have x1' := HA4.out.1); (have x3 := cell_al (.cells #[.int .i64 ((A : Int) + i), .slice ua 64 uc] 62) HA4.out.1); (have hx' := HA4.out.2.1); clear hown hgr) | ((refine step_append_k (by rfl) _ _ 28 62 _ 2 32 (by rfl) Try.underlying28 Hzp.out.1 Hzp.out.2 (by decide) (w.heap.size + 2) (.slice x (q + i) c) (q + i) _ (by rfl) (HA4.out.2.2.1.que.all ((Below.refl _ w4).alloc (Nat.le_refl _) _)) w4.heap.size 0 1 1 _ (by rfl) (row2 w4 (.int .i64 ((A : Int) + i)) (.slice ua 64 uc) 62).reads (fun j _ => by unfold st2; split <;> rfl) (by omega) (by decide) (by simp; omega) ?_); intro uv2 w5 hown hgr; (obtain ⟨va, vc, rfl⟩ := hown.slice); (have HN := Lib.hid (WrI.next (HA4.out.2.2.1.all ((Below.refl _ w4).alloc (Nat.le_refl _) _)) hB (HA4.out.2.2.2.all ((Below.refl _ w4).alloc (Nat.le_refl _) _)) (Hsum.out ▸ hown) hgr)); (obtain ⟨_, ⟨u9, k30⟩, z30⟩ := HN.out); clear hown hgr))
      all_goals
        refine calm_normal ?_
        go_wp2
        go_roundw
        case rel => exact ⟨i + 1, by omega, by go_num, _, _, _, HN.out.1⟩
        case measure => simp [intOf]; omega
    · obtain rfl : k = i := by omega
      have hdlt : decide ((k : Int) < k) = false := decide_eq_false (by omega)
      have HE := Lib.hid (WrI.dev HI.out HD0.out Hok.out (by rw [HN.out]; exact hAM))
      have hlf : (D.wrote A k f).dev.armed = true → 0 ≤ (D.wrote A k f).dev.left := fun _ => Hok.out.left.1
      have Hlf := Lib.hid hlf
      have hload := HI.out.box.load
      clear hlf
      go_wp2_with fail
      refine (used_any (X := (D.wrote A k f).dev) wr HE.out (by have := HI.out.box.below.size; omega) Hlf.out).mono ?_
      rintro e w5 ⟨rfl, hd, hb⟩
      rw [dev_used] at hd ⊢
      have HI5 := Lib.hid (HI.out.box.all hb)
      have HD5 := Lib.hid hd
      have HE2 := Lib.hid (show (D.wrote A k f).used = D.write A k f from rfl)
      clear hd hb hload HI HE Hlf
      generalize (D.wrote A k f).used = E2 at *
      unfold devV
      have HZ := Lib.hid (HI5.out.fin hB (x0 := .slice dx D.dev.n dc) (x1 := .slice x (q + k) c) (x2 := .slice bx D.dev.m bc) (x3 := .bool E2.dev.dead) (x4 := .bool E2.dev.armed) (x5 := .int .i64 E2.dev.left) (six_one rfl rfl rfl rfl rfl rfl))
      have hs := HZ.out.store
      have hld := HZ.out.load
      go_wp2_with fail
      have HD6 := Lib.hid (HD5.out.keepD HZ.out.keeps)
      have hfin : RefOut B (E2) 0 w (.returned (.tuple #[.agg #[.slice dx D.dev.n dc, .slice x (q + k) c, .slice bx D.dev.m bc, .bool E2.dev.dead, .bool E2.dev.armed, .int .i64 E2.dev.left], .int .i64 0])) _ := ⟨_, _, _, rfl, HD6.out, HZ.out.below⟩
      refine bodyPost_ret (v := .tuple #[.agg #[.slice dx D.dev.n dc, .slice x (q + k) c, .slice bx D.dev.m bc, .bool E2.dev.dead, .bool E2.dev.armed, .int .i64 E2.dev.left], .int .i64 0]) (by simp [results, Try.results52, asAddr, hld]) rfl ?_
      exact (.inr ⟨Hn.out, by rw [Hnk.out]; exact Hin.out, .inr (.inr ⟨Ho.out, by rw [Hnk.out]; have := Hfull.out; have := Hq.out; show D.dev.q + k ≤ 65536; omega, by rw [Hnk.out]; show RefOut B (D.write A k f) 0 w _ _; rw [← HE2.out]; exact hfin⟩)⟩)

end Go.Proofs.Ytjhcaedfknhilaa
