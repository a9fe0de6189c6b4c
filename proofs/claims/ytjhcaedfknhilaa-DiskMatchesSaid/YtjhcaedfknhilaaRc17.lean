/- Plain laws of a disk: what Write, Sync and Crash leave of what is read. DiskCrashes. -/
import Derived.Test.YtjhcaedfknhilaaRc16
namespace Go.Proofs.Ytjhcaedfknhilaa
set_option linter.unusedVariables false
set_option linter.unusedSimpArgs false
open Go.RowKit

theorem performs_has (D : Dsk) (a : Nat → Nat) (f : Nat → Nat → Int) (i : Nat) : ∀ k, (∃ F, hasQ a f i k = some F ∧ (D.performs a f k).sec i = F ∧ (D.performs a f k).bad i = false) ∨ (hasQ a f i k = none ∧ (D.performs a f k).sec i = D.sec i ∧ (D.performs a f k).bad i = D.bad i)
  | 0 => .inr ⟨rfl, rfl, rfl⟩
  | k + 1 => by
    by_cases h : a k = i
    · refine .inl ⟨f k, ?_, ?_, ?_⟩
      · rw [hasQ, if_pos h]
      · show (fun j => if i = a k then f k j else (D.performs a f k).sec i j) = f k
        funext j
        rw [if_pos h.symm]
      · show (if i = a k then false else (D.performs a f k).bad i) = false
        rw [if_pos h.symm]
    · have h' : ¬ i = a k := fun e => h e.symm
      have h1 : (D.performs a f (k + 1)).sec i = (D.performs a f k).sec i := by
        show (fun j => if i = a k then f k j else (D.performs a f k).sec i j) = _
        funext j
        rw [if_neg h']
      have h2 : (D.performs a f (k + 1)).bad i = (D.performs a f k).bad i := by
        show (if i = a k then false else (D.performs a f k).bad i) = _
        rw [if_neg h']
      rw [h1, h2, hasQ, if_neg h]
      exact performs_has D a f i k
theorem has_empty {D : Dsk} (h : D.q = 0) (j : Nat) : D.has j = if D.bad j then none else some (D.sec j) := by
  unfold Dsk.has
  rw [h]
  rfl
theorem sync_has (D : Dsk) (j : Nat) : D.sync.has j = D.has j := by
  rw [has_empty (D := D.sync) rfl]
  have hb : D.sync.bad = (D.performs D.qa D.qb D.q).bad := rfl
  have hs : D.sync.sec = (D.performs D.qa D.qb D.q).sec := rfl
  rw [hb, hs]
  unfold Dsk.has
  rcases performs_has D D.qa D.qb j D.q with ⟨F, h1, h2, h3⟩ | ⟨h1, h2, h3⟩
  · rw [h1, h3, h2]
    rfl
  · rw [h1, h3, h2]
theorem crash0_has (D : Dsk) (f : Nat → Int) (h : D.q = 0) (j : Nat) : (D.crash 0 f).has j = D.has j := by
  rw [has_empty (D := D.crash 0 f) rfl, has_empty h]
  rfl
theorem sync_same (D : Dsk) : D.sync.n = D.n ∧ D.sync.q = 0 ∧ D.sync.dead = D.dead ∧ D.sync.armed = D.armed := by
  obtain ⟨h1, _, _, _, h5, h6, _⟩ := D.performs_same D.qa D.qb D.q
  exact ⟨h1, rfl, h5, h6⟩
theorem hasQ_write (D : Dsk) (a k : Nat) (f : Nat → Int) (i : Nat) (hi : i < k) : ∀ j, i < j → j ≤ k → hasQ (D.wrote a k f).qa (D.wrote a k f).qb (a + i) (D.q + j) = some fun l => f (i * 64 + l)
  | 0, h, _ => absurd h (Nat.not_lt_zero i)
  | j + 1, h, h2 => by
    have e1 : (D.wrote a k f).qa (D.q + j) = a + j := by
      show (if D.q + j < D.q then _ else a + (D.q + j - D.q)) = a + j
      rw [if_neg (by omega)]
      omega
    show (if (D.wrote a k f).qa (D.q + j) = a + i then _ else _) = _
    rw [e1]
    by_cases hj : j = i
    · subst hj
      rw [if_pos rfl]
      congr 1
      funext l
      show (if D.q + j < D.q then _ else f ((D.q + j - D.q) * 64 + l)) = _
      rw [if_neg (by omega), show D.q + j - D.q = j by omega]
    · rw [if_neg (by omega)]
      exact hasQ_write D a k f i hi j (by omega) (by omega)
theorem write_has (D : Dsk) (a k : Nat) (f : Nat → Int) (i : Nat) (hi : i < k) : (D.write a k f).has (a + i) = some fun l => f (i * 64 + l) := by
  have h1 := hasQ_write D a k f i hi k hi (Nat.le_refl k)
  show (match hasQ (D.wrote a k f).qa (D.wrote a k f).qb (a + i) (D.q + k) with | some f => some f | none => _) = _
  rw [h1]
theorem arm_has (D : Dsk) (b : Bool) (l : Int) (j : Nat) : (D.arm b l).has j = D.has j := rfl
/-- What was written is read. -/
theorem write_read (D : Dsk) (a k : Nat) (f : Nat → Int) : readOk ((D.write a k f).arm false 0) a k ∧ ∀ i, i < k * 64 → readI ((D.write a k f).arm false 0) a i = f i := by
  refine ⟨fun i hi => ⟨_, by rw [arm_has]; exact write_has D a k f i hi⟩, fun i hi => ?_⟩
  unfold readI Dsk.hasF
  rw [arm_has, write_has D a k f (i / 64) (by omega)]
  show f (i / 64 * 64 + i % 64) = f i
  rw [show i / 64 * 64 + i % 64 = i by omega]

/-- The bytes of none. -/
def noneF (k : Nat) : Int := if k = 0 then 110 else if k = 1 then 111 else if k = 2 then 110 else 101
/-- The text that is read of a sector. -/
def sTxt (o : Option (Nat → Int)) : ByteArray := match o with
  | some f => strF 64 f
  | none => strF 4 noneF

end Go.Proofs.Ytjhcaedfknhilaa

namespace Go.Proofs.Ytjhcaedfknhilaa
set_option linter.unusedVariables false
set_option linter.unusedSimpArgs false
open Go.RowKit
attribute [local go_sem ↓] Go.wp_at_zero Go.wp_at_succ
attribute [-go_sem] loadCellsFrom storeCells
attribute [local go_sem] storeCells_one

theorem data_at {B : Nat} {W : World} {d : Option Addr} {dc N : Nat} {qv bv : Value} {X : Dev} (h : DevAt B W (.slice d X.n dc) qv bv X) (hn : X.n = N * 64) (hN : 1 ≤ N) : ∃ b o, d = some ⟨b, o, none⟩ ∧ N * 64 ≤ dc ∧ Cells W b o (N * 64) (byteF X.data) := by
  rcases h.data with ⟨_, (⟨h0, _⟩ | ⟨b, off, cap, hv, h1, h2, h3, h4, _⟩)⟩
  · omega
  · injection hv with e1 e2 e3
    subst e1 e3
    rw [hn] at h2 h4
    exact ⟨b, off, rfl, h2, h4⟩
/-- The text of a sector of a device's data. -/
theorem sec_str {W : World} {b o dc N i : Nat} {f : Nat → Int} (h : Cells W b o (N * 64) (byteF f)) (hi : i < N) :
    (convert 27 9 (.slice (some ⟨b, o + i * 64, none⟩) ((i + 1) * 64 - i * 64) (dc - i * 64))).run Try.prog W = .ok (.string (strF 64 fun k => f (i * 64 + k))) W := by
  rw [show (i + 1) * 64 - i * 64 = 64 by omega]
  exact convert_cells 27 5 9 Try.underlying27 (by kernel_rfl) (by kernel_rfl) b (o + i * 64) 64 (dc - i * 64) (fun k => f (i * 64 + k)) W fun k hk => by
    have := h (i * 64 + k) (by omega)
    rw [Nat.add_assoc]
    exact this
theorem In_b {B : Nat} {v : Value} {n : Nat} {f : Nat → Int} (x : Int) (w : World) (h : NArg B w v n f) :
    Calls Try.prog 31 #[v, .int .i64 x] w fun e w' => e = .returned (.bool (anyB (fun k => f k == x) n)) ∧ w = w' :=
  (In_any x w h).mono fun _ _ ⟨⟨b, he, hb⟩, hw⟩ => ⟨by
    rw [he]
    have : b = anyB (fun k => f k == x) n := by
      rw [Bool.eq_iff_iff, hb, anyB_true]
      simp
    rw [this], hw⟩
theorem In_q {B : Nat} {v : Value} {n : Nat} {f : Nat → Int} (i : Nat) (w : World) (k : Nat) (h : NArg B w v n f) :
    Calls Try.prog 31 #[v, .int .i64 i] (w.drewN k) fun e w' => e = .returned (.bool (anyB (fun k => f k == (i : Int)) n)) ∧ w' = w.drewN k :=
  (In_b (B := B) i (w.drewN k) h).mono fun _ _ ⟨he, hw⟩ => ⟨he, hw.symm⟩
/-- Whether a device's list of bad ones has a sector. -/
def badAny (X : Dev) (i : Nat) : Bool := anyB (fun k => X.bad k == (i : Int)) X.m
theorem badAny_dev (D : Dsk) (i : Nat) : badAny D.dev i = true ↔ i < D.n ∧ D.bad i = true := by
  unfold badAny
  rw [anyB_true]
  simp only [beq_iff_eq]
  exact in_bad D i
theorem data_dev (D : Dsk) (i k : Nat) (hk : k < 64) : D.dev.data (i * 64 + k) = D.sec i k := by
  show D.sec ((i * 64 + k) / 64) ((i * 64 + k) % 64) = D.sec i k
  rw [show (i * 64 + k) / 64 = i by omega, show (i * 64 + k) % 64 = k by omega]
/-- What a sector is found to have. -/
def hitP (Y Z : Dev) (s : ByteArray) (i j : Nat) : Prop := Y.qa j = i ∧ (strF (Y.ql j) (Y.qb j)).toList = s.toList ∧ badAny Z i = false
theorem found_law (D : Dsk) (n : Nat) (f : Nat → Int) (hk : keepOk D.q n f) (i : Nat) :
    ((strF 64 fun k => (D.crash n f).dev.data (i * 64 + k)) = (strF 64 fun k => D.dev.data (i * 64 + k)) ∧ badAny (D.crash n f).dev i = badAny D.dev i) ∨
      ∃ j, j < D.dev.q ∧ hitP D.dev (D.crash n f).dev (strF 64 fun k => (D.crash n f).dev.data (i * 64 + k)) i j := by
  rcases crash_law D n f hk i with ⟨h1, h2⟩ | ⟨j, hj, h1, h2, h3⟩
  · refine .inl ⟨strF_congr fun k hk => ?_, ?_⟩
    · rw [data_dev _ _ _ hk, data_dev _ _ _ hk, h1]
    · rw [Bool.eq_iff_iff, badAny_dev, badAny_dev, h2, (crash_same D n f).1]
  · refine .inr ⟨j, hj, ?_, ?_, ?_⟩
    · show qaF D j = i
      unfold qaF
      rw [if_pos hj, h1]
    · have : strF 64 (D.qb j) = strF 64 fun k => (D.crash n f).dev.data (i * 64 + k) := strF_congr fun k hk => by rw [data_dev _ _ _ hk, h2]
      show (strF 64 (D.qb j)).toList = _
      rw [this]
    · rw [Bool.eq_false_iff]
      intro h9
      have := ((badAny_dev _ _).1 h9).2
      rw [h3] at this
      cases this
/-- Crash, in one form. -/
theorem crash_one {B g gs gb : Nat} {qv kv : Value} {D : Dsk} {n : Nat} {f : Nat → Int} (w : World) (h : DiskIn B g gs gb qv D w) (hk : NArg B w kv n f) (hn : n ≤ 65536) :
    Calls Try.prog 23 #[.pointer (some ⟨g, 0, none⟩), kv] w fun e w' => ∃ c D' qv', e = .returned (.int .i64 c) ∧ ((c = 0 ∧ keepOk D.q n f ∧ D' = D.crash n f) ∨ (c = 1 ∧ D' = D)) ∧ DiskIn B g gs gb qv' D' w' ∧ Below B w w' ∧ Calm w w' :=
  (Crash_any w h hk hn).mono fun _ _ hr => by
    rcases hr with ⟨h1, q2, h2, h3⟩ | ⟨h1, h2, h3⟩
    · exact ⟨0, _, q2, h2, .inl ⟨rfl, h1, rfl⟩, h3⟩
    · exact ⟨1, _, qv, h2, .inr ⟨rfl, rfl⟩, h3⟩

set_option maxRecDepth 100000 in
set_option maxHeartbeats 8000000 in
theorem DiskCrashes_any {B : Nat} {dv qv bv v kv : Value} {X : Dev} {m : Nat} {A : Nat → Deed} {n : Nat} {f : Nat → Int} (w : World) (h : DevAt B w dv qv bv X) (hl : DList B w v m A) (hk : NArg B w kv n f) (hB : B ≤ w.heap.size) :
    Calls Try.prog 7 #[devV dv qv bv X, v, kv] w fun e w' => e = .returned (.bool true) ∧ Below w.heap.size w w' := by
  obtain ⟨dx, dc, rfl, -⟩ := h.data.slice
  obtain ⟨qx, qc, rfl, -⟩ := h.queue.slice
  obtain ⟨bx, bc, rfl, -⟩ := h.bad.slice
  obtain ⟨vx, vc, rfl, -⟩ := hl.slice
  obtain ⟨kx, kc, rfl, hkm⟩ := hk.slice
  unfold maxLen at hkm
  have hr := row_six w (.slice dx X.n dc) (.slice qx X.q qc) (.slice bx X.m bc) (.bool X.dead) (.bool X.armed) (.int .i64 X.left) 31
  have hbl := (Below.refl _ w).alloc (Nat.le_refl w.heap.size) (.cells #[.slice dx X.n dc, .slice qx X.q qc, .slice bx X.m bc, .bool X.dead, .bool X.armed, .int .i64 X.left] 31)
  have HD := Lib.hid (h.all hbl)
  have HA := Lib.hid (hl.all hbl)
  have HK := Lib.hid (hk.keep (keeps_below (B := B) hbl).data)
  have HB := Lib.hid hbl
  have HR := Lib.hid hr
  have hB2 := Nat.le_trans hB hbl.size
  have hload := loadC_dev hr
  clear h hl hk hbl hr
  unfold devV
  go_enter Try.func7, Try.ntmps7
  go_upto_region 1 with fail
  generalize w.alloc (.cells #[.slice dx X.n dc, .slice qx X.q qc, .slice bx X.m bc, .bool X.dead, .bool X.armed, .int .i64 X.left] 31) = W at *
  go_wp2_with fail
  refine (few_any W HD.out).mono ?_
  rintro e w2 ⟨⟨b, rfl, -⟩, hb⟩
  have HD2 := Lib.hid (HD.out.all hb)
  have HA2 := Lib.hid (HA.out.all hb)
  have HK2 := Lib.hid (HK.out.keep (keeps_below (B := B) hb).data)
  have HR2 := Lib.hid (HR.out.all hb)
  have HB2 := Lib.hid (HB.out.trans (hb.mono HB.out.size))
  have hB3 := Nat.le_trans hB2 hb.size
  clear hload hb HD HA HK HR HB hB2
  rcases bool_cases b with rfl | rfl
  · go_wp2_with fail
    refine (sane_any w2).mono ?_
    rintro e w3 ⟨rfl, hb⟩
    go_wp2_with fail
    go_ret
    exact ⟨rfl, HB2.out.trans (hb.mono HB2.out.size)⟩
  go_wp2_with fail
  refine (short_any w2 HA2.out).mono ?_
  rintro e w2' ⟨⟨b, rfl, hsh⟩, rfl⟩
  rcases bool_cases b with rfl | rfl
  · go_wp2_with fail
    refine (sane_any w2).mono ?_
    rintro e w3 ⟨rfl, hb⟩
    go_wp2_with fail
    go_ret
    exact ⟨rfl, HB2.out.trans (hb.mono HB2.out.size)⟩
  have HS := Lib.hid (hsh.1 rfl)
  have hload := loadC_dev HR2.out
  clear hsh
  go_wp2_with fail
  refine (Right_any w2 HD2.out).mono ?_
  rintro e w3 ⟨⟨b, rfl, hright⟩, hb⟩
  have HD3 := Lib.hid (HD2.out.all hb)
  have HA3 := Lib.hid (HA2.out.all hb)
  have HK3 := Lib.hid (HK2.out.keep (keeps_below (B := B) hb).data)
  have HR3 := Lib.hid (HR2.out.all hb)
  have HB3 := Lib.hid (HB2.out.trans (hb.mono HB2.out.size))
  have hB4 := Nat.le_trans hB3 hb.size
  clear hload hb HD2 HA2 HK2 HR2 HB2 hB3
  rcases bool_cases b with rfl | rfl
  · go_wp2_with fail
    refine (sane_any w3).mono ?_
    rintro e w4 ⟨rfl, hb⟩
    go_wp2_with fail
    go_ret
    exact ⟨rfl, HB3.out.trans (hb.mono HB3.out.size)⟩
  have HX := Lib.hid (hright.1 rfl)
  clear hright
  by_cases hn : n ≤ 400
  rotate_left
  · have g1 : decide ((n : Int) > 400) = true := decide_eq_true (by omega)
    go_wp2_with fail
    refine (sane_any w3).mono ?_
    rintro e w4 ⟨rfl, hb⟩
    go_wp2_with fail
    go_ret
    exact ⟨rfl, HB3.out.trans (hb.mono HB3.out.size)⟩
  have g1 : decide ((n : Int) > 400) = false := decide_eq_false (by omega)
  have hload := loadC_dev HR3.out
  go_wp2_with fail
  refine (played_any w3 HD3.out HA3.out hB4 HX.out HS.out).mono ?_
  rintro e w4 ⟨g, gs, gb, qv4, D, rfl, -, hd, hb⟩
  have H4 := Lib.hid hd
  have HK4 := Lib.hid ((HK3.out.keep (keeps_below (B := B) hb).data).mono hB4)
  have HB4 := Lib.hid (HB3.out.trans (hb.mono HB3.out.size))
  clear hload hd hb HD3 HA3 HR3 HK3
  go_wp2_with fail
  refine (State_any w4 H4.out).mono ?_
  rintro e w5 ⟨dv5, qv5, bv5, rfl, hd, hb⟩
  obtain ⟨d5, dc5, rfl, hm5⟩ := hd.data.slice
  obtain ⟨q5, qc5, rfl, -⟩ := hd.queue.slice
  obtain ⟨b5, bc5, rfl, -⟩ := hd.bad.slice
  have hst := storeC_dev w5 #[.slice none 0 0, .slice none 0 0, .slice none 0 0, .bool false, .bool false, .int .i64 0] rfl _ _ _ _ _ _ (six_one (a := .slice d5 D.dev.n dc5) (b := .slice q5 D.dev.q qc5) (c := .slice b5 D.dev.m bc5) (d := .bool D.dev.dead) (e := .bool D.dev.armed) (f := .int .i64 D.dev.left) rfl rfl rfl rfl rfl rfl)
  have hr5 := row_six w5 (.slice d5 D.dev.n dc5) (.slice q5 D.dev.q qc5) (.slice b5 D.dev.m bc5) (.bool D.dev.dead) (.bool D.dev.armed) (.int .i64 D.dev.left) 31
  have hb6 := hb.alloc hb.size (.cells #[.slice d5 D.dev.n dc5, .slice q5 D.dev.q qc5, .slice b5 D.dev.m bc5, .bool D.dev.dead, .bool D.dev.armed, .int .i64 D.dev.left] 31)
  have HD6 := Lib.hid (hd.all ((Below.refl _ w5).alloc (Nat.le_refl _) (.cells #[.slice d5 D.dev.n dc5, .slice q5 D.dev.q qc5, .slice b5 D.dev.m bc5, .bool D.dev.dead, .bool D.dev.armed, .int .i64 D.dev.left] 31)))
  have H6 := Lib.hid (H4.out.all hb6)
  have HK6 := Lib.hid (HK4.out.keep (keeps_below (B := w3.heap.size) hb6).data)
  have HB6 := Lib.hid (HB4.out.trans (hb6.mono HB4.out.size))
  have HOk := Lib.hid (show 1 ≤ D.n ∧ D.n ≤ 4096 from H4.out.ok.size)
  clear hd hb hb6 H4 HK4 HB4
  generalize hX5 : D.dev = Y at *
  have HY := Lib.hid hX5
  clear hX5
  unfold devV
  go_upto_region 7 with fail
  clear hst
  generalize hw6 : w5.alloc (.cells #[.slice d5 Y.n dc5, .slice q5 Y.q qc5, .slice b5 Y.m bc5, .bool Y.dead, .bool Y.armed, .int .i64 Y.left] 31) = w6 at *
  have HR6 := Lib.hid hr5
  clear hr5 hw6
  go_wp2_with fail
  refine (crash_one w6 H6.out HK6.out (by omega)).mono ?_
  rintro e w7 ⟨c, D', qv7, rfl, hc, hd, hb, hcalm⟩
  have Hc := Lib.hid hc
  have H7 := Lib.hid hd
  have HD7 := Lib.hid (HD6.out.keep (keeps_calm hb hcalm))
  have HR7 := Lib.hid (RowAt.calm HR6.out hcalm rfl)
  have HB7 := Lib.hid (HB6.out.trans (hb.mono HB3.out.size))
  have hs7 : w6.heap.size ≤ w7.heap.size := hcalm.1
  clear hc hd hb hcalm H6 HD6 HR6 HK6 HB6
  have hn1 : D'.dev.n = Y.n := by
    rw [← HY.out]
    rcases Hc.out with ⟨-, -, rfl⟩ | ⟨-, rfl⟩
    · show (D.crash n f).n * 64 = D.n * 64
      rw [(crash_same D n f).1]
    · rfl
  have Hn1 := Lib.hid hn1
  clear hn1
  go_wp2_with fail
  refine (State_any w7 H7.out).mono ?_
  rintro e w8 ⟨dv8, qv8, bv8, rfl, hd, hb⟩
  obtain ⟨d8, dc8, rfl, hm8⟩ := hd.data.slice
  obtain ⟨q8, qc8, rfl, -⟩ := hd.queue.slice
  obtain ⟨b8, bc8, rfl, -⟩ := hd.bad.slice
  have hst := storeC_dev w8 #[.slice none 0 0, .slice none 0 0, .slice none 0 0, .bool false, .bool false, .int .i64 0] rfl _ _ _ _ _ _ (six_one (a := .slice d8 D'.dev.n dc8) (b := .slice q8 D'.dev.q qc8) (c := .slice b8 D'.dev.m bc8) (d := .bool D'.dev.dead) (e := .bool D'.dev.armed) (f := .int .i64 D'.dev.left) rfl rfl rfl rfl rfl rfl)
  have hr8 := row_six w8 (.slice d8 D'.dev.n dc8) (.slice q8 D'.dev.q qc8) (.slice b8 D'.dev.m bc8) (.bool D'.dev.dead) (.bool D'.dev.armed) (.int .i64 D'.dev.left) 31
  have hb9 := hb.alloc hb.size (.cells #[.slice d8 D'.dev.n dc8, .slice q8 D'.dev.q qc8, .slice b8 D'.dev.m bc8, .bool D'.dev.dead, .bool D'.dev.armed, .int .i64 D'.dev.left] 31)
  have HD9 := Lib.hid (HD7.out.all hb9)
  have HE9 := Lib.hid (hd.all ((Below.refl _ w8).alloc (Nat.le_refl _) (.cells #[.slice d8 D'.dev.n dc8, .slice q8 D'.dev.q qc8, .slice b8 D'.dev.m bc8, .bool D'.dev.dead, .bool D'.dev.armed, .int .i64 D'.dev.left] 31)))
  have HR9 := Lib.hid (HR7.out.all hb9)
  have HB9 := Lib.hid (HB7.out.trans (hb9.mono HB7.out.size))
  clear hd hb hb9 H7 HD7 HR7 HB7 hs7
  generalize hZ : D'.dev = Z at *
  have HZ := Lib.hid hZ
  clear hZ
  unfold devV
  go_upto_region 9 with fail
  clear hst
  generalize hw9 : w8.alloc (.cells #[.slice d8 Z.n dc8, .slice q8 Z.q qc8, .slice b8 Z.m bc8, .bool Z.dead, .bool Z.armed, .int .i64 Z.left] 31) = w9 at *
  have HS9 := Lib.hid hr8
  clear hr8 hw9
  have ⟨p0, p1, p2, p3, p4, p5⟩ := cells6 HR9.out
  have ⟨r0, r1, r2, r3, r4, r5⟩ := cells6 HS9.out
  have r0' : w9.cell? ⟨w8.heap.size, 0, none⟩ = some (.slice d8 Y.n dc8) := by rw [← Hn1.out]; exact r0
  clear r0
  rcases Hc.out with ⟨rfl, hkeep, hD'⟩ | ⟨rfl, hD'⟩
  rotate_left
  · have hl1 := loadC_dev HR9.out
    have hl2 := loadC_dev HS9.out
    have HYZ := Lib.hid (show Y = Z from by rw [← HY.out, ← HZ.out, hD'])
    go_wp2_with fail
    refine (sane_any w9).mono ?_
    rintro e w10 ⟨rfl, hb⟩
    have hl3 := loadC_dev (HR9.out.all hb)
    have hl4 := loadC_dev (HS9.out.all hb)
    have HD10 := Lib.hid (HD9.out.all hb)
    have HE10 := Lib.hid (HE9.out.all hb)
    have HB10 := Lib.hid (HB9.out.trans (hb.mono HB9.out.size))
    clear hl1 hl2 hb
    go_wp2_with fail
    refine (Same_yes w10 HD10.out HE10.out (by rw [← HYZ.out]; exact Dev.Same.rfl' Y)).mono ?_
    rintro e w11 ⟨rfl, hb⟩
    go_wp2_with fail
    go_ret
    exact ⟨rfl, HB10.out.trans (hb.mono HB10.out.size)⟩
  go_upto_region 13 with fail
  obtain ⟨N, hN⟩ : ∃ N, D.n = N := ⟨_, rfl⟩
  have hYn : Y.n = N * 64 := by rw [← HY.out, ← hN]; rfl
  have hZn : Z.n / 64 = N := by rw [Hn1.out, hYn]; omega
  have hN1 : 1 ≤ N ∧ N ≤ 4096 := by rw [← hN]; exact HOk.out
  have HYn := Lib.hid hYn
  have HZn := Lib.hid hZn
  have HN := Lib.hid hN
  have Hkeep := Lib.hid hkeep
  have HDc := Lib.hid hD'
  have hq : Y.q ≤ 9223372036854775807 := by have := HD9.out.queue.slice; obtain ⟨_, _, _, h9⟩ := this; unfold maxLen at h9; omega
  clear p0 p1 p2 p3 p4 p5 r0' r1 r2 r3 r4 r5 hYn hZn hN hkeep hD' hm5 hm8
  go_wp2_with fail
  go_loopw [13] (fun t wr => ∃ i : Nat, i ≤ N ∧ t = .int .i64 i ∧ Below w9.heap.size w9 wr) (fun t _ => N - (intOf t).toNat)
  case atStart => exact ⟨0, by omega, by go_num, Below.refl _ _⟩
  case round =>
    obtain ⟨i, hi, rfl, hbr⟩ := hrel
    have hload := loadC_dev (HS9.out.all hbr)
    have HBr := Lib.hid hbr
    clear hbr
    go_wp2_with fail
    refine (Sectors_any wr (HE9.out.all HBr.out)).mono ?_
    rintro e w10 ⟨rfl, hb⟩
    rw [HZn.out]
    have HBs := Lib.hid (HBr.out.trans (hb.mono HBr.out.size))
    clear hload hb
    have ⟨p0, p1, p2, p3, p4, p5⟩ := cells6 (HR9.out.all HBs.out)
    have ⟨r0, r1, r2, r3, r4, r5⟩ := cells6 (HS9.out.all HBs.out)
    by_cases hlt : i < N
    · have hdlt : decide ((i : Int) < N) = true := decide_eq_true (by omega)
      have r0' : w10.cell? ⟨w8.heap.size, 0, none⟩ = some (.slice d8 (N * 64) dc8) := by rw [← HYn.out, ← Hn1.out]; exact r0
      have p0' : w10.cell? ⟨w5.heap.size, 0, none⟩ = some (.slice d5 (N * 64) dc5) := by rw [← HYn.out]; exact p0
      clear r0 p0
      obtain ⟨bY, oY, eY, cY, fY⟩ := data_at (HD9.out.all HBs.out) HYn.out hN1.1
      obtain ⟨bZ, oZ, eZ, cZ, fZ⟩ := data_at (HE9.out.all HBs.out) (Hn1.out.trans HYn.out) hN1.1
      subst eY eZ
      have sY := sec_str (dc := dc5) fY hlt
      have sZ := sec_str (dc := dc8) fZ hlt
      have nZ := (HE9.out.all HBs.out).bad
      have nY := (HD9.out.all HBs.out).bad
      generalize hs1 : (strF 64 fun k => Z.data (i * 64 + k)) = s1 at *
      generalize hs2 : (strF 64 fun k => Y.data (i * 64 + k)) = s2 at *
      have sYd : ∀ k, (convert 27 9 (.slice (some ⟨bY, oY + i * 64, none⟩) ((i + 1) * 64 - i * 64) (dc5 - i * 64))).run Try.prog (w10.drewN k) = .ok (.string s2) (w10.drewN k) := fun k => by
        rw [← hs2]
        exact sec_str (W := w10.drewN k) (dc := dc5) fY hlt
      have NZ := Lib.hid nZ
      have NY := Lib.hid nY
      have Hs1 := Lib.hid hs1
      have Hs2 := Lib.hid hs2
      clear nZ nY hs1 hs2
      go_upto_region 17 with fail
      clear sZ sY
      by_cases hss : s1.toList = s2.toList
      · have hne : (s1.toList == s2.toList) = true := beq_iff_eq.2 hss
        go_quiet (first | (go_at_call 31; exact Calls.quiet_of_same (In_q i w10 _ NZ.out)) | (go_at_call 31; exact Calls.quiet_of_same (In_q i w10 _ NY.out)))
        go_wp2_with fail
        have Hss := Lib.hid hss
        clear hss hne
        go_loopw [15, 16] (fun s15 s16 wr => ∃ k : Nat, k ≤ Y.q ∧ s16 = .int .i64 k ∧ ∃ fb : Bool, s15 = .bool fb ∧ (((s1.toList = s2.toList ∧ badAny Z i = badAny Y i) ∨ ∃ j, j < k ∧ hitP Y Z s1 i j) → fb = true) ∧ Below w9.heap.size w9 wr) (fun _ s16 _ => Y.q - (intOf s16).toNat)
        case atStart => exact ⟨0, by omega, by go_num, _, rfl, fun h => by rcases h with h | ⟨j, hj, _⟩; exact beq_iff_eq.2 h.2; exact absurd hj (Nat.not_lt_zero j), below_dn HBs.out _⟩
        case round =>
          obtain ⟨k, hk, rfl, fb, rfl, hfb, hbt⟩ := hrel
          have HBt := Lib.hid hbt
          have Hfb := Lib.hid hfb
          clear hbt hfb
          obtain ⟨p0, p1, p2, p3, p4, p5⟩ := cells6 (HR9.out.all HBt.out)
          obtain ⟨r0, r1, r2, r3, r4, r5⟩ := cells6 (HS9.out.all HBt.out)
          clear p0 p2 p3 p4 p5 r0 r1 r3 r4 r5
          by_cases hkq : k < Y.q
          · have hdkq : decide ((k : Int) < Y.q) = true := decide_eq_true (by omega)
            rcases bool_cases fb with rfl | rfl
            · obtain ⟨bq, oq, cq, uq, eq, d0, d1, gq⟩ := (HD9.out.all HBt.out).queue.elem hkq
              cases eq
              obtain ⟨ux, uc, rfl, -⟩ := gq.slice
              have hstr := gq.str
              have NZt := Lib.hid (HE9.out.all HBt.out).bad
              have Hno := Lib.hid (show ¬ hitP Y Z s1 i k → (((s1.toList = s2.toList ∧ badAny Z i = badAny Y i) ∨ ∃ j, j < k + 1 ∧ hitP Y Z s1 i j) → false = true) from fun hn h => Hfb.out (h.imp id fun ⟨j, hj, h9⟩ => ⟨j, by
                rcases Nat.lt_or_ge j k with h10 | h10
                · exact h10
                · obtain rfl : j = k := by omega
                  exact absurd h9 hn, h9⟩))
              clear gq
              by_cases h1 : Y.qa k = i
              · have g1 : (Y.qa k == (i : Int)) = true := beq_iff_eq.2 h1
                have H1 := Lib.hid h1
                clear h1
                generalize hs3 : strF (Y.ql k) (Y.qb k) = s3 at *
                have Hs3 := Lib.hid hs3
                clear hs3
                by_cases h2 : s3.toList = s1.toList
                · have g2 : (s3.toList == s1.toList) = true := beq_iff_eq.2 h2
                  have H2 := Lib.hid h2
                  clear h2
                  go_wp2_with fail
                  refine (In_b i _ NZt.out).mono ?_
                  rintro e w12 ⟨rfl, rfl⟩
                  have Hnew := Lib.hid (show (((s1.toList = s2.toList ∧ badAny Z i = badAny Y i) ∨ ∃ j, j < k + 1 ∧ hitP Y Z s1 i j) → (!badAny Z i) = true) from fun h => by
                    rcases bool_cases (badAny Z i) with h9 | h9
                    · rw [h9]; rfl
                    · exact absurd (Hno.out (fun h10 => by rw [h10.2.2] at h9; cases h9) h) (by simp))
                  go_wp2_with fail
                  go_roundw
                  case rel => exact ⟨k + 1, by omega, by go_num, _, rfl, Hnew.out, HBt.out⟩
                  case measure => simp [intOf]; omega
                · have g2 : (s3.toList == s1.toList) = false := beq_eq_false_iff_ne.2 h2
                  have Hnew := Lib.hid (Hno.out fun h10 => h2 (by rw [← Hs3.out]; exact h10.2.1))
                  clear h2
                  go_wp2_with fail
                  go_roundw
                  case rel => exact ⟨k + 1, by omega, by go_num, _, rfl, Hnew.out, HBt.out⟩
                  case measure => simp [intOf]; omega
              · have g1 : (Y.qa k == (i : Int)) = false := beq_eq_false_iff_ne.2 h1
                have Hnew := Lib.hid (Hno.out fun h10 => h1 h10.1)
                clear h1
                go_wp2_with fail
                go_roundw
                case rel => exact ⟨k + 1, by omega, by go_num, _, rfl, Hnew.out, HBt.out⟩
                case measure => simp [intOf]; omega
            · go_wp2_with fail
              go_roundw
              case rel => exact ⟨k + 1, by omega, by go_num, _, rfl, fun _ => rfl, HBt.out⟩
              case measure => simp [intOf]; omega
          · obtain rfl : Y.q = k := by omega
            have hdkq : decide ((Y.q : Int) < Y.q) = false := decide_eq_false (by omega)
            have hfb : fb = true := Hfb.out (by
              have h9 := found_law D n f Hkeep.out i
              rw [← HDc.out, HY.out, HZ.out, Hs1.out, Hs2.out] at h9
              exact h9.imp (fun h => ⟨by rw [h.1], h.2⟩) id)
            subst hfb
            go_wp2_with fail
            go_roundw
            case rel => exact ⟨i + 1, by omega, by go_num, HBt.out⟩
            case measure => simp [intOf]; omega
      · have hne : (s1.toList == s2.toList) = false := beq_eq_false_iff_ne.2 hss
        go_quiet (fail)
        go_wp2_with fail
        have Hss := Lib.hid hss
        clear hss hne
        go_loopw [15, 16] (fun s15 s16 wr => ∃ k : Nat, k ≤ Y.q ∧ s16 = .int .i64 k ∧ ∃ fb : Bool, s15 = .bool fb ∧ (((s1.toList = s2.toList ∧ badAny Z i = badAny Y i) ∨ ∃ j, j < k ∧ hitP Y Z s1 i j) → fb = true) ∧ Below w9.heap.size w9 wr) (fun _ s16 _ => Y.q - (intOf s16).toNat)
        case atStart => exact ⟨0, by omega, by go_num, _, rfl, fun h => by rcases h with h | ⟨j, hj, _⟩; exact absurd h.1 Hss.out; exact absurd hj (Nat.not_lt_zero j), below_dn HBs.out _⟩
        case round =>
          obtain ⟨k, hk, rfl, fb, rfl, hfb, hbt⟩ := hrel
          have HBt := Lib.hid hbt
          have Hfb := Lib.hid hfb
          clear hbt hfb
          obtain ⟨p0, p1, p2, p3, p4, p5⟩ := cells6 (HR9.out.all HBt.out)
          obtain ⟨r0, r1, r2, r3, r4, r5⟩ := cells6 (HS9.out.all HBt.out)
          clear p0 p2 p3 p4 p5 r0 r1 r3 r4 r5
          by_cases hkq : k < Y.q
          · have hdkq : decide ((k : Int) < Y.q) = true := decide_eq_true (by omega)
            rcases bool_cases fb with rfl | rfl
            · obtain ⟨bq, oq, cq, uq, eq, d0, d1, gq⟩ := (HD9.out.all HBt.out).queue.elem hkq
              cases eq
              obtain ⟨ux, uc, rfl, -⟩ := gq.slice
              have hstr := gq.str
              have NZt := Lib.hid (HE9.out.all HBt.out).bad
              have Hno := Lib.hid (show ¬ hitP Y Z s1 i k → (((s1.toList = s2.toList ∧ badAny Z i = badAny Y i) ∨ ∃ j, j < k + 1 ∧ hitP Y Z s1 i j) → false = true) from fun hn h => Hfb.out (h.imp id fun ⟨j, hj, h9⟩ => ⟨j, by
                rcases Nat.lt_or_ge j k with h10 | h10
                · exact h10
                · obtain rfl : j = k := by omega
                  exact absurd h9 hn, h9⟩))
              clear gq
              by_cases h1 : Y.qa k = i
              · have g1 : (Y.qa k == (i : Int)) = true := beq_iff_eq.2 h1
                have H1 := Lib.hid h1
                clear h1
                generalize hs3 : strF (Y.ql k) (Y.qb k) = s3 at *
                have Hs3 := Lib.hid hs3
                clear hs3
                by_cases h2 : s3.toList = s1.toList
                · have g2 : (s3.toList == s1.toList) = true := beq_iff_eq.2 h2
                  have H2 := Lib.hid h2
                  clear h2
                  go_wp2_with fail
                  refine (In_b i _ NZt.out).mono ?_
                  rintro e w12 ⟨rfl, rfl⟩
                  have Hnew := Lib.hid (show (((s1.toList = s2.toList ∧ badAny Z i = badAny Y i) ∨ ∃ j, j < k + 1 ∧ hitP Y Z s1 i j) → (!badAny Z i) = true) from fun h => by
                    rcases bool_cases (badAny Z i) with h9 | h9
                    · rw [h9]; rfl
                    · exact absurd (Hno.out (fun h10 => by rw [h10.2.2] at h9; cases h9) h) (by simp))
                  go_wp2_with fail
                  go_roundw
                  case rel => exact ⟨k + 1, by omega, by go_num, _, rfl, Hnew.out, HBt.out⟩
                  case measure => simp [intOf]; omega
                · have g2 : (s3.toList == s1.toList) = false := beq_eq_false_iff_ne.2 h2
                  have Hnew := Lib.hid (Hno.out fun h10 => h2 (by rw [← Hs3.out]; exact h10.2.1))
                  clear h2
                  go_wp2_with fail
                  go_roundw
                  case rel => exact ⟨k + 1, by omega, by go_num, _, rfl, Hnew.out, HBt.out⟩
                  case measure => simp [intOf]; omega
              · have g1 : (Y.qa k == (i : Int)) = false := beq_eq_false_iff_ne.2 h1
                have Hnew := Lib.hid (Hno.out fun h10 => h1 h10.1)
                clear h1
                go_wp2_with fail
                go_roundw
                case rel => exact ⟨k + 1, by omega, by go_num, _, rfl, Hnew.out, HBt.out⟩
                case measure => simp [intOf]; omega
            · go_wp2_with fail
              go_roundw
              case rel => exact ⟨k + 1, by omega, by go_num, _, rfl, fun _ => rfl, HBt.out⟩
              case measure => simp [intOf]; omega
          · obtain rfl : Y.q = k := by omega
            have hdkq : decide ((Y.q : Int) < Y.q) = false := decide_eq_false (by omega)
            have hfb : fb = true := Hfb.out (by
              have h9 := found_law D n f Hkeep.out i
              rw [← HDc.out, HY.out, HZ.out, Hs1.out, Hs2.out] at h9
              exact h9.imp (fun h => ⟨by rw [h.1], h.2⟩) id)
            subst hfb
            go_wp2_with fail
            go_roundw
            case rel => exact ⟨i + 1, by omega, by go_num, HBt.out⟩
            case measure => simp [intOf]; omega
    · obtain rfl : N = i := by omega
      have hdlt : decide ((N : Int) < N) = false := decide_eq_false (by omega)
      clear p0 p1 p2 p3 p4 p5 r0 r1 r2 r3 r4 r5
      have hZq : Z.q = 0 := by rw [← HZ.out, HDc.out]; rfl
      have hZd : Z.dead = Y.dead := by rw [← HZ.out, ← HY.out, HDc.out]; exact (crash_same D n f).2.2.1
      have hZa : Z.armed = false := by rw [← HZ.out, HDc.out]; rfl
      go_wp2_with fail
      refine (sane_any w10).mono ?_
      rintro e w11 ⟨rfl, hb⟩
      obtain ⟨p0, p1, p2, p3, p4, p5⟩ := cells6 ((HR9.out.all HBs.out).all hb)
      obtain ⟨r0, r1, r2, r3, r4, r5⟩ := cells6 ((HS9.out.all HBs.out).all hb)
      rw [hZq] at r1
      rw [hZd] at r3
      rw [hZa] at r4
      clear p0 p1 p2 p4 p5 r0 r2 r5 hZq hZd hZa
      go_wp2_with fail
      go_ret
      exact ⟨rfl, HB9.out.trans ((HBs.out.trans (hb.mono HBs.out.size)).mono HB9.out.size)⟩

end Go.Proofs.Ytjhcaedfknhilaa
