/- The law's example: sectors of one byte. The law's example. The reference: New and Same. The reference: Same. The reference: Sectors, In; few. -/
import Derived.Test.YtjhcaedfknhilaaRc13
namespace Go.Proofs.Ytjhcaedfknhilaa
set_option linter.unusedVariables false
set_option linter.unusedSimpArgs false
open Go.RowKit
attribute [local go_sem ↓] Go.wp_at_zero Go.wp_at_succ

theorem Load_any {B : Nat} {dv qv bv : Value} {X : Dev} (w : World) (h : DevAt B w dv qv bv X) (hB : B ≤ w.heap.size) : Calls Try.prog 28 #[devV dv qv bv X] w (LoadP B X w) := by
  by_cases h1 : X.ok1
  · by_cases h2 : X.ok2
    · exact Load_main w h hB h1 h2
    · exact (Load_bad2 w h h1 h2).mono fun e w' hn => .inl ⟨fun hr => h2 hr.h2, hn⟩
  · exact (Load_bad1 w h h1).mono fun e w' hn => .inl ⟨fun hr => h1 hr.h1, hn⟩

set_option maxHeartbeats 1000000 in
theorem sector_any (b : Int) (w : World) :
    Calls Try.prog 35 #[.int .u8 b] w fun e w' => e = .returned (.slice (some ⟨w.heap.size, 0, none⟩) 64 64) ∧ RowAt w' w.heap.size 5 64 64 (fun _ => .int .u8 b) ∧ Below w.heap.size w w' := by
  obtain ⟨w1, hm, hr, hb, hs⟩ := make_o (P := Try.prog) 27 5 _ _ Try.underlying27 info_u8d rfl (by decide) .i64 64 (by decide) w
  have Hr := Lib.hid hr
  have Hb := Lib.hid hb
  clear hr hb hs
  have hm' : (Instr.makeSlice 27 (.int .i64 64) (.int .i64 64)).run Try.prog w = .ok (.slice (some ⟨w.heap.size, 0, none⟩) 64 64) w1 := hm
  clear hm
  go_enter Try.func35, Try.ntmps35
  go_wp2_with fail
  clear hm'
  go_loopw [8] (fun t wr => ∃ i : Nat, i ≤ 64 ∧ t = .int .i64 i ∧ RowAt wr w.heap.size 5 64 64 (fun j => if j < i then .int .u8 b else .int .u8 0) ∧ Below w.heap.size w wr) (fun t _ => 64 - (intOf t).toNat)
  case atStart => exact ⟨0, by omega, by go_num, Hr.out.congr fun j hj => by rw [if_neg (Nat.not_lt_zero j)], Hb.out⟩
  case round =>
    obtain ⟨i, hi, rfl, hI, hB⟩ := hrel
    have HI := Lib.hid hI
    have HB := Lib.hid hB
    by_cases hlt : i < 64
    · have hdlt : decide ((i : Int) < 64) = true := decide_eq_true (by omega)
      have e0 := hI.cell (i := i) (by omega)
      have z0 := hI.frozen i
      rw [if_neg (Nat.lt_irrefl i)] at e0
      have HN := Lib.hid ((hI.set i (.int .u8 b)).congr (f' := fun j => if j < i + 1 then .int .u8 b else .int .u8 0) fun j hj => by
        by_cases hji : j = i
        · rw [if_pos hji, if_pos (by omega)]
        · rw [if_neg hji]
          by_cases h1 : j < i
          · rw [if_pos h1, if_pos (by omega)]
          · rw [if_neg h1, if_neg (by omega)])
      have HB2 := Lib.hid (hB.setCell (p := ⟨w.heap.size, i, none⟩) (Nat.le_refl _) (.int .u8 b))
      clear hI hB
      go_wp2
      go_roundw
      case rel => exact ⟨i + 1, by omega, by go_num, HN.out, HB2.out⟩
      case measure => simp [intOf]; omega
    · obtain rfl : i = 64 := by omega
      clear hI hB
      go_wp2
      go_ret
      exact ⟨rfl, HI.out.congr fun j hj => by rw [if_pos hj], HB.out⟩

end Go.Proofs.Ytjhcaedfknhilaa

namespace Go.Proofs.Ytjhcaedfknhilaa
set_option linter.unusedVariables false
set_option linter.unusedSimpArgs false
open Go.RowKit
attribute [local go_sem ↓] Go.wp_at_zero Go.wp_at_succ

def sF12 (k : Nat) : Int := if k < 64 then 1 else 2
def sE0 : Dsk := Dsk.zero 4
def sE1 : Dsk := sE0.write 1 2 sF12
def sE2 : Dsk := sE1.sync
def sE3 : Dsk := sE2.write 1 1 (fun _ => 3)
def sE4 : Dsk := sE3.write 1 1 (fun _ => 1)
def sE5 : Dsk := sE4.crash 1 (fun _ => 0)
def sE6 : Dsk := sE5.spoil 3

theorem sF12_byte (i : Nat) : 0 ≤ sF12 i ∧ sF12 i < 256 := by
  unfold sF12
  split <;> decide
theorem sE_facts : sE0.n = 4 ∧ sE0.q = 0 ∧ sE0.off = false ∧ sE1.n = 4 ∧ sE1.q = 2 ∧ sE1.off = false ∧ sE2.n = 4 ∧ sE2.q = 0 ∧ sE2.off = false ∧ sE3.n = 4 ∧ sE3.q = 1 ∧ sE3.off = false ∧ sE4.n = 4 ∧ sE4.q = 2 ∧ sE5.n = 4 ∧ sE5.q = 0 ∧ sE5.off = false ∧ sE6.n = 4 ∧ sE6.off = false ∧ sE6.dead = false :=
  ⟨rfl, rfl, rfl, rfl, rfl, rfl, rfl, rfl, rfl, rfl, rfl, rfl, rfl, rfl, rfl, rfl, rfl, rfl, rfl, rfl⟩
theorem sKeep : keepOk sE4.q 1 (fun _ => 0) := fun i hi => ⟨⟨Int.le_refl 0, by show (0:Int) < ((2:Nat):Int); decide⟩, fun j hj => by omega⟩
theorem sHas5 : sE5.has 1 = some (fun _ => 3) := by rfl
theorem sRead5 : readOk sE5 1 1 := fun i hi => by
  obtain rfl : i = 0 := by omega
  exact ⟨_, sHas5⟩
theorem sBytes (k : Nat) (hk : k < 64) : readV sE5 1 k = .int .u8 3 := by
  unfold readV Dsk.hasF
  rw [show 1 + k / 64 = 1 from by omega, sHas5]
  rfl
theorem sHas6 : sE6.has 3 = none := by rfl
theorem sRead6 : ¬ readOk sE6 3 1 := fun h => by
  obtain ⟨f, hf⟩ := h 0 (by decide)
  rw [sHas6] at hf
  cases hf

theorem barg_row {B : Nat} {w : World} {g : Nat} {c n : Nat} {f : Nat → Int} (h : RowAt w g 5 c n (byteF f)) (hc : c ≤ maxLen) (hf : ∀ i, 0 ≤ f i ∧ f i < 256) : BArg B w (.slice (some ⟨g, 0, none⟩) n c) n f := by
  refine ⟨hf, ?_⟩
  by_cases hn : n = 0
  · subst hn; exact .inl ⟨rfl, _, _, rfl⟩
  · have hle := h.le
    have hr := h.reads
    obtain ⟨cur, hg, _⟩ := h
    exact .inr ⟨g, 0, c, rfl, by omega, hle, hc, hr, .inr ⟨cur, _, hg⟩⟩

theorem str64 {w : World} {g c : Nat} {f : Nat → Int} (h : RowAt w g 5 c 64 (byteF f)) : (convert 27 9 (.slice (some ⟨g, 0, none⟩) 64 c)).run Try.prog w = .ok (.string (strF 64 f)) w :=
  convert_cells 27 5 9 Try.underlying27 (by kernel_rfl) (by kernel_rfl) g 0 64 c f w h.reads

/-- A row that is no disk's, behind a disk's operation. -/
theorem RowAt.calm {w w' : World} {g : Nat} {e : TypeId} {c n : Nat} {f : Nat → Value} (h : RowAt w g e c n f) (hc : Calm w w') (he : diskT e = false) : RowAt w' g e c n f := by
  obtain ⟨cur, hg, rest⟩ := h
  exact ⟨cur, hc.2 g _ hg (by show (!diskT e) = true; rw [he]; rfl), rest⟩
theorem disk_grownT {B g gs gb : Nat} {qv : Value} {D : Dsk} {w w' : World} {B' k n : Nat} {e : TypeId} {v : Value} {f : Nat → Value} (h : DiskIn B g gs gb qv D w) (ho : OwnK w B' e k v n f) (he : diskT e = false) (hg : w.grownBy w' v.ownBlock) : DiskIn B g gs gb qv D w' := by
  have ne : ∀ {b : Nat} {t : TypeId} {c m : Nat} {F : Nat → Value}, RowAt w b t c m F → diskT t = true → v.ownBlock ≠ some b := fun hr ht e9 => by
    have h9 := ho.typed e9 hr
    rw [h9, ht] at he; cases he
  refine ⟨h.row.grown hg (ne h.row rfl), h.sec.grown hg (ne h.sec rfl), h.bad.grown hg (ne h.bad rfl), ?_, h.base, h.ok⟩
  rcases h.que with h9 | ⟨gq, cq, q1, q2, q3, q4⟩
  · exact .inl h9
  · exact .inr ⟨gq, cq, q1, q2, q3.grown hg (ne q3 rfl), q4⟩

set_option maxRecDepth 100000 in
set_option maxHeartbeats 4000000 in
theorem sane_any (w : World) : Calls Try.prog 10 #[] w fun e w' => e = .returned (.bool true) ∧ Below w.heap.size w w' := by
  go_enter Try.func10, Try.ntmps10
  go_wp2_with fail
  refine (New_ok 4 (by decide) w).mono ?_
  rintro e w1 ⟨g, gs, gb, rfl, hd, hb⟩
  have HD1 := Lib.hid (show DiskIn w.heap.size g gs gb _ sE0 w1 from hd)
  have HB1 := Lib.hid hb
  clear hd hb
  go_wp2_with fail
  refine (sector_any 1 w1).mono ?_
  rintro e w2 ⟨rfl, hr, hb⟩
  have HR2 := Lib.hid hr
  have HD2 := Lib.hid (HD1.out.all hb)
  have HB2 := Lib.hid (HB1.out.trans (hb.mono HB1.out.size))
  have Hs2 := Lib.hid (show w1.heap.size < w2.heap.size from hr.lt)
  clear hr hb HD1
  go_wp2_with fail
  refine (sector_any 2 w2).mono ?_
  rintro e w3 ⟨rfl, hr, hb⟩
  have HR3 := Lib.hid hr
  have HR2' := Lib.hid (HR2.out.all hb)
  have HD3 := Lib.hid (HD2.out.all hb)
  have HB3 := Lib.hid (HB2.out.trans (hb.mono HB2.out.size))
  clear hr hb HD2 HR2
  have hown : Own w3 w1.heap.size 5 (.slice (some ⟨w1.heap.size, 0, none⟩) 64 64) 64 (fun _ => .int .u8 1) := .inr ⟨_, _, rfl, Nat.le_refl _, HR2'.out, by decide⟩
  have Hown := Lib.hid hown; clear hown
  go_wp2_with (with_reducible refine stopB .append ?_)
  refine Hold.go ?_
  refine wpList_append_o rfl _ _ 27 5 _ _ rfl Try.underlying27 info_u8d rfl w1.heap.size _ 64 (fun _ => .int .u8 1) rfl Hown.out w2.heap.size 0 64 64 (fun _ => .int .u8 2) rfl HR3.out.reads (fun _ _ => rfl) (by decide) (by decide) (by have := HR2'.out.lt; omega) ?_
  intro v' w4 hown' hgr _ _
  have hbl : Below w.heap.size w w4 := HB3.out.grown hgr HB3.out.size (fun k hk => by have := (Hown.out.isCells k hk).1; have := HB1.out.size; omega)
  have hd4 : DiskIn w.heap.size g gs gb (.slice none 0 0) sE0 w4 := disk_grownT HD3.out Hown.out.toK rfl hgr
  obtain ⟨av, cv, rfl⟩ := (Own.slice hown')
  have HA4 := Lib.hid (barg_own (B := w.heap.size) (f := sF12) (hown'.congr fun i hi => by
    unfold byteF sF12
    by_cases h9 : i < 64
    · rw [if_pos h9, if_pos h9]
    · rw [if_neg h9, if_neg h9]) sF12_byte)
  have HD4 := Lib.hid hd4
  have HB4 := Lib.hid hbl
  clear hown' hgr hbl hd4 HD3 HB3 Hown HR3 HR2' Hs2
  go_wp2_with fail
  refine (Write_ok 1 2 w4 HD4.out HA4.out (by decide) rfl (by decide)).mono ?_
  rintro e w5 ⟨qv5, rfl, hd, hb, -⟩
  have HD5 := Lib.hid (show DiskIn w.heap.size g gs gb qv5 sE1 w5 from hd)
  have HB5 := Lib.hid (HB4.out.trans hb)
  clear hd hb HD4 HB4 HA4 HB1 HB2
  go_wp2_with fail
  refine (Queued_any w5 HD5.out).mono ?_
  rintro e w5' ⟨rfl, rfl⟩
  go_wp2_with fail
  refine (Sync_ok w5 HD5.out rfl).mono ?_
  rintro e w6 ⟨qv6, rfl, hd, hb, -⟩
  have HD6 := Lib.hid (show DiskIn w.heap.size g gs gb qv6 sE2 w6 from hd)
  have HB6 := Lib.hid (HB5.out.trans hb)
  clear hd hb HD5 HB5
  go_wp2_with fail
  refine (sector_any 3 w6).mono ?_
  rintro e w7 ⟨rfl, hr, hb⟩
  have HA7 := Lib.hid (barg_row (B := w.heap.size) (f := fun _ => 3) hr (by decide) (fun _ => by decide))
  have HD7 := Lib.hid (HD6.out.all hb)
  have HB7 := Lib.hid (HB6.out.trans (hb.mono HB6.out.size))
  clear hr hb HD6 HB6
  go_wp2_with fail
  refine (Write_ok 1 1 w7 HD7.out HA7.out (by decide) rfl (by decide)).mono ?_
  rintro e w8 ⟨qv8, rfl, hd, hb, -⟩
  have HD8 := Lib.hid (show DiskIn w.heap.size g gs gb qv8 sE3 w8 from hd)
  have HB8 := Lib.hid (HB7.out.trans hb)
  clear hd hb HD7 HB7 HA7
  go_wp2_with fail
  refine (sector_any 1 w8).mono ?_
  rintro e w9 ⟨rfl, hr, hb⟩
  have HA9 := Lib.hid (barg_row (B := w.heap.size) (f := fun _ => 1) hr (by decide) (fun _ => by decide))
  have HD9 := Lib.hid (HD8.out.all hb)
  have HB9 := Lib.hid (HB8.out.trans (hb.mono HB8.out.size))
  clear hr hb HD8 HB8
  go_wp2_with fail
  refine (Write_ok 1 1 w9 HD9.out HA9.out (by decide) rfl (by decide)).mono ?_
  rintro e w10 ⟨qv10, rfl, hd, hb, -⟩
  have HD10 := Lib.hid (show DiskIn w.heap.size g gs gb qv10 sE4 w10 from hd)
  have HB10 := Lib.hid (HB9.out.trans hb)
  clear hd hb HD9 HB9 HA9
  go_wp2_with fail
  have hk : NArg w.heap.size (w10.alloc (.cells #[.int .i64 0] 3)) (.slice (some ⟨w10.heap.size, 0, none⟩) 1 1) 1 (fun _ => 0) :=
    narg_own (.inr ⟨_, _, rfl, Nat.le_refl _, RowAt.new w10 #[.int .i64 0] 3 (intsV fun _ => 0) 1 (by simp) (one_cell rfl), by decide⟩) (fun _ => by decide)
  have HK := Lib.hid hk
  have HD11 := Lib.hid (HD10.out.all ((Below.refl _ w10).alloc (Nat.le_refl _) (.cells #[.int .i64 0] 3)))
  have HB11 := Lib.hid (HB10.out.alloc HB10.out.size (.cells #[.int .i64 0] 3))
  clear hk HD10 HB10
  generalize w10.alloc (.cells #[.int .i64 0] 3) = w11 at *
  refine (Crash_any w11 HD11.out HK.out (by decide)).mono ?_
  rintro e w12 (⟨-, qv12, rfl, hd, hb, -⟩ | ⟨hno, -⟩)
  rotate_left 1
  · exact absurd sKeep hno
  have HD12 := Lib.hid (show DiskIn w.heap.size g gs gb qv12 sE5 w12 from hd)
  have HB12 := Lib.hid (HB11.out.trans hb)
  clear hd hb HD11 HB11 HK
  go_wp2_with fail
  refine (Read_any 1 1 w12 HD12.out (by decide) rfl).mono ?_
  rintro e w13 (⟨hno, -⟩ | ⟨-, v, rfl, ho, hd, hb⟩)
  · exact absurd sRead5 hno
  obtain ⟨gx, cx, rfl, hgx, hrx, hcx⟩ := ho.row (by decide)
  have HX13 := Lib.hid (show RowAt w13 gx 5 cx 64 (byteF fun _ => 3) from hrx.congr fun k hk => sBytes k hk)
  have HD13 := Lib.hid hd
  have HB13 := Lib.hid (HB12.out.trans (hb.mono HB12.out.size))
  clear hd hb ho hrx hcx HD12 HB12
  go_wp2_with fail
  refine (Spoil_ok 3 w13 HD13.out (by decide)).mono ?_
  rintro e w14 ⟨rfl, hd, hb, hc⟩
  have HD14 := Lib.hid (show DiskIn w.heap.size g gs gb qv12 sE6 w14 from hd)
  have HB14 := Lib.hid (HB13.out.trans hb)
  have HX14 := Lib.hid (HX13.out.calm hc rfl)
  clear hd hb hc HD13 HB13 HX13
  go_wp2_with fail
  refine (Read_any 3 1 w14 HD14.out (by decide) rfl).mono ?_
  rintro e w15 (⟨-, rfl, hd, hb⟩ | ⟨hok, -⟩)
  rotate_left 1
  · exact absurd hok sRead6
  have HD15 := Lib.hid hd
  have HB15 := Lib.hid (HB14.out.trans (hb.mono HB14.out.size))
  have HX15 := Lib.hid (HX14.out.all hb)
  clear hd hb HD14 HB14 HX14
  go_wp2_with fail
  refine (sector_any 1 w15).mono ?_
  rintro e w16 ⟨rfl, hr, hb⟩
  have HD16 := Lib.hid (HD15.out.all hb)
  have HB16 := Lib.hid (HB15.out.trans (hb.mono HB15.out.size))
  have HX16 := Lib.hid (HX15.out.all hb)
  clear hr hb HD15 HB15 HX15
  go_wp2_with fail
  refine (Write_len 0 63 _ _ w16 HD16.out (by decide) (by decide)).mono ?_
  rintro e w17 ⟨rfl, hd, hb, hc⟩
  have HD17 := Lib.hid hd
  have HB17 := Lib.hid (HB16.out.trans hb)
  have HX17 := Lib.hid (HX16.out.calm hc rfl)
  clear hd hb hc HD16 HB16 HX16
  have hd17 : Below w17.heap.size w17 w17.drew := (Below.refl _ w17).drew
  go_upto_region 14 with fail
  go_region_held (fun w' => (convert 27 9 (.slice (some ⟨gx, 0, none⟩) 64 cx)).run Try.prog w' = .ok (.string (strF 64 fun _ => 3)) w' ∧ Below w17.heap.size w17 w')
    (exact ⟨str64 (HX17.out.all (by assumption)), by assumption⟩)
    (first | (go_at_call 35; refine (sector_any 3 _).mono ?_; rintro e w18 ⟨rfl, hr, hb⟩; have c3 := str64 (g := w17.heap.size) hr; have hb18 := hd17.trans hb; clear hd17; have HD18 := Lib.hid (HD17.out.all hb18)) | (go_at_call 26; refine (Alive_any _ HD18.out).mono ?_; rintro e w19 ⟨rfl, rfl⟩) | (go_at_call 21; refine (Size_any _ HD18.out).mono ?_; rintro e w19 ⟨rfl, rfl⟩))
  have e6 : (((sE6.n : Nat) : Int) == 4) = true := by decide
  have HB18 := Lib.hid (HB17.out.trans (hb18.mono HB17.out.size))
  rw [e6]
  clear hb18 c3 hr hb HD18 HD17 HX17
  go_wp2
  go_ret
  exact ⟨rfl, HB18.out⟩

end Go.Proofs.Ytjhcaedfknhilaa

namespace Go.Proofs.Ytjhcaedfknhilaa
set_option linter.unusedVariables false
set_option linter.unusedSimpArgs false
open Go.RowKit
attribute [local go_sem ↓] Go.wp_at_zero Go.wp_at_succ
attribute [-go_sem] loadCellsFrom storeCells
attribute [local go_sem] storeCells_one

theorem z0 : -9223372036854775808 ≤ (0 : Int) ∧ (0 : Int) ≤ 9223372036854775807 := by decide
theorem z1 : 0 ≤ (0 : Int) ∧ (0 : Int) < 256 := by decide
/-- A new device. -/
def newDev (n : Nat) : Dev := ⟨n * 64, fun _ => 0, 0, fun _ => 0, fun _ => 0, fun _ _ => 0, 0, fun _ => 0, false, false, 0⟩

set_option maxHeartbeats 2000000 in
theorem RefNew_any (B n : Nat) (hn : 1 ≤ n ∧ n ≤ 4096) (w : World) : Calls Try.prog 13 #[.int .i64 n] w fun e w' => ∃ dv qv bv, e = .returned (devV dv qv bv (newDev n)) ∧ DevAt B w' dv qv bv (newDev n) ∧ Below w.heap.size w w' := by
  have hr := row_six w (.slice none 0 0) (.slice none 0 0) (.slice none 0 0) (.bool false) (.bool false) (.int .i64 0) 31
  obtain ⟨w2, hm, hd, hb, hs⟩ := make_o (P := Try.prog) 27 5 _ _ Try.underlying27 info_u8d rfl (by decide) .i64 (n * 64) (by omega) (w.alloc (.cells #[.slice none 0 0, .slice none 0 0, .slice none 0 0, .bool false, .bool false, .int .i64 0] 31))
  rw [World.size_alloc] at hm hd hb
  have hm' : (Instr.makeSlice 27 (.int .i64 ((n : Int) * 64)) (.int .i64 ((n : Int) * 64))).run Try.prog (w.alloc (.cells #[.slice none 0 0, .slice none 0 0, .slice none 0 0, .bool false, .bool false, .int .i64 0] 31)) = .ok (.slice (some ⟨w.heap.size + 1, 0, none⟩) (n * 64) (n * 64)) w2 := by
    simpa using hm
  have hres := hr.all (by rw [World.size_alloc]; exact hb)
  have hs6 := storeC_six hres (six_one (a := .slice (some ⟨w.heap.size + 1, 0, none⟩) (n * 64) (n * 64)) (b := .slice none 0 0) (c := .slice none 0 0) (d := .bool false) (e := .bool false) (f := .int .i64 0) rfl rfl rfl rfl rfl rfl)
  have hfin := row_set6 hres (.slice (some ⟨w.heap.size + 1, 0, none⟩) (n * 64) (n * 64)) (.slice none 0 0) (.slice none 0 0) (.bool false) (.bool false) (.int .i64 0)
  have hrd := resDev hfin.1
  have hw : IntKind.i64.wrap ((n : Int) * 64) = (n : Int) * 64 := IntWalk.i64_in _ (by omega)
  have hbl : Below w.heap.size w (w2.setCells w.heap.size 0 [.slice (some ⟨w.heap.size + 1, 0, none⟩) (n * 64) (n * 64), .slice none 0 0, .slice none 0 0, .bool false, .bool false, .int .i64 0]) :=
    Wrote.below hfin.2 (((Below.refl _ w).alloc (Nat.le_refl _) _).trans (hb.mono (by omega))) (by have := hb.size; rw [World.size_alloc] at this; omega) (Nat.le_refl _)
  have hdat := hd.wrote hfin.2 (show w.heap.size + 1 ≠ w.heap.size by omega)
  have Hbl := Lib.hid (And.intro hbl hdat)
  clear hm hd hb hs hr hres hfin hbl hdat
  go_enter Try.func13, Try.ntmps13
  go_wp2_with fail
  refine bodyPost_ret (v := devV (.slice (some ⟨w.heap.size + 1, 0, none⟩) (n * 64) (n * 64)) (.slice none 0 0) (.slice none 0 0) (newDev n)) (by simp [results, Try.results13, asAddr, hrd, devV, newDev]) rfl ⟨_, _, _, rfl, ⟨?_, ⟨fun _ => z0, .inl ⟨rfl, _, _, rfl⟩⟩, ⟨fun _ => z0, .inl ⟨rfl, _, _, rfl⟩⟩, z0⟩, Hbl.out.1⟩
  exact barg_own (B' := 0) (.inr ⟨_, _, rfl, Nat.zero_le _, Hbl.out.2, by unfold maxLen; show n * 64 ≤ _; omega⟩) fun _ => z1

end Go.Proofs.Ytjhcaedfknhilaa

namespace Go.Proofs.Ytjhcaedfknhilaa
set_option linter.unusedVariables false
set_option linter.unusedSimpArgs false
open Go.RowKit
attribute [local go_sem ↓] Go.wp_at_zero Go.wp_at_succ

/-- The text of a list of bytes, in each world with this memory. -/
def Txt (v : Value) (n : Nat) (f : Nat → Int) (w : World) : Prop := ∀ k, (convert 27 9 v).run Try.prog (w.drewN k) = .ok (.string (strF n f)) (w.drewN k)
theorem conv_none (c : Nat) (w : World) : (convert 27 9 (.slice none 0 c)).run Try.prog w = .ok (.string (strF 0 fun _ => 0)) w := by kernel_rfl
theorem conv_some (x : Addr) (c : Nat) (w : World) : (convert 27 9 (.slice (some x) 0 c)).run Try.prog w = .ok (.string (strF 0 fun _ => 0)) w := by kernel_rfl
theorem BArg.str {B : Nat} {w : World} {v : Value} {n : Nat} {f : Nat → Int} (h : BArg B w v n f) : (convert 27 9 v).run Try.prog w = .ok (.string (strF n f)) w := by
  rcases h with ⟨_, (⟨rfl, x, c, rfl⟩ | ⟨b, off, c, rfl, _, _, _, h4, _⟩)⟩
  · rw [strF_congr (g := fun _ => 0) (fun i hi => absurd hi (Nat.not_lt_zero i))]
    rcases x with _ | x
    · exact conv_none c w
    · exact conv_some x c w
  · exact convert_cells 27 5 9 Try.underlying27 (by kernel_rfl) (by kernel_rfl) b off n c f w h4
theorem BArg.txt {B : Nat} {w : World} {v : Value} {n : Nat} {f : Nat → Int} (h : BArg B w v n f) : Txt v n f w := fun k => BArg.str (B := B) (w := w.drewN k) h

/-- The elements of a queue in memory. -/
theorem QArg.elem {B : Nat} {w : World} {v : Value} {q : Nat} {a : Nat → Int} {l : Nat → Nat} {f : Nat → Nat → Int} (h : QArg B w v q a l f) {i : Nat} (hi : i < q) :
    ∃ b off cap bv, v = .slice (some ⟨b, off, none⟩) q cap ∧ w.cell? ⟨b, off + i * 2, none⟩ = some (.int .i64 (a i)) ∧ w.cell? ⟨b, off + i * 2 + 1, none⟩ = some bv ∧ BArg B w bv (l i) (f i) := by
  rcases h with ⟨_, (⟨h0, _⟩ | ⟨b, off, cap, bv, rfl, _, _, _, h4, _, h6⟩)⟩
  · omega
  · refine ⟨b, off, cap, bv i, rfl, ?_, ?_, h6 i hi⟩
    · have := h4 (i * 2) (by omega)
      rw [this]
      unfold putC
      rw [if_pos (by omega), show i * 2 / 2 = i from by omega]
    · have := h4 (i * 2 + 1) (by omega)
      rw [Nat.add_assoc, this]
      unfold putC
      rw [if_neg (by omega), show (i * 2 + 1) / 2 = i from by omega]
theorem NArg.elem {B : Nat} {w : World} {v : Value} {n : Nat} {f : Nat → Int} (h : NArg B w v n f) {i : Nat} (hi : i < n) : ∃ b off cap, v = .slice (some ⟨b, off, none⟩) n cap ∧ w.cell? ⟨b, off + i, none⟩ = some (.int .i64 (f i)) := by
  rcases h with ⟨_, (⟨h0, _⟩ | ⟨b, off, cap, rfl, _, _, _, h4, _⟩)⟩
  · omega
  · exact ⟨b, off, cap, rfl, h4 i hi⟩

theorem cells6 {W : World} {g : Nat} {t : TypeId} {a b c d e f : Value} (h : RowAt W g t 6 6 (st6 a b c d e f)) : W.cell? ⟨g, 0, none⟩ = some a ∧ W.cell? ⟨g, 1, none⟩ = some b ∧ W.cell? ⟨g, 2, none⟩ = some c ∧ W.cell? ⟨g, 3, none⟩ = some d ∧ W.cell? ⟨g, 4, none⟩ = some e ∧ W.cell? ⟨g, 5, none⟩ = some f :=
  ⟨h.cell (i := 0) (by omega), h.cell (i := 1) (by omega), h.cell (i := 2) (by omega), h.cell (i := 3) (by omega), h.cell (i := 4) (by omega), h.cell (i := 5) (by omega)⟩
theorem below_dn {B : Nat} {w w' : World} (h : Below B w w') (k : Nat) : Below B w (w'.drewN k) := h.trans (below_drewN B w' k)
theorem bne_same (b : Bool) : (b != b) = false := by cases b <;> rfl

set_option maxRecDepth 100000 in
set_option maxHeartbeats 4000000 in
theorem Same_refl {B1 B2 : Nat} {dv qv bv dv' qv' bv' : Value} {X : Dev} (w : World) (hx : DevAt B1 w dv qv bv X) (hy : DevAt B2 w dv' qv' bv' X) :
    Calls Try.prog 12 #[devV dv qv bv X, devV dv' qv' bv' X] w fun e w' => e = .returned (.bool true) ∧ Below w.heap.size w w' := by
  obtain ⟨dx, dc, rfl, -⟩ := hx.data.slice
  obtain ⟨qx, qc, rfl, hq⟩ := hx.queue.slice
  obtain ⟨bx, bc, rfl, hm⟩ := hx.bad.slice
  obtain ⟨dy, ec, rfl, -⟩ := hy.data.slice
  obtain ⟨qy, rc, rfl, -⟩ := hy.queue.slice
  obtain ⟨by', cc, rfl, -⟩ := hy.bad.slice
  unfold maxLen at hq hm
  have hr1 := (row_six w (.slice dx X.n dc) (.slice qx X.q qc) (.slice bx X.m bc) (.bool X.dead) (.bool X.armed) (.int .i64 X.left) 31).alloc (.cells #[.slice dy X.n ec, .slice qy X.q rc, .slice by' X.m cc, .bool X.dead, .bool X.armed, .int .i64 X.left] 31)
  have hr2 := row_six (w.alloc (.cells #[.slice dx X.n dc, .slice qx X.q qc, .slice bx X.m bc, .bool X.dead, .bool X.armed, .int .i64 X.left] 31)) (.slice dy X.n ec) (.slice qy X.q rc) (.slice by' X.m cc) (.bool X.dead) (.bool X.armed) (.int .i64 X.left) 31
  have hbl : Below w.heap.size w ((w.alloc (.cells #[.slice dx X.n dc, .slice qx X.q qc, .slice bx X.m bc, .bool X.dead, .bool X.armed, .int .i64 X.left] 31)).alloc (.cells #[.slice dy X.n ec, .slice qy X.q rc, .slice by' X.m cc, .bool X.dead, .bool X.armed, .int .i64 X.left] 31)) :=
    ((Below.refl _ w).alloc (Nat.le_refl _) _).alloc (by simp) _
  rw [World.size_alloc] at hr2
  unfold devV
  go_enter Try.func12, Try.ntmps12
  go_upto_region 1 with fail
  generalize (w.alloc (.cells #[.slice dx X.n dc, .slice qx X.q qc, .slice bx X.m bc, .bool X.dead, .bool X.armed, .int .i64 X.left] 31)).alloc (.cells #[.slice dy X.n ec, .slice qy X.q rc, .slice by' X.m cc, .bool X.dead, .bool X.armed, .int .i64 X.left] 31) = W at *
  have HX := Lib.hid (hx.all hbl)
  have HY := Lib.hid (hy.all hbl)
  have HB := Lib.hid hbl
  have H1 := Lib.hid hr1
  have H2 := Lib.hid hr2
  have b0 := HX.out.data.str
  have b1 := HY.out.data.str
  obtain ⟨a0, a1, a2, a3, a4, a5⟩ := cells6 hr1
  obtain ⟨c0, c1, c2, c3, c4, c5⟩ := cells6 hr2
  clear hx hy hbl hr1 hr2
  go_wp2_with fail
  clear a0 a1 a2 a3 a4 a5 c0 c1 c2 c3 c4 c5 b0 b1
  go_loopw [5] (fun t wr => ∃ i : Nat, i ≤ X.q ∧ t = .int .i64 i ∧ Below W.heap.size W wr) (fun t _ => X.q - (intOf t).toNat)
  case atStart => exact ⟨0, by omega, by go_num, Below.refl _ _⟩
  case round =>
    obtain ⟨i, hi, rfl, hbr⟩ := hrel
    obtain ⟨a0, a1, a2, a3, a4, a5⟩ := cells6 (H1.out.all hbr)
    obtain ⟨c0, c1, c2, c3, c4, c5⟩ := cells6 (H2.out.all hbr)
    have HBr := Lib.hid hbr
    clear hbr
    by_cases hlt : i < X.q
    · have hdlt : decide ((i : Int) < X.q) = true := decide_eq_true (by omega)
      obtain ⟨p1, o1, k1, u1, e1, d1, f1, g1⟩ := (HX.out.all HBr.out).queue.elem hlt
      obtain ⟨p2, o2, k2, u2, e2, d2, f2, g2⟩ := (HY.out.all HBr.out).queue.elem hlt
      cases e1
      cases e2
      have t1 := g1.txt
      have t2 := g2.txt
      unfold Txt at t1 t2
      go_upto_region 6 with fail
      go_quiet (fail)
      go_wp2
      go_roundw
      case rel => exact ⟨i + 1, by omega, by go_num, below_dn HBr.out _⟩
      case measure => simp [intOf]; omega
    · obtain rfl : X.q = i := by omega
      have hdlt : decide ((X.q : Int) < X.q) = false := decide_eq_false (by omega)
      go_wp2_with fail
      clear a0 a1 a2 a3 a4 a5 c0 c1 c2 c3 c4 c5 hdlt
      go_loopw [6] (fun t wr => ∃ i : Nat, i ≤ X.m ∧ t = .int .i64 i ∧ Below W.heap.size W wr) (fun t _ => X.m - (intOf t).toNat)
      case atStart => exact ⟨0, by omega, by go_num, HBr.out⟩
      case round =>
        obtain ⟨i, hi, rfl, hbr⟩ := hrel
        obtain ⟨a0, a1, a2, a3, a4, a5⟩ := cells6 (H1.out.all hbr)
        obtain ⟨c0, c1, c2, c3, c4, c5⟩ := cells6 (H2.out.all hbr)
        have HBs := Lib.hid hbr
        clear hbr
        by_cases hlt : i < X.m
        · have hdlt : decide ((i : Int) < X.m) = true := decide_eq_true (by omega)
          obtain ⟨p1, o1, k1, e1, d1⟩ := (HX.out.all HBs.out).bad.elem hlt
          obtain ⟨p2, o2, k2, e2, d2⟩ := (HY.out.all HBs.out).bad.elem hlt
          cases e1
          cases e2
          go_upto_region 11 with fail
          go_quiet (fail)
          go_wp2
          go_roundw
          case rel => exact ⟨i + 1, by omega, by go_num, below_dn HBs.out _⟩
          case measure => simp [intOf]; omega
        · obtain rfl : X.m = i := by omega
          have hdlt : decide ((X.m : Int) < X.m) = false := decide_eq_false (by omega)
          go_wp2_with fail
          go_ret
          exact ⟨rfl, HB.out.trans (HBs.out.mono HB.out.size)⟩

/-- Devices that are the same, plainly. -/
structure Dev.Same (X Y : Dev) : Prop where
  n : Y.n = X.n
  data : ∀ k, k < X.n → Y.data k = X.data k
  q : Y.q = X.q
  qa : ∀ i, i < X.q → Y.qa i = X.qa i
  ql : ∀ i, i < X.q → Y.ql i = X.ql i
  qb : ∀ i, i < X.q → ∀ k, k < X.ql i → Y.qb i k = X.qb i k
  m : Y.m = X.m
  bad : ∀ i, i < X.m → Y.bad i = X.bad i
  dead : Y.dead = X.dead
  armed : Y.armed = X.armed
  left : Y.left = X.left
theorem Dev.Same.rfl' (X : Dev) : X.Same X := ⟨rfl, fun _ _ => rfl, rfl, fun _ _ => rfl, fun _ _ => rfl, fun _ _ _ _ => rfl, rfl, fun _ _ => rfl, rfl, rfl, rfl⟩
theorem BArg.same {B B1 : Nat} {w w1 : World} {v u : Value} {n m : Nat} {f g : Nat → Int} (h : BArg B w v n f) (hg : BArg B1 w1 u m g) (hn : n = m) (hf : ∀ i, i < m → f i = g i) : BArg B w v m g := by
  subst hn
  refine ⟨hg.1, ?_⟩
  rcases h with ⟨_, (h | ⟨b, off, c, h0, h1, h2, h3, h4, h5⟩)⟩
  · exact .inl h
  · exact .inr ⟨b, off, c, h0, h1, h2, h3, fun i hi => by rw [h4 i hi]; simp only [byteF, hf i hi], h5⟩
theorem NArg.same {B B1 : Nat} {w w1 : World} {v u : Value} {n m : Nat} {f g : Nat → Int} (h : NArg B w v n f) (hg : NArg B1 w1 u m g) (hn : n = m) (hf : ∀ i, i < m → f i = g i) : NArg B w v m g := by
  subst hn
  refine ⟨hg.1, ?_⟩
  rcases h with ⟨_, (h | ⟨b, off, c, h0, h1, h2, h3, h4, h5⟩)⟩
  · exact .inl h
  · exact .inr ⟨b, off, c, h0, h1, h2, h3, fun i hi => by rw [h4 i hi]; simp only [intsV, hf i hi], h5⟩
theorem DevAt.same {B B1 : Nat} {w w1 : World} {dv qv bv dv' qv' bv' : Value} {X Y : Dev} (h : DevAt B1 w1 dv' qv' bv' Y) (hx : DevAt B w dv qv bv X) (hs : X.Same Y) : DevAt B1 w1 dv' qv' bv' X := by
  refine ⟨h.data.same hx.data hs.n hs.data, ?_, h.bad.same hx.bad hs.m hs.bad, hx.left⟩
  refine ⟨hx.queue.1, ?_⟩
  rcases h.queue with ⟨_, (⟨h0, h1⟩ | ⟨b, off, cap, bv2, h0, h1, h2, h3, h4, h5, h6⟩)⟩
  · refine .inl ⟨hs.q ▸ h0, h1⟩
  · rw [hs.q] at h0 h1 h2 h4 h6
    refine .inr ⟨b, off, cap, bv2, h0, h1, h2, h3, fun i hi => ?_, h5, fun i hi => ?_⟩
    · rw [h4 i hi]
      unfold putC
      rw [hs.qa (i / 2) (by omega)]
    · rcases hx.queue with ⟨_, (⟨h9, _⟩ | ⟨_, _, _, bv3, _, _, _, _, _, _, h10⟩)⟩
      · omega
      · exact (h6 i hi).same (h10 i hi) (hs.ql i hi) (hs.qb i hi)
theorem devV_same {dv qv bv : Value} {X Y : Dev} (hs : X.Same Y) : devV dv qv bv Y = devV dv qv bv X := by
  unfold devV
  rw [hs.dead, hs.armed, hs.left]
/-- Same of devices that are the same. -/
theorem Same_yes {B1 B2 : Nat} {dv qv bv dv' qv' bv' : Value} {X Y : Dev} (w : World) (hx : DevAt B1 w dv qv bv X) (hy : DevAt B2 w dv' qv' bv' Y) (hs : X.Same Y) :
    Calls Try.prog 12 #[devV dv qv bv X, devV dv' qv' bv' Y] w fun e w' => e = .returned (.bool true) ∧ Below w.heap.size w w' := by
  rw [devV_same hs]
  exact Same_refl w hx (hy.same hx hs)

end Go.Proofs.Ytjhcaedfknhilaa

namespace Go.Proofs.Ytjhcaedfknhilaa
set_option linter.unusedVariables false
set_option linter.unusedSimpArgs false
open Go.RowKit
attribute [local go_sem ↓] Go.wp_at_zero Go.wp_at_succ

set_option maxHeartbeats 1000000 in
theorem Sectors_any {B : Nat} {dv qv bv : Value} {X : Dev} (w : World) (h : DevAt B w dv qv bv X) :
    Calls Try.prog 30 #[devV dv qv bv X] w fun e w' => e = .returned (.int .i64 (X.n / 64 : Nat)) ∧ Below w.heap.size w w' := by
  obtain ⟨dx, dc, rfl, hd⟩ := h.data.slice
  obtain ⟨qx, qc, rfl, -⟩ := h.queue.slice
  obtain ⟨bx, bc, rfl, -⟩ := h.bad.slice
  unfold maxLen at hd
  have hr := row_six w (.slice dx X.n dc) (.slice qx X.q qc) (.slice bx X.m bc) (.bool X.dead) (.bool X.armed) (.int .i64 X.left) 31
  obtain ⟨a0, -⟩ := cells6 hr
  have HB := Lib.hid ((Below.refl _ w).alloc (Nat.le_refl _) (.cells #[.slice dx X.n dc, .slice qx X.q qc, .slice bx X.m bc, .bool X.dead, .bool X.armed, .int .i64 X.left] 31))
  clear hr h
  unfold devV
  go_enter Try.func30, Try.ntmps30
  go_wp2_with fail
  go_ret
  exact ⟨by first | rfl | (congr 2; omega), HB.out⟩

set_option maxHeartbeats 1000000 in
theorem In_any {B : Nat} {v : Value} {n : Nat} {f : Nat → Int} (x : Int) (w : World) (h : NArg B w v n f) :
    Calls Try.prog 31 #[v, .int .i64 x] w fun e w' => (∃ b, e = .returned (.bool b) ∧ (b = true ↔ ∃ i, i < n ∧ f i = x)) ∧ w = w' := by
  obtain ⟨vx, vc, rfl, hm⟩ := h.slice
  unfold maxLen at hm
  have H := Lib.hid h
  clear h
  go_enter Try.func31, Try.ntmps31
  go_wp2_with fail
  go_loopw [5] (fun t wr => ∃ i : Nat, i ≤ n ∧ t = .int .i64 i ∧ w = wr ∧ ∀ j, j < i → f j ≠ x) (fun t _ => n - (intOf t).toNat)
  case atStart => exact ⟨0, by omega, by go_num, by first | rfl | trivial, fun j hj => absurd hj (Nat.not_lt_zero j)⟩
  case round =>
    obtain ⟨i, hi, rfl, rfl, hok⟩ := hrel
    by_cases hlt : i < n
    · have hdlt : decide ((i : Int) < n) = true := decide_eq_true (by omega)
      obtain ⟨b, off, c, e1, d0⟩ := H.out.elem hlt
      cases e1
      have Hok := Lib.hid hok
      clear hok
      by_cases h1 : f i = x
      · have g1 : (f i == x) = true := beq_iff_eq.2 h1
        go_wp2_with fail
        go_ret
        exact ⟨⟨_, rfl, fun _ => ⟨i, hlt, h1⟩, fun _ => rfl⟩, rfl⟩
      · have g1 : (f i == x) = false := beq_eq_false_iff_ne.2 h1
        go_wp2_with fail
        go_roundw
        case rel => exact ⟨i + 1, by omega, by go_num, by trivial, fun j hj => by
          by_cases hji : j = i
          · rw [hji]; exact h1
          · exact Hok.out j (by omega)⟩
        case measure => simp [intOf]; omega
    · obtain rfl : n = i := by omega
      have hdlt : decide ((n : Int) < n) = false := decide_eq_false (by omega)
      have Hok := Lib.hid hok
      clear hok
      go_wp2_with fail
      go_ret
      exact ⟨⟨_, rfl, fun h => (by cases h), fun ⟨i, hi, hx⟩ => absurd hx (Hok.out i hi)⟩, rfl⟩

/-- Devices that are small. -/
def fewP (X : Dev) : Prop := X.n ≤ 4096 ∧ X.q ≤ 200 ∧ X.m ≤ 200 ∧ ∀ i, i < X.q → X.ql i ≤ 1000

set_option maxRecDepth 100000 in
set_option maxHeartbeats 4000000 in
theorem few_any {B : Nat} {dv qv bv : Value} {X : Dev} (w : World) (h : DevAt B w dv qv bv X) :
    Calls Try.prog 14 #[devV dv qv bv X] w fun e w' => (∃ b, e = .returned (.bool b) ∧ (b = true ↔ fewP X)) ∧ Below w.heap.size w w' := by
  obtain ⟨dx, dc, rfl, hd⟩ := h.data.slice
  obtain ⟨qx, qc, rfl, hq⟩ := h.queue.slice
  obtain ⟨bx, bc, rfl, hm⟩ := h.bad.slice
  unfold maxLen at hd hq hm
  have hr := row_six w (.slice dx X.n dc) (.slice qx X.q qc) (.slice bx X.m bc) (.bool X.dead) (.bool X.armed) (.int .i64 X.left) 31
  have hbl := (Below.refl _ w).alloc (Nat.le_refl w.heap.size) (.cells #[.slice dx X.n dc, .slice qx X.q qc, .slice bx X.m bc, .bool X.dead, .bool X.armed, .int .i64 X.left] 31)
  have HD := Lib.hid (h.all hbl)
  have HB := Lib.hid hbl
  obtain ⟨a0, a1, a2, a3, a4, a5⟩ := cells6 hr
  clear h hbl hr
  unfold devV
  go_enter Try.func14, Try.ntmps14
  go_upto_region 1 with fail
  generalize w.alloc (.cells #[.slice dx X.n dc, .slice qx X.q qc, .slice bx X.m bc, .bool X.dead, .bool X.armed, .int .i64 X.left] 31) = W at *
  by_cases h1 : X.n ≤ 4096
  · have g1 : decide ((X.n : Int) > 4096) = false := decide_eq_false (by omega)
    by_cases h2 : X.q ≤ 200
    · have g2 : decide ((X.q : Int) > 200) = false := decide_eq_false (by omega)
      by_cases h3 : X.m ≤ 200
      · have g3 : decide ((X.m : Int) > 200) = false := decide_eq_false (by omega)
        go_wp2_with fail
        go_loopw [3] (fun t wr => ∃ i : Nat, i ≤ X.q ∧ t = .int .i64 i ∧ W = wr ∧ ∀ j, j < i → X.ql j ≤ 1000) (fun t _ => X.q - (intOf t).toNat)
        case atStart => exact ⟨0, by omega, by go_num, by first | rfl | trivial, fun j hj => absurd hj (Nat.not_lt_zero j)⟩
        case round =>
          obtain ⟨i, hi, rfl, rfl, hok⟩ := hrel
          by_cases hlt : i < X.q
          · have hdlt : decide ((i : Int) < X.q) = true := decide_eq_true (by omega)
            obtain ⟨b, off, c, u, e1, d0, d1, hb⟩ := HD.out.queue.elem hlt
            cases e1
            obtain ⟨ux, uc, rfl, -⟩ := hb.slice
            have Hok := Lib.hid hok
            clear hok hb
            by_cases h4 : X.ql i ≤ 1000
            · have g4 : decide ((X.ql i : Int) > 1000) = false := decide_eq_false (by omega)
              go_wp2_with fail
              go_roundw
              case rel => exact ⟨i + 1, by omega, by go_num, by trivial, fun j hj => by
                by_cases hji : j = i
                · rw [hji]; exact h4
                · exact Hok.out j (by omega)⟩
              case measure => simp [intOf]; omega
            · have g4 : decide ((X.ql i : Int) > 1000) = true := decide_eq_true (by omega)
              go_wp2_with fail
              go_ret
              exact ⟨⟨_, rfl, fun h => (by cases h), fun h => absurd (h.2.2.2 i hlt) h4⟩, HB.out⟩
          · obtain rfl : X.q = i := by omega
            have hdlt : decide ((X.q : Int) < X.q) = false := decide_eq_false (by omega)
            have Hok := Lib.hid hok
            clear hok
            go_wp2_with fail
            go_ret
            exact ⟨⟨_, rfl, fun _ => ⟨h1, h2, h3, Hok.out⟩, fun _ => rfl⟩, HB.out⟩
      · have g3 : decide ((X.m : Int) > 200) = true := decide_eq_true (by omega)
        go_wp2_with fail
        go_ret
        exact ⟨⟨_, rfl, fun h => (by cases h), fun h => absurd h.2.2.1 h3⟩, HB.out⟩
    · have g2 : decide ((X.q : Int) > 200) = true := decide_eq_true (by omega)
      go_wp2_with fail
      go_ret
      exact ⟨⟨_, rfl, fun h => (by cases h), fun h => absurd h.2.1 h2⟩, HB.out⟩
  · have g1 : decide ((X.n : Int) > 4096) = true := decide_eq_true (by omega)
    go_wp2_with fail
    go_ret
    exact ⟨⟨_, rfl, fun h => (by cases h), fun h => absurd h.1 h1⟩, HB.out⟩

end Go.Proofs.Ytjhcaedfknhilaa
