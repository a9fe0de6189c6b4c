/- The law's example. -/
import Derived.Test.YtjhcaedfknhilaaSaneA
namespace Go.Proofs.Ytjhcaedfknhilaa
open Go.RowKit
attribute [local go_sem ↓] Go.wp_at_zero Go.wp_at_succ

def sF12 (k : Nat) : Int := if k < 64 then 1 else 2
def sE0 : Dsk := Dsk.zero 4
def sE1 : Dsk := sE0.write 1 2 sF12
def sE2 : Dsk := sE1.sync
def sE3 : Dsk := sE2.write 1 1 (fun _ => 3)
def sE4 : Dsk := sE3.write 1 1 (fun _ => 1)
def sE5 : Dsk := sE4.crash 1 (fun _ => 0)
def sE6 : Dsk := sE5.spoil 3

theorem sF12_byte (i : Nat) : 0 ≤ sF12 i ∧ sF12 i < 256 := by
  unfold sF12
  split <;> decide
theorem sE_facts : sE0.n = 4 ∧ sE0.q = 0 ∧ sE0.off = false ∧ sE1.n = 4 ∧ sE1.q = 2 ∧ sE1.off = false ∧ sE2.n = 4 ∧ sE2.q = 0 ∧ sE2.off = false ∧ sE3.n = 4 ∧ sE3.q = 1 ∧ sE3.off = false ∧ sE4.n = 4 ∧ sE4.q = 2 ∧ sE5.n = 4 ∧ sE5.q = 0 ∧ sE5.off = false ∧ sE6.n = 4 ∧ sE6.off = false ∧ sE6.dead = false :=
  ⟨rfl, rfl, rfl, rfl, rfl, rfl, rfl, rfl, rfl, rfl, rfl, rfl, rfl, rfl, rfl, rfl, rfl, rfl, rfl, rfl⟩
theorem sKeep : keepOk sE4.q 1 (fun _ => 0) := fun i hi => ⟨⟨Int.le_refl 0, by show (0:Int) < ((2:Nat):Int); decide⟩, fun j hj => by omega⟩
theorem sHas5 : sE5.has 1 = some (fun _ => 3) := by rfl
theorem sRead5 : readOk sE5 1 1 := fun i hi => by
  obtain rfl : i = 0 := by omega
  exact ⟨_, sHas5⟩
theorem sBytes (k : Nat) (hk : k < 64) : readV sE5 1 k = .int .u8 3 := by
  unfold readV Dsk.hasF
  rw [show 1 + k / 64 = 1 from by omega, sHas5]
  rfl
theorem sHas6 : sE6.has 3 = none := by rfl
theorem sRead6 : ¬ readOk sE6 3 1 := fun h => by
  obtain ⟨f, hf⟩ := h 0 (by decide)
  rw [sHas6] at hf
  cases hf

theorem barg_row {B : Nat} {w : World} {g : Nat} {c n : Nat} {f : Nat → Int} (h : RowAt w g 5 c n (byteF f)) (hc : c ≤ maxLen) (hf : ∀ i, 0 ≤ f i ∧ f i < 256) : BArg B w (.slice (some ⟨g, 0, none⟩) n c) n f := by
  refine ⟨hf, ?_⟩
  by_cases hn : n = 0
  · subst hn; exact .inl ⟨rfl, _, _, rfl⟩
  · have hle := h.le
    have hr := h.reads
    obtain ⟨cur, hg, _⟩ := h
    exact .inr ⟨g, 0, c, rfl, by omega, hle, hc, hr, .inr ⟨cur, _, hg⟩⟩

theorem str64 {w : World} {g c : Nat} {f : Nat → Int} (h : RowAt w g 5 c 64 (byteF f)) : (convert 27 9 (.slice (some ⟨g, 0, none⟩) 64 c)).run Try.prog w = .ok (.string (strF 64 f)) w :=
  convert_cells 27 5 9 Try.underlying27 (by kernel_rfl) (by kernel_rfl) g 0 64 c f w h.reads

/-- A row that is no disk's, behind a disk's operation. -/
theorem RowAt.calm {w w' : World} {g : Nat} {e : TypeId} {c n : Nat} {f : Nat → Value} (h : RowAt w g e c n f) (hc : Calm w w') (he : diskT e = false) : RowAt w' g e c n f := by
  obtain ⟨cur, hg, rest⟩ := h
  exact ⟨cur, hc.2 g _ hg (by show (!diskT e) = true; rw [he]; rfl), rest⟩
theorem disk_grownT {B g gs gb : Nat} {qv : Value} {D : Dsk} {w w' : World} {B' k n : Nat} {e : TypeId} {v : Value} {f : Nat → Value} (h : DiskIn B g gs gb qv D w) (ho : OwnK w B' e k v n f) (he : diskT e = false) (hg : w.grownBy w' v.ownBlock) : DiskIn B g gs gb qv D w' := by
  have ne : ∀ {b : Nat} {t : TypeId} {c m : Nat} {F : Nat → Value}, RowAt w b t c m F → diskT t = true → v.ownBlock ≠ some b := fun hr ht e9 => by
    have h9 := ho.typed e9 hr
    rw [h9, ht] at he; cases he
  refine ⟨h.row.grown hg (ne h.row rfl), h.sec.grown hg (ne h.sec rfl), h.bad.grown hg (ne h.bad rfl), ?_, h.base, h.ok⟩
  rcases h.que with h9 | ⟨gq, cq, q1, q2, q3, q4⟩
  · exact .inl h9
  · exact .inr ⟨gq, cq, q1, q2, q3.grown hg (ne q3 rfl), q4⟩

set_option maxRecDepth 100000 in
set_option maxHeartbeats 4000000 in
theorem sane_any (w : World) : Calls Try.prog 10 #[] w fun e w' => e = .returned (.bool true) ∧ Below w.heap.size w w' := by
  go_enter Try.func10, Try.ntmps10
  go_wp2_with fail
  refine (New_ok 4 (by decide) w).mono ?_
  rintro e w1 ⟨g, gs, gb, rfl, hd, hb⟩
  have HD1 := Lib.hid (show DiskIn w.heap.size g gs gb _ sE0 w1 from hd)
  have HB1 := Lib.hid hb
  clear hd hb
  go_wp2_with fail
  refine (sector_any 1 w1).mono ?_
  rintro e w2 ⟨rfl, hr, hb⟩
  have HR2 := Lib.hid hr
  have HD2 := Lib.hid (HD1.out.all hb)
  have HB2 := Lib.hid (HB1.out.trans (hb.mono HB1.out.size))
  have Hs2 := Lib.hid (show w1.heap.size < w2.heap.size from hr.lt)
  clear hr hb HD1
  go_wp2_with fail
  refine (sector_any 2 w2).mono ?_
  rintro e w3 ⟨rfl, hr, hb⟩
  have HR3 := Lib.hid hr
  have HR2' := Lib.hid (HR2.out.all hb)
  have HD3 := Lib.hid (HD2.out.all hb)
  have HB3 := Lib.hid (HB2.out.trans (hb.mono HB2.out.size))
  clear hr hb HD2 HR2
  have hown : Own w3 w1.heap.size 5 (.slice (some ⟨w1.heap.size, 0, none⟩) 64 64) 64 (fun _ => .int .u8 1) := .inr ⟨_, _, rfl, Nat.le_refl _, HR2'.out, by decide⟩
  have Hown := Lib.hid hown; clear hown
  go_wp2_with (with_reducible refine stopB .append ?_)
  refine Hold.go ?_
  refine wpList_append_o rfl _ _ 27 5 _ _ rfl Try.underlying27 info_u8d rfl w1.heap.size _ 64 (fun _ => .int .u8 1) rfl Hown.out w2.heap.size 0 64 64 (fun _ => .int .u8 2) rfl HR3.out.reads (fun _ _ => rfl) (by decide) (by decide) (by have := HR2'.out.lt; omega) ?_
  intro v' w4 hown' hgr _ _
  have hbl : Below w.heap.size w w4 := HB3.out.grown hgr HB3.out.size (fun k hk => by have := (Hown.out.isCells k hk).1; have := HB1.out.size; omega)
  have hd4 : DiskIn w.heap.size g gs gb (.slice none 0 0) sE0 w4 := disk_grownT HD3.out Hown.out.toK rfl hgr
  obtain ⟨av, cv, rfl⟩ := (Own.slice hown')
  have HA4 := Lib.hid (barg_own (B := w.heap.size) (f := sF12) (hown'.congr fun i hi => by
    unfold byteF sF12
    by_cases h9 : i < 64
    · rw [if_pos h9, if_pos h9]
    · rw [if_neg h9, if_neg h9]) sF12_byte)
  have HD4 := Lib.hid hd4
  have HB4 := Lib.hid hbl
  clear hown' hgr hbl hd4 HD3 HB3 Hown HR3 HR2' Hs2
  go_wp2_with fail
  refine (Write_ok 1 2 w4 HD4.out HA4.out (by decide) rfl (by decide)).mono ?_
  rintro e w5 ⟨qv5, rfl, hd, hb, -⟩
  have HD5 := Lib.hid (show DiskIn w.heap.size g gs gb qv5 sE1 w5 from hd)
  have HB5 := Lib.hid (HB4.out.trans hb)
  clear hd hb HD4 HB4 HA4 HB1 HB2
  go_wp2_with fail
  refine (Queued_any w5 HD5.out).mono ?_
  rintro e w5' ⟨rfl, rfl⟩
  go_wp2_with fail
  refine (Sync_ok w5 HD5.out rfl).mono ?_
  rintro e w6 ⟨qv6, rfl, hd, hb, -⟩
  have HD6 := Lib.hid (show DiskIn w.heap.size g gs gb qv6 sE2 w6 from hd)
  have HB6 := Lib.hid (HB5.out.trans hb)
  clear hd hb HD5 HB5
  go_wp2_with fail
  refine (sector_any 3 w6).mono ?_
  rintro e w7 ⟨rfl, hr, hb⟩
  have HA7 := Lib.hid (barg_row (B := w.heap.size) (f := fun _ => 3) hr (by decide) (fun _ => by decide))
  have HD7 := Lib.hid (HD6.out.all hb)
  have HB7 := Lib.hid (HB6.out.trans (hb.mono HB6.out.size))
  clear hr hb HD6 HB6
  go_wp2_with fail
  refine (Write_ok 1 1 w7 HD7.out HA7.out (by decide) rfl (by decide)).mono ?_
  rintro e w8 ⟨qv8, rfl, hd, hb, -⟩
  have HD8 := Lib.hid (show DiskIn w.heap.size g gs gb qv8 sE3 w8 from hd)
  have HB8 := Lib.hid (HB7.out.trans hb)
  clear hd hb HD7 HB7 HA7
  go_wp2_with fail
  refine (sector_any 1 w8).mono ?_
  rintro e w9 ⟨rfl, hr, hb⟩
  have HA9 := Lib.hid (barg_row (B := w.heap.size) (f := fun _ => 1) hr (by decide) (fun _ => by decide))
  have HD9 := Lib.hid (HD8.out.all hb)
  have HB9 := Lib.hid (HB8.out.trans (hb.mono HB8.out.size))
  clear hr hb HD8 HB8
  go_wp2_with fail
  refine (Write_ok 1 1 w9 HD9.out HA9.out (by decide) rfl (by decide)).mono ?_
  rintro e w10 ⟨qv10, rfl, hd, hb, -⟩
  have HD10 := Lib.hid (show DiskIn w.heap.size g gs gb qv10 sE4 w10 from hd)
  have HB10 := Lib.hid (HB9.out.trans hb)
  clear hd hb HD9 HB9 HA9
  go_wp2_with fail
  have hk : NArg w.heap.size (w10.alloc (.cells #[.int .i64 0] 3)) (.slice (some ⟨w10.heap.size, 0, none⟩) 1 1) 1 (fun _ => 0) :=
    narg_own (.inr ⟨_, _, rfl, Nat.le_refl _, RowAt.new w10 #[.int .i64 0] 3 (intsV fun _ => 0) 1 (by simp) (one_cell rfl), by decide⟩) (fun _ => by decide)
  have HK := Lib.hid hk
  have HD11 := Lib.hid (HD10.out.all ((Below.refl _ w10).alloc (Nat.le_refl _) (.cells #[.int .i64 0] 3)))
  have HB11 := Lib.hid (HB10.out.alloc HB10.out.size (.cells #[.int .i64 0] 3))
  clear hk HD10 HB10
  generalize w10.alloc (.cells #[.int .i64 0] 3) = w11 at *
  refine (Crash_any w11 HD11.out HK.out (by decide)).mono ?_
  rintro e w12 (⟨-, qv12, rfl, hd, hb, -⟩ | ⟨hno, -⟩)
  rotate_left 1
  · exact absurd sKeep hno
  have HD12 := Lib.hid (show DiskIn w.heap.size g gs gb qv12 sE5 w12 from hd)
  have HB12 := Lib.hid (HB11.out.trans hb)
  clear hd hb HD11 HB11 HK
  go_wp2_with fail
  refine (Read_any 1 1 w12 HD12.out (by decide) rfl).mono ?_
  rintro e w13 (⟨hno, -⟩ | ⟨-, v, rfl, ho, hd, hb⟩)
  · exact absurd sRead5 hno
  obtain ⟨gx, cx, rfl, hgx, hrx, hcx⟩ := ho.row (by decide)
  have HX13 := Lib.hid (show RowAt w13 gx 5 cx 64 (byteF fun _ => 3) from hrx.congr fun k hk => sBytes k hk)
  have HD13 := Lib.hid hd
  have HB13 := Lib.hid (HB12.out.trans (hb.mono HB12.out.size))
  clear hd hb ho hrx hcx HD12 HB12
  go_wp2_with fail
  refine (Spoil_ok 3 w13 HD13.out (by decide)).mono ?_
  rintro e w14 ⟨rfl, hd, hb, hc⟩
  have HD14 := Lib.hid (show DiskIn w.heap.size g gs gb qv12 sE6 w14 from hd)
  have HB14 := Lib.hid (HB13.out.trans hb)
  have HX14 := Lib.hid (HX13.out.calm hc rfl)
  clear hd hb hc HD13 HB13 HX13
  go_wp2_with fail
  refine (Read_any 3 1 w14 HD14.out (by decide) rfl).mono ?_
  rintro e w15 (⟨-, rfl, hd, hb⟩ | ⟨hok, -⟩)
  rotate_left 1
  · exact absurd hok sRead6
  have HD15 := Lib.hid hd
  have HB15 := Lib.hid (HB14.out.trans (hb.mono HB14.out.size))
  have HX15 := Lib.hid (HX14.out.all hb)
  clear hd hb HD14 HB14 HX14
  go_wp2_with fail
  refine (sector_any 1 w15).mono ?_
  rintro e w16 ⟨rfl, hr, hb⟩
  have HD16 := Lib.hid (HD15.out.all hb)
  have HB16 := Lib.hid (HB15.out.trans (hb.mono HB15.out.size))
  have HX16 := Lib.hid (HX15.out.all hb)
  clear hr hb HD15 HB15 HX15
  go_wp2_with fail
  refine (Write_len 0 63 _ _ w16 HD16.out (by decide) (by decide)).mono ?_
  rintro e w17 ⟨rfl, hd, hb, hc⟩
  have HD17 := Lib.hid hd
  have HB17 := Lib.hid (HB16.out.trans hb)
  have HX17 := Lib.hid (HX16.out.calm hc rfl)
  clear hd hb hc HD16 HB16 HX16
  have hd17 : Below w17.heap.size w17 w17.drew := (Below.refl _ w17).drew
  go_upto_region 14 with fail
  go_region_held (fun w' => (convert 27 9 (.slice (some ⟨gx, 0, none⟩) 64 cx)).run Try.prog w' = .ok (.string (strF 64 fun _ => 3)) w' ∧ Below w17.heap.size w17 w')
    (exact ⟨str64 (HX17.out.all (by assumption)), by assumption⟩)
    (first | (go_at_call 35; refine (sector_any 3 _).mono ?_; rintro e w18 ⟨rfl, hr, hb⟩; have c3 := str64 (g := w17.heap.size) hr; have hb18 := hd17.trans hb; clear hd17; have HD18 := Lib.hid (HD17.out.all hb18)) | (go_at_call 26; refine (Alive_any _ HD18.out).mono ?_; rintro e w19 ⟨rfl, rfl⟩) | (go_at_call 21; refine (Size_any _ HD18.out).mono ?_; rintro e w19 ⟨rfl, rfl⟩))
  have e6 : (((sE6.n : Nat) : Int) == 4) = true := by decide
  have HB18 := Lib.hid (HB17.out.trans (hb18.mono HB17.out.size))
  rw [e6]
  clear hb18 c3 hr hb HD18 HD17 HX17
  go_wp2
  go_ret
  exact ⟨rfl, HB18.out⟩

end Go.Proofs.Ytjhcaedfknhilaa
