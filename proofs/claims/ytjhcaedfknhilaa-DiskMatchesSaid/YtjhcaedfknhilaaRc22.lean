/- The reference: Crash. -/
import Derived.Test.YtjhcaedfknhilaaRc21
namespace Go.Proofs.Ytjhcaedfknhilaa
set_option linter.unusedVariables false
set_option linter.unusedSimpArgs false
open Go.RowKit
attribute [local go_sem ↓] Go.wp_at_zero Go.wp_at_succ
attribute [-go_sem] loadCellsFrom storeCells
attribute [local go_sem] storeCells_one

def RefCrashP (B : Nat) (D : Dsk) (n : Nat) (f : Nat → Int) (w : World) (e : Ending) (w' : World) : Prop :=
  (keepOk D.q n f ∧ RefOut B (D.crash n f) 0 w e w') ∨ (¬ keepOk D.q n f ∧ RefOut B D 1 w e w')
theorem keepOk_next {q i : Nat} {f : Nat → Int} (h : keepOk q i f) (h0 : 0 ≤ f i) (h1 : f i < q) (h2 : ∀ j, j < i → f j ≠ f i) : keepOk q (i + 1) f := fun k hk => by
  by_cases hki : k = i
  · subst hki
    exact ⟨⟨h0, h1⟩, h2⟩
  · exact h k (by omega)
theorem In_qi {B : Nat} {v : Value} {n : Nat} {f : Nat → Int} (x : Int) (w : World) (k : Nat) (h : NArg B w v n f) :
    Calls Try.prog 31 #[v, .int .i64 x] (w.drewN k) fun e w' => e = .returned (.bool (anyB (fun k => f k == x) n)) ∧ w' = w.drewN k :=
  (In_b (B := B) x (w.drewN k) h).mono fun _ _ ⟨he, hw⟩ => ⟨he, hw.symm⟩
theorem In_ql {B : Nat} {v : Value} {n : Nat} {f : Nat → Int} {x : Int} {b : Bool} (hb : anyB (fun k => f k == x) n = b) (w : World) (k : Nat) (h : NArg B w v n f) :
    Calls Try.prog 31 #[v, .int .i64 x] (w.drewN k) fun e w' => e = .returned (.bool b) ∧ w' = w.drewN k :=
  (In_qi (B := B) x w k h).mono fun _ _ ⟨he, hw⟩ => ⟨by rw [he, hb], hw⟩
/-- The first of a list. -/
theorem NArg.take {B : Nat} {w : World} {b off n cap i : Nat} {f : Nat → Int} (h : NArg B w (.slice (some ⟨b, off, none⟩) n cap) n f) (hi : i ≤ n) : NArg B w (.slice (some ⟨b, off, none⟩) i cap) i f := by
  by_cases h0 : i = 0
  · subst h0
    exact ⟨h.1, .inl ⟨rfl, _, _, rfl⟩⟩
  · rcases h with ⟨hf, (⟨h1, _⟩ | ⟨b2, o2, c2, hv, h1, h2, h3, h4, h5⟩)⟩
    · omega
    · cases hv
      exact ⟨hf, .inr ⟨b, off, cap, rfl, by omega, by omega, h3, fun j hj => h4 j (by omega), h5⟩⟩
theorem NArg.cap {B : Nat} {w : World} {b off n cap : Nat} {f : Nat → Int} (h : NArg B w (.slice (some ⟨b, off, none⟩) n cap) n f) (hn : 0 < n) : n ≤ cap := by
  rcases h with ⟨hf, (⟨h1, _⟩ | ⟨b2, o2, c2, hv, h1, h2, h3, h4, h5⟩)⟩
  · omega
  · cases hv
    exact h2

set_option maxRecDepth 100000 in
set_option maxHeartbeats 8000000 in
theorem RefCrash_any {B : Nat} {dv qv bv kv : Value} {D : Dsk} {n : Nat} {f : Nat → Int} (w : World) (h : DevAt B w dv qv bv D.dev) (hok : D.Ok) (hk : NArg B w kv n f) (hn : n ≤ 65536) (hB : B ≤ w.heap.size) :
    Calls Try.prog 54 #[devV dv qv bv D.dev, kv] w (RefCrashP B D n f w) := by
  have hmo : Try.prog.follows .mixedOrders = true := by kernel_rfl
  obtain ⟨kx, kc, rfl, -⟩ := hk.slice
  have HK0 := Lib.hid hk
  have Hok := Lib.hid hok
  have hqq : D.dev.q ≤ 65536 := hok.queue
  clear hok
  obtain ⟨dx, dc, rfl, -⟩ := h.data.slice
  obtain ⟨qx, qc, rfl, hqm⟩ := h.queue.slice
  obtain ⟨bx, bc, rfl, -⟩ := h.bad.slice
  have hI := refI_new w (.slice dx D.dev.n dc) (.slice qx D.dev.q qc) (.slice bx D.dev.m bc) (.bool D.dev.dead) (.bool D.dev.armed) (.int .i64 D.dev.left)
  have HD := Lib.hid (h.all hI.below)
  have HI := Lib.hid hI
  have HK := Lib.hid (hk.keep (keeps_below (B := B) hI.below).data)
  clear h hI hqm hk
  unfold devV
  go_enter Try.func54, Try.ntmps54
  go_upto_region 1 with fail
  generalize (w.alloc (.cells #[.slice dx D.dev.n dc, .slice qx D.dev.q qc, .slice bx D.dev.m bc, .bool D.dev.dead, .bool D.dev.armed, .int .i64 D.dev.left] 31)).alloc (.cells #[.slice none 0 0, .slice none 0 0, .slice none 0 0, .bool false, .bool false, .int .i64 0] 31) = W at *
  obtain ⟨q, hq⟩ : ∃ q, D.dev.q = q := ⟨_, rfl⟩
  have Hq := Lib.hid hq
  rw [hq] at hqq
  clear hq
  go_wp2_with fail
  go_loopw [6] (fun t wr => ∃ i : Nat, i ≤ n ∧ t = .int .i64 i ∧ keepOk D.q i f ∧ Below W.heap.size W wr) (fun t _ => n - (intOf t).toNat)
  case atStart => exact ⟨0, by omega, by go_num, fun k hk => absurd hk (Nat.not_lt_zero k), Below.refl _ _⟩
  case round =>
    obtain ⟨i, hi, rfl, hko, hb⟩ := hrel
    have HKo := Lib.hid hko
    have HBr := Lib.hid hb
    have HIr := Lib.hid (HI.out.all hb)
    have HDr := Lib.hid (HD.out.all hb)
    have HKr := Lib.hid (HK.out.keep (keeps_below (B := B) hb).data)
    clear hko hb
    obtain ⟨-, x1, -⟩ := cells6 HIr.out.box
    have x1' : wr.cell? ⟨w.heap.size, 1, none⟩ = some (.slice qx q qc) := by rw [← Hq.out]; exact x1
    clear x1
    by_cases hlt : i < n
    · have hdlt : decide ((i : Int) < n) = true := decide_eq_true (by omega)
      obtain ⟨b, off, cap, e1, k0⟩ := HKr.out.elem hlt
      cases e1
      have hcap := HKr.out.cap (by omega)
      have Htk := Lib.hid (HKr.out.take (Nat.le_of_lt hlt))
      by_cases h0 : f i < 0
      · have g1 : decide (f i < 0) = true := decide_eq_true h0
        have Hno := Lib.hid (show ¬ keepOk D.q n f from fun h9 => by have := (h9 i hlt).1.1; omega)
        clear h0
        go_upto_region 4 with fail
        go_quiet (fail)
        have HIq := Lib.hid (HIr.out.all (below_dn (Below.refl _ wr) nq))
        have HDq := Lib.hid (HDr.out.all (below_dn (Below.refl _ wr) nq))
        generalize wr.drewN nq = wq at *
        have HZ := Lib.hid (HIq.out.fin hB (x0 := .slice dx D.dev.n dc) (x1 := .slice qx D.dev.q qc) (x2 := .slice bx D.dev.m bc) (x3 := .bool D.dev.dead) (x4 := .bool D.dev.armed) (x5 := .int .i64 D.dev.left) (six_one rfl rfl rfl rfl rfl rfl))
        have hs := HZ.out.store
        have hload := HIq.out.load
        have hld := HZ.out.load
        go_wp2_with fail
        have hfin : RefOut B (D) 1 w (.returned (.tuple #[.agg #[.slice dx D.dev.n dc, .slice qx D.dev.q qc, .slice bx D.dev.m bc, .bool D.dev.dead, .bool D.dev.armed, .int .i64 D.dev.left], .int .i64 1])) _ := ⟨_, _, _, rfl, HDq.out.keepD HZ.out.keeps, HZ.out.below⟩
        refine bodyPost_ret (v := .tuple #[.agg #[.slice dx D.dev.n dc, .slice qx D.dev.q qc, .slice bx D.dev.m bc, .bool D.dev.dead, .bool D.dev.armed, .int .i64 D.dev.left], .int .i64 1]) (by simp [results, Try.results54, asAddr, hld]) rfl ?_
        exact (.inr ⟨Hno.out, hfin⟩)
      · have g1 : decide (f i < 0) = false := decide_eq_false h0
        by_cases h1 : f i ≥ q
        · have g2 : decide (f i ≥ q) = true := decide_eq_true h1
          have Hno := Lib.hid (show ¬ keepOk D.q n f from fun h9 => by have := (h9 i hlt).1.2; have h10 : D.q = q := Hq.out; omega)
          clear h0 h1
          go_upto_region 4 with fail
          go_quiet (fail)
          have HIq := Lib.hid (HIr.out.all (below_dn (Below.refl _ wr) nq))
          have HDq := Lib.hid (HDr.out.all (below_dn (Below.refl _ wr) nq))
          generalize wr.drewN nq = wq at *
          have HZ := Lib.hid (HIq.out.fin hB (x0 := .slice dx D.dev.n dc) (x1 := .slice qx D.dev.q qc) (x2 := .slice bx D.dev.m bc) (x3 := .bool D.dev.dead) (x4 := .bool D.dev.armed) (x5 := .int .i64 D.dev.left) (six_one rfl rfl rfl rfl rfl rfl))
          have hs := HZ.out.store
          have hload := HIq.out.load
          have hld := HZ.out.load
          go_wp2_with fail
          have hfin : RefOut B (D) 1 w (.returned (.tuple #[.agg #[.slice dx D.dev.n dc, .slice qx D.dev.q qc, .slice bx D.dev.m bc, .bool D.dev.dead, .bool D.dev.armed, .int .i64 D.dev.left], .int .i64 1])) _ := ⟨_, _, _, rfl, HDq.out.keepD HZ.out.keeps, HZ.out.below⟩
          refine bodyPost_ret (v := .tuple #[.agg #[.slice dx D.dev.n dc, .slice qx D.dev.q qc, .slice bx D.dev.m bc, .bool D.dev.dead, .bool D.dev.armed, .int .i64 D.dev.left], .int .i64 1]) (by simp [results, Try.results54, asAddr, hld]) rfl ?_
          exact (.inr ⟨Hno.out, hfin⟩)
        · have g2 : decide (f i ≥ q) = false := decide_eq_false h1
          obtain ⟨bb, hbb⟩ : ∃ bb, anyB (fun k => f k == f i) i = bb := ⟨_, rfl⟩
          have Hbb := Lib.hid hbb
          have H0 := Lib.hid (And.intro h0 h1)
          have hii : (i : Int) ≤ kc := by omega
          clear hbb h0 h1
          go_upto_region 4 with fail
          rcases bool_cases bb with rfl | rfl
          · have Hok2 := Lib.hid (keepOk_next (q := D.q) HKo.out (by have := H0.out.1; omega) (by have := H0.out.2; have h10 : D.q = q := Hq.out; omega) (fun j hj h9 => by
              have h11 := (anyB_true (p := fun k => f k == f i) (n := i)).2 ⟨j, hj, beq_iff_eq.2 h9⟩
              rw [Hbb.out] at h11
              cases h11))
            go_quiet (first | (go_at_call 31; exact Calls.quiet_of_same (In_ql Hbb.out wr _ Htk.out)))
            go_wp2_with fail
            go_roundw
            case rel => exact ⟨i + 1, by omega, by go_num, Hok2.out, below_dn HBr.out _⟩
            case measure => simp [intOf]; omega
          · have Hno := Lib.hid (show ¬ keepOk D.q n f from fun h9 => by
              obtain ⟨j, hj, h10⟩ := anyB_true.1 Hbb.out
              exact (h9 i hlt).2 j hj (beq_iff_eq.1 h10))
            go_quiet (first | (go_at_call 31; exact Calls.quiet_of_same (In_ql Hbb.out wr _ Htk.out)))
            have HIq := Lib.hid (HIr.out.all (below_dn (Below.refl _ wr) nq))
            have HDq := Lib.hid (HDr.out.all (below_dn (Below.refl _ wr) nq))
            generalize wr.drewN nq = wq at *
            have HZ := Lib.hid (HIq.out.fin hB (x0 := .slice dx D.dev.n dc) (x1 := .slice qx D.dev.q qc) (x2 := .slice bx D.dev.m bc) (x3 := .bool D.dev.dead) (x4 := .bool D.dev.armed) (x5 := .int .i64 D.dev.left) (six_one rfl rfl rfl rfl rfl rfl))
            have hs := HZ.out.store
            have hload := HIq.out.load
            have hld := HZ.out.load
            go_wp2_with fail
            have hfin : RefOut B (D) 1 w (.returned (.tuple #[.agg #[.slice dx D.dev.n dc, .slice qx D.dev.q qc, .slice bx D.dev.m bc, .bool D.dev.dead, .bool D.dev.armed, .int .i64 D.dev.left], .int .i64 1])) _ := ⟨_, _, _, rfl, HDq.out.keepD HZ.out.keeps, HZ.out.below⟩
            refine bodyPost_ret (v := .tuple #[.agg #[.slice dx D.dev.n dc, .slice qx D.dev.q qc, .slice bx D.dev.m bc, .bool D.dev.dead, .bool D.dev.armed, .int .i64 D.dev.left], .int .i64 1]) (by simp [results, Try.results54, asAddr, hld]) rfl ?_
            exact (.inr ⟨Hno.out, hfin⟩)
    · obtain rfl : n = i := by omega
      have hdlt : decide ((n : Int) < n) = false := decide_eq_false (by omega)
      have HI0 := Lib.hid (show SyncI B D (fun k => D.qa (f k).toNat) (fun k => D.qb (f k).toNat) (.slice qx q qc) w (w.heap.size + 1) 0 wr by rw [← Hq.out]; exact ⟨_, _, D, rfl, HIr.out, HDr.out⟩)
      obtain ⟨wo, hwo⟩ : ∃ x, x = wr := ⟨_, rfl⟩
      subst hwo
      clear HI HD HDr HIr
      go_wp2_with fail
      go_loopw [8] (fun t wr => ∃ k : Nat, k ≤ n ∧ t = .int .i64 k ∧ SyncI B D (fun k => D.qa (f k).toNat) (fun k => D.qb (f k).toNat) (.slice qx q qc) w (w.heap.size + 1) k wr) (fun t _ => n - (intOf t).toNat)
      case atStart => exact ⟨0, by omega, by go_num, HI0.out⟩
      case round =>
        obtain ⟨k, hk, rfl, dv2, bv2, E, hE, hI, hD⟩ := hrel
        have HE := Lib.hid hE
        have HIk := Lib.hid hI
        have HDk := Lib.hid hD
        obtain ⟨d2, dc2, rfl, -⟩ := hD.data.slice
        obtain ⟨b2, bc2, rfl, -⟩ := hD.bad.slice
        obtain ⟨p1, p2, p3, p4, p5, p6, p7⟩ := performs_dev D (fun k => D.qa (f k).toNat) (fun k => D.qb (f k).toNat) k
        rw [← hE] at p1 p2 p3 p4 p5 p6 p7
        have HP := Lib.hid (And.intro p1 (And.intro p2 (And.intro p3 (And.intro p4 (And.intro p5 (And.intro p6 p7))))))
        clear hE hI hD p1 p2 p3 p4 p5 p6 p7
        by_cases hlt2 : k < n
        · have hdlt2 : decide ((k : Int) < n) = true := decide_eq_true (by omega)
          have hkk := (HKo.out k hlt2).1
          obtain ⟨m, hm⟩ : ∃ m : Nat, f k = m := ⟨(f k).toNat, by omega⟩
          have hmq : m < q := by have h10 : D.q = q := Hq.out; omega
          have hmD : m < D.q := by have h10 : D.q = q := Hq.out; omega
          have hmE : m < E.dev.q := by rw [HP.out.1]; exact hmD
          obtain ⟨b, o, c, uv, e1, d0, d1, hbytes⟩ := HDk.out.queue.elem hmE
          rw [HP.out.1, Hq.out] at e1
          cases e1
          rw [HP.out.2.1, qa_dev hmD] at d0
          have hbd : Below wo.heap.size wo wo := Below.refl _ _
          have hbl : Below wr.heap.size wr wr.drew := (Below.refl _ wr).drew
          have hld2 : (loadCellsFrom ⟨b, o + m * 2, none⟩ 0 2 #[]).run Try.prog wr.drew = .ok #[.int .i64 (D.qa m), uv] wr.drew := loadC_two (W := wr.drew) d0 d1
          have hload : (loadCellsFrom ⟨w.heap.size, 0, none⟩ 0 6 #[]).run Try.prog wr.drew = .ok #[.slice d2 E.dev.n dc2, .slice (some ⟨b, o, none⟩) q qc, .slice b2 E.dev.m bc2, .bool E.dev.dead, .bool E.dev.armed, .int .i64 E.dev.left] wr.drew := (HIk.out.all hbl).load
          obtain ⟨kb, ko, kcap, ek, k1⟩ := (HK0.out.all HIk.out.below).elem hlt2
          cases ek
          rw [hm] at k1
          have hx : 0 ≤ (k : Int) := by omega
          have hx2 : (k : Int) < n := by omega
          have hx3 : 0 ≤ (m : Int) := by omega
          have hx4 : (m : Int) < q := by omega
          have Hbd := Lib.hid hbl
          have Hby := Lib.hid (show BArg B wr uv 64 (E.dev.qb m) from hbytes)
          have HmD := Lib.hid hmD
          have Hm := Lib.hid hm
          obtain ⟨ux, uc, rfl, -⟩ := hbytes.slice
          clear hbytes hmE hmD hbl hkk hm
          go_upto_region 10 with fail
          go_still_tail 8, hmo
          have HIK := Lib.hid (HIk.out.all Hbd.out)
          have HDK := Lib.hid (HDk.out.all Hbd.out)
          have HBY := Lib.hid (Hby.out.all Hbd.out)
          clear hload hld2 d0 d1 k1
          change wpList _ _ _ _ _ wr.drew
          generalize wr.drew = w3 at *
          go_wp2_with fail
          refine (RefPerform_any (D.qa m) w3 HDK.out HBY.out (by rw [HE.out]; exact performs_ok Hok.out (fun i j => Hok.out.pbyte _ j) k) (by rw [HP.out.2.2.2.2.2.2]; exact Hok.out.put m HmD.out) (by have := HIK.out.below.size; omega)).mono ?_
          rintro e w4 ⟨dv4, bv4, rfl, hd, hb⟩
          obtain ⟨d4, dc4, rfl, -⟩ := hd.data.slice
          obtain ⟨b4, bc4, rfl, -⟩ := hd.bad.slice
          have hE2 : E.perform (D.qa m) (E.dev.qb m) = D.performs (fun k => D.qa (f k).toNat) (fun k => D.qb (f k).toNat) (k + 1) := by
            show E.perform (D.qa m) (E.dev.qb m) = (D.performs (fun k => D.qa (f k).toNat) (fun k => D.qb (f k).toNat) k).perform (D.qa (f k).toNat) (D.qb (f k).toNat)
            rw [HP.out.2.2.1, ← HE.out, Hm.out]
            rfl
          have HE2 := Lib.hid hE2
          have HI4 := Lib.hid (HIK.out.all hb)
          have HD4 := Lib.hid hd
          clear hb hd hE2
          generalize E.perform (D.qa m) (E.dev.qb m) = E2 at *
          have hs := storeC_six HI4.out.box (six_one (a := .slice d4 E2.dev.n dc4) (b := .slice (some ⟨b, o, none⟩) q qc) (c := .slice b4 E2.dev.m bc4) (d := .bool E2.dev.dead) (e := .bool E2.dev.armed) (f := .int .i64 E2.dev.left) rfl rfl rfl rfl rfl rfl)
          have hput := HI4.out.put hB (.slice d4 E2.dev.n dc4) (.slice (some ⟨b, o, none⟩) q qc) (.slice b4 E2.dev.m bc4) (.bool E2.dev.dead) (.bool E2.dev.armed) (.int .i64 E2.dev.left)
          have HN := Lib.hid (show SyncI B D (fun k => D.qa (f k).toNat) (fun k => D.qb (f k).toNat) (.slice (some ⟨b, o, none⟩) q qc) w (w.heap.size + 1) (k + 1) _ from ⟨_, _, E2, HE2.out, hput.1, HD4.out.keepD hput.2⟩)
          clear hput
          unfold devV
          go_wp2_with fail
          go_roundw
          case rel => exact ⟨k + 1, by omega, by go_num, HN.out⟩
          case measure => simp [intOf]; omega
        · obtain rfl : n = k := by omega
          have hdlt2 : decide ((n : Int) < n) = false := decide_eq_false (by omega)
          have hs1 := (HIk.out).set hB 1 (.slice none 0 0) (a' := .slice d2 E.dev.n dc2) (b' := .slice none 0 0) (c' := .slice b2 E.dev.m bc2) (d' := .bool E.dev.dead) (e' := .bool E.dev.armed) (f' := .int .i64 E.dev.left) (fun k hk => by
            obtain rfl | rfl | rfl | rfl | rfl | rfl : k = 0 ∨ k = 1 ∨ k = 2 ∨ k = 3 ∨ k = 4 ∨ k = 5 := by omega
            all_goals rfl)
          have f1 := (HIk.out).box.frozen 1
          have c1 := (HIk.out).box.cell (i := 1) (by omega)
          have hs2 := (hs1.1).set hB 4 (.bool false) (a' := .slice d2 E.dev.n dc2) (b' := .slice none 0 0) (c' := .slice b2 E.dev.m bc2) (d' := .bool E.dev.dead) (e' := .bool false) (f' := .int .i64 E.dev.left) (fun k hk => by
            obtain rfl | rfl | rfl | rfl | rfl | rfl : k = 0 ∨ k = 1 ∨ k = 2 ∨ k = 3 ∨ k = 4 ∨ k = 5 := by omega
            all_goals rfl)
          have f2 := (hs1.1).box.frozen 4
          have c2 := (hs1.1).box.cell (i := 4) (by omega)
          have hs3 := (hs2.1).set hB 5 (.int .i64 0) (a' := .slice d2 E.dev.n dc2) (b' := .slice none 0 0) (c' := .slice b2 E.dev.m bc2) (d' := .bool E.dev.dead) (e' := .bool false) (f' := .int .i64 0) (fun k hk => by
            obtain rfl | rfl | rfl | rfl | rfl | rfl : k = 0 ∨ k = 1 ∨ k = 2 ∨ k = 3 ∨ k = 4 ∨ k = 5 := by omega
            all_goals rfl)
          have f3 := (hs2.1).box.frozen 5
          have c3 := (hs2.1).box.cell (i := 5) (by omega)
          have HI2 := Lib.hid (hs3.1)
          have HK2 := Lib.hid (((hs1.2).trans hs2.2).trans hs3.2)
          clear hs1 hs2 hs3
          go_upto_region 14 with fail
          clear f1 c1 f2 c2 f3 c3
          generalize (((wr.setCell ⟨w.heap.size, 1, none⟩ (.slice none 0 0)).setCell ⟨w.heap.size, 4, none⟩ (.bool false)).setCell ⟨w.heap.size, 5, none⟩ (.int .i64 0)) = W2 at *
          have HD2 := Lib.hid (arm_at (flushed_at (HDk.out.keepD HK2.out)) false z0)
          have HE2 := Lib.hid (show E.flushed.arm false 0 = D.crash n f by rw [HE.out]; rfl)
          have HZ := Lib.hid (HI2.out.fin hB (x0 := .slice d2 E.dev.n dc2) (x1 := .slice none 0 0) (x2 := .slice b2 E.dev.m bc2) (x3 := .bool E.dev.dead) (x4 := .bool false) (x5 := .int .i64 0) (six_one rfl rfl rfl rfl rfl rfl))
          have hs := HZ.out.store
          have hload := HI2.out.load
          have hld := HZ.out.load
          go_wp2_with fail
          have HD6 := Lib.hid (HD2.out.keepD HZ.out.keeps)
          have hfin : RefOut B (E.flushed.arm false 0) 0 w (.returned (.tuple #[.agg #[.slice d2 E.dev.n dc2, .slice none 0 0, .slice b2 E.dev.m bc2, .bool E.dev.dead, .bool false, .int .i64 0], .int .i64 0])) _ := ⟨_, _, _, rfl, HD6.out, HZ.out.below⟩
          refine bodyPost_ret (v := .tuple #[.agg #[.slice d2 E.dev.n dc2, .slice none 0 0, .slice b2 E.dev.m bc2, .bool E.dev.dead, .bool false, .int .i64 0], .int .i64 0]) (by simp [results, Try.results54, asAddr, hld]) rfl ?_
          exact (.inl ⟨HKo.out, by rw [← HE2.out]; exact hfin⟩)

end Go.Proofs.Ytjhcaedfknhilaa
