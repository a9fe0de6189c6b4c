/- The reference: perform. DiskNew. -/
import Derived.Test.YtjhcaedfknhilaaRc14
import Derived.Test.YtjhcaedfknhilaaRc18
namespace Go.Proofs.Ytjhcaedfknhilaa
set_option linter.unusedVariables false
set_option linter.unusedSimpArgs false
open Go.RowKit
attribute [local go_sem ↓] Go.wp_at_zero Go.wp_at_succ
attribute [-go_sem] loadCellsFrom storeCells
attribute [local go_sem] storeCells_one

theorem row_pair (w : World) (g : Nat) (a b : Value) (e : TypeId) (hg : w.heap.size = g) : RowAt (w.alloc (.cells #[a, b] e)) g e 2 2 (fun k => if k = 0 then a else b) := by
  subst hg
  exact row_of w #[a, b] e _ rfl (fun i hi => by
    obtain rfl | rfl : i = 0 ∨ i = 1 := by omega
    all_goals rfl) rfl

/-- The data of which i bytes of a sector are written. -/
def wroteF (F : Nat → Int) (f : Nat → Int) (a i k : Nat) : Int := if a * 64 ≤ k ∧ k < a * 64 + i then f (k - a * 64) else F k
theorem wroteF_zero (F f : Nat → Int) (a : Nat) : wroteF F f a 0 = F := by
  funext k
  unfold wroteF
  rw [if_neg (by omega)]
theorem wroteF_next (F f : Nat → Int) (a i k : Nat) : (if k = a * 64 + i then f i else wroteF F f a i k) = wroteF F f a (i + 1) k := by
  unfold wroteF
  by_cases h : k = a * 64 + i
  · rw [if_pos h, if_pos (by omega), show k - a * 64 = i by omega]
  · rw [if_neg h]
    by_cases h2 : a * 64 ≤ k ∧ k < a * 64 + i
    · rw [if_pos h2, if_pos (by omega)]
    · rw [if_neg h2, if_neg (by omega)]
theorem wroteF_dev (D : Dsk) (f : Nat → Int) (a k : Nat) : wroteF D.dev.data f a 64 k = (D.perform a f).dev.data k := by
  show (if a * 64 ≤ k ∧ k < a * 64 + 64 then f (k - a * 64) else D.sec (k / 64) (k % 64)) = if k / 64 = a then f (k % 64) else D.sec (k / 64) (k % 64)
  by_cases h : k / 64 = a
  · rw [if_pos h, if_pos (by omega), show k - a * 64 = k % 64 by omega]
  · rw [if_neg h, if_neg (by omega)]
theorem perform_ok {D : Dsk} (h : D.Ok) (a : Nat) {f : Nat → Int} (hf : ∀ i, 0 ≤ f i ∧ f i < 256) : (D.perform a f).Ok :=
  ⟨h.size, fun i j => by
    show 0 ≤ (if i = a then f j else D.sec i j) ∧ (if i = a then f j else D.sec i j) < 256
    split
    · exact hf j
    · exact h.byte i j, h.queue, h.put, h.pbyte, h.left⟩
/-- What is left of the first i of a list without one. -/
def lessL (L : List Nat) (a i : Nat) : List Nat := (L.take i).filter fun x => !(x == a)
def lessF (L : List Nat) (a i k : Nat) : Int := ((lessL L a i).getD k 0 : Nat)
theorem lessL_next (L : List Nat) (a i : Nat) (h : i < L.length) : lessL L a (i + 1) = lessL L a i ++ if L[i] = a then [] else [L[i]] := by
  unfold lessL
  rw [List.take_succ_eq_append_getElem h, List.filter_append]
  congr 1
  by_cases h1 : L[i] = a
  · rw [if_pos h1]; simp [h1]
  · rw [if_neg h1]; simp [h1]
theorem lessL_perform (D : Dsk) (f : Nat → Int) (a : Nat) : lessL (badL D D.n) a (badL D D.n).length = badL (D.perform a f) (D.perform a f).n := by
  unfold lessL badL
  rw [List.take_length, List.filter_filter]
  refine List.filter_congr fun x _ => ?_
  show (!(x == a) && D.bad x) = if x = a then false else D.bad x
  by_cases h : x = a
  · rw [if_pos h]; simp [h]
  · rw [if_neg h]; simp [h]
theorem lessL_le (L : List Nat) (a i : Nat) : (lessL L a i).length ≤ i := by
  unfold lessL
  exact Nat.le_trans (List.length_filter_le _ _) (by simp; omega)
theorem lessF_snoc {L : List Nat} {a i x k : Nat} (h : lessL L a (i + 1) = lessL L a i ++ [x]) : (if k < (lessL L a i).length then intsV (lessF L a i) k else Value.int .i64 x) = intsV (lessF L a (i + 1)) k ∨ ¬ k < (lessL L a i).length + 1 := by
  unfold intsV lessF
  rw [h]
  by_cases h1 : k < (lessL L a i).length
  · rw [if_pos h1]
    left
    rw [List.getD_eq_getElem?_getD, List.getD_eq_getElem?_getD, List.getElem?_append_left h1]
  · rw [if_neg h1]
    by_cases h2 : k = (lessL L a i).length
    · left
      rw [List.getD_eq_getElem?_getD, List.getElem?_append_right (by omega), h2]
      simp
    · right
      omega
theorem lessF_dev (D : Dsk) (f : Nat → Int) (a k : Nat) : lessF (badL D D.n) a (badL D D.n).length k = (D.perform a f).dev.bad k := by
  unfold lessF
  rw [lessL_perform D f a]
  rfl

theorem qaF_perform (D : Dsk) (a : Nat) (f : Nat → Int) : (D.perform a f).dev.qa = D.dev.qa := by
  show qaF (D.perform a f) = qaF D
  funext i
  rfl
theorem perform_at {B : Nat} {w : World} {dv qv bv : Value} {D : Dsk} {a : Nat} {f : Nat → Int} (h1 : BArg B w dv D.dev.n (D.perform a f).dev.data) (h2 : QArg B w qv D.dev.q D.dev.qa D.dev.ql D.dev.qb) (h3 : NArg B w bv (D.perform a f).dev.m (D.perform a f).dev.bad) (h4 : -9223372036854775808 ≤ D.dev.left ∧ D.dev.left ≤ 9223372036854775807) : DevAt B w dv qv bv (D.perform a f).dev := by
  refine ⟨h1, ?_, h3, h4⟩
  rw [qaF_perform]
  exact h2
theorem perform_devV (dv qv bv : Value) (D : Dsk) (a : Nat) (f : Nat → Int) : devV dv qv bv D.dev = devV dv qv bv (D.perform a f).dev := rfl
/-- What perform leaves. -/
def RefPerfP (B : Nat) (D : Dsk) (a : Nat) (f : Nat → Int) (qv : Value) (w : World) (e : Ending) (w' : World) : Prop :=
  ∃ dv' bv', e = .returned (devV dv' qv bv' (D.perform a f).dev) ∧ DevAt B w' dv' qv bv' (D.perform a f).dev ∧ Below w.heap.size w w'

set_option maxRecDepth 100000 in
set_option maxHeartbeats 4000000 in
theorem RefPerform_any {B : Nat} {dv qv bv uv : Value} {D : Dsk} {f : Nat → Int} (a : Nat) (w : World) (h : DevAt B w dv qv bv D.dev) (hu : BArg B w uv 64 f) (hok : D.Ok) (ha : a < D.n) (hB : B ≤ w.heap.size) :
    Calls Try.prog 68 #[devV dv qv bv D.dev, .agg #[.int .i64 a, uv]] w (RefPerfP B D a f qv w) := by
  obtain ⟨dx, dc, rfl, -⟩ := h.data.slice
  obtain ⟨qx, qc, rfl, -⟩ := h.queue.slice
  obtain ⟨bx, bc, rfl, hbm⟩ := h.bad.slice
  obtain ⟨ux, uc, rfl, -⟩ := hu.slice
  have hmo : Try.prog.follows .mixedOrders = true := by kernel_rfl
  have hI : RefI w (w.heap.size + 1 + 1) (.slice dx D.dev.n dc) (.slice qx D.dev.q qc) (.slice bx D.dev.m bc) (.bool D.dev.dead) (.bool D.dev.armed) (.int .i64 D.dev.left) (((w.alloc (.cells #[.slice dx D.dev.n dc, .slice qx D.dev.q qc, .slice bx D.dev.m bc, .bool D.dev.dead, .bool D.dev.armed, .int .i64 D.dev.left] 31)).alloc (.cells #[.int .i64 a, .slice ux 64 uc] 62)).alloc (.cells #[.slice none 0 0, .slice none 0 0, .slice none 0 0, .bool false, .bool false, .int .i64 0] 31)) := by
    have h9 := row_six ((w.alloc (.cells #[.slice dx D.dev.n dc, .slice qx D.dev.q qc, .slice bx D.dev.m bc, .bool D.dev.dead, .bool D.dev.armed, .int .i64 D.dev.left] 31)).alloc (.cells #[.int .i64 a, .slice ux 64 uc] 62)) (.slice none 0 0) (.slice none 0 0) (.slice none 0 0) (.bool false) (.bool false) (.int .i64 0) 31
    rw [World.size_alloc, World.size_alloc] at h9
    exact ⟨by omega, (((Below.refl _ w).alloc (Nat.le_refl _) _).alloc (by simp) _).alloc (by simp; omega) _, ((row_six w _ _ _ _ _ _ 31).alloc _).alloc _, h9⟩
  have hP : RowAt (((w.alloc (.cells #[.slice dx D.dev.n dc, .slice qx D.dev.q qc, .slice bx D.dev.m bc, .bool D.dev.dead, .bool D.dev.armed, .int .i64 D.dev.left] 31)).alloc (.cells #[.int .i64 a, .slice ux 64 uc] 62)).alloc (.cells #[.slice none 0 0, .slice none 0 0, .slice none 0 0, .bool false, .bool false, .int .i64 0] 31)) (w.heap.size + 1) 62 2 2 (fun k => if k = 0 then .int .i64 a else .slice ux 64 uc) :=
    (row_pair _ _ _ _ _ (by simp)).alloc _
  have HD := Lib.hid (h.all hI.below)
  have HU := Lib.hid (hu.all hI.below)
  have HI := Lib.hid hI
  have HP := Lib.hid hP
  have Hok := Lib.hid hok
  have hsz := hok.size
  have Hu := Lib.hid hu.1
  clear h hI hP hok hu
  unfold devV
  go_enter Try.func68, Try.ntmps68
  go_upto_region 1 with fail
  generalize ((w.alloc (.cells #[.slice dx D.dev.n dc, .slice qx D.dev.q qc, .slice bx D.dev.m bc, .bool D.dev.dead, .bool D.dev.armed, .int .i64 D.dev.left] 31)).alloc (.cells #[.int .i64 a, .slice ux 64 uc] 62)).alloc (.cells #[.slice none 0 0, .slice none 0 0, .slice none 0 0, .bool false, .bool false, .int .i64 0] 31) = W at *
  obtain ⟨N, hN⟩ : ∃ N, D.n = N := ⟨_, rfl⟩
  have HN1 := Lib.hid (show D.dev.n = N * 64 by rw [← hN]; rfl)
  rw [hN] at ha hsz
  have HN := Lib.hid hN
  obtain ⟨b, o, rfl, hcap, hcells⟩ := data_at HD.out HN1.out hsz.1
  obtain ⟨b8, o8, rfl, hcu⟩ := bytes_at HU.out (show 0 < 64 by decide)
  obtain ⟨a0, -⟩ := cells6 HI.out.box
  have a0' : W.cell? ⟨w.heap.size, 0, none⟩ = some (.slice (some ⟨b, o, none⟩) (N * 64) dc) := by rw [← HN1.out]; exact a0
  have a3 := cell_al (.cells #[] 5) a0'
  have Hcl := Lib.hid (hcells.all ((Below.refl _ W).alloc (Nat.le_refl _) (.cells #[] 5)))
  have HCu := Lib.hid hcu
  clear hN a0 a0' hcells hcu
  go_wp2_with (with_reducible refine stopB .append ?_)
  refine Hold.go ?_
  refine wpList_append_o rfl _ _ 27 5 _ _ rfl Try.underlying27 info_u8d rfl W.heap.size _ 0 (fun _ => undef) rfl (own_empty W 5 W.heap.size (Nat.le_refl _) _) b o (N * 64) dc (byteF D.dev.data) rfl Hcl.out (fun _ _ => rfl) (by omega) (by decide) (by simp) ?_
  intro v9 w9 hown hgr _ _
  obtain ⟨gd, cd, rfl, hgd, hrow, hcm⟩ := hown.row (by omega)
  have hb9 : Below W.heap.size W w9 := ((Below.refl _ W).alloc (Nat.le_refl _) _).grown hgr (by simp) (fun k hk => by simp [Value.ownBlock, Act.eval] at hk; omega)
  rw [Nat.zero_add] at hrow ⊢
  have Hrow := Lib.hid (hrow.congr (f' := byteF (wroteF D.dev.data f a 0)) fun k hk => by rw [wroteF_zero]; simp)
  have HB9 := Lib.hid hb9
  clear hown hgr hb9 hrow a3 Hcl
  go_wp2
  go_loopw [6] (fun t wr => ∃ i : Nat, i ≤ 64 ∧ t = .int .i64 i ∧ RowAt wr gd 5 cd (N * 64) (byteF (wroteF D.dev.data f a i)) ∧ Below W.heap.size W wr) (fun t _ => 64 - (intOf t).toNat)
  case atStart => exact ⟨0, by omega, by go_num, Hrow.out, HB9.out⟩
  case round =>
    obtain ⟨i, hi, rfl, hrow, hb⟩ := hrel
    have HRow := Lib.hid hrow
    have HBr := Lib.hid hb
    clear hrow hb
    by_cases hlt : i < 64
    · have hdlt : decide ((i : Int) < 64) = true := decide_eq_true (by omega)
      have p0 : wr.cell? ⟨w.heap.size + 1, 0, none⟩ = some (.int .i64 a) := (HP.out.all HBr.out).cell (i := 0) (by omega)
      have p1 : wr.cell? ⟨w.heap.size + 1, 1, none⟩ = some (.slice (some ⟨b8, o8, none⟩) 64 uc) := (HP.out.all HBr.out).cell (i := 1) (by omega)
      have u0 : wr.cell? ⟨b8, o8 + i, none⟩ = some (.int .u8 (f i)) := (HCu.out.all HBr.out) i hlt
      have hk1 : a * 64 + i < N * 64 := by omega
      have r0 := HRow.out.cell (i := a * 64 + i) hk1
      have f0 := HRow.out.frozen (a * 64 + i)
      have q6 : IntKind.i64.wrap ((a : Int) * 64) = (a : Int) * 64 := IntWalk.i64_in _ (by omega)
      have q7 : IntKind.i64.wrap ((a : Int) * 64 + i) = (a : Int) * 64 + i := IntWalk.i64_in _ (by omega)
      have q8 : ((a : Int) * 64 + i).toNat = a * 64 + i := by omega
      have q11 : (i : Int) < 64 := by omega
      have q9 : (0 : Int) ≤ (a : Int) * 64 + i := by omega
      have q10 : (a : Int) * 64 + i < (N : Int) * 64 := by omega
      go_upto_region 5 with fail
      go_still_tail 12, hmo
      have HRd := Lib.hid HRow.out.drew
      have HBd := Lib.hid HBr.out.drew
      have f1 := HRd.out.frozen (a * 64 + i)
      have r1 := HRd.out.cell (i := a * 64 + i) hk1
      clear f0 r0 p0 p1 u0
      change wpList _ _ _ _ _ wr.drew
      generalize wr.drew = w2 at *
      have HN2 := Lib.hid (And.intro ((HRd.out.set (a * 64 + i) (.int .u8 (f i))).congr (f' := byteF (wroteF D.dev.data f a (i + 1))) fun k hk => by
        show (if k = a * 64 + i then Value.int .u8 (f i) else Value.int .u8 (wroteF D.dev.data f a i k)) = Value.int .u8 (wroteF D.dev.data f a (i + 1) k)
        rw [← wroteF_next]
        split <;> rfl) (HBd.out.setCell (p := ⟨gd, a * 64 + i, none⟩) hgd (.int .u8 (f i))))
      go_wp2
      go_roundw
      case rel => exact ⟨i + 1, by omega, by go_num, HN2.out⟩
      case measure => simp [intOf]; omega
    · have hi64 : i = 64 := by omega
      have hdlt : decide ((i : Int) < 64) = false := decide_eq_false (by omega)
      have HRz := Lib.hid (show RowAt wr gd 5 cd (N * 64) (byteF (wroteF D.dev.data f a 64)) from hi64 ▸ HRow.out)
      have HBz := Lib.hid HBr.out
      clear hi64
      clear HRow HBr
      obtain ⟨wo, hwo⟩ : ∃ x, x = wr := ⟨_, rfl⟩
      subst hwo
      obtain ⟨m, hm⟩ : ∃ m, D.dev.m = m := ⟨_, rfl⟩
      have Hm := Lib.hid hm
      have hm2 : m ≤ 9223372036854775807 := by unfold maxLen at hbm; omega
      clear hm
      have hwz := HBz.out.size
      go_wp2_with fail
      go_loopw [7, 8] (fun s7 s8 wr => ∃ i : Nat, i ≤ m ∧ s8 = .int .i64 i ∧ ∃ x c, s7 = .slice x (lessL (badL D D.n) a i).length c ∧ Own wr wo.heap.size 3 (.slice x (lessL (badL D D.n) a i).length c) (lessL (badL D D.n) a i).length (intsV (lessF (badL D D.n) a i)) ∧ Below wo.heap.size wo wr) (fun _ s8 _ => m - (intOf s8).toNat)
      case atStart => exact ⟨0, by omega, by go_num, _, _, rfl, Own.nil _ _ _ _, Below.refl _ _⟩
      case round =>
        obtain ⟨i, hi, rfl, x, c, rfl, hown, hb⟩ := hrel
        have HOw := Lib.hid hown
        have HBr := Lib.hid hb
        have HBW := Lib.hid (HBz.out.trans (hb.mono hwz))
        clear hown hb
        obtain ⟨-, -, a2, -⟩ := cells6 (HI.out.all HBW.out).box
        have a2' : wr.cell? ⟨w.heap.size, 2, none⟩ = some (.slice bx m bc) := by rw [← Hm.out]; exact a2
        clear a2
        by_cases hlt : i < m
        · have hdlt : decide ((i : Int) < m) = true := decide_eq_true (by omega)
          have hil : i < (badL D D.n).length := by have := Hm.out; show i < D.dev.m; omega
          obtain ⟨b3, o3, c3, e3, hc3⟩ := (HD.out.all HBW.out).bad.elem (i := i) hil
          cases e3
          have p0 : wr.cell? ⟨w.heap.size + 1, 0, none⟩ = some (.int .i64 a) := (HP.out.all HBW.out).cell (i := 0) (by omega)
          have hbe : D.dev.bad i = ((badL D D.n)[i] : Nat) := badF_get D D.n i hil
          rw [hbe] at hc3
          have Hnx := Lib.hid (lessL_next (badL D D.n) a i hil)
          have Hil := Lib.hid hil
          generalize (badL D D.n)[i] = x3 at *
          clear hbe hil
          go_upto_region 10 with fail
          go_quiet (fail)
          by_cases hxa : x3 = a
          · have g1 : ((x3 : Int) != (a : Int)) = false := by rw [hxa]; simp
            have hnx := Hnx.out
            rw [if_pos hxa, List.append_nil] at hnx
            have HN3 := Lib.hid hnx
            clear hxa hnx
            go_wp2_with fail
            go_roundw
            case rel => exact ⟨i + 1, by omega, by go_num, x, c, by rw [HN3.out], by unfold lessF; rw [HN3.out]; exact HOw.out.drewN _, below_dn HBr.out _⟩
            case measure => simp [intOf]; omega
          · have g1 : ((x3 : Int) != (a : Int)) = true := by simp; omega
            have hnx := Hnx.out
            rw [if_neg hxa] at hnx
            have HN3 := Lib.hid hnx
            clear hxa hnx
            have HOd := Lib.hid (HOw.out.drewN nq)
            have HBd := Lib.hid (below_dn HBr.out nq)
            go_wp2_with (with_reducible refine stopB .append ?_)
            refine Hold.go ?_
            refine wpList_append_o rfl _ _ 29 3 _ _ rfl Try.underlying29 info_int rfl wo.heap.size (.slice x (lessL (badL D D.n) a i).length c) (lessL (badL D D.n) a i).length (intsV (lessF (badL D D.n) a i)) rfl (HOd.out.alloc _) wr.heap.size 0 1 1 (fun _ => .int .i64 x3) rfl (show Cells ((wr.drewN nq).alloc (.cells #[.int .i64 x3] 3)) wr.heap.size 0 1 (fun _ => .int .i64 x3) from (RowAt.new (wr.drewN nq) #[.int .i64 x3] 3 _ 1 (by simp) (one_cell rfl)).reads) (fun _ _ => rfl) (by have := lessL_le (badL D D.n) a i; have := (badL_le D D.n); have := Hil.out; have := HN.out; omega) (by decide) (by have := HBr.out.size; simp; omega) ?_
            intro v9 w9 hown hgr _ _
            obtain ⟨x9, c9, rfl⟩ := Own.slice hown
            have hlen : (lessL (badL D D.n) a (i + 1)).length = (lessL (badL D D.n) a i).length + 1 := by rw [HN3.out, List.length_append]; rfl
            have hb9 : Below wo.heap.size wo w9 := ((HBd.out.alloc (by have := HBr.out.size; simp; omega) _).grown hgr (by have := HBr.out.size; simp; omega) (fun k hk => (HOd.out.isCells k hk).1))
            have hown2 := hown.congr (f' := intsV (lessF (badL D D.n) a (i + 1))) fun k hk => by
              rcases lessF_snoc (k := k) HN3.out with h9 | h9
              · exact h9
              · exact absurd hk h9
            rw [← hlen] at hown2
            have HN9 := Lib.hid (And.intro hown2 hb9)
            have Hlen := Lib.hid hlen
            clear hown hgr hb9 hown2 hlen
            go_wp2
            go_roundw
            case rel => exact ⟨i + 1, by omega, by go_num, x9, c9, by rw [Hlen.out], HN9.out⟩
            case measure => simp [intOf]; omega
        · obtain rfl : m = i := by omega
          have hdlt : decide ((m : Int) < m) = false := decide_eq_false (by omega)
          have hI1 := HI.out.all HBW.out
          have hs1 := hI1.set hB 0 (.slice (some ⟨gd, 0, none⟩) (N * 64) cd) (a' := .slice (some ⟨gd, 0, none⟩) (N * 64) cd) (b' := .slice qx D.dev.q qc) (c' := .slice bx D.dev.m bc) (d' := .bool D.dev.dead) (e' := .bool D.dev.armed) (f' := .int .i64 D.dev.left) (fun k hk => by
            obtain rfl | rfl | rfl | rfl | rfl | rfl : k = 0 ∨ k = 1 ∨ k = 2 ∨ k = 3 ∨ k = 4 ∨ k = 5 := by omega
            all_goals rfl)
          have hs2 := hs1.1.set hB 2 (.slice x (lessL (badL D D.n) a m).length c) (a' := .slice (some ⟨gd, 0, none⟩) (N * 64) cd) (b' := .slice qx D.dev.q qc) (c' := .slice x (lessL (badL D D.n) a m).length c) (d' := .bool D.dev.dead) (e' := .bool D.dev.armed) (f' := .int .i64 D.dev.left) (fun k hk => by
            obtain rfl | rfl | rfl | rfl | rfl | rfl : k = 0 ∨ k = 1 ∨ k = 2 ∨ k = 3 ∨ k = 4 ∨ k = 5 := by omega
            all_goals rfl)
          have f0 := hI1.box.frozen 0
          have f2 := hs1.1.box.frozen 2
          have c0 := hI1.box.cell (i := 0) (by omega)
          have c2 := hs1.1.box.cell (i := 2) (by omega)
          have hk3 := hs1.2.trans hs2.2
          have HI2 := Lib.hid hs2.1
          have HK2 := Lib.hid hk3
          clear hI1 hs1 hs2 hk3
          go_upto_region 14 with fail
          clear f0 f2 c0 c2 a2'
          generalize (wr.setCell ⟨w.heap.size, 0, none⟩ (.slice (some ⟨gd, 0, none⟩) (N * 64) cd)).setCell ⟨w.heap.size, 2, none⟩ (.slice x (lessL (badL D D.n) a m).length c) = w4 at *
          have HZ := Lib.hid (HI2.out.fin hB (x0 := .slice (some ⟨gd, 0, none⟩) (N * 64) cd) (x1 := .slice qx D.dev.q qc) (x2 := .slice x (lessL (badL D D.n) a m).length c) (x3 := .bool D.dev.dead) (x4 := .bool D.dev.armed) (x5 := .int .i64 D.dev.left) (six_one rfl rfl rfl rfl rfl rfl))
          have hs := HZ.out.store
          have hload := HI2.out.load
          have hld := HZ.out.load
          go_wp2_with fail
          have hall := HK2.out.trans HZ.out.keeps
          have hlen : (lessL (badL D D.n) a m).length = (D.perform a f).dev.m := by
            have h9 := lessL_perform D f a
            rw [show (badL D D.n).length = m from Hm.out] at h9
            rw [h9]
            rfl
          have hdat : BArg B wr (.slice (some ⟨gd, 0, none⟩) (N * 64) cd) (N * 64) (D.perform a f).dev.data := barg_own (B' := 0) (.inr ⟨_, _, rfl, Nat.zero_le _, (HRz.out.all HBr.out).congr fun k hk => by unfold byteF; rw [wroteF_dev], hcm⟩) fun k => (perform_ok Hok.out a Hu.out).byte _ _
          have hbad : NArg B wr (.slice x (lessL (badL D D.n) a m).length c) (lessL (badL D D.n) a m).length (D.perform a f).dev.bad := narg_own (HOw.out.congr fun k hk => by
            unfold intsV
            rw [← lessF_dev D f a k, show (badL D D.n).length = m from Hm.out]) fun i => by
              have := badF_range (D.perform a f) (D.perform a f).n i (by show D.n ≤ 4096; rw [HN.out]; exact hsz.2)
              show -9223372036854775808 ≤ badF (D.perform a f) (D.perform a f).n i ∧ badF (D.perform a f) (D.perform a f).n i ≤ 9223372036854775807
              omega
          rw [hlen] at hbad
          rw [hlen] at hld ⊢
          have hfin : DevAt B (w4.setCells (w.heap.size + 1 + 1) 0 [.slice (some ⟨gd, 0, none⟩) (N * 64) cd, .slice qx D.dev.q qc, .slice x (D.perform a f).dev.m c, .bool D.dev.dead, .bool D.dev.armed, .int .i64 D.dev.left]) (.slice (some ⟨gd, 0, none⟩) (N * 64) cd) (.slice qx D.dev.q qc) (.slice x (D.perform a f).dev.m c) (D.perform a f).dev := by
            rw [hlen] at hall
            refine perform_at ?_ ((HD.out.all HBW.out).queue.keep hall) (hbad.keep hall) HD.out.left
            rw [HN1.out]
            exact hdat.keep hall
          have hbel := HZ.out.below
          rw [hlen] at hbel
          exact bodyPost_ret (v := devV (.slice (some ⟨gd, 0, none⟩) (N * 64) cd) (.slice qx D.dev.q qc) (.slice x (D.perform a f).dev.m c) D.dev) (by simp [results, Try.results68, asAddr, hld, devV]) rfl ⟨_, _, congrArg Ending.returned (perform_devV _ _ _ D a f), hfin, hbel⟩

end Go.Proofs.Ytjhcaedfknhilaa

namespace Go.Proofs.Ytjhcaedfknhilaa
set_option linter.unusedVariables false
set_option linter.unusedSimpArgs false
open Go.RowKit
attribute [local go_sem ↓] Go.wp_at_zero Go.wp_at_succ
attribute [-go_sem] loadCellsFrom storeCells
attribute [local go_sem] storeCells_one

theorem none_false (n : Nat) : ((List.range n).filter fun _ => false) = [] := List.filter_eq_nil_iff.2 fun _ _ => by simp
theorem newDev_same (n : Nat) : (Dsk.zero n).dev.Same (newDev n) where
  n := rfl
  data := fun _ _ => rfl
  q := rfl
  qa := fun i hi => absurd hi (Nat.not_lt_zero i)
  ql := fun i hi => absurd hi (Nat.not_lt_zero i)
  qb := fun i hi => absurd hi (Nat.not_lt_zero i)
  m := by
    show 0 = ((List.range n).filter fun _ => false).length
    rw [none_false]
    rfl
  bad := fun i hi => by
    have h9 : i < ((List.range n).filter fun _ => false).length := hi
    rw [none_false] at h9
    exact absurd h9 (Nat.not_lt_zero i)
  dead := rfl
  armed := rfl
  left := rfl

set_option maxHeartbeats 2000000 in
theorem DiskNew_any (n : Int) (hn : -9223372036854775808 ≤ n ∧ n ≤ 9223372036854775807) (w : World) : Calls Try.prog 3 #[.int .i64 n] w fun e w' => e = .returned (.bool true) ∧ Below w.heap.size w w' := by
  by_cases h : 1 ≤ n ∧ n ≤ 4096
  · obtain ⟨k, rfl⟩ : ∃ k : Nat, n = k := ⟨n.toNat, by omega⟩
    have hk : 1 ≤ k ∧ k ≤ 4096 := by omega
    go_enter Try.func3, Try.ntmps3
    go_wp2_with fail
    refine (New_ok k hk w).mono ?_
    rintro e w1 ⟨g, gs, gb, rfl, hd, hb⟩
    have HD1 := Lib.hid hd
    have HB1 := Lib.hid hb
    clear hd hb
    have d1 : decide ((k : Int) < 1) = false := decide_eq_false (by omega)
    have d2 : decide ((k : Int) > 4096) = false := decide_eq_false (by omega)
    go_wp2_with fail
    refine (State_any w1 HD1.out).mono ?_
    rintro e w2 ⟨dv, qv, bv, rfl, hd, hb⟩
    obtain ⟨dx, dc, rfl, -⟩ := hd.data.slice
    obtain ⟨qx, qc, rfl, -⟩ := hd.queue.slice
    obtain ⟨bx, bc, rfl, -⟩ := hd.bad.slice
    have hst := storeC_dev w2 #[.slice none 0 0, .slice none 0 0, .slice none 0 0, .bool false, .bool false, .int .i64 0] rfl _ _ _ _ _ _ (six_one (a := .slice dx (Dsk.zero k).dev.n dc) (b := .slice qx (Dsk.zero k).dev.q qc) (c := .slice bx (Dsk.zero k).dev.m bc) (d := .bool (Dsk.zero k).dev.dead) (e := .bool (Dsk.zero k).dev.armed) (f := .int .i64 (Dsk.zero k).dev.left) rfl rfl rfl rfl rfl rfl)
    have hr3 := row_six w2 (.slice dx (Dsk.zero k).dev.n dc) (.slice qx (Dsk.zero k).dev.q qc) (.slice bx (Dsk.zero k).dev.m bc) (.bool (Dsk.zero k).dev.dead) (.bool (Dsk.zero k).dev.armed) (.int .i64 (Dsk.zero k).dev.left) 31
    have HD2 := Lib.hid (hd.all ((Below.refl _ w2).alloc (Nat.le_refl _) (.cells #[.slice dx (Dsk.zero k).dev.n dc, .slice qx (Dsk.zero k).dev.q qc, .slice bx (Dsk.zero k).dev.m bc, .bool (Dsk.zero k).dev.dead, .bool (Dsk.zero k).dev.armed, .int .i64 (Dsk.zero k).dev.left] 31)))
    have HB3 := Lib.hid ((HB1.out.trans (hb.mono HB1.out.size)).alloc (Nat.le_trans HB1.out.size hb.size) (.cells #[.slice dx (Dsk.zero k).dev.n dc, .slice qx (Dsk.zero k).dev.q qc, .slice bx (Dsk.zero k).dev.m bc, .bool (Dsk.zero k).dev.dead, .bool (Dsk.zero k).dev.armed, .int .i64 (Dsk.zero k).dev.left] 31))
    clear hd hb HD1 HB1
    generalize hX : (Dsk.zero k).dev = X at *
    have HS := Lib.hid (show X.Same (newDev k) from hX ▸ newDev_same k)
    clear hX
    unfold devV
    go_upto_region 7 with fail
    clear hst
    generalize w2.alloc (.cells #[.slice dx X.n dc, .slice qx X.q qc, .slice bx X.m bc, .bool X.dead, .bool X.armed, .int .i64 X.left] 31) = w3 at *
    have HR3 := Lib.hid hr3
    clear hr3
    have hd3 : Below w3.heap.size w3 w3.drew := (Below.refl _ w3).drew
    go_region_held (fun w' => (loadCellsFrom ⟨w2.heap.size, 0, none⟩ 0 6 #[]).run Try.prog w' = .ok #[.slice dx X.n dc, .slice qx X.q qc, .slice bx X.m bc, .bool X.dead, .bool X.armed, .int .i64 X.left] w' ∧ Below w3.heap.size w3 w')
      (exact ⟨loadC_dev (HR3.out.all (by assumption)), by assumption⟩)
      (first | (go_at_call 10; refine (sane_any _).mono ?_; rintro e w4 ⟨rfl, hb⟩; have hb4 := hd3.trans (hb.mono hd3.size); clear hb) | (go_at_call 13; refine (RefNew_any 0 k hk _).mono ?_; rintro e w5 ⟨dv5, qv5, bv5, rfl, hdn, hb⟩; have hb5 := hb4.trans (hb.mono hb4.size); clear hb) | (go_at_call 12; refine (Same_yes _ (HD2.out.all hb5) hdn HS.out).mono ?_; rintro e w6 ⟨rfl, hb⟩; have hb6 := hb5.trans (hb.mono hb5.size); clear hb))
    go_wp2
    go_ret
    exact ⟨rfl, HB3.out.trans (hb6.mono HB3.out.size)⟩
  · have hdec : (decide (n < 1) = true) ∨ (decide (n < 1) = false ∧ decide (n > 4096) = true) := by
      by_cases h1 : n < 1
      · exact .inl (decide_eq_true h1)
      · exact .inr ⟨decide_eq_false h1, decide_eq_true (by omega)⟩
    go_enter Try.func3, Try.ntmps3
    go_wp2_with fail
    refine (New_bad n h w).mono ?_
    rintro e w1 ⟨rfl, hb⟩
    rcases hdec with d1 | ⟨d1, d2⟩
    all_goals
      go_wp2_with fail
      refine (sane_any _).mono ?_
      rintro e w2 ⟨rfl, hb2⟩
      go_wp2_with fail
      go_ret
      exact ⟨rfl, hb.trans (hb2.mono hb.size)⟩

end Go.Proofs.Ytjhcaedfknhilaa
