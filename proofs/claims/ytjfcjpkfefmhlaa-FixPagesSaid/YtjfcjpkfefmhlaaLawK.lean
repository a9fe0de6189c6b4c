/- The specification's Merge, and FixMerges. -/
import Derived.Test.YtjfcjpkfefmhlaaLawJ
namespace Go.Proofs.Ytjfcjpkfefmhlaa
open Go.RowKit
attribute [local go_sem] Oper.semAt_some

set_option maxHeartbeats 1000000 in
theorem rcovers_any (gx cx gy cy : Nat) (hcx : 8 ≤ cx) (hcy : 8 ≤ cy) (x y : Nat → Int) (u : Int) (w : World) (hx : Cells w gx 0 8 (intsV x)) (hy : Cells w gy 0 8 (intsV y)) :
    Calls Try.prog 43 #[.slice (some ⟨gx, 0, none⟩) 8 cx, .slice (some ⟨gy, 0, none⟩) 8 cy, .int .i64 u] w fun e w' => e = .returned (.bool (coversB x y u)) ∧ w = w' := by
  have Hx := Lib.hid hx; clear hx
  have Hy := Lib.hid hy; clear hy
  go_enter Try.func43, Try.ntmps43
  go_wp2_with fail
  go_loop [7] (fun t => ∃ k : Nat, k ≤ 8 ∧ t = .int .i64 k ∧ ∀ s, s < k → x s = u ∨ y s = u) (fun t => 8 - (intOf t).toNat)
  case atStart => exact ⟨0, by omega, rfl, fun s hs => absurd hs (by omega)⟩
  case round =>
    obtain ⟨k, hk, rfl, hq⟩ := hrel
    have Hq := Lib.hid hq; clear hq
    by_cases hlt : k < 8
    · have c1 := Hx.out k hlt
      have c2 := Hy.out k hlt
      rw [Nat.zero_add] at c1 c2
      unfold intsV at c1 c2
      rcases e1 : (x k != u) with _ | _
      · have h1 : x k = u ∨ y k = u := .inl (by simpa using e1)
        have H1 := Lib.hid h1; clear h1
        go_wp2
        go_round
        case rel => exact ⟨k + 1, by omega, by go_num, fun s hs => if h : s = k then by rw [h]; exact H1.out else Hq.out s (by omega)⟩
        case measure => simp [intOf]; omega
      · rcases e2 : (y k != u) with _ | _
        · have h1 : x k = u ∨ y k = u := .inr (by simpa using e2)
          have H1 := Lib.hid h1; clear h1
          go_wp2
          go_round
          case rel => exact ⟨k + 1, by omega, by go_num, fun s hs => if h : s = k then by rw [h]; exact H1.out else Hq.out s (by omega)⟩
          case measure => simp [intOf]; omega
        · have h1 : coversB x y u = false := coversB_false hlt (by simpa using e1) (by simpa using e2)
          have H1 := Lib.hid h1; clear h1
          go_wp2
          go_ret
          exact ⟨ret_bool H1.out.symm, rfl⟩
    · obtain rfl : k = 8 := by omega
      have h1 : coversB x y u = (u != 0) := by
        rw [Bool.eq_iff_iff, coversB_iff, bne_iff_ne]
        exact ⟨fun h => h.1, fun h => ⟨h, Hq.out⟩⟩
      have H1 := Lib.hid h1; clear h1
      go_wp2
      go_ret
      exact ⟨ret_bool H1.out.symm, rfl⟩

def st3 (a b c : Value) (i : Nat) : Value := if i = 0 then a else if i = 1 then b else c

theorem RowAt.st3 {w : World} {g : Nat} {e : TypeId} {cap : Nat} {f : Nat → Value} (h : RowAt w g e cap 3 f) (a b c : Value) :
    RowAt (((w.setCell ⟨g, 0, none⟩ a).setCell ⟨g, 1, none⟩ b).setCell ⟨g, 2, none⟩ c) g e cap 3 (st3 a b c) :=
  (((h.set 0 a).set 1 b).set 2 c).congr fun i hi => by
    rcases i with _ | _ | _ | i
    · rfl
    · rfl
    · rfl
    · omega

theorem row3 (w : World) (a b c : Value) (e : TypeId) : RowAt (w.alloc (.cells #[a, b, c] e)) w.heap.size e 3 3 (st3 a b c) :=
  RowAt.new w #[a, b, c] e (st3 a b c) 3 (by simp) (fun i hi => by rcases i with _ | _ | _ | i <;> first | rfl | omega)

def RMergeBad (w : World) (c : Int) (e : Ending) (w' : World) : Prop := e = .returned (.agg #[.slice none 0 0, .slice none 0 0, .int .i64 c]) ∧ Below w.heap.size w w'

set_option maxHeartbeats 2000000 in
theorem rMerge_len (a1 a2 : Option Addr) (n1 c1 n2 c2 : Nat) (h : ¬ (n1 = 512 ∧ n2 = 512)) (w : World) :
    Calls Try.prog 14 #[.slice a1 n1 c1, .slice a2 n2 c2] w (RMergeBad w 1) := by
  go_enter Try.func14, Try.ntmps14
  go_wp2_with fail
  refine (rRight_any _ _ _ _).mono ?_
  rintro e w' ⟨rfl, rfl⟩
  have r0 := row3 w (.slice none 0 0) (.slice none 0 0) (.int .i64 0) 29
  have q0 := r0.cell (i := 0) (by omega)
  have q1 := r0.cell (i := 1) (by omega)
  have q2 := r0.cell (i := 2) (by omega)
  have z0 := r0.frozen 0
  have z1 := r0.frozen 1
  have z2 := r0.frozen 2
  have hb : Below w.heap.size w (w.alloc (.cells #[.slice none 0 0, .slice none 0 0, .int .i64 0] 29)) := (Below.refl _ w).alloc (Nat.le_refl _) _
  have R0 := Lib.hid r0; clear r0
  have HB := Lib.hid hb; clear hb
  generalize w.alloc (.cells #[.slice none 0 0, .slice none 0 0, .int .i64 0] 29) = w1 at *
  have rr := R0.out.st3 (.slice none 0 0) (.slice none 0 0) (.int .i64 1)
  have e0 := rr.cell (i := 0) (by omega)
  have e1 := rr.cell (i := 1) (by omega)
  have e2 := rr.cell (i := 2) (by omega)
  have hb2 := ((HB.out.setCell (p := ⟨w.heap.size, 0, none⟩) (Nat.le_refl _) (.slice none 0 0)).setCell (p := ⟨w.heap.size, 1, none⟩) (Nat.le_refl _) (.slice none 0 0)).setCell (p := ⟨w.heap.size, 2, none⟩) (Nat.le_refl _) (.int .i64 1)
  have E0 := Lib.hid e0
  have E1 := Lib.hid e1
  have E2 := Lib.hid e2
  have HB2 := Lib.hid hb2
  clear e0 e1 e2 hb2 rr
  by_cases h1 : n1 = 512
  · have hb1 : ((n1 : Int) == 512) = true := by rw [h1]; rfl
    have hb2 : ((n2 : Int) == 512) = false := by rw [beq_eq_false_iff_ne]; omega
    rw [hb1]
    go_wp2_with fail
    refine (rRight_any _ _ _ _).mono ?_
    rintro e w' ⟨rfl, rfl⟩
    rw [hb2]
    go_wp2_with fail
    have e0 := E0.out
    have e1 := E1.out
    have e2 := E2.out
    refine bodyPost_ret (v := .agg #[.slice none 0 0, .slice none 0 0, .int .i64 1]) ?_ rfl ⟨rfl, HB2.out⟩
    simp [results, Try.results14, go_sem, e0, e1, e2, st3]
  · have hb1 : ((n1 : Int) == 512) = false := by rw [beq_eq_false_iff_ne]; omega
    rw [hb1]
    go_wp2_with fail
    have e0 := E0.out
    have e1 := E1.out
    have e2 := E2.out
    refine bodyPost_ret (v := .agg #[.slice none 0 0, .slice none 0 0, .int .i64 1]) ?_ rfl ⟨rfl, HB2.out⟩
    simp [results, Try.results14, go_sem, e0, e1, e2, st3]

theorem Own.wrote {w w' : World} {B g : Nat} {e : TypeId} {v : Value} {n : Nat} {f : Nat → Value} (h : Own w B e v n f) (hw : Wrote w w' g) (hg : g < B) : Own w' B e v n f := by
  rcases h with h | ⟨r, cap, rfl, hB, hrow, hm⟩
  · exact .inl h
  · exact .inr ⟨r, cap, rfl, hB, hrow.wrote hw (by omega), hm⟩

def RMergePost (w : World) (fa fb : Nat → Int) (e : Ending) (w' : World) : Prop :=
  if bestOf (markI fa) (markI fb) = 0 then RMergeBad w 8 e w'
  else ∃ g cap v, e = .returned (.agg #[.slice (some ⟨g, 0, none⟩) 512 cap, v, .int .i64 0]) ∧ w.heap.size ≤ g ∧
    RowAt w' g 5 cap 512 (bytesV (blendF (fun s => markI fa s != bestOf (markI fa) (markI fb)) fa fb)) ∧ cap ≤ maxLen ∧
    Own w' w.heap.size 3 v 8 (listV (fromL (markI fa) (bestOf (markI fa) (markI fb)) 8)) ∧ Below w.heap.size w w'

/-- What holds between two rounds of Merge. -/
structure RMI (gx cx g cp h8 : Nat) (w : World) (x : Nat → Int) (u : Int) (f : Nat → Int) (k : Nat) (v : Value) (wr : World) : Prop where
  res : RowAt wr w.heap.size 29 3 3 (st3 (.slice none 0 0) (.slice none 0 0) (.int .i64 0))
  out : RowAt wr h8 29 3 3 (st3 (.slice (some ⟨g, 0, none⟩) 512 cp) v (.int .i64 0))
  xs : RowAt wr gx 3 cx 8 (intsV x)
  row : RowAt wr g 5 cp 512 (bytesV f)
  own : Own wr (h8 + 1) 3 v k (listV (fromL x u k))
  below : Below w.heap.size w wr
  sl : ∃ n c a, v = .slice a n c

theorem RMI.turn {gx cx g cp h8 : Nat} {w : World} {x : Nat → Int} {u : Int} {f f' : Nat → Int} {k : Nat} {v : Value} {wr w3 : World} (h : RMI gx cx g cp h8 w x u f k v wr)
    (hr : RowAt w3 g 5 cp 512 (bytesV f')) (hw : Wrote wr w3 g) (hg : w.heap.size < g) (hgx : gx ≠ g) (hg8 : g < h8) : RMI gx cx g cp h8 w x u f' k v w3 :=
  ⟨h.res.wrote hw (by omega), h.out.wrote hw (by omega), h.xs.wrote hw hgx, hr, h.own.wrote hw (by omega), hw.below h.below h.below.size (by omega), h.sl⟩

theorem RMI.drewN {gx cx g cp h8 : Nat} {w : World} {x : Nat → Int} {u : Int} {f : Nat → Int} {k : Nat} {v : Value} {wr : World} (h : RMI gx cx g cp h8 w x u f k v wr) (n : Nat) : RMI gx cx g cp h8 w x u f k v (wr.drewN n) :=
  ⟨h.res.drewN n, h.out.drewN n, h.xs.drewN n, h.row.drewN n, h.own.drewN n, h.below.trans (below_drewN _ _ _), h.sl⟩

theorem RMI.step {gx cx g cp h8 : Nat} {w : World} {x : Nat → Int} {u : Int} {f : Nat → Int} {k : Nat} {v v' : Value} {m : Int} {wr w3 : World} (h : RMI gx cx g cp h8 w x u f k v wr)
    (hm : m = if x k = u then 0 else 1) (hg : w.heap.size < g) (hg8 : g < h8) (hgx : gx < h8)
    (hown' : Own w3 (h8 + 1) 3 v' (k + 1) (fun i => if i < k then listV (fromL x u k) i else .int .i64 m)) (hgr : (wr.alloc (.cells #[.int .i64 m] 3)).grownBy w3 v.ownBlock) :
    RMI gx cx g cp h8 w x u f (k + 1) v' (w3.setCell ⟨h8, 1, none⟩ v') ∧ w3.cell? ⟨h8, 1, none⟩ = some v ∧ w3.frozen? ⟨h8, 1, none⟩ = false := by
  have hlt8 := h.out.lt
  have hlt := h.res.lt
  have ro := (h.out.alloc (.cells #[.int .i64 m] 3)).grown hgr (h.own.ne (by omega))
  have hb3 : Below w.heap.size w w3 := (h.below.alloc h.below.size _).grown hgr (by simp; omega) (fun k e => by have := (h.own.isCells k e).1; omega)
  refine ⟨⟨((h.res.alloc _).grown hgr (h.own.ne (by omega))).setOther _ _ (by simp; omega), (ro.set 1 v').congr (fun i hi => ?_), ((h.xs.alloc _).grown hgr (h.own.ne (by omega))).setOther _ _ (by simp; omega),
    ((h.row.alloc _).grown hgr (h.own.ne (by omega))).setOther _ _ (by simp; omega), (hown'.congr fun i hi => ?_).setOther _ _ (by simp), hb3.setCell (by simp; omega) _, ?_⟩, ro.cell (i := 1) (by omega), ro.frozen 1⟩
  · unfold st3
    rcases i with _ | _ | i
    · rfl
    · rfl
    · simp
  · have hf := fromL_succ x u k
    rw [hf, ← hm]
    have := listV_snoc (fromL x u k) m i (by rw [fromL_len]; exact hi)
    rw [fromL_len] at this
    exact this
  · obtain ⟨g', c', rfl, _⟩ := hown'.row (by omega)
    exact ⟨_, _, _, rfl⟩

theorem RMI.cong {gx cx g cp h8 : Nat} {w : World} {x : Nat → Int} {u : Int} {f f' : Nat → Int} {k : Nat} {v : Value} {wr : World} (h : RMI gx cx g cp h8 w x u f k v wr) (hf : ∀ i, i < 512 → f i = f' i) :
    RMI gx cx g cp h8 w x u f' k v wr := ⟨h.res, h.out, h.xs, h.row.congr fun i hi => by unfold bytesV; rw [hf i hi], h.own, h.below, h.sl⟩

theorem fromL_zero (x : Nat → Int) (u : Int) : fromL x u 0 = [] := rfl

set_option maxRecDepth 8000 in
set_option maxHeartbeats 8000000 in
theorem rMerge_main (b off cap b2 off2 cap2 : Nat) (hcap : 512 ≤ cap) (hm : cap ≤ maxLen) (hcap2 : 512 ≤ cap2) (hm2 : cap2 ≤ maxLen) (fa fb : Nat → Int) (hfa : ∀ i, i < 512 → 0 ≤ fa i ∧ fa i < 256) (hfb : ∀ i, i < 512 → 0 ≤ fb i ∧ fb i < 256) (w : World)
    (ha : Cells w b off 512 (bytesV fa)) (hb : Cells w b2 off2 512 (bytesV fb)) :
    Calls Try.prog 14 #[.slice (some ⟨b, off, none⟩) 512 cap, .slice (some ⟨b2, off2, none⟩) 512 cap2] w (RMergePost w fa fb) := by
  have Ha := Lib.hid ha
  have Hb := Lib.hid hb
  have hbw := hb.lt (by omega)
  clear ha hb
  have mx := markI_bound hfa 0 (by omega)
  have my := markI_bound hfb 0 (by omega)
  have Hfa := Lib.hid hfa
  have Hfb := Lib.hid hfb
  clear hfa hfb
  go_enter Try.func14, Try.ntmps14
  go_wp2_with fail
  refine (rRight_any _ _ _ _).mono ?_
  rintro e w' ⟨rfl, rfl⟩
  have r0 := row3 w (.slice none 0 0) (.slice none 0 0) (.int .i64 0) 29
  have hb : Below w.heap.size w (w.alloc (.cells #[.slice none 0 0, .slice none 0 0, .int .i64 0] 29)) := (Below.refl _ w).alloc (Nat.le_refl _) _
  have hs1 : (w.alloc (.cells #[.slice none 0 0, .slice none 0 0, .int .i64 0] 29)).heap.size = w.heap.size + 1 := by simp
  have R1 := Lib.hid r0; clear r0
  have B1 := Lib.hid hb; clear hb
  have S1 := Lib.hid hs1; clear hs1
  generalize w.alloc (.cells #[.slice none 0 0, .slice none 0 0, .int .i64 0] 29) = w1 at *
  rw [show (((512 : Nat) : Int) == 512) = true from rfl]
  go_wp2_with fail
  refine (rRight_any _ _ _ _).mono ?_
  rintro e w' ⟨rfl, rfl⟩
  rw [show (((512 : Nat) : Int) == 512) = true from rfl]
  go_wp2_with fail
  refine (rMarks_any b off cap hcap hm fa Hfa.out _ (Ha.out.all B1.out)).mono ?_
  rintro e w2 ⟨gx, cx, rfl, hgx, hx, hb⟩
  have hgx0 : w.heap.size < gx := by have := S1.out; omega
  have R2 := Lib.hid (R1.out.all hb)
  have X2 := Lib.hid hx
  have B2 := Lib.hid (B1.out.trans (hb.mono B1.out.size)); clear hb hx B1 R1 S1 hgx
  go_wp2_with fail
  refine (rMarks_any b2 off2 cap2 hcap2 hm2 fb Hfb.out _ (Hb.out.all B2.out)).mono ?_
  rintro e w3 ⟨gy, cy, rfl, hgy, hy, hb⟩
  have hgy0 : gx < gy := by have := X2.out.lt; omega
  have R3 := Lib.hid (R2.out.all hb)
  have X3 := Lib.hid (X2.out.all hb)
  have Y3 := Lib.hid hy
  have B3 := Lib.hid (B2.out.trans (hb.mono B2.out.size)); clear hb hy B2 R2 X2 hgy
  have hlx := X3.out.le
  have hly := Y3.out.le
  have cx0 := X3.out.cell (i := 0) (by omega)
  have cy0 := Y3.out.cell (i := 0) (by omega)
  unfold intsV at cx0 cy0
  have CV := Lib.hid (fun u => rcovers_any gx cx gy cy hlx hly (markI fa) (markI fb) u w3 X3.out.reads Y3.out.reads)
  have hpost : (bestOf (markI fa) (markI fb) = (if coversB (markI fa) (markI fb) (markI fb 0) && ((if coversB (markI fa) (markI fb) (markI fa 0) then markI fa 0 else 0) == 0 || newerF (markI fb 0) (if coversB (markI fa) (markI fb) (markI fa 0) then markI fa 0 else 0)) then markI fb 0 else if coversB (markI fa) (markI fb) (markI fa 0) then markI fa 0 else 0)) := by
    unfold bestOf betterB
    simp only [beq_self_eq_true, Bool.true_or, Bool.and_true]
  have HP := Lib.hid hpost; clear hpost
  have C1 := Lib.hid (fun h => (coversB_iff (x := markI fa) (y := markI fb) (u := markI fa 0)).1 h |>.1)
  have C2 := Lib.hid (fun h => (coversB_iff (x := markI fa) (y := markI fb) (u := markI fb 0)).1 h |>.1)
  generalize hX0 : markI fa 0 = x0 at *
  generalize hY0 : markI fb 0 = y0 at *
  have HX0 := Lib.hid hX0; clear hX0
  have HY0 := Lib.hid hY0; clear hY0
  go_wp2_with fail
  refine (CV.out x0).mono ?_
  rintro e w' ⟨rfl, rfl⟩
  rcases hc1 : coversB (markI fa) (markI fb) x0 with _ | _
  · rcases hc2 : coversB (markI fa) (markI fb) y0 with _ | _
    · have hbu : bestOf (markI fa) (markI fb) = 0 := by rw [HP.out, hc1, hc2]; simp
      have q0 := R3.out.cell (i := 0) (by omega)
      have q1 := R3.out.cell (i := 1) (by omega)
      have q2 := R3.out.cell (i := 2) (by omega)
      have z0 := R3.out.frozen 0
      have z1 := R3.out.frozen 1
      have z2 := R3.out.frozen 2
      have rr := R3.out.st3 (.slice none 0 0) (.slice none 0 0) (.int .i64 8)
      have E0 := Lib.hid (rr.cell (i := 0) (by omega))
      have E1 := Lib.hid (rr.cell (i := 1) (by omega))
      have E2 := Lib.hid (rr.cell (i := 2) (by omega))
      have HB2 := Lib.hid (((B3.out.setCell (p := ⟨w.heap.size, 0, none⟩) (Nat.le_refl _) (.slice none 0 0)).setCell (p := ⟨w.heap.size, 1, none⟩) (Nat.le_refl _) (.slice none 0 0)).setCell (p := ⟨w.heap.size, 2, none⟩) (Nat.le_refl _) (.int .i64 8))
      clear rr HP C1 C2
      go_wp2_with fail
      refine (CV.out y0).mono ?_
      rintro e w' ⟨rfl, rfl⟩
      rw [hc2]
      go_wp2_with fail
      have e0 := E0.out
      have e1 := E1.out
      have e2 := E2.out
      refine bodyPost_ret (v := .agg #[.slice none 0 0, .slice none 0 0, .int .i64 8]) ?_ rfl (by unfold RMergePost; rw [if_pos hbu]; exact ⟨rfl, HB2.out⟩)
      simp [results, Try.results14, go_sem, e0, e1, e2, st3]
    · have hu0 : (y0 == 0) = false := by rw [beq_eq_false_iff_ne]; exact C2.out hc2
      have hbu : bestOf (markI fa) (markI fb) = y0 := by rw [HP.out, hc1, hc2]; simp
      have Hbu := Lib.hid hbu; clear hbu HP C1 C2
      go_wp2_with fail
      refine (CV.out y0).mono ?_
      rintro e w' ⟨rfl, rfl⟩
      rw [hc2]
      clear hc1 hc2
      go_wp2_with (at_builtin; refine Hold.stop ?_)
      refine Hold.go ?_
      refine wpList_append_o rfl _ _ 22 5 _ _ rfl Try.underlying22 info_u8 rfl w3.heap.size _ 0 (fun _ => undef) rfl (.inr ⟨_, 0, rfl, Nat.le_refl _, RowAt.new w3 #[] _ _ 0 (Nat.le_refl _) (fun i hi => absurd hi (by omega)), by simp [maxLen]⟩) b off 512 cap (bytesV fa) rfl ((Ha.out.all B3.out).alloc _) (fun _ _ => rfl) (by omega) (by decide) (by simp) ?_
      intro v' w4 hown hgr _ _
      obtain ⟨g, cp, rfl, hgB, hrow, hmx⟩ := hown.row (by omega)
      rw [Nat.zero_add] at hrow ⊢
      have hb : Below w3.heap.size w3 w4 := ((Below.refl _ w3).alloc (Nat.le_refl _) _).grown hgr (by simp) (fun k hk => by simp [Value.ownBlock, Act.eval] at hk; omega)
      have R4 := Lib.hid (R3.out.all hb)
      have X4 := Lib.hid (X3.out.all hb)
      have G4 := Lib.hid (hrow.congr (f' := bytesV fa) (fun i _ => by simp))
      have B4 := Lib.hid (B3.out.trans (hb.mono B3.out.size))
      have hg1 : gx < g := by have := X3.out.lt; omega
      have hcp : 512 ≤ cp := hrow.le
      have Hmx := Lib.hid hmx
      clear hb hrow hmx hgr hown B3 R3 X3 Y3 cx0 cy0
      have hs8 : g < w4.heap.size := G4.out.lt
      have hn := row3 w4 (.slice none 0 0) (.slice none 0 0) (.int .i64 0) 29
      have q0 := hn.cell (i := 0) (by omega)
      have q1 := hn.cell (i := 1) (by omega)
      have q2 := hn.cell (i := 2) (by omega)
      have z0 := hn.frozen 0
      have z1 := hn.frozen 1
      have z2 := hn.frozen 2
      have hn2 := row3 w4 (.slice (some ⟨g, 0, none⟩) 512 cp) (.slice none 0 0) (.int .i64 0) 29
      have hI : RMI gx cx g cp w4.heap.size w (markI fa) y0 (blendK (fun s => markI fa s != y0) fa fb 0) 0 (.slice none 0 0) (w4.alloc (.cells #[.slice (some ⟨g, 0, none⟩) 512 cp, .slice none 0 0, .int .i64 0] 29)) :=
        ⟨R4.out.alloc _, hn2, X4.out.alloc _, (G4.out.alloc _).congr (fun i _ => by unfold bytesV blendK; rw [if_neg (by omega)]), Own.nil _ _ _ _, B4.out.alloc B4.out.size _, _, _, _, rfl⟩
      have HI := Lib.hid hI; clear hI hn hn2 R4 X4 G4 B4
      go_wp2_with fail
      generalize w4.heap.size = h8 at *
      go_loopw [9] (fun t wr => ∃ k : Nat, k ≤ 8 ∧ t = .int .i64 k ∧ ∃ v, RMI gx cx g cp h8 w (markI fa) y0 (blendK (fun s => markI fa s != y0) fa fb k) k v wr) (fun t _ => 8 - (intOf t).toNat)
      case atStart => exact ⟨0, by omega, rfl, _, HI.out⟩
      case round =>
        obtain ⟨k, hk, rfl, v, hi⟩ := hrel
        obtain ⟨vn, vc, va, rfl⟩ := hi.sl
        have hlo := hi.out.lt
        by_cases hlt : k < 8
        · have cxk := hi.xs.cell (i := k) hlt
          unfold intsV at cxk
          have o0 := hi.out.cell (i := 0) (by omega)
          have o1 := hi.out.cell (i := 1) (by omega)
          have o2 := hi.out.cell (i := 2) (by omega)
          unfold st3 at o0 o1 o2
          simp only [if_true, Nat.one_ne_zero, if_false] at o0 o1
          have Hi := Lib.hid hi; clear hi
          rcases hp : (markI fa k != y0) with _ | _
          · have hm0 : (0 : Int) = if markI fa k = y0 then 0 else 1 := by rw [if_pos (by simpa using hp)]
            have Hm0 := Lib.hid hm0; clear hm0
            have hbk := blendK_skip (fun s => markI fa s != y0) fa fb k
            have Hbk := Lib.hid (fun i => hbk i hp); clear hbk
            go_wp2_with (with_reducible refine stopB .append ?_)
            refine Hold.go ?_
            refine wpList_append_o rfl _ _ 24 3 _ _ rfl Try.underlying24 info_int rfl (h8 + 1) _ k (listV (fromL (markI fa) y0 k)) rfl (Hi.out.own.alloc _) wr.heap.size 0 1 1 (fun _ => .int .i64 0) rfl (RowAt.new wr #[.int .i64 0] 3 _ 1 (by simp) (one_cell rfl)).reads (fun _ _ => rfl) (by omega) (by decide) (by simp; omega) ?_
            intro v' w6 hown' hgr _ _
            obtain ⟨hst, cc, zz⟩ := Hi.out.step Hm0.out (by omega) hs8 (by omega) hown' hgr
            have Hst := Lib.hid (hst.cong (fun i _ => Hbk.out i)); clear hst hown' hgr
            obtain ⟨n6, c6, a6, hv6⟩ := Hst.out.sl
            subst hv6
            go_wp2
            go_roundw
            case rel => exact ⟨k + 1, by omega, by go_num, _, Hst.out⟩
            case measure => simp [intOf]; omega
          · have hm0 : (1 : Int) = if markI fa k = y0 then 0 else 1 := by rw [if_neg (by simpa using hp)]
            have Hm0 := Lib.hid hm0; clear hm0
            have Hbt := Lib.hid (fun i => blendK_take (fun s => markI fa s != y0) fa fb k i hp)
            go_wp2_with fail
            have i1 : (0 : Int) ≤ 64 * (k : Int) := by omega
            have i2 : 64 * (k : Int) ≤ 512 := by omega
            have i3 : 64 * (k : Int) ≤ 64 * (k : Int) + 64 := by omega
            have i4 : 64 * (k : Int) + 64 ≤ (cap2 : Int) := by omega
            have i5 : ¬ (cp = 64 * k) := by omega
            have i6 : (0 : Int) ≤ 64 * (k : Int) + 64 := by omega
            have i8 : ¬ (cap2 = 64 * k) := by omega
            have w1' : IntKind.i64.wrap (64 * (k : Int)) = 64 * (k : Int) := IntWalk.i64_in _ (by omega)
            have w3' : IntKind.i64.wrap (64 * (k : Int) + 64) = 64 * (k : Int) + 64 := IntWalk.i64_in _ (by omega)
            have t1 : (64 * (k : Int)).toNat = 64 * k := by omega
            have t2 : (64 * (k : Int) + 64).toNat = 64 * k + 64 := by omega
            have t3 : 64 * k + 64 - 64 * k = 64 := by omega
            have m1 : (64 : Nat) = Nat.min 64 (512 - 64 * k) := by simp [Nat.min_def]; omega
            have f1 : 64 * k + 64 ≤ 512 := by omega
            have hcb := (Hb.out.all Hi.out.below).drop (64 * k) 64 (by omega)
            have Hcb := Lib.hid hcb; clear hcb
            have M1 := Lib.hid m1; clear m1
            go_still_tail 12, (by kernel_rfl)
            clear w1' w3' t1 t2 t3
            refine wpList_copy_o rfl _ _ 22 22 5 rfl Try.underlying22 size_u8 g (64 * k) (512 - 64 * k) (cp - 64 * k) cp 512 (bytesV (blendK (fun s => markI fa s != y0) fa fb k)) rfl ?q1 b2 (off2 + 64 * k) 64 (cap2 - 64 * k) (fun i => bytesV fb (64 * k + i)) rfl ?q2 (fun _ _ => rfl) 64 M1.out f1 ?_
            case q1 => exact Hi.out.row.heap rfl
            case q2 => exact Hcb.out.heap rfl
            intro wr2 hr3 hw3
            have hr4 := hr3.congr (fun i hi => Hbt.out i)
            have hi2 := (Hi.out.drewN 1).turn hr4 hw3 (by omega) (by omega) hs8
            have Hi2 := Lib.hid hi2
            clear hr3 hr4 hw3 hi2 o0 o1 o2
            have o0 := Hi2.out.out.cell (i := 0) (by omega)
            have o1 := Hi2.out.out.cell (i := 1) (by omega)
            have o2 := Hi2.out.out.cell (i := 2) (by omega)
            unfold st3 at o0 o1 o2
            simp only [if_true, Nat.one_ne_zero, if_false] at o0 o1
            go_wp2_with (with_reducible refine stopB .append ?_)
            refine Hold.go ?_
            refine wpList_append_o rfl _ _ 24 3 _ _ rfl Try.underlying24 info_int rfl (h8 + 1) _ k (listV (fromL (markI fa) y0 k)) rfl (Hi2.out.own.alloc _) wr2.heap.size 0 1 1 (fun _ => .int .i64 1) rfl (RowAt.new wr2 #[.int .i64 1] 3 _ 1 (by simp) (one_cell rfl)).reads (fun _ _ => rfl) (by omega) (by decide) (by have := Hi2.out.out.lt; simp; omega) ?_
            intro v' w6 hown' hgr _ _
            obtain ⟨hst, cc, zz⟩ := Hi2.out.step Hm0.out (by omega) hs8 (by omega) hown' hgr
            have Hst := Lib.hid hst; clear hst hown' hgr
            obtain ⟨n6, c6, a6, hv6⟩ := Hst.out.sl
            subst hv6
            go_wp2
            go_roundw
            case rel => exact ⟨k + 1, by omega, by go_num, _, Hst.out⟩
            case measure => simp [intOf]; omega
        · obtain rfl : k = 8 := by omega
          have o0 := hi.out.cell (i := 0) (by omega)
          have o1 := hi.out.cell (i := 1) (by omega)
          have o2 := hi.out.cell (i := 2) (by omega)
          have q0 := hi.res.cell (i := 0) (by omega)
          have q1 := hi.res.cell (i := 1) (by omega)
          have q2 := hi.res.cell (i := 2) (by omega)
          have z0 := hi.res.frozen 0
          have z1 := hi.res.frozen 1
          have z2 := hi.res.frozen 2
          unfold st3 at o0 o1 o2
          simp only [if_true, Nat.one_ne_zero, if_false] at o0 o1
          have rr := hi.res.st3 (.slice (some ⟨g, 0, none⟩) 512 cp) (.slice va vn vc) (.int .i64 0)
          have e0 := rr.cell (i := 0) (by omega)
          have e1 := rr.cell (i := 1) (by omega)
          have e2 := rr.cell (i := 2) (by omega)
          have E0 := Lib.hid e0
          have E1 := Lib.hid e1
          have E2 := Lib.hid e2
          have HB2 := Lib.hid (((hi.below.setCell (p := ⟨w.heap.size, 0, none⟩) (Nat.le_refl _) (.slice (some ⟨g, 0, none⟩) 512 cp)).setCell (p := ⟨w.heap.size, 1, none⟩) (Nat.le_refl _) (.slice va vn vc)).setCell (p := ⟨w.heap.size, 2, none⟩) (Nat.le_refl _) (.int .i64 0))
          have HR2 := Lib.hid (((hi.row.setOther ⟨w.heap.size, 0, none⟩ (.slice (some ⟨g, 0, none⟩) 512 cp) (by simp; omega)).setOther ⟨w.heap.size, 1, none⟩ (.slice va vn vc) (by simp; omega)).setOther ⟨w.heap.size, 2, none⟩ (.int .i64 0) (by simp; omega))
          have HO2 := Lib.hid (((hi.own.setOther ⟨w.heap.size, 0, none⟩ (.slice (some ⟨g, 0, none⟩) 512 cp) (by simp; omega)).setOther ⟨w.heap.size, 1, none⟩ (.slice va vn vc) (by simp; omega)).setOther ⟨w.heap.size, 2, none⟩ (.int .i64 0) (by simp; omega))
          clear rr e0 e1 e2 hi
          go_wp2_with fail
          have e0 := E0.out
          have e1 := E1.out
          have e2 := E2.out
          refine bodyPost_ret (v := .agg #[.slice (some ⟨g, 0, none⟩) 512 cp, .slice va vn vc, .int .i64 0]) ?_ rfl ?_
          · simp [results, Try.results14, go_sem, e0, e1, e2, st3]
          · unfold RMergePost
            rw [Hbu.out, if_neg (by have := hu0; rw [beq_eq_false_iff_ne] at this; exact this)]
            refine ⟨g, cp, _, rfl, by omega, HR2.out.congr (fun i hi => by unfold bytesV blendK blendF; simp [show i / 64 < 8 from by omega]), Hmx.out, HO2.out.mono (by omega), HB2.out⟩
  · have hu0 : (x0 == 0) = false := by rw [beq_eq_false_iff_ne]; exact C1.out hc1
    rcases hc2 : coversB (markI fa) (markI fb) y0 with _ | _
    · have hbu : bestOf (markI fa) (markI fb) = x0 := by rw [HP.out, hc1, hc2]; simp
      have Hbu := Lib.hid hbu; clear hbu HP C1 C2
      go_wp2_with fail
      refine (CV.out y0).mono ?_
      rintro e w' ⟨rfl, rfl⟩
      rw [hc2]
      clear hc1 hc2
      go_wp2_with (at_builtin; refine Hold.stop ?_)
      refine Hold.go ?_
      refine wpList_append_o rfl _ _ 22 5 _ _ rfl Try.underlying22 info_u8 rfl w3.heap.size _ 0 (fun _ => undef) rfl (.inr ⟨_, 0, rfl, Nat.le_refl _, RowAt.new w3 #[] _ _ 0 (Nat.le_refl _) (fun i hi => absurd hi (by omega)), by simp [maxLen]⟩) b off 512 cap (bytesV fa) rfl ((Ha.out.all B3.out).alloc _) (fun _ _ => rfl) (by omega) (by decide) (by simp) ?_
      intro v' w4 hown hgr _ _
      obtain ⟨g, cp, rfl, hgB, hrow, hmx⟩ := hown.row (by omega)
      rw [Nat.zero_add] at hrow ⊢
      have hb : Below w3.heap.size w3 w4 := ((Below.refl _ w3).alloc (Nat.le_refl _) _).grown hgr (by simp) (fun k hk => by simp [Value.ownBlock, Act.eval] at hk; omega)
      have R4 := Lib.hid (R3.out.all hb)
      have X4 := Lib.hid (X3.out.all hb)
      have G4 := Lib.hid (hrow.congr (f' := bytesV fa) (fun i _ => by simp))
      have B4 := Lib.hid (B3.out.trans (hb.mono B3.out.size))
      have hg1 : gx < g := by have := X3.out.lt; omega
      have hcp : 512 ≤ cp := hrow.le
      have Hmx := Lib.hid hmx
      clear hb hrow hmx hgr hown B3 R3 X3 Y3 cx0 cy0
      have hs8 : g < w4.heap.size := G4.out.lt
      have hn := row3 w4 (.slice none 0 0) (.slice none 0 0) (.int .i64 0) 29
      have q0 := hn.cell (i := 0) (by omega)
      have q1 := hn.cell (i := 1) (by omega)
      have q2 := hn.cell (i := 2) (by omega)
      have z0 := hn.frozen 0
      have z1 := hn.frozen 1
      have z2 := hn.frozen 2
      have hn2 := row3 w4 (.slice (some ⟨g, 0, none⟩) 512 cp) (.slice none 0 0) (.int .i64 0) 29
      have hI : RMI gx cx g cp w4.heap.size w (markI fa) x0 (blendK (fun s => markI fa s != x0) fa fb 0) 0 (.slice none 0 0) (w4.alloc (.cells #[.slice (some ⟨g, 0, none⟩) 512 cp, .slice none 0 0, .int .i64 0] 29)) :=
        ⟨R4.out.alloc _, hn2, X4.out.alloc _, (G4.out.alloc _).congr (fun i _ => by unfold bytesV blendK; rw [if_neg (by omega)]), Own.nil _ _ _ _, B4.out.alloc B4.out.size _, _, _, _, rfl⟩
      have HI := Lib.hid hI; clear hI hn hn2 R4 X4 G4 B4
      go_wp2_with fail
      generalize w4.heap.size = h8 at *
      go_loopw [9] (fun t wr => ∃ k : Nat, k ≤ 8 ∧ t = .int .i64 k ∧ ∃ v, RMI gx cx g cp h8 w (markI fa) x0 (blendK (fun s => markI fa s != x0) fa fb k) k v wr) (fun t _ => 8 - (intOf t).toNat)
      case atStart => exact ⟨0, by omega, rfl, _, HI.out⟩
      case round =>
        obtain ⟨k, hk, rfl, v, hi⟩ := hrel
        obtain ⟨vn, vc, va, rfl⟩ := hi.sl
        have hlo := hi.out.lt
        by_cases hlt : k < 8
        · have cxk := hi.xs.cell (i := k) hlt
          unfold intsV at cxk
          have o0 := hi.out.cell (i := 0) (by omega)
          have o1 := hi.out.cell (i := 1) (by omega)
          have o2 := hi.out.cell (i := 2) (by omega)
          unfold st3 at o0 o1 o2
          simp only [if_true, Nat.one_ne_zero, if_false] at o0 o1
          have Hi := Lib.hid hi; clear hi
          rcases hp : (markI fa k != x0) with _ | _
          · have hm0 : (0 : Int) = if markI fa k = x0 then 0 else 1 := by rw [if_pos (by simpa using hp)]
            have Hm0 := Lib.hid hm0; clear hm0
            have hbk := blendK_skip (fun s => markI fa s != x0) fa fb k
            have Hbk := Lib.hid (fun i => hbk i hp); clear hbk
            go_wp2_with (with_reducible refine stopB .append ?_)
            refine Hold.go ?_
            refine wpList_append_o rfl _ _ 24 3 _ _ rfl Try.underlying24 info_int rfl (h8 + 1) _ k (listV (fromL (markI fa) x0 k)) rfl (Hi.out.own.alloc _) wr.heap.size 0 1 1 (fun _ => .int .i64 0) rfl (RowAt.new wr #[.int .i64 0] 3 _ 1 (by simp) (one_cell rfl)).reads (fun _ _ => rfl) (by omega) (by decide) (by simp; omega) ?_
            intro v' w6 hown' hgr _ _
            obtain ⟨hst, cc, zz⟩ := Hi.out.step Hm0.out (by omega) hs8 (by omega) hown' hgr
            have Hst := Lib.hid (hst.cong (fun i _ => Hbk.out i)); clear hst hown' hgr
            obtain ⟨n6, c6, a6, hv6⟩ := Hst.out.sl
            subst hv6
            go_wp2
            go_roundw
            case rel => exact ⟨k + 1, by omega, by go_num, _, Hst.out⟩
            case measure => simp [intOf]; omega
          · have hm0 : (1 : Int) = if markI fa k = x0 then 0 else 1 := by rw [if_neg (by simpa using hp)]
            have Hm0 := Lib.hid hm0; clear hm0
            have Hbt := Lib.hid (fun i => blendK_take (fun s => markI fa s != x0) fa fb k i hp)
            go_wp2_with fail
            have i1 : (0 : Int) ≤ 64 * (k : Int) := by omega
            have i2 : 64 * (k : Int) ≤ 512 := by omega
            have i3 : 64 * (k : Int) ≤ 64 * (k : Int) + 64 := by omega
            have i4 : 64 * (k : Int) + 64 ≤ (cap2 : Int) := by omega
            have i5 : ¬ (cp = 64 * k) := by omega
            have i6 : (0 : Int) ≤ 64 * (k : Int) + 64 := by omega
            have i8 : ¬ (cap2 = 64 * k) := by omega
            have w1' : IntKind.i64.wrap (64 * (k : Int)) = 64 * (k : Int) := IntWalk.i64_in _ (by omega)
            have w3' : IntKind.i64.wrap (64 * (k : Int) + 64) = 64 * (k : Int) + 64 := IntWalk.i64_in _ (by omega)
            have t1 : (64 * (k : Int)).toNat = 64 * k := by omega
            have t2 : (64 * (k : Int) + 64).toNat = 64 * k + 64 := by omega
            have t3 : 64 * k + 64 - 64 * k = 64 := by omega
            have m1 : (64 : Nat) = Nat.min 64 (512 - 64 * k) := by simp [Nat.min_def]; omega
            have f1 : 64 * k + 64 ≤ 512 := by omega
            have hcb := (Hb.out.all Hi.out.below).drop (64 * k) 64 (by omega)
            have Hcb := Lib.hid hcb; clear hcb
            have M1 := Lib.hid m1; clear m1
            go_still_tail 12, (by kernel_rfl)
            clear w1' w3' t1 t2 t3
            refine wpList_copy_o rfl _ _ 22 22 5 rfl Try.underlying22 size_u8 g (64 * k) (512 - 64 * k) (cp - 64 * k) cp 512 (bytesV (blendK (fun s => markI fa s != x0) fa fb k)) rfl ?q1 b2 (off2 + 64 * k) 64 (cap2 - 64 * k) (fun i => bytesV fb (64 * k + i)) rfl ?q2 (fun _ _ => rfl) 64 M1.out f1 ?_
            case q1 => exact Hi.out.row.heap rfl
            case q2 => exact Hcb.out.heap rfl
            intro wr2 hr3 hw3
            have hr4 := hr3.congr (fun i hi => Hbt.out i)
            have hi2 := (Hi.out.drewN 1).turn hr4 hw3 (by omega) (by omega) hs8
            have Hi2 := Lib.hid hi2
            clear hr3 hr4 hw3 hi2 o0 o1 o2
            have o0 := Hi2.out.out.cell (i := 0) (by omega)
            have o1 := Hi2.out.out.cell (i := 1) (by omega)
            have o2 := Hi2.out.out.cell (i := 2) (by omega)
            unfold st3 at o0 o1 o2
            simp only [if_true, Nat.one_ne_zero, if_false] at o0 o1
            go_wp2_with (with_reducible refine stopB .append ?_)
            refine Hold.go ?_
            refine wpList_append_o rfl _ _ 24 3 _ _ rfl Try.underlying24 info_int rfl (h8 + 1) _ k (listV (fromL (markI fa) x0 k)) rfl (Hi2.out.own.alloc _) wr2.heap.size 0 1 1 (fun _ => .int .i64 1) rfl (RowAt.new wr2 #[.int .i64 1] 3 _ 1 (by simp) (one_cell rfl)).reads (fun _ _ => rfl) (by omega) (by decide) (by have := Hi2.out.out.lt; simp; omega) ?_
            intro v' w6 hown' hgr _ _
            obtain ⟨hst, cc, zz⟩ := Hi2.out.step Hm0.out (by omega) hs8 (by omega) hown' hgr
            have Hst := Lib.hid hst; clear hst hown' hgr
            obtain ⟨n6, c6, a6, hv6⟩ := Hst.out.sl
            subst hv6
            go_wp2
            go_roundw
            case rel => exact ⟨k + 1, by omega, by go_num, _, Hst.out⟩
            case measure => simp [intOf]; omega
        · obtain rfl : k = 8 := by omega
          have o0 := hi.out.cell (i := 0) (by omega)
          have o1 := hi.out.cell (i := 1) (by omega)
          have o2 := hi.out.cell (i := 2) (by omega)
          have q0 := hi.res.cell (i := 0) (by omega)
          have q1 := hi.res.cell (i := 1) (by omega)
          have q2 := hi.res.cell (i := 2) (by omega)
          have z0 := hi.res.frozen 0
          have z1 := hi.res.frozen 1
          have z2 := hi.res.frozen 2
          unfold st3 at o0 o1 o2
          simp only [if_true, Nat.one_ne_zero, if_false] at o0 o1
          have rr := hi.res.st3 (.slice (some ⟨g, 0, none⟩) 512 cp) (.slice va vn vc) (.int .i64 0)
          have e0 := rr.cell (i := 0) (by omega)
          have e1 := rr.cell (i := 1) (by omega)
          have e2 := rr.cell (i := 2) (by omega)
          have E0 := Lib.hid e0
          have E1 := Lib.hid e1
          have E2 := Lib.hid e2
          have HB2 := Lib.hid (((hi.below.setCell (p := ⟨w.heap.size, 0, none⟩) (Nat.le_refl _) (.slice (some ⟨g, 0, none⟩) 512 cp)).setCell (p := ⟨w.heap.size, 1, none⟩) (Nat.le_refl _) (.slice va vn vc)).setCell (p := ⟨w.heap.size, 2, none⟩) (Nat.le_refl _) (.int .i64 0))
          have HR2 := Lib.hid (((hi.row.setOther ⟨w.heap.size, 0, none⟩ (.slice (some ⟨g, 0, none⟩) 512 cp) (by simp; omega)).setOther ⟨w.heap.size, 1, none⟩ (.slice va vn vc) (by simp; omega)).setOther ⟨w.heap.size, 2, none⟩ (.int .i64 0) (by simp; omega))
          have HO2 := Lib.hid (((hi.own.setOther ⟨w.heap.size, 0, none⟩ (.slice (some ⟨g, 0, none⟩) 512 cp) (by simp; omega)).setOther ⟨w.heap.size, 1, none⟩ (.slice va vn vc) (by simp; omega)).setOther ⟨w.heap.size, 2, none⟩ (.int .i64 0) (by simp; omega))
          clear rr e0 e1 e2 hi
          go_wp2_with fail
          have e0 := E0.out
          have e1 := E1.out
          have e2 := E2.out
          refine bodyPost_ret (v := .agg #[.slice (some ⟨g, 0, none⟩) 512 cp, .slice va vn vc, .int .i64 0]) ?_ rfl ?_
          · simp [results, Try.results14, go_sem, e0, e1, e2, st3]
          · unfold RMergePost
            rw [Hbu.out, if_neg (by have := hu0; rw [beq_eq_false_iff_ne] at this; exact this)]
            refine ⟨g, cp, _, rfl, by omega, HR2.out.congr (fun i hi => by unfold bytesV blendK blendF; simp [show i / 64 < 8 from by omega]), Hmx.out, HO2.out.mono (by omega), HB2.out⟩
    · have hx1 : 1 ≤ x0 ∧ x0 ≤ 65535 := by have := C1.out hc1; omega
      have hy1 : 1 ≤ y0 ∧ y0 ≤ 65535 := by have := C2.out hc2; omega
      have N1 := Lib.hid (fun (W : World) => rNewer_any y0 x0 W hy1 hx1)
      have N2 := Lib.hid (fun (W : World) => rNewer_any x0 y0 W hx1 hy1)
      have hP2 := HP.out
      rw [hc1, hc2] at hP2
      simp only [if_true, Bool.true_and] at hP2
      rw [hu0, Bool.false_or] at hP2
      clear HP
      rcases hnw : newerF y0 x0 with _ | _
      · rw [hnw] at hP2
        have hbu : bestOf (markI fa) (markI fb) = x0 := by rw [hP2]; simp
        have Hbu := Lib.hid hbu; clear hbu hP2 C1 C2
        rw [hnw] at N1
        go_wp2_with fail
        refine (CV.out y0).mono ?_
        rintro e w' ⟨rfl, rfl⟩
        rw [hc2]
        clear hc1 hc2 hnw
        go_wp2_with fail
        refine (N1.out _).mono ?_
        rintro e w' ⟨rfl, rfl⟩
        go_wp2_with (at_builtin; refine Hold.stop ?_)
        refine Hold.go ?_
        refine wpList_append_o rfl _ _ 22 5 _ _ rfl Try.underlying22 info_u8 rfl w3.heap.size _ 0 (fun _ => undef) rfl (.inr ⟨_, 0, rfl, Nat.le_refl _, RowAt.new w3 #[] _ _ 0 (Nat.le_refl _) (fun i hi => absurd hi (by omega)), by simp [maxLen]⟩) b off 512 cap (bytesV fa) rfl ((Ha.out.all B3.out).alloc _) (fun _ _ => rfl) (by omega) (by decide) (by simp) ?_
        intro v' w4 hown hgr _ _
        obtain ⟨g, cp, rfl, hgB, hrow, hmx⟩ := hown.row (by omega)
        rw [Nat.zero_add] at hrow ⊢
        have hb : Below w3.heap.size w3 w4 := ((Below.refl _ w3).alloc (Nat.le_refl _) _).grown hgr (by simp) (fun k hk => by simp [Value.ownBlock, Act.eval] at hk; omega)
        have R4 := Lib.hid (R3.out.all hb)
        have X4 := Lib.hid (X3.out.all hb)
        have G4 := Lib.hid (hrow.congr (f' := bytesV fa) (fun i _ => by simp))
        have B4 := Lib.hid (B3.out.trans (hb.mono B3.out.size))
        have hg1 : gx < g := by have := X3.out.lt; omega
        have hcp : 512 ≤ cp := hrow.le
        have Hmx := Lib.hid hmx
        clear hb hrow hmx hgr hown B3 R3 X3 Y3 cx0 cy0
        have hs8 : g < w4.heap.size := G4.out.lt
        have hn := row3 w4 (.slice none 0 0) (.slice none 0 0) (.int .i64 0) 29
        have q0 := hn.cell (i := 0) (by omega)
        have q1 := hn.cell (i := 1) (by omega)
        have q2 := hn.cell (i := 2) (by omega)
        have z0 := hn.frozen 0
        have z1 := hn.frozen 1
        have z2 := hn.frozen 2
        have hn2 := row3 w4 (.slice (some ⟨g, 0, none⟩) 512 cp) (.slice none 0 0) (.int .i64 0) 29
        have hI : RMI gx cx g cp w4.heap.size w (markI fa) x0 (blendK (fun s => markI fa s != x0) fa fb 0) 0 (.slice none 0 0) (w4.alloc (.cells #[.slice (some ⟨g, 0, none⟩) 512 cp, .slice none 0 0, .int .i64 0] 29)) :=
          ⟨R4.out.alloc _, hn2, X4.out.alloc _, (G4.out.alloc _).congr (fun i _ => by unfold bytesV blendK; rw [if_neg (by omega)]), Own.nil _ _ _ _, B4.out.alloc B4.out.size _, _, _, _, rfl⟩
        have HI := Lib.hid hI; clear hI hn hn2 R4 X4 G4 B4
        go_wp2_with fail
        generalize w4.heap.size = h8 at *
        go_loopw [9] (fun t wr => ∃ k : Nat, k ≤ 8 ∧ t = .int .i64 k ∧ ∃ v, RMI gx cx g cp h8 w (markI fa) x0 (blendK (fun s => markI fa s != x0) fa fb k) k v wr) (fun t _ => 8 - (intOf t).toNat)
        case atStart => exact ⟨0, by omega, rfl, _, HI.out⟩
        case round =>
          obtain ⟨k, hk, rfl, v, hi⟩ := hrel
          obtain ⟨vn, vc, va, rfl⟩ := hi.sl
          have hlo := hi.out.lt
          by_cases hlt : k < 8
          · have cxk := hi.xs.cell (i := k) hlt
            unfold intsV at cxk
            have o0 := hi.out.cell (i := 0) (by omega)
            have o1 := hi.out.cell (i := 1) (by omega)
            have o2 := hi.out.cell (i := 2) (by omega)
            unfold st3 at o0 o1 o2
            simp only [if_true, Nat.one_ne_zero, if_false] at o0 o1
            have Hi := Lib.hid hi; clear hi
            rcases hp : (markI fa k != x0) with _ | _
            · have hm0 : (0 : Int) = if markI fa k = x0 then 0 else 1 := by rw [if_pos (by simpa using hp)]
              have Hm0 := Lib.hid hm0; clear hm0
              have hbk := blendK_skip (fun s => markI fa s != x0) fa fb k
              have Hbk := Lib.hid (fun i => hbk i hp); clear hbk
              go_wp2_with (with_reducible refine stopB .append ?_)
              refine Hold.go ?_
              refine wpList_append_o rfl _ _ 24 3 _ _ rfl Try.underlying24 info_int rfl (h8 + 1) _ k (listV (fromL (markI fa) x0 k)) rfl (Hi.out.own.alloc _) wr.heap.size 0 1 1 (fun _ => .int .i64 0) rfl (RowAt.new wr #[.int .i64 0] 3 _ 1 (by simp) (one_cell rfl)).reads (fun _ _ => rfl) (by omega) (by decide) (by simp; omega) ?_
              intro v' w6 hown' hgr _ _
              obtain ⟨hst, cc, zz⟩ := Hi.out.step Hm0.out (by omega) hs8 (by omega) hown' hgr
              have Hst := Lib.hid (hst.cong (fun i _ => Hbk.out i)); clear hst hown' hgr
              obtain ⟨n6, c6, a6, hv6⟩ := Hst.out.sl
              subst hv6
              go_wp2
              go_roundw
              case rel => exact ⟨k + 1, by omega, by go_num, _, Hst.out⟩
              case measure => simp [intOf]; omega
            · have hm0 : (1 : Int) = if markI fa k = x0 then 0 else 1 := by rw [if_neg (by simpa using hp)]
              have Hm0 := Lib.hid hm0; clear hm0
              have Hbt := Lib.hid (fun i => blendK_take (fun s => markI fa s != x0) fa fb k i hp)
              go_wp2_with fail
              have i1 : (0 : Int) ≤ 64 * (k : Int) := by omega
              have i2 : 64 * (k : Int) ≤ 512 := by omega
              have i3 : 64 * (k : Int) ≤ 64 * (k : Int) + 64 := by omega
              have i4 : 64 * (k : Int) + 64 ≤ (cap2 : Int) := by omega
              have i5 : ¬ (cp = 64 * k) := by omega
              have i6 : (0 : Int) ≤ 64 * (k : Int) + 64 := by omega
              have i8 : ¬ (cap2 = 64 * k) := by omega
              have w1' : IntKind.i64.wrap (64 * (k : Int)) = 64 * (k : Int) := IntWalk.i64_in _ (by omega)
              have w3' : IntKind.i64.wrap (64 * (k : Int) + 64) = 64 * (k : Int) + 64 := IntWalk.i64_in _ (by omega)
              have t1 : (64 * (k : Int)).toNat = 64 * k := by omega
              have t2 : (64 * (k : Int) + 64).toNat = 64 * k + 64 := by omega
              have t3 : 64 * k + 64 - 64 * k = 64 := by omega
              have m1 : (64 : Nat) = Nat.min 64 (512 - 64 * k) := by simp [Nat.min_def]; omega
              have f1 : 64 * k + 64 ≤ 512 := by omega
              have hcb := (Hb.out.all Hi.out.below).drop (64 * k) 64 (by omega)
              have Hcb := Lib.hid hcb; clear hcb
              have M1 := Lib.hid m1; clear m1
              go_still_tail 12, (by kernel_rfl)
              clear w1' w3' t1 t2 t3
              refine wpList_copy_o rfl _ _ 22 22 5 rfl Try.underlying22 size_u8 g (64 * k) (512 - 64 * k) (cp - 64 * k) cp 512 (bytesV (blendK (fun s => markI fa s != x0) fa fb k)) rfl ?q1 b2 (off2 + 64 * k) 64 (cap2 - 64 * k) (fun i => bytesV fb (64 * k + i)) rfl ?q2 (fun _ _ => rfl) 64 M1.out f1 ?_
              case q1 => exact Hi.out.row.heap rfl
              case q2 => exact Hcb.out.heap rfl
              intro wr2 hr3 hw3
              have hr4 := hr3.congr (fun i hi => Hbt.out i)
              have hi2 := (Hi.out.drewN 1).turn hr4 hw3 (by omega) (by omega) hs8
              have Hi2 := Lib.hid hi2
              clear hr3 hr4 hw3 hi2 o0 o1 o2
              have o0 := Hi2.out.out.cell (i := 0) (by omega)
              have o1 := Hi2.out.out.cell (i := 1) (by omega)
              have o2 := Hi2.out.out.cell (i := 2) (by omega)
              unfold st3 at o0 o1 o2
              simp only [if_true, Nat.one_ne_zero, if_false] at o0 o1
              go_wp2_with (with_reducible refine stopB .append ?_)
              refine Hold.go ?_
              refine wpList_append_o rfl _ _ 24 3 _ _ rfl Try.underlying24 info_int rfl (h8 + 1) _ k (listV (fromL (markI fa) x0 k)) rfl (Hi2.out.own.alloc _) wr2.heap.size 0 1 1 (fun _ => .int .i64 1) rfl (RowAt.new wr2 #[.int .i64 1] 3 _ 1 (by simp) (one_cell rfl)).reads (fun _ _ => rfl) (by omega) (by decide) (by have := Hi2.out.out.lt; simp; omega) ?_
              intro v' w6 hown' hgr _ _
              obtain ⟨hst, cc, zz⟩ := Hi2.out.step Hm0.out (by omega) hs8 (by omega) hown' hgr
              have Hst := Lib.hid hst; clear hst hown' hgr
              obtain ⟨n6, c6, a6, hv6⟩ := Hst.out.sl
              subst hv6
              go_wp2
              go_roundw
              case rel => exact ⟨k + 1, by omega, by go_num, _, Hst.out⟩
              case measure => simp [intOf]; omega
          · obtain rfl : k = 8 := by omega
            have o0 := hi.out.cell (i := 0) (by omega)
            have o1 := hi.out.cell (i := 1) (by omega)
            have o2 := hi.out.cell (i := 2) (by omega)
            have q0 := hi.res.cell (i := 0) (by omega)
            have q1 := hi.res.cell (i := 1) (by omega)
            have q2 := hi.res.cell (i := 2) (by omega)
            have z0 := hi.res.frozen 0
            have z1 := hi.res.frozen 1
            have z2 := hi.res.frozen 2
            unfold st3 at o0 o1 o2
            simp only [if_true, Nat.one_ne_zero, if_false] at o0 o1
            have rr := hi.res.st3 (.slice (some ⟨g, 0, none⟩) 512 cp) (.slice va vn vc) (.int .i64 0)
            have e0 := rr.cell (i := 0) (by omega)
            have e1 := rr.cell (i := 1) (by omega)
            have e2 := rr.cell (i := 2) (by omega)
            have E0 := Lib.hid e0
            have E1 := Lib.hid e1
            have E2 := Lib.hid e2
            have HB2 := Lib.hid (((hi.below.setCell (p := ⟨w.heap.size, 0, none⟩) (Nat.le_refl _) (.slice (some ⟨g, 0, none⟩) 512 cp)).setCell (p := ⟨w.heap.size, 1, none⟩) (Nat.le_refl _) (.slice va vn vc)).setCell (p := ⟨w.heap.size, 2, none⟩) (Nat.le_refl _) (.int .i64 0))
            have HR2 := Lib.hid (((hi.row.setOther ⟨w.heap.size, 0, none⟩ (.slice (some ⟨g, 0, none⟩) 512 cp) (by simp; omega)).setOther ⟨w.heap.size, 1, none⟩ (.slice va vn vc) (by simp; omega)).setOther ⟨w.heap.size, 2, none⟩ (.int .i64 0) (by simp; omega))
            have HO2 := Lib.hid (((hi.own.setOther ⟨w.heap.size, 0, none⟩ (.slice (some ⟨g, 0, none⟩) 512 cp) (by simp; omega)).setOther ⟨w.heap.size, 1, none⟩ (.slice va vn vc) (by simp; omega)).setOther ⟨w.heap.size, 2, none⟩ (.int .i64 0) (by simp; omega))
            clear rr e0 e1 e2 hi
            go_wp2_with fail
            have e0 := E0.out
            have e1 := E1.out
            have e2 := E2.out
            refine bodyPost_ret (v := .agg #[.slice (some ⟨g, 0, none⟩) 512 cp, .slice va vn vc, .int .i64 0]) ?_ rfl ?_
            · simp [results, Try.results14, go_sem, e0, e1, e2, st3]
            · unfold RMergePost
              rw [Hbu.out, if_neg (by have := hu0; rw [beq_eq_false_iff_ne] at this; exact this)]
              refine ⟨g, cp, _, rfl, by omega, HR2.out.congr (fun i hi => by unfold bytesV blendK blendF; simp [show i / 64 < 8 from by omega]), Hmx.out, HO2.out.mono (by omega), HB2.out⟩
      · have hne : x0 ≠ y0 := by rintro rfl; rw [newerF_self] at hnw; cases hnw
        have hnw2 : newerF x0 y0 = false := by rw [newerF_flip y0 x0 hy1 hx1 (fun e => hne e.symm), hnw]; rfl
        rw [hnw] at hP2
        have hbu : bestOf (markI fa) (markI fb) = y0 := by rw [hP2]; simp
        have Hbu := Lib.hid hbu; clear hbu hP2
        have hu0' : (y0 == 0) = false := by rw [beq_eq_false_iff_ne]; exact C2.out hc2
        clear C1 C2 hne
        rw [hnw] at N1
        rw [hnw2] at N2
        go_wp2_with fail
        refine (CV.out y0).mono ?_
        rintro e w' ⟨rfl, rfl⟩
        rw [hc2]
        clear hc1 hc2 hnw hnw2
        go_wp2_with fail
        refine (N1.out _).mono ?_
        rintro e w' ⟨rfl, rfl⟩
        go_wp2_with fail
        refine (N2.out _).mono ?_
        rintro e w' ⟨rfl, rfl⟩
        have hu0 := hu0'
        go_wp2_with (at_builtin; refine Hold.stop ?_)
        refine Hold.go ?_
        refine wpList_append_o rfl _ _ 22 5 _ _ rfl Try.underlying22 info_u8 rfl w3.heap.size _ 0 (fun _ => undef) rfl (.inr ⟨_, 0, rfl, Nat.le_refl _, RowAt.new w3 #[] _ _ 0 (Nat.le_refl _) (fun i hi => absurd hi (by omega)), by simp [maxLen]⟩) b off 512 cap (bytesV fa) rfl ((Ha.out.all B3.out).alloc _) (fun _ _ => rfl) (by omega) (by decide) (by simp) ?_
        intro v' w4 hown hgr _ _
        obtain ⟨g, cp, rfl, hgB, hrow, hmx⟩ := hown.row (by omega)
        rw [Nat.zero_add] at hrow ⊢
        have hb : Below w3.heap.size w3 w4 := ((Below.refl _ w3).alloc (Nat.le_refl _) _).grown hgr (by simp) (fun k hk => by simp [Value.ownBlock, Act.eval] at hk; omega)
        have R4 := Lib.hid (R3.out.all hb)
        have X4 := Lib.hid (X3.out.all hb)
        have G4 := Lib.hid (hrow.congr (f' := bytesV fa) (fun i _ => by simp))
        have B4 := Lib.hid (B3.out.trans (hb.mono B3.out.size))
        have hg1 : gx < g := by have := X3.out.lt; omega
        have hcp : 512 ≤ cp := hrow.le
        have Hmx := Lib.hid hmx
        clear hb hrow hmx hgr hown B3 R3 X3 Y3 cx0 cy0
        have hs8 : g < w4.heap.size := G4.out.lt
        have hn := row3 w4 (.slice none 0 0) (.slice none 0 0) (.int .i64 0) 29
        have q0 := hn.cell (i := 0) (by omega)
        have q1 := hn.cell (i := 1) (by omega)
        have q2 := hn.cell (i := 2) (by omega)
        have z0 := hn.frozen 0
        have z1 := hn.frozen 1
        have z2 := hn.frozen 2
        have hn2 := row3 w4 (.slice (some ⟨g, 0, none⟩) 512 cp) (.slice none 0 0) (.int .i64 0) 29
        have hI : RMI gx cx g cp w4.heap.size w (markI fa) y0 (blendK (fun s => markI fa s != y0) fa fb 0) 0 (.slice none 0 0) (w4.alloc (.cells #[.slice (some ⟨g, 0, none⟩) 512 cp, .slice none 0 0, .int .i64 0] 29)) :=
          ⟨R4.out.alloc _, hn2, X4.out.alloc _, (G4.out.alloc _).congr (fun i _ => by unfold bytesV blendK; rw [if_neg (by omega)]), Own.nil _ _ _ _, B4.out.alloc B4.out.size _, _, _, _, rfl⟩
        have HI := Lib.hid hI; clear hI hn hn2 R4 X4 G4 B4
        go_wp2_with fail
        generalize w4.heap.size = h8 at *
        go_loopw [9] (fun t wr => ∃ k : Nat, k ≤ 8 ∧ t = .int .i64 k ∧ ∃ v, RMI gx cx g cp h8 w (markI fa) y0 (blendK (fun s => markI fa s != y0) fa fb k) k v wr) (fun t _ => 8 - (intOf t).toNat)
        case atStart => exact ⟨0, by omega, rfl, _, HI.out⟩
        case round =>
          obtain ⟨k, hk, rfl, v, hi⟩ := hrel
          obtain ⟨vn, vc, va, rfl⟩ := hi.sl
          have hlo := hi.out.lt
          by_cases hlt : k < 8
          · have cxk := hi.xs.cell (i := k) hlt
            unfold intsV at cxk
            have o0 := hi.out.cell (i := 0) (by omega)
            have o1 := hi.out.cell (i := 1) (by omega)
            have o2 := hi.out.cell (i := 2) (by omega)
            unfold st3 at o0 o1 o2
            simp only [if_true, Nat.one_ne_zero, if_false] at o0 o1
            have Hi := Lib.hid hi; clear hi
            rcases hp : (markI fa k != y0) with _ | _
            · have hm0 : (0 : Int) = if markI fa k = y0 then 0 else 1 := by rw [if_pos (by simpa using hp)]
              have Hm0 := Lib.hid hm0; clear hm0
              have hbk := blendK_skip (fun s => markI fa s != y0) fa fb k
              have Hbk := Lib.hid (fun i => hbk i hp); clear hbk
              go_wp2_with (with_reducible refine stopB .append ?_)
              refine Hold.go ?_
              refine wpList_append_o rfl _ _ 24 3 _ _ rfl Try.underlying24 info_int rfl (h8 + 1) _ k (listV (fromL (markI fa) y0 k)) rfl (Hi.out.own.alloc _) wr.heap.size 0 1 1 (fun _ => .int .i64 0) rfl (RowAt.new wr #[.int .i64 0] 3 _ 1 (by simp) (one_cell rfl)).reads (fun _ _ => rfl) (by omega) (by decide) (by simp; omega) ?_
              intro v' w6 hown' hgr _ _
              obtain ⟨hst, cc, zz⟩ := Hi.out.step Hm0.out (by omega) hs8 (by omega) hown' hgr
              have Hst := Lib.hid (hst.cong (fun i _ => Hbk.out i)); clear hst hown' hgr
              obtain ⟨n6, c6, a6, hv6⟩ := Hst.out.sl
              subst hv6
              go_wp2
              go_roundw
              case rel => exact ⟨k + 1, by omega, by go_num, _, Hst.out⟩
              case measure => simp [intOf]; omega
            · have hm0 : (1 : Int) = if markI fa k = y0 then 0 else 1 := by rw [if_neg (by simpa using hp)]
              have Hm0 := Lib.hid hm0; clear hm0
              have Hbt := Lib.hid (fun i => blendK_take (fun s => markI fa s != y0) fa fb k i hp)
              go_wp2_with fail
              have i1 : (0 : Int) ≤ 64 * (k : Int) := by omega
              have i2 : 64 * (k : Int) ≤ 512 := by omega
              have i3 : 64 * (k : Int) ≤ 64 * (k : Int) + 64 := by omega
              have i4 : 64 * (k : Int) + 64 ≤ (cap2 : Int) := by omega
              have i5 : ¬ (cp = 64 * k) := by omega
              have i6 : (0 : Int) ≤ 64 * (k : Int) + 64 := by omega
              have i8 : ¬ (cap2 = 64 * k) := by omega
              have w1' : IntKind.i64.wrap (64 * (k : Int)) = 64 * (k : Int) := IntWalk.i64_in _ (by omega)
              have w3' : IntKind.i64.wrap (64 * (k : Int) + 64) = 64 * (k : Int) + 64 := IntWalk.i64_in _ (by omega)
              have t1 : (64 * (k : Int)).toNat = 64 * k := by omega
              have t2 : (64 * (k : Int) + 64).toNat = 64 * k + 64 := by omega
              have t3 : 64 * k + 64 - 64 * k = 64 := by omega
              have m1 : (64 : Nat) = Nat.min 64 (512 - 64 * k) := by simp [Nat.min_def]; omega
              have f1 : 64 * k + 64 ≤ 512 := by omega
              have hcb := (Hb.out.all Hi.out.below).drop (64 * k) 64 (by omega)
              have Hcb := Lib.hid hcb; clear hcb
              have M1 := Lib.hid m1; clear m1
              go_still_tail 12, (by kernel_rfl)
              clear w1' w3' t1 t2 t3
              refine wpList_copy_o rfl _ _ 22 22 5 rfl Try.underlying22 size_u8 g (64 * k) (512 - 64 * k) (cp - 64 * k) cp 512 (bytesV (blendK (fun s => markI fa s != y0) fa fb k)) rfl ?q1 b2 (off2 + 64 * k) 64 (cap2 - 64 * k) (fun i => bytesV fb (64 * k + i)) rfl ?q2 (fun _ _ => rfl) 64 M1.out f1 ?_
              case q1 => exact Hi.out.row.heap rfl
              case q2 => exact Hcb.out.heap rfl
              intro wr2 hr3 hw3
              have hr4 := hr3.congr (fun i hi => Hbt.out i)
              have hi2 := (Hi.out.drewN 1).turn hr4 hw3 (by omega) (by omega) hs8
              have Hi2 := Lib.hid hi2
              clear hr3 hr4 hw3 hi2 o0 o1 o2
              have o0 := Hi2.out.out.cell (i := 0) (by omega)
              have o1 := Hi2.out.out.cell (i := 1) (by omega)
              have o2 := Hi2.out.out.cell (i := 2) (by omega)
              unfold st3 at o0 o1 o2
              simp only [if_true, Nat.one_ne_zero, if_false] at o0 o1
              go_wp2_with (with_reducible refine stopB .append ?_)
              refine Hold.go ?_
              refine wpList_append_o rfl _ _ 24 3 _ _ rfl Try.underlying24 info_int rfl (h8 + 1) _ k (listV (fromL (markI fa) y0 k)) rfl (Hi2.out.own.alloc _) wr2.heap.size 0 1 1 (fun _ => .int .i64 1) rfl (RowAt.new wr2 #[.int .i64 1] 3 _ 1 (by simp) (one_cell rfl)).reads (fun _ _ => rfl) (by omega) (by decide) (by have := Hi2.out.out.lt; simp; omega) ?_
              intro v' w6 hown' hgr _ _
              obtain ⟨hst, cc, zz⟩ := Hi2.out.step Hm0.out (by omega) hs8 (by omega) hown' hgr
              have Hst := Lib.hid hst; clear hst hown' hgr
              obtain ⟨n6, c6, a6, hv6⟩ := Hst.out.sl
              subst hv6
              go_wp2
              go_roundw
              case rel => exact ⟨k + 1, by omega, by go_num, _, Hst.out⟩
              case measure => simp [intOf]; omega
          · obtain rfl : k = 8 := by omega
            have o0 := hi.out.cell (i := 0) (by omega)
            have o1 := hi.out.cell (i := 1) (by omega)
            have o2 := hi.out.cell (i := 2) (by omega)
            have q0 := hi.res.cell (i := 0) (by omega)
            have q1 := hi.res.cell (i := 1) (by omega)
            have q2 := hi.res.cell (i := 2) (by omega)
            have z0 := hi.res.frozen 0
            have z1 := hi.res.frozen 1
            have z2 := hi.res.frozen 2
            unfold st3 at o0 o1 o2
            simp only [if_true, Nat.one_ne_zero, if_false] at o0 o1
            have rr := hi.res.st3 (.slice (some ⟨g, 0, none⟩) 512 cp) (.slice va vn vc) (.int .i64 0)
            have e0 := rr.cell (i := 0) (by omega)
            have e1 := rr.cell (i := 1) (by omega)
            have e2 := rr.cell (i := 2) (by omega)
            have E0 := Lib.hid e0
            have E1 := Lib.hid e1
            have E2 := Lib.hid e2
            have HB2 := Lib.hid (((hi.below.setCell (p := ⟨w.heap.size, 0, none⟩) (Nat.le_refl _) (.slice (some ⟨g, 0, none⟩) 512 cp)).setCell (p := ⟨w.heap.size, 1, none⟩) (Nat.le_refl _) (.slice va vn vc)).setCell (p := ⟨w.heap.size, 2, none⟩) (Nat.le_refl _) (.int .i64 0))
            have HR2 := Lib.hid (((hi.row.setOther ⟨w.heap.size, 0, none⟩ (.slice (some ⟨g, 0, none⟩) 512 cp) (by simp; omega)).setOther ⟨w.heap.size, 1, none⟩ (.slice va vn vc) (by simp; omega)).setOther ⟨w.heap.size, 2, none⟩ (.int .i64 0) (by simp; omega))
            have HO2 := Lib.hid (((hi.own.setOther ⟨w.heap.size, 0, none⟩ (.slice (some ⟨g, 0, none⟩) 512 cp) (by simp; omega)).setOther ⟨w.heap.size, 1, none⟩ (.slice va vn vc) (by simp; omega)).setOther ⟨w.heap.size, 2, none⟩ (.int .i64 0) (by simp; omega))
            clear rr e0 e1 e2 hi
            go_wp2_with fail
            have e0 := E0.out
            have e1 := E1.out
            have e2 := E2.out
            refine bodyPost_ret (v := .agg #[.slice (some ⟨g, 0, none⟩) 512 cp, .slice va vn vc, .int .i64 0]) ?_ rfl ?_
            · simp [results, Try.results14, go_sem, e0, e1, e2, st3]
            · unfold RMergePost
              rw [Hbu.out, if_neg (by have := hu0; rw [beq_eq_false_iff_ne] at this; exact this)]
              refine ⟨g, cp, _, rfl, by omega, HR2.out.congr (fun i hi => by unfold bytesV blendK blendF; simp [show i / 64 < 8 from by omega]), Hmx.out, HO2.out.mono (by omega), HB2.out⟩

end Go.Proofs.Ytjfcjpkfefmhlaa
