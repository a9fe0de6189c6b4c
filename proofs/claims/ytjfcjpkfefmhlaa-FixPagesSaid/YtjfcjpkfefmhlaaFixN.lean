/- Merge. -/
import Derived.Test.YtjfcjpkfefmhlaaFixM
namespace Go.Proofs.Ytjfcjpkfefmhlaa
open Go.RowKit

theorem RowAt.set1 {W : World} {g : Nat} {e : TypeId} {cap : Nat} {v : Value} (h : RowAt W g e cap 1 (fun _ => v)) (u : Value) : RowAt (W.setCell ⟨g, 0, none⟩ u) g e cap 1 (fun _ => u) :=
  (h.set 0 u).congr fun i hi => by
    have : i = 0 := by omega
    simp [this]

def MergeBad (w : World) (c : Int) (e : Ending) (w' : World) : Prop := e = .returned (.tuple #[.slice none 0 0, .slice none 0 0, .int .i64 c]) ∧ Below w.heap.size w w'

set_option maxHeartbeats 1000000 in
theorem merge_len (a1 a2 : Option Addr) (n1 c1 n2 c2 : Nat) (h : ¬ (n1 = 512 ∧ n2 = 512)) (w : World) :
    Calls Try.prog 13 #[.slice a1 n1 c1, .slice a2 n2 c2] w (MergeBad w 1) := by
  have hb : ((n1 : Int) == 512 && (n2 : Int) == 512) = false := by
    rw [← Bool.not_eq_true, Bool.and_eq_true, beq_iff_eq, beq_iff_eq]; omega
  clear h
  go_enter Try.func13, Try.ntmps13
  go_wp2_with fail
  refine (right_two a1 a2 n1 c1 n2 c2 w).mono ?_
  rintro e w' ⟨rfl, rfl⟩
  rw [hb]
  go_wp2
  go_ret3
  exact ⟨rfl, (Below.refl _ w).alloc (Nat.le_refl _) _⟩

/-- What holds once Merge has its marks, and between its rounds. -/
structure MergeI (X gx cx gy cy : Nat) (w : World) (x y : Nat → Int) (best : Int) (W : World) : Prop where
  bx : RowAt W X 24 1 1 (fun _ => .slice (some ⟨gx, 0, none⟩) 8 cx)
  bY : RowAt W (X + 1) 24 1 1 (fun _ => .slice (some ⟨gy, 0, none⟩) 8 cy)
  bb : RowAt W (X + 2) 3 1 1 (fun _ => .int .i64 best)
  rx : RowAt W gx 3 cx 8 (intsV x)
  ry : RowAt W gy 3 cy 8 (intsV y)
  below : Below w.heap.size w W

theorem MergeI.later {X gx cx gy cy : Nat} {w : World} {x y : Nat → Int} {best : Int} {W W' : World} (h : MergeI X gx cx gy cy w x y best W) (hb : Below W.heap.size W W') : MergeI X gx cx gy cy w x y best W' :=
  ⟨h.bx.all hb, h.bY.all hb, h.bb.all hb, h.rx.all hb, h.ry.all hb, h.below.trans (hb.mono h.below.size)⟩

/-- The best mark behind k of the two candidates. -/
def bestK (x y : Nat → Int) : Nat → Int
  | 0 => 0
  | 1 => if betterB x y 0 (x 0) then x 0 else 0
  | _ => bestOf x y
def candK (x y : Nat → Int) (k : Nat) : Int := if k = 0 then x 0 else y 0
theorem bestK_succ (x y : Nat → Int) (k : Nat) (hk : k < 2) : bestK x y (k + 1) = if betterB x y (bestK x y k) (candK x y k) then candK x y k else bestK x y k := by
  have : k = 0 ∨ k = 1 := by omega
  rcases this with rfl | rfl
  · rfl
  · rfl
theorem bestK_bound {x y : Nat → Int} (hx : 0 ≤ x 0 ∧ x 0 ≤ 65535) (hy : 0 ≤ y 0 ∧ y 0 ≤ 65535) (k : Nat) (hk : k ≤ 2) : 0 ≤ bestK x y k ∧ bestK x y k ≤ 65535 := by
  have : k = 0 ∨ k = 1 ∨ k = 2 := by omega
  rcases this with rfl | rfl | rfl
  · show (0 : Int) ≤ 0 ∧ (0 : Int) ≤ 65535
    omega
  · show 0 ≤ (if betterB x y 0 (x 0) then x 0 else 0) ∧ (if betterB x y 0 (x 0) then x 0 else 0) ≤ 65535
    split
    · exact hx
    · exact ⟨by decide, by decide⟩
  · show 0 ≤ bestOf x y ∧ bestOf x y ≤ 65535
    unfold bestOf
    generalize betterB x y (if betterB x y 0 (x 0) then x 0 else 0) (y 0) = c1
    generalize betterB x y 0 (x 0) = c2
    cases c1 <;> cases c2 <;> simp <;> omega

def fromL (x : Nat → Int) (best : Int) (k : Nat) : List Int := (List.range k).map fun s => if x s = best then 0 else 1
theorem fromL_succ (x : Nat → Int) (best : Int) (k : Nat) : fromL x best (k + 1) = fromL x best k ++ [if x k = best then 0 else 1] := by
  unfold fromL; rw [List.range_succ, List.map_append]; rfl
theorem fromL_len (x : Nat → Int) (best : Int) (k : Nat) : (fromL x best k).length = k := by unfold fromL; simp

def MergePost (w : World) (fa fb : Nat → Int) (e : Ending) (w' : World) : Prop :=
  if bestOf (markI fa) (markI fb) = 0 then MergeBad w 8 e w'
  else ∃ g cap v, e = .returned (.tuple #[.slice (some ⟨g, 0, none⟩) 512 cap, v, .int .i64 0]) ∧ w.heap.size ≤ g ∧
    RowAt w' g 5 cap 512 (bytesV (blendF (fun s => markI fa s != bestOf (markI fa) (markI fb)) fa fb)) ∧ cap ≤ maxLen ∧
    Own w' w.heap.size 3 v 8 (listV (fromL (markI fa) (bestOf (markI fa) (markI fb)) 8)) ∧ Below w.heap.size w w'

set_option maxHeartbeats 2000000 in
theorem merge_main (b off cap b2 off2 cap2 : Nat) (hcap : 512 ≤ cap) (hm : cap ≤ maxLen) (hcap2 : 512 ≤ cap2) (hm2 : cap2 ≤ maxLen) (fa fb : Nat → Int) (hfa : ∀ i, i < 512 → 0 ≤ fa i ∧ fa i < 256) (hfb : ∀ i, i < 512 → 0 ≤ fb i ∧ fb i < 256) (w : World)
    (ha : Cells w b off 512 (bytesV fa)) (hb : Cells w b2 off2 512 (bytesV fb)) :
    Calls Try.prog 13 #[.slice (some ⟨b, off, none⟩) 512 cap, .slice (some ⟨b2, off2, none⟩) 512 cap2] w (MergePost w fa fb) := by
  have hmf : ∀ (fn : Fn) (first cap : Array Value) (w : World), (Instr.makeFunc fn first cap).run Try.prog w = .ok (.func fn first cap) w := fun _ _ _ _ => rfl
  have Ha := Lib.hid ha; clear ha
  have Hb := Lib.hid hb; clear hb
  have Hfa := Lib.hid hfa; clear hfa
  have Hfb := Lib.hid hfb; clear hfb
  go_enter Try.func13, Try.ntmps13
  go_wp2_with fail
  refine (right_two _ _ 512 cap 512 cap2 w).mono ?_
  rintro e w' ⟨rfl, rfl⟩
  go_wp2_with fail
  refine (marks_any b off cap hcap hm fa Hfa.out _ (Ha.out.alloc _)).mono ?_
  rintro e w1 ⟨gx, cx, rfl, hgx, hrx, hmx, hbx⟩
  simp only [World.size_alloc] at hgx hbx
  have hb1 : Below w.heap.size w w1 := ((Below.refl _ w).alloc (Nat.le_refl _) _).trans (hbx.mono (by omega))
  clear hbx
  go_wp2_with fail
  refine (marks_any b2 off2 cap2 hcap2 hm2 fb Hfb.out w1 (Hb.out.all hb1)).mono ?_
  rintro e w2 ⟨gy, cy, rfl, hgy, hry, hmy, hby⟩
  have hb2 : Below w.heap.size w w2 := hb1.trans (hby.mono hb1.size)
  have hrx2 := hrx.all hby
  clear hby hrx
  have HRx := Lib.hid hrx2; clear hrx2
  have HRy := Lib.hid hry; clear hry
  have hlx := HRx.out.lt
  have hly := HRy.out.lt
  have hsz := hb2.size
  go_wp2_with fail
  have hI : MergeI w2.heap.size gx cx gy cy w (markI fa) (markI fb) 0 (((w2.alloc (.cells #[.slice (some ⟨gx, 0, none⟩) 8 cx] 24)).alloc (.cells #[.slice (some ⟨gy, 0, none⟩) 8 cy] 24)).alloc (.cells #[.int .i64 0] 3)) := by
    have r1 := RowAt.new w2 #[.slice (some ⟨gx, 0, none⟩) 8 cx] 24 _ 1 (by simp) (one_cell rfl)
    have r2 := RowAt.new (w2.alloc (.cells #[.slice (some ⟨gx, 0, none⟩) 8 cx] 24)) #[.slice (some ⟨gy, 0, none⟩) 8 cy] 24 _ 1 (by simp) (one_cell rfl)
    have r3 := RowAt.new ((w2.alloc (.cells #[.slice (some ⟨gx, 0, none⟩) 8 cx] 24)).alloc (.cells #[.slice (some ⟨gy, 0, none⟩) 8 cy] 24)) #[.int .i64 0] 3 _ 1 (by simp) (one_cell rfl)
    simp only [World.size_alloc] at r2 r3
    exact ⟨(r1.alloc _).alloc _, r2.alloc _, r3, ((HRx.out.alloc _).alloc _).alloc _, ((HRy.out.alloc _).alloc _).alloc _, ((hb2.alloc (by omega) _).alloc (by simp; omega) _).alloc (by simp; omega) _⟩
  have hs3 : w2.heap.size + 3 = (((w2.alloc (.cells #[.slice (some ⟨gx, 0, none⟩) 8 cx] 24)).alloc (.cells #[.slice (some ⟨gy, 0, none⟩) 8 cy] 24)).alloc (.cells #[.int .i64 0] 3)).heap.size := by simp
  generalize (((w2.alloc (.cells #[.slice (some ⟨gx, 0, none⟩) 8 cx] 24)).alloc (.cells #[.slice (some ⟨gy, 0, none⟩) 8 cy] 24)).alloc (.cells #[.int .i64 0] 3)) = w3 at *
  have Hs3 := Lib.hid hs3; clear hs3
  have c7 := hI.bx.cell (i := 0) (by omega)
  have c8 := hI.bY.cell (i := 0) (by omega)
  have cx0 := hI.rx.cell (i := 0) (by omega)
  have cy0 := hI.ry.cell (i := 0) (by omega)
  unfold intsV at cx0 cy0
  have HI := Lib.hid hI; clear hI
  go_region
  have hI4 : MergeI w2.heap.size gx cx gy cy w (markI fa) (markI fb) (bestK (markI fa) (markI fb) 0) (w3.alloc (.cells #[.int .i64 (markI fa 0), .int .i64 (markI fb 0)] 3)).drew :=
    HI.out.later (((Below.refl _ w3).alloc (Nat.le_refl _) _).drew)
  have rl : RowAt (w3.alloc (.cells #[.int .i64 (markI fa 0), .int .i64 (markI fb 0)] 3)).drew w3.heap.size 3 2 2 (intsV (candK (markI fa) (markI fb))) :=
    (RowAt.new w3 #[.int .i64 (markI fa 0), .int .i64 (markI fb 0)] 3 (intsV (candK (markI fa) (markI fb))) 2 (by simp) (fun i hi => by
      have : i = 0 ∨ i = 1 := by omega
      rcases this with rfl | rfl <;> rfl)).heap rfl
  generalize (w3.alloc (.cells #[.int .i64 (markI fa 0), .int .i64 (markI fb 0)] 3)).drew = w4 at *
  have mx0 := markI_bound Hfa.out 0 (by omega)
  have my0 := markI_bound Hfb.out 0 (by omega)
  clear c7 c8 cx0 cy0
  go_wp2_with fail
  go_loopw [32] (fun t wr => ∃ k : Nat, k ≤ 2 ∧ t = .int .i64 k ∧ MergeI w2.heap.size gx cx gy cy w (markI fa) (markI fb) (bestK (markI fa) (markI fb) k) wr ∧ RowAt wr w3.heap.size 3 2 2 (intsV (candK (markI fa) (markI fb)))) (fun t _ => 2 - (intOf t).toNat)
  case atStart => exact ⟨0, by omega, rfl, hI4, rl⟩
  case round =>
    clear hI4 rl
    obtain ⟨k, hk, rfl, hi, hl⟩ := hrel
    have Hi := Lib.hid hi; clear hi
    have Hl := Lib.hid hl; clear hl
    have cb := Hi.out.bb.cell (i := 0) (by omega)
    by_cases hlt : k < 2
    · have ck := Hl.out.cell (i := k) hlt
      unfold intsV at ck
      have zb := Hi.out.bb.frozen 0
      have hbd := bestK_bound (x := markI fa) (y := markI fb) (by omega) (by omega) k (by omega)
      have hcd : 0 ≤ candK (markI fa) (markI fb) k ∧ candK (markI fa) (markI fb) k ≤ 65535 := by unfold candK; split <;> omega
      have hbt := better_any (candK (markI fa) (markI fb) k) (bestK (markI fa) (markI fb) k) hcd hbd (markI fa) (markI fb) ⟨w2.heap.size, 0, none⟩ ⟨w2.heap.size + 1, 0, none⟩ ⟨w2.heap.size + 1 + 1, 0, none⟩ gx cx gy cy wr
        (Hi.out.bx.cell (by omega)) (Hi.out.bY.cell (by omega)) cb Hi.out.rx.reads Hi.out.ry.reads
      have Hbt := Lib.hid hbt; clear hbt
      have hsu := bestK_succ (markI fa) (markI fb) k hlt
      have Hsu := Lib.hid hsu; clear hsu
      go_wp2_with fail
      refine Hbt.out.mono ?_
      rintro e w5 ⟨rfl, rfl⟩
      rcases hb : betterB (markI fa) (markI fb) (bestK (markI fa) (markI fb) k) (candK (markI fa) (markI fb) k) with _ | _
      · have Hb2 := Lib.hid hb; clear hb
        go_wp2
        go_roundw
        case rel => exact ⟨k + 1, by omega, by go_num, by rw [Hsu.out, Hb2.out]; exact Hi.out, Hl.out⟩
        case measure => simp [intOf]; omega
      · have Hb2 := Lib.hid hb; clear hb
        go_wp2
        go_roundw
        case rel =>
          refine ⟨k + 1, by omega, by go_num, ?_, Hl.out.setOther _ _ (by have := Hs3.out; simp; omega)⟩
          rw [Hsu.out, Hb2.out]
          have h := Hi.out
          exact ⟨h.bx.setOther _ _ (by simp; omega), h.bY.setOther _ _ (by simp), h.bb.set1 _, h.rx.setOther _ _ (by simp; omega), h.ry.setOther _ _ (by simp; omega), h.below.setCell (by simp; omega) _⟩
        case measure => simp [intOf]; omega
    · obtain rfl : k = 2 := by omega
      have hres : bestK (markI fa) (markI fb) 2 = bestOf (markI fa) (markI fb) := rfl
      rw [hres] at cb Hi
      clear hres
      rcases hz : (bestOf (markI fa) (markI fb) == 0) with _ | _
      · have hz2 : ¬ bestOf (markI fa) (markI fb) = 0 := by rw [beq_eq_false_iff_ne] at hz; exact hz
        have Hz2 := Lib.hid hz2; clear hz2
        have hbl := blended_any b off cap b2 off2 cap2 hcap2 fa fb 42 #[.pointer (some ⟨w2.heap.size, 0, none⟩), .pointer (some ⟨w2.heap.size + 1 + 1, 0, none⟩)] (enters_of Try.func42 (by kernel_rfl) rfl)
          (fun s => markI fa s != bestOf (markI fa) (markI fb)) wr (Ha.out.all Hi.out.below) (Hb.out.all Hi.out.below)
          (fun s hs W hW => merge2_any s hs (bestOf (markI fa) (markI fb)) (markI fa) ⟨w2.heap.size, 0, none⟩ ⟨w2.heap.size + 1 + 1, 0, none⟩ gx cx W ((Hi.out.later hW).bx.cell (by omega)) ((Hi.out.later hW).bb.cell (by omega)) (Hi.out.later hW).rx.reads)
        have Hbl := Lib.hid hbl; clear hbl
        have hwr := Hi.out.below.size
        have hq1 := Hi.out.bb.lt
        have hq2 := Hi.out.rx.lt
        have hq3 := Hi.out.ry.lt
        go_wp2_with fail
        refine Hbl.out.mono ?_
        rintro e w6 ⟨g, cp, rfl, hg, hrow, hmc, hbel⟩
        have hI6 := Hi.out.later hbel
        clear Hi Hl cb
        have hlg := hrow.lt
        have Hrow := Lib.hid hrow; clear hrow
        go_wp2_with fail
        go_loopw [5, 47] (fun v t wq => ∃ k : Nat, k ≤ 8 ∧ t = .int .i64 k ∧ MergeI w2.heap.size gx cx gy cy w (markI fa) (markI fb) (bestOf (markI fa) (markI fb)) wq ∧ RowAt wq g 5 cp 512 (bytesV (blendF (fun s => markI fa s != bestOf (markI fa) (markI fb)) fa fb)) ∧
          Own wq (g + 1) 3 v k (listV (fromL (markI fa) (bestOf (markI fa) (markI fb)) k)) ∧ (∃ a n c, v = .slice a n c)) (fun _ t _ => 8 - (intOf t).toNat)
        case atStart => exact ⟨0, by omega, rfl, hI6, Hrow.out, Own.nil _ _ _ _, _, _, _, rfl⟩
        case round =>
          clear hI6 Hrow
          obtain ⟨k, hk, rfl, hi, hrow, hown, a0, n0, c0, rfl⟩ := hrel
          have Hi := Lib.hid hi; clear hi
          have Hrow := Lib.hid hrow; clear hrow
          have Hown := Lib.hid hown; clear hown
          by_cases hlt : k < 8
          · have c7 := Hi.out.bx.cell (i := 0) (by omega)
            have c9 := Hi.out.bb.cell (i := 0) (by omega)
            have ck := Hi.out.rx.cell (i := k) hlt
            unfold intsV at ck
            have i0 : (0 : Int) ≤ (k : Int) := by omega
            have i1 : (k : Int) < 8 := by omega
            have hlq : g < wr.heap.size := Hrow.out.lt
            rcases he : (markI fa k == bestOf (markI fa) (markI fb)) with _ | _
            · have he2 : ¬ markI fa k = bestOf (markI fa) (markI fb) := by rw [beq_eq_false_iff_ne] at he; exact he
              have He2 := Lib.hid he2; clear he2
              go_wp2_with fail
              go_quiet (fail)
              go_wp2_with (with_reducible refine stopB .append ?_)
              refine Hold.go ?_
              refine wpList_append_o rfl _ _ 24 3 _ _ rfl Try.underlying24 info_int rfl (g + 1) _ k (listV (fromL (markI fa) (bestOf (markI fa) (markI fb)) k)) rfl ((Hown.out.drewN _).alloc _) wr.heap.size 0 1 1 (fun _ => .int .i64 1) rfl (RowAt.new (wr.drewN nq) #[.int .i64 1] 3 _ 1 (by simp) (one_cell rfl)).reads (fun _ _ => rfl) (by omega) (by decide) (by simp; omega) ?_
              intro v' w7 hown' hgr _ _
              have hb7 : Below (g + 1) wr w7 := (((below_drewN _ wr nq).alloc (by show g + 1 ≤ wr.heap.size; omega) _)).grown hgr (by simp; omega) (fun k e => (Hown.out.isCells k e).1)
              have hI7 : MergeI w2.heap.size gx cx gy cy w (markI fa) (markI fb) (bestOf (markI fa) (markI fb)) w7 := by
                have h := Hi.out
                exact ⟨h.bx.below hb7 (by omega), h.bY.below hb7 (by omega), h.bb.below hb7 (by omega), h.rx.below hb7 (by omega), h.ry.below hb7 (by omega), h.below.trans (hb7.mono (by omega))⟩
              have hr7 := Hrow.out.below hb7 (by omega)
              have ho7 : Own w7 (g + 1) 3 v' (k + 1) (listV (fromL (markI fa) (bestOf (markI fa) (markI fb)) (k + 1))) := hown'.congr (fun i hi => by
                have h := listV_snoc (fromL (markI fa) (bestOf (markI fa) (markI fb)) k) (if markI fa k = bestOf (markI fa) (markI fb) then 0 else 1) i (by rw [fromL_len]; exact hi)
                rw [← fromL_succ, fromL_len] at h
                rw [← h, if_neg He2.out])
              have hv7 : ∃ a n c, v' = .slice a n c := by
                obtain ⟨g', c', rfl, _⟩ := hown'.row (by omega)
                exact ⟨_, _, _, rfl⟩
              have H7 := Lib.hid (And.intro hI7 (And.intro hr7 (And.intro ho7 hv7)))
              clear hI7 hr7 ho7 hv7 hb7 hown' hgr
              go_wp2
              go_roundw
              case rel => exact ⟨k + 1, by omega, by go_num, H7.out.1, H7.out.2.1, H7.out.2.2.1, H7.out.2.2.2⟩
              case measure => simp [intOf]; omega
            · have he2 : markI fa k = bestOf (markI fa) (markI fb) := by rw [beq_iff_eq] at he; exact he
              have He2 := Lib.hid he2; clear he2
              go_wp2_with fail
              go_quiet (fail)
              go_wp2_with (with_reducible refine stopB .append ?_)
              refine Hold.go ?_
              refine wpList_append_o rfl _ _ 24 3 _ _ rfl Try.underlying24 info_int rfl (g + 1) _ k (listV (fromL (markI fa) (bestOf (markI fa) (markI fb)) k)) rfl ((Hown.out.drewN _).alloc _) wr.heap.size 0 1 1 (fun _ => .int .i64 0) rfl (RowAt.new (wr.drewN nq) #[.int .i64 0] 3 _ 1 (by simp) (one_cell rfl)).reads (fun _ _ => rfl) (by omega) (by decide) (by simp; omega) ?_
              intro v' w7 hown' hgr _ _
              have hb7 : Below (g + 1) wr w7 := (((below_drewN _ wr nq).alloc (by show g + 1 ≤ wr.heap.size; omega) _)).grown hgr (by simp; omega) (fun k e => (Hown.out.isCells k e).1)
              have hI7 : MergeI w2.heap.size gx cx gy cy w (markI fa) (markI fb) (bestOf (markI fa) (markI fb)) w7 := by
                have h := Hi.out
                exact ⟨h.bx.below hb7 (by omega), h.bY.below hb7 (by omega), h.bb.below hb7 (by omega), h.rx.below hb7 (by omega), h.ry.below hb7 (by omega), h.below.trans (hb7.mono (by omega))⟩
              have hr7 := Hrow.out.below hb7 (by omega)
              have ho7 : Own w7 (g + 1) 3 v' (k + 1) (listV (fromL (markI fa) (bestOf (markI fa) (markI fb)) (k + 1))) := hown'.congr (fun i hi => by
                have h := listV_snoc (fromL (markI fa) (bestOf (markI fa) (markI fb)) k) (if markI fa k = bestOf (markI fa) (markI fb) then 0 else 1) i (by rw [fromL_len]; exact hi)
                rw [← fromL_succ, fromL_len] at h
                rw [← h, if_pos He2.out])
              have hv7 : ∃ a n c, v' = .slice a n c := by
                obtain ⟨g', c', rfl, _⟩ := hown'.row (by omega)
                exact ⟨_, _, _, rfl⟩
              have H7 := Lib.hid (And.intro hI7 (And.intro hr7 (And.intro ho7 hv7)))
              clear hI7 hr7 ho7 hv7 hb7 hown' hgr
              go_wp2
              go_roundw
              case rel => exact ⟨k + 1, by omega, by go_num, H7.out.1, H7.out.2.1, H7.out.2.2.1, H7.out.2.2.2⟩
              case measure => simp [intOf]; omega
          · obtain rfl : k = 8 := by omega
            go_wp2_with fail
            go_ret3
            show MergePost w fa fb _ _
            unfold MergePost
            rw [if_neg Hz2.out]
            exact ⟨g, cp, _, rfl, by omega, Hrow.out, hmc, Hown.out.mono (by omega), Hi.out.below⟩
      · have hz2 : bestOf (markI fa) (markI fb) = 0 := by rw [beq_iff_eq] at hz; exact hz
        have Hz2 := Lib.hid hz2; clear hz2
        go_wp2_with fail
        go_ret3
        show MergePost w fa fb _ _
        unfold MergePost
        rw [if_pos Hz2.out]
        exact ⟨rfl, Hi.out.below⟩

end Go.Proofs.Ytjfcjpkfefmhlaa
