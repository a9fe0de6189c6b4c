/- The specification's functions: put, Mark, Next, Torn, Blend, Guard. -/
import Derived.Test.YtjfcjpkfefmhlaaLawM
namespace Go.Proofs.Ytjfcjpkfefmhlaa
open Go.RowKit
attribute [local go_sem] Oper.semAt_some

set_option maxHeartbeats 400000 in
theorem rput_any (b cap i : Nat) (I : Int) (hI : I = (i : Int)) (hi : i + 1 < 512) (x y : Value) (n : Int) (w : World) (hn : 0 ≤ n ∧ n < 65536)
    (h0 : w.cell? ⟨b, i, none⟩ = some x) (h1 : w.cell? ⟨b, i + 1, none⟩ = some y) (hf0 : w.frozen? ⟨b, i, none⟩ = false) (hf1 : w.frozen? ⟨b, i + 1, none⟩ = false) :
    Calls Try.prog 55 #[.slice (some ⟨b, 0, none⟩) 512 cap, .int .i64 I, .int .i64 n] w fun e w' => e = .returned (.tuple #[]) ∧ (w.setCell ⟨b, i, none⟩ (.int .u8 (n % 256))).setCell ⟨b, i + 1, none⟩ (.int .u8 (n / 256)) = w' := by
  subst hI
  have h2 : (w.setCell ⟨b, i, none⟩ (.int .u8 (n % 256))).cell? ⟨b, i + 1, none⟩ = some y := by
    rw [World.cell?_setCell_other w ⟨b, i, none⟩ ⟨b, i + 1, none⟩ _ (by simp)]
    exact h1
  go_enter Try.func55, Try.ntmps55
  go_wp2
  go_end0
  exact ⟨rfl, rfl⟩

set_option maxHeartbeats 400000 in
theorem rMark_any (m : Int) (w : World) :
    Calls Try.prog 32 #[.int .i64 m] w fun e w' => e = .returned (.bool (decide (1 ≤ m ∧ m ≤ 65535))) ∧ w = w' := by
  rw [Bool.decide_and]
  by_cases h1 : 1 ≤ m
  all_goals
    go_enter Try.func32, Try.ntmps32
    go_wp2
    go_ret
    exact ⟨by first | (simp [h1]; done) | (simp; omega), rfl⟩

set_option maxHeartbeats 400000 in
theorem rNext_any (m : Int) (w : World) (hm : 1 ≤ m ∧ m ≤ 65535) :
    Calls Try.prog 33 #[.int .i64 m] w fun e w' => e = .returned (.int .i64 (m % 65535 + 1)) ∧ w = w' := by
  go_enter Try.func33, Try.ntmps33
  go_wp2
  go_ret
  exact ⟨rfl, rfl⟩

/-- What holds between two rounds of Blend. -/
def RBlendI (w : World) (g cap : Nat) (f : Nat → Int) (wr : World) : Prop := RowAt wr g 5 cap 512 (bytesV f) ∧ Below w.heap.size w wr
def rblK (p : Nat → Bool) (fa fb : Nat → Int) (k i : Nat) : Int := if i < k then blendF p fa fb i else fa i
theorem rblK_succ (p : Nat → Bool) (fa fb : Nat → Int) (k i : Nat) : (if i = k then blendF p fa fb k else rblK p fa fb k i) = rblK p fa fb (k + 1) i := by
  unfold rblK
  by_cases h : i = k
  · subst h; rw [if_pos rfl, if_pos (by omega)]
  · rw [if_neg h]
    by_cases h2 : i < k
    · rw [if_pos h2, if_pos (by omega)]
    · rw [if_neg h2, if_neg (by omega)]

set_option maxRecDepth 8000 in
set_option maxHeartbeats 2000000 in
theorem rBlend_any (b off cap b2 off2 cap2 : Nat) (hcap2 : 512 ≤ cap2) (fa fb : Nat → Int) (M : Nat) (hM : M < 256) (w : World)
    (ha : Cells w b off 512 (bytesV fa)) (hb : Cells w b2 off2 512 (bytesV fb)) :
    Calls Try.prog 35 #[.slice (some ⟨b, off, none⟩) 512 cap, .slice (some ⟨b2, off2, none⟩) 512 cap2, .int .i64 (M : Int)] w (BlendedOk w (blendF (bitI M) fa fb)) := by
  have Ha := Lib.hid ha; clear ha
  have Hb := Lib.hid hb; clear hb
  go_enter Try.func35, Try.ntmps35
  go_wp2_with (at_builtin; refine Hold.stop ?_)
  refine Hold.go ?_
  refine wpList_append_o rfl _ _ 22 5 _ _ rfl Try.underlying22 info_u8 rfl w.heap.size _ 0 (fun _ => undef) rfl (.inr ⟨_, 0, rfl, Nat.le_refl _, RowAt.new w #[] _ _ 0 (Nat.le_refl _) (fun i hi => absurd hi (by omega)), by simp [maxLen]⟩) b off 512 cap (bytesV fa) rfl (Ha.out.alloc _) (fun _ _ => rfl) (by omega) (by decide) (by simp) ?_
  intro v' w4 hown hgr _ _
  obtain ⟨g, cp, rfl, hgB, hrow, hmx⟩ := hown.row (by omega)
  rw [Nat.zero_add] at hrow ⊢
  have hb : Below w.heap.size w w4 := ((Below.refl _ w).alloc (Nat.le_refl _) _).grown hgr (by simp) (fun k hk => by simp [Value.ownBlock, Act.eval] at hk; omega)
  have hcp : 512 ≤ cp := hrow.le
  have hI : RBlendI w g cp (rblK (bitI M) fa fb 0) w4 := ⟨hrow.congr (fun i _ => by unfold bytesV rblK; rw [if_neg (by omega)]; simp), hb⟩
  have HI := Lib.hid hI
  have HgB := Lib.hid hgB
  have Hmx := Lib.hid hmx
  clear hI hgB hmx hrow hown hgr hb
  go_wp2_with fail
  go_loopw [8] (fun t wr => ∃ k : Nat, k ≤ 512 ∧ t = .int .i64 k ∧ RBlendI w g cp (rblK (bitI M) fa fb k) wr) (fun t _ => 512 - (intOf t).toNat)
  case atStart => exact ⟨0, by omega, rfl, HI.out⟩
  case round =>
    obtain ⟨k, hk, rfl, hi⟩ := hrel
    by_cases hlt : k < 512
    · obtain ⟨q, hqe⟩ : ∃ q, q = k / 64 := ⟨_, rfl⟩
      have hs := bit_shr M q
      have hk8 : q < 8 := by omega
      have cb := Hb.out.all hi.2 k hlt
      unfold bytesV at cb
      have z := hi.1.frozen k
      have ⟨u, hu⟩ := hi.1.ex (i := k) (by omega)
      have Hi := Lib.hid hi; clear hi
      have hq : Int.tdiv (k : Int) 64 = (q : Int) := by rw [Int.tdiv_eq_ediv_of_nonneg (by omega)]; omega
      have Hq := Lib.hid hqe; clear hqe
      cases hb2 : M.testBit q
      · rw [hb2] at hs
        simp only [Bool.false_eq_true, if_false] at hs
        have hv : blendF (bitI M) fa fb k = fa k := by unfold blendF; rw [← Hq.out, bitI_nat, hb2]; rfl
        have Hv := Lib.hid hv; clear hv hb2
        go_wp2
        go_roundw
        case rel => exact ⟨k + 1, by omega, by go_num, Hi.out.1.congr (fun i _ => by
          unfold bytesV
          rw [← rblK_succ]
          split
          · rename_i h; subst h; rw [Hv.out]; unfold rblK; rw [if_neg (by omega)]
          · rfl), Hi.out.2⟩
        case measure => simp [intOf]; omega
      · rw [hb2] at hs
        simp only [if_true] at hs
        have hv : blendF (bitI M) fa fb k = fb k := by unfold blendF; rw [← Hq.out, bitI_nat, hb2]; rfl
        have Hv := Lib.hid hv; clear hv hb2
        go_wp2
        have hI2 : RBlendI w g cp (rblK (bitI M) fa fb (k + 1)) (wr.setCell ⟨g, k, none⟩ (.int .u8 (fb k))) := ⟨(Hi.out.1.set k _).congr (fun i _ => by
          unfold bytesV
          rw [← rblK_succ]
          split
          · rw [Hv.out]
          · rfl), Hi.out.2.setCell HgB.out _⟩
        have HI2 := Lib.hid hI2; clear hI2
        go_roundw
        case rel => exact ⟨k + 1, by omega, by go_num, HI2.out⟩
        case measure => simp [intOf]; omega
    · obtain rfl : k = 512 := by omega
      have Hi := Lib.hid hi; clear hi
      go_wp2
      go_ret
      exact ⟨g, cp, rfl, HgB.out, Hi.out.1.congr (fun i hi => by unfold bytesV rblK; rw [if_pos hi]), Hmx.out, Hi.out.2⟩

theorem TornI.drewN {w wr : World} {g cap : Nat} {f : Nat → Int} {k : Nat} {v : Value} (h : TornI w g cap f k v wr) (n : Nat) : TornI w g cap f k v (wr.drewN n) :=
  ⟨h.1.drewN n, h.2.1.drewN n, h.2.2.1.trans (below_drewN _ _ _), h.2.2.2⟩

def RTornOk (w : World) (f : Nat → Int) (e : Ending) (w' : World) : Prop :=
  ∃ v, e = .returned v ∧ Own w' w.heap.size 3 v (tornL f 8).length (listV (tornL f 8)) ∧ Below w.heap.size w w'

set_option maxHeartbeats 2000000 in
theorem rTorn_any (b off cap : Nat) (hcap : 512 ≤ cap) (hm : cap ≤ maxLen) (f : Nat → Int) (hf : ∀ i, i < 512 → 0 ≤ f i ∧ f i < 256) (w : World) (hc : Cells w b off 512 (bytesV f)) :
    Calls Try.prog 31 #[.slice (some ⟨b, off, none⟩) 512 cap] w (RTornOk w f) := by
  have hmk := rMarks_any b off cap hcap hm f hf w hc
  have Hmk := Lib.hid hmk; clear hmk
  clear hf hc
  go_enter Try.func31, Try.ntmps31
  go_wp2_with fail
  refine Hmk.out.mono ?_
  rintro e w' ⟨g, cp, rfl, hg, hrow, hb1⟩
  have hcp := hrow.le
  go_wp2_with fail
  go_loopw [4, 5] (fun v t wr => ∃ k : Nat, k ≤ 8 ∧ t = .int .i64 k ∧ TornI w g cp f k v wr) (fun _ t _ => 8 - (intOf t).toNat)
  case atStart => exact ⟨0, by omega, rfl, hrow, Own.nil _ _ _ _, hb1, _, _, _, rfl⟩
  case round =>
    obtain ⟨k, hk, rfl, hr, ho, hbl, n0, c0, a0, rfl⟩ := hrel
    by_cases hlt : k < 8
    · have m0 := hr.cell (i := 0) (by omega)
      have mk := hr.cell (i := k) hlt
      unfold intsV at m0 mk
      have hti : TornI w g cp f k (.slice a0 n0 c0) wr := ⟨hr, ho, hbl, _, _, _, rfl⟩
      have Hti := Lib.hid hti; clear hti hr ho hbl
      rcases hp : tornP f k with _ | _
      · have hsucc := tornL_succ f k
        rw [if_neg (by rw [hp]; simp)] at hsucc
        have Hs := Lib.hid hsucc; clear hsucc
        unfold tornP at hp
        rw [Bool.or_eq_false_iff] at hp
        obtain ⟨p1, p2⟩ := hp
        go_wp2
        go_quiet (fail)
        go_wp2
        go_roundw
        case rel => exact ⟨k + 1, by omega, by go_num, ((Hti.out.drewN _).1), by rw [Hs.out]; exact (Hti.out.drewN _).2.1, (Hti.out.drewN _).2.2.1, _, _, _, rfl⟩
        case measure => simp [intOf]; omega
      · have Hp := Lib.hid hp
        have hl := tornL_len f k
        have hgs : g < wr.heap.size := Hti.out.1.lt
        unfold tornP at hp
        rcases p1 : (markI f k != markI f 0) with _ | _
        · have p2 : (markI f 0 == 0) = true := by rw [p1] at hp; simpa using hp
          clear hp
          go_wp2
          go_quiet (fail)
          go_wp2_with (with_reducible refine stopB .append ?_)
          refine Hold.go ?_
          have hti2 := Hti.out.drewN nq
          have Hti2 := Lib.hid hti2; clear hti2
          have hgs2 : g < (wr.drewN nq).heap.size := hgs
          refine wpList_append_o rfl _ _ 24 3 _ _ rfl Try.underlying24 info_int rfl (g + 1) _ (tornL f k).length (listV (tornL f k)) rfl (Hti2.out.2.1.alloc _) wr.heap.size 0 1 1 (fun _ => .int .i64 k) rfl (RowAt.new (wr.drewN nq) #[.int .i64 k] 3 _ 1 (by simp) (one_cell rfl)).reads (fun _ _ => rfl) (by omega) (by decide) (by simp; omega) ?_
          intro v' w3 hown' hgr _ _
          have hst := torn_step Hti2.out (by omega) Hp.out hown' hgr
          have Hst := Lib.hid hst; clear hst hown' hgr
          go_wp2
          go_roundw
          case rel => exact ⟨k + 1, by omega, by go_num, Hst.out⟩
          case measure => simp [intOf]; omega
        · clear hp
          go_wp2
          go_quiet (fail)
          go_wp2_with (with_reducible refine stopB .append ?_)
          refine Hold.go ?_
          have hti2 := Hti.out.drewN nq
          have Hti2 := Lib.hid hti2; clear hti2
          have hgs2 : g < (wr.drewN nq).heap.size := hgs
          refine wpList_append_o rfl _ _ 24 3 _ _ rfl Try.underlying24 info_int rfl (g + 1) _ (tornL f k).length (listV (tornL f k)) rfl (Hti2.out.2.1.alloc _) wr.heap.size 0 1 1 (fun _ => .int .i64 k) rfl (RowAt.new (wr.drewN nq) #[.int .i64 k] 3 _ 1 (by simp) (one_cell rfl)).reads (fun _ _ => rfl) (by omega) (by decide) (by simp; omega) ?_
          intro v' w3 hown' hgr _ _
          have hst := torn_step Hti2.out (by omega) Hp.out hown' hgr
          have Hst := Lib.hid hst; clear hst hown' hgr
          go_wp2
          go_roundw
          case rel => exact ⟨k + 1, by omega, by go_num, Hst.out⟩
          case measure => simp [intOf]; omega
    · obtain rfl : k = 8 := by omega
      have Ho := Lib.hid ho
      have Hb := Lib.hid hbl
      clear ho hbl hr
      go_wp2
      go_ret
      exact ⟨_, rfl, Ho.out.mono (by omega), Hb.out⟩

def st2 (a b : Value) (i : Nat) : Value := if i = 0 then a else b
theorem RowAt.st2 {w : World} {g : Nat} {e : TypeId} {cap : Nat} {f : Nat → Value} (h : RowAt w g e cap 2 f) (a b : Value) :
    RowAt ((w.setCell ⟨g, 0, none⟩ a).setCell ⟨g, 1, none⟩ b) g e cap 2 (st2 a b) :=
  ((h.set 0 a).set 1 b).congr fun i hi => by
    rcases i with _ | _ | i
    · rfl
    · rfl
    · omega
theorem row2 (w : World) (a b : Value) (e : TypeId) : RowAt (w.alloc (.cells #[a, b] e)) w.heap.size e 2 2 (st2 a b) :=
  RowAt.new w #[a, b] e (st2 a b) 2 (by simp) (fun i hi => by rcases i with _ | _ | i <;> first | rfl | omega)

/-- The specification's answer (bytes, error). -/
def RawBad (w : World) (c : Int) (e : Ending) (w' : World) : Prop := e = .returned (.agg #[.slice none 0 0, .int .i64 c]) ∧ Below w.heap.size w w'
def RawOk (w : World) (f : Nat → Int) (e : Ending) (w' : World) : Prop :=
  ∃ g cap, e = .returned (.agg #[.slice (some ⟨g, 0, none⟩) 512 cap, .int .i64 0]) ∧ w.heap.size ≤ g ∧ RowAt w' g 5 cap 512 (bytesV f) ∧ cap ≤ maxLen ∧ Below w.heap.size w w'

set_option maxHeartbeats 2000000 in
theorem rGuard_arg (a : Option Addr) (n c : Nat) (m : Int) (h : ¬ (n = 512 ∧ 1 ≤ m ∧ m ≤ 65535)) (w : World) :
    Calls Try.prog 26 #[.slice a n c, .int .i64 m] w (RawBad w 1) := by
  go_enter Try.func26, Try.ntmps26
  go_wp2_with fail
  refine (rRight_any _ _ _ _).mono ?_
  rintro e w' ⟨rfl, rfl⟩
  have r0 := row2 w (.slice none 0 0) (.int .i64 0) 55
  have q0 := r0.cell (i := 0) (by omega)
  have q1 := r0.cell (i := 1) (by omega)
  have z0 := r0.frozen 0
  have z1 := r0.frozen 1
  have hb : Below w.heap.size w (w.alloc (.cells #[.slice none 0 0, .int .i64 0] 55)) := (Below.refl _ w).alloc (Nat.le_refl _) _
  have R0 := Lib.hid r0; clear r0
  have HB := Lib.hid hb; clear hb
  generalize w.alloc (.cells #[.slice none 0 0, .int .i64 0] 55) = w1 at *
  have rr := R0.out.st2 (.slice none 0 0) (.int .i64 1)
  have E0 := Lib.hid (rr.cell (i := 0) (by omega))
  have E1 := Lib.hid (rr.cell (i := 1) (by omega))
  have HB2 := Lib.hid ((HB.out.setCell (p := ⟨w.heap.size, 0, none⟩) (Nat.le_refl _) (.slice none 0 0)).setCell (p := ⟨w.heap.size, 1, none⟩) (Nat.le_refl _) (.int .i64 1))
  clear rr
  by_cases h1 : n = 512
  · have hb1 : ((n : Int) == 512) = true := by rw [h1]; rfl
    have hb2 : decide (1 ≤ m ∧ m ≤ 65535) = false := by
      rw [decide_eq_false_iff_not]
      exact fun hm => h ⟨h1, hm⟩
    rw [hb1]
    clear h
    go_wp2_with fail
    refine (rMark_any _ _).mono ?_
    rintro e w' ⟨rfl, rfl⟩
    rw [show decide (1 ≤ m ∧ m ≤ 65535) = false from by simpa using hb2]
    go_wp2_with fail
    have e0 := E0.out
    have e1 := E1.out
    refine bodyPost_ret (v := .agg #[.slice none 0 0, .int .i64 1]) ?_ rfl ⟨rfl, HB2.out⟩
    simp [results, Try.results26, go_sem, e0, e1, st2]
  · have hb1 : ((n : Int) == 512) = false := by rw [beq_eq_false_iff_ne]; omega
    rw [hb1]
    go_wp2_with fail
    have e0 := E0.out
    have e1 := E1.out
    refine bodyPost_ret (v := .agg #[.slice none 0 0, .int .i64 1]) ?_ rfl ⟨rfl, HB2.out⟩
    simp [results, Try.results26, go_sem, e0, e1, st2]

end Go.Proofs.Ytjfcjpkfefmhlaa
