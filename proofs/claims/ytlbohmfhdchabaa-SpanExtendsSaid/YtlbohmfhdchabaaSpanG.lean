/- Span: the methods place. -/
import Derived.Test.YtlbohmfhdchabaaSpanF
import Derived.Test.YtlbohmfhdchabaaSpots
namespace Go.Proofs.Ytlbohmfhdchabaa
open Go.RowKit

def PlaceR (L : Lay) (p : Int) (w : World) (e : Ending) (w' : World) : Prop := ∃ v, e = .returned v ∧ Spots w' w.heap.size v L.num' (L.at p) ∧ Below w.heap.size w w'

/-- Division and remainder of a page by a chunk. -/
theorem quot_facts (p a : Int) (hp : 0 ≤ p ∧ p ≤ 1000000) (ha : 1 ≤ a) :
    Int.tmod p a = p % a ∧ (0 ≤ p / a ∧ p / a ≤ p) ∧ (0 ≤ p % a ∧ p % a < a) ∧ p / a * a + p % a = p := by
  have h0 := Int.ediv_mul_add_emod p a
  have h1 := Int.emod_nonneg p (b := a) (by omega)
  have h2 := Int.emod_lt_of_pos p (b := a) (by omega)
  have h3 := Int.ediv_nonneg (a := p) (b := a) hp.1 (by omega)
  have h4 := Int.ediv_le_self a hp.1
  exact ⟨Int.tmod_eq_emod_of_nonneg hp.1, ⟨h3, h4⟩, ⟨h1, h2⟩, h0⟩

/-- A quotient's quotient times the divisor is not more. -/
theorem quot_mul (r b a : Int) (hr : 0 ≤ r) (hb : 1 ≤ b) (ha : 1 ≤ a) : 0 ≤ r / b * a ∧ r / b * a ≤ r * a :=
  ⟨Int.mul_nonneg (Int.ediv_nonneg hr (by omega)) (by omega), Int.mul_le_mul_of_nonneg_right (Int.ediv_le_self b hr) (by omega)⟩

set_option maxHeartbeats 1000000 in
theorem place_plain (L : Lay) (sl : Value) (g : Nat) (p : Int) (w : World) (hg : Geo w g L sl) (hK : L.K = 1) (hp : 0 ≤ p ∧ p < L.size) :
    Calls Try.prog 75 #[.agg #[], .pointer (some ⟨g, 0, none⟩), .int .i64 p] w (PlaceR L p w) := by
  have hs : L.num' = 1 ∧ (fun i => L.at p i) = fun _ => (0, p) := by
    constructor
    · unfold Lay.num'; rw [hK]; rfl
    · funext i; unfold Lay.at; rw [hK]; rfl
  have Hs := Lib.hid hs; clear hs hg hK
  go_enter Try.func75, Try.ntmps75
  go_wp2
  go_ret
  have h1 := spots1 (w.alloc (.cells #[] 89)) 0 p
  rw [World.size_alloc] at h1
  refine ⟨_, rfl, ?_, ((Below.refl _ w).alloc (Nat.le_refl _) _).alloc (by simp) _⟩
  rw [Hs.out.1]
  exact (h1.mono (by omega)).congr fun i _ => (congrFun Hs.out.2 i).symm

set_option maxHeartbeats 1000000 in
theorem place_concat (L : Lay) (sl : Value) (g : Nat) (p : Int) (w : World) (hg : Geo w g L sl) (hK : L.K = 2) (hp : 0 ≤ p ∧ p < L.size) :
    Calls Try.prog 79 #[.agg #[], .pointer (some ⟨g, 0, none⟩), .int .i64 p] w (PlaceR L p w) := by
  have hs : L.num' = 1 ∧ (fun i => L.at p i) = fun _ => (((catI L.M p L.n : Nat) : Int), p - sumI L.M (catI L.M p L.n)) := by
    constructor
    · unfold Lay.num'; rw [hK]; rfl
    · funext i; unfold Lay.at; rw [hK]; rfl
  have hz : L.size = sumI L.M L.n := by unfold Lay.size; rw [hK]; rfl
  rw [hz] at hp
  clear hz
  have hg2 := hg.all ((Below.refl _ w).alloc (Nat.le_refl _) (.cells #[] 90))
  obtain ⟨-, c1, -, -, -, -, -⟩ := hg2.cells
  obtain ⟨b, off, cap, rfl, hc⟩ := hg2.mem
  have hn := hg.right.nle
  have hm := hg.right.mem
  have Hm := Lib.hid hm; clear hm
  have Hc := Lib.hid hc; clear hc
  have Hs := Lib.hid hs; clear hs hg hg2 hK
  unfold PlaceR
  obtain ⟨K, n, M, C⟩ := L
  simp only at *
  have hbig := (sumI_bound M 1 4096 n (fun i hi => Hm.out i hi)).2
  go_enter Try.func79, Try.ntmps79
  go_wp2_with fail
  go_loop [7, 2] (fun t u => ∃ k : Nat, k < n ∧ t = .int .i64 k ∧ u = .int .i64 (p - sumI M k) ∧ sumI M k ≤ p) (fun t _ => n - (intOf t).toNat)
  case atStart => exact ⟨0, by omega, rfl, by simp [sumI], by simp [sumI]; omega⟩
  case round =>
    obtain ⟨k, hk, rfl, rfl, hle⟩ := hrel
    have hcell := Hc.out k hk
    unfold intsV at hcell
    have hMk := Hm.out k hk
    have hs0 := (sumI_bound M 1 4096 k (fun i hi => Hm.out i (by omega))).1
    have e1 : p - sumI M k - M k = p - sumI M (k + 1) := by simp only [sumI]; omega
    rcases hlt : decide (M k ≤ p - sumI M k) with _ | _
    · have hlt' : ¬ M k ≤ p - sumI M k := of_decide_eq_false hlt
      have hcat : catI M p n = k := catI_eq M p hk (fun i hi => (Hm.out i hi).1) hle (by simp only [sumI]; omega)
      have Hcat := Lib.hid hcat; clear hcat e1
      go_wp2
      go_ret
      have h1 := spots1 (w.alloc (.cells #[] 90)) k (p - sumI M k)
      rw [World.size_alloc] at h1
      refine ⟨_, rfl, ?_, ((Below.refl _ w).alloc (Nat.le_refl _) _).alloc (by simp) _⟩
      rw [Hs.out.1]
      refine (h1.mono (by omega)).congr fun i _ => ?_
      rw [congrFun Hs.out.2 i, Hcat.out]
    · have hlt' : M k ≤ p - sumI M k := of_decide_eq_true hlt
      have hkn : k + 1 < n := by
        by_cases h : k + 1 < n
        · exact h
        · obtain rfl : n = k + 1 := by omega
          simp only [sumI] at hp
          omega
      have E1 := Lib.hid e1; clear e1
      go_wp2_with fail
      go_round
      case rel => exact ⟨k + 1, by omega, by go_num, by rw [E1.out], by simp only [sumI]; omega⟩
      case measure => simp [intOf]; omega

set_option maxHeartbeats 1000000 in
theorem place_stripe (L : Lay) (sl : Value) (g : Nat) (p : Int) (w : World) (hg : Geo w g L sl) (hK : L.K = 3) (hp : 0 ≤ p ∧ p < L.size) :
    Calls Try.prog 83 #[.agg #[], .pointer (some ⟨g, 0, none⟩), .int .i64 p] w (PlaceR L p w) := by
  have hs : L.num' = 1 ∧ (fun i => L.at p i) = fun _ => (p / L.C % L.n, p / L.C / L.n * L.C + p % L.C) := by
    constructor
    · unfold Lay.num'; rw [hK]; rfl
    · funext i; unfold Lay.at; rw [hK]; rfl
  have hz : L.size = L.n * L.k := by unfold Lay.size; rw [hK]; rfl
  have hn := hg.right.nle
  have hk := hg.right.kle
  have hm := hg.right.mle
  have hC := hg.right.chunk
  have hb := mul_bound (a := L.n) (b := L.k) (x := 6) (y := 4096) (by omega) (by omega)
  rw [hz] at hp
  have hp2 : 0 ≤ p ∧ p ≤ 1000000 := by omega
  clear hz hp hb hk hm
  have hg2 := hg.all ((Below.refl _ w).alloc (Nat.le_refl _) (.cells #[] 91))
  have hB2 : Below w.heap.size w (w.alloc (.cells #[] 91)) := (Below.refl _ w).alloc (Nat.le_refl _) _
  obtain ⟨-, -, c2, c3, -, -, -⟩ := hg2.cells
  have Hs := Lib.hid hs; clear hs hg hK
  obtain ⟨q1, q2, q3, q4⟩ := quot_facts p L.C hp2 (by omega)
  obtain ⟨q5, q6, q7, q8⟩ := quot_facts (p / L.C) L.n (by omega) (by omega)
  have q9 := quot_mul (p / L.C) L.n L.C q2.1 (by omega) (by omega)
  have hn2 : (1 : Int) ≤ L.n := by omega
  have hn0 : ¬ L.n = 0 := by omega
  have Q4 := Lib.hid q4; clear q4 q8
  go_enter Try.func83, Try.ntmps83
  go_wp2_with fail
  go_quiet (fail)
  go_upto_region 2 with fail
  have hg3 := hg2.all (below_drewN _ _ nq)
  have hB3 := hB2.trans (below_drewN _ _ nq)
  generalize (w.alloc (.cells #[] 91)).drewN nq = W at *
  obtain ⟨-, -, d2, d3, -, -, -⟩ := hg3.cells
  have hd : Below W.heap.size W W.drew := (Below.refl _ W).drew
  have hge := hB3.size
  go_region_held (fun w' => w'.cell? ⟨g, 2, none⟩ = some (.int .i64 L.C) ∧ w'.cell? ⟨g, 3, none⟩ = some (.int .i64 L.n)) (first | exact ⟨(hg3.all hd).cells.2.2.1, (hg3.all hd).cells.2.2.2.1⟩ | exact ⟨(hg3.all (below_alloc1 hd _)).cells.2.2.1, (hg3.all (below_alloc1 hd _)).cells.2.2.2.1⟩) (fail)
  all_goals
    go_wp2
    go_ret
    refine ⟨_, rfl, ?_, hB3.trans (((Below.refl _ W).alloc (Nat.le_refl _) _).drew.mono hge)⟩
    rw [Hs.out.1]
    refine (Spots.mono ((spots1 W _ _).drewN 1) hge).congr fun i _ => ?_
    have w1 : IntKind.i64.wrap ((p / L.C).tdiv L.n) = p / L.C / L.n := IntWalk.i64_quo _ _ (by omega)
    have w2 : IntKind.i64.wrap (p / L.C / L.n * L.C) = p / L.C / L.n * L.C := IntWalk.i64_in _ (by have := Q4.out; omega)
    have w3 : IntKind.i64.wrap (p / L.C / L.n * L.C + p % L.C) = p / L.C / L.n * L.C + p % L.C := IntWalk.i64_in _ (by have := Q4.out; omega)
    rw [congrFun Hs.out.2 i]
    simp only [w1, w2, w3]

set_option maxHeartbeats 2000000 in
theorem place_mirror (L : Lay) (sl : Value) (g : Nat) (p : Int) (w : World) (hg : Geo w g L sl) (hK : L.K = 4) (hp : 0 ≤ p ∧ p < L.size) :
    Calls Try.prog 87 #[.agg #[], .pointer (some ⟨g, 0, none⟩), .int .i64 p] w (PlaceR L p w) := by
  have hs : L.num' = L.n ∧ (fun i => L.at p i) = fun i : Nat => ((i : Int), p) := by
    constructor
    · unfold Lay.num'; rw [hK]; rfl
    · funext i; unfold Lay.at; rw [hK]; rfl
  have hn := hg.right.nle
  have Hs := Lib.hid hs; clear hs hK hp
  have hg2 := hg.all ((Below.refl _ w).alloc (Nat.le_refl _) (.cells #[] 92))
  have hB2 : Below w.heap.size w (w.alloc (.cells #[] 92)) := (Below.refl _ w).alloc (Nat.le_refl _) _
  obtain ⟨-, -, -, c3, -, -, -⟩ := hg2.cells
  clear hg hg2
  unfold PlaceR
  rw [Hs.out.1, show L.at p = fun i : Nat => ((i : Int), p) from Hs.out.2]
  clear Hs
  generalize L.n = n at *
  go_enter Try.func87, Try.ntmps87
  go_wp2_with fail
  generalize w.alloc (.cells #[] 92) = W0 at *
  have hge := hB2.size
  have hW0 : Spots W0 w.heap.size (.slice none 0 0) 0 (fun i : Nat => ((i : Int), p)) ∧ Below w.heap.size w W0 := ⟨Spots.nil _ _ _, hB2⟩
  have HW0 := Lib.hid hW0; clear hW0 hB2
  go_loopw [13, 7] (fun t u W => ∃ k : Nat, k ≤ n ∧ t = .int .i64 k ∧ Spots W w.heap.size u k (fun i : Nat => ((i : Int), p)) ∧ Below w.heap.size w W) (fun t _ _ => n - (intOf t).toNat)
  case atStart => exact ⟨0, by omega, rfl, HW0.out⟩
  case round =>
    obtain ⟨k, hk, rfl, hS, hb⟩ := hrel
    obtain ⟨a, cap, rfl⟩ := hS.slice
    have HS := Lib.hid hS
    have Hb := Lib.hid hb; clear hS hb
    clear c3
    by_cases hlt : k < n
    · go_wp2_with (with_reducible refine stopB .append ?_)
      refine Hold.go ?_
      refine wpList_append_sp rfl _ _ rfl w.heap.size _ k (fun i : Nat => ((i : Int), p)) rfl (HS.out.alloc _) wr.heap.size 0 1 1 (fun _ => ((k : Int), p)) rfl (cells1 wr _ _) (by omega) (by have := Hb.out.size; simp; omega) ?_
      intro v' W3 hS' hgr
      have hb3 := (HS.out.alloc _).below (Hb.out.alloc Hb.out.size (.cells #[.int .i64 k, .int .i64 p] 45)) (by have := Hb.out.size; simp; omega) hgr
      obtain ⟨a', cap', rfl⟩ := hS'.slice
      have Hn := Lib.hid (And.intro (hS'.snoc rfl) hb3)
      clear hS' hgr hb3
      go_wp2
      go_roundw
      case rel => exact ⟨k + 1, by omega, by go_num, Hn.out⟩
      case measure => simp [intOf]; omega
    · obtain rfl : k = n := by omega
      go_wp2_with fail
      go_ret
      exact ⟨_, rfl, HS.out, Hb.out⟩

set_option maxHeartbeats 4000000 in
theorem place_parity (L : Lay) (sl : Value) (g : Nat) (p : Int) (w : World) (hg : Geo w g L sl) (hK : L.K = 5) (hp : 0 ≤ p ∧ p < L.size) :
    Calls Try.prog 91 #[.agg #[], .pointer (some ⟨g, 0, none⟩), .int .i64 p] w (PlaceR L p w) := by
  have hs : L.num' = 2 ∧ ∀ i, L.at p i = if i = 0 then ((p / L.C / (L.n - 1) % L.n + 1 + p / L.C % (L.n - 1)) % L.n, p / L.C / (L.n - 1) * L.C + p % L.C) else (p / L.C / (L.n - 1) % L.n, p / L.C / (L.n - 1) * L.C + p % L.C) := by
    constructor
    · unfold Lay.num'; rw [hK]; rfl
    · intro i; unfold Lay.at; rw [hK]; rfl
  have hz : L.size = (L.n - 1) * L.k := by unfold Lay.size; rw [hK]; rfl
  have hn := hg.right.nle
  have hn3 : (3 : Int) ≤ L.n := by have := hg.right.num.1; unfold Lay.lo at this; rw [hK] at this; exact this
  have hk := hg.right.kle
  have hm := hg.right.mle
  have hC := hg.right.chunk
  have hb := mul_bound (a := (L.n : Int) - 1) (b := L.k) (x := 6) (y := 4096) (by omega) (by omega)
  rw [hz] at hp
  have hp2 : 0 ≤ p ∧ p ≤ 1000000 := by omega
  clear hz hp hb hk hm
  have hg2 := hg.all ((Below.refl _ w).alloc (Nat.le_refl _) (.cells #[] 93))
  have hB2 : Below w.heap.size w (w.alloc (.cells #[] 93)) := (Below.refl _ w).alloc (Nat.le_refl _) _
  obtain ⟨-, -, c2, c3, -, -, -⟩ := hg2.cells
  have Hs := Lib.hid hs; clear hs hg hK
  obtain ⟨q1, q2, q3, q4⟩ := quot_facts p L.C hp2 (by omega)
  obtain ⟨q5, q6, q7, q8⟩ := quot_facts (p / L.C) (L.n - 1) (by omega) (by omega)
  obtain ⟨r5, r6, r7, r8⟩ := quot_facts (p / L.C / (L.n - 1)) L.n (by omega) (by omega)
  obtain ⟨s5, s6, s7, s8⟩ := quot_facts (p / L.C / (L.n - 1) % L.n + 1 + p / L.C % (L.n - 1)) L.n (by omega) (by omega)
  have q9 := quot_mul (p / L.C) (L.n - 1) L.C q2.1 (by omega) (by omega)
  have q10 : p / L.C / (L.n - 1) * L.C + p % L.C ≤ p := by omega
  have hn2 : (1 : Int) ≤ L.n := by omega
  have hn0 : ¬ L.n = 0 := by omega
  have hn1 : ¬ ((L.n : Int) - 1 = 0) := by omega
  clear q4 q8 r8 s8
  go_enter Try.func91, Try.ntmps91
  go_wp2_with fail
  go_quiet (fail)
  go_upto_region 2 with fail
  go_quiet (fail)
  go_upto_region 3 with fail
  go_quiet (fail)
  go_wp2
  go_ret
  refine ⟨_, rfl, ?_, ?_⟩
  rotate_left 1
  · exact (hB2.trans (below_drewN _ _ _)).alloc (by simp [World.drewN]) _
  · rw [Hs.out.1]
    have h1 := fun q => spots2 ((w.alloc (.cells #[] 93)).drewN q) ((p / L.C / (L.n - 1) % L.n + 1 + p / L.C % (L.n - 1)) % L.n) (p / L.C / (L.n - 1) * L.C + p % L.C) (p / L.C / (L.n - 1) % L.n) (p / L.C / (L.n - 1) * L.C + p % L.C)
    have hsz : ∀ q, ((w.alloc (.cells #[] 93)).drewN q).heap.size = w.heap.size + 1 := fun q => by simp [World.drewN]
    simp only [hsz] at h1
    exact ((h1 _).mono (by omega)).congr fun i _ => (Hs.out.2 i).symm

/-- place, whatever the kind. -/
theorem place_any (L : Lay) (sl : Value) (g : Nat) (p : Int) (w : World) (hg : Geo w g L sl) (hp : 0 ≤ p ∧ p < L.size) : Calls Try.prog (placeN L.K) #[.agg #[], .pointer (some ⟨g, 0, none⟩), .int .i64 p] w (PlaceR L p w) := by
  have h := hg.right.kind
  obtain h | h | h | h | h : L.K = 1 ∨ L.K = 2 ∨ L.K = 3 ∨ L.K = 4 ∨ L.K = 5 := by omega
  · have := place_plain L sl g p w hg h hp; rw [h]; exact this
  · have := place_concat L sl g p w hg h hp; rw [h]; exact this
  · have := place_stripe L sl g p w hg h hp; rw [h]; exact this
  · have := place_mirror L sl g p w hg h hp; rw [h]; exact this
  · have := place_parity L sl g p w hg h hp; rw [h]; exact this

end Go.Proofs.Ytlbohmfhdchabaa
