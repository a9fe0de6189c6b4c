/- FixContent. -/
import Derived.Test.YtjfcjpkfefmhlaaLawD
namespace Go.Proofs.Ytjfcjpkfefmhlaa
open Go.RowKit
attribute [local go_sem] Oper.semAt_some

theorem xor_u8_nat (a b : Nat) (ha : a < 256) (hb : b < 256) : bits .xor .u8 (a : Int) (b : Int) = ((a ^^^ b : Nat) : Int) := by
  have hx : a ^^^ b < 2 ^ 8 := Nat.xor_lt_two_pow (by omega) (by omega)
  have h1 : a % 2 ^ 8 = a := Nat.mod_eq_of_lt (by omega)
  have h2 : b % 2 ^ 8 = b := Nat.mod_eq_of_lt (by omega)
  show IntKind.u8.wrap ((BitVec.ofInt 8 (a : Int) ^^^ BitVec.ofInt 8 (b : Int)).toNat : Int) = _
  rw [BitVec.toNat_xor, BitVec.ofInt_natCast, BitVec.ofInt_natCast, BitVec.toNat_ofNat, BitVec.toNat_ofNat, h1, h2, IntKind.wrap_u8]
  omega

theorem xor_u8 (x y : Int) (hx : 0 ≤ x ∧ x < 256) (hy : 0 ≤ y ∧ y < 256) : ∃ X, bits .xor .u8 x y = X ∧ (0 ≤ X ∧ X < 256) ∧ (X = x ↔ y = 0) := by
  obtain ⟨a, rfl⟩ := Int.eq_ofNat_of_zero_le hx.1
  obtain ⟨b, rfl⟩ := Int.eq_ofNat_of_zero_le hy.1
  refine ⟨_, xor_u8_nat a b (by omega) (by omega), ?_, ?_⟩
  · have : a ^^^ b < 2 ^ 8 := Nat.xor_lt_two_pow (by omega) (by omega)
    omega
  · constructor
    · intro h
      have h : a ^^^ b = a := by omega
      have h3 : b = 0 := by
        have := congrArg (a ^^^ ·) h
        simpa [← Nat.xor_assoc] using this
      omega
    · intro h
      obtain rfl : b = 0 := by omega
      simp

/-- Where byte j of a page stands in its image. -/
def posG (j : Nat) : Nat := if j % 64 < 62 then j else 2 + 2 * (j / 64) + (j % 64 - 62)
theorem posG_lt {j : Nat} (h : j < 512) : posG j < 512 := by unfold posG; split <;> omega

def putF (p : Nat → Int) (j : Nat) (X : Int) (i : Nat) : Int := if i = j then X else p i

theorem guard_put (m : Int) (p : Nat → Int) (j : Nat) (X : Int) (h18 : 18 ≤ j) (hj : j < 512) (i : Nat) (hi : i < 512) :
    guardF m (putF p j X) i = if i = posG j then X else guardF m p i := by
  unfold guardF guardK
  by_cases h0 : i = 0
  · subst h0
    have : ¬ 0 = posG j := by unfold posG; split <;> omega
    simp [this]
  · by_cases h1 : i = 1
    · subst h1
      have : ¬ 1 = posG j := by unfold posG; split <;> omega
      simp [this]
    · rw [if_neg h0, if_neg h1, if_neg h0, if_neg h1]
      by_cases h2 : i < 2 + 2 * 8
      · rw [if_pos h2, if_pos h2]
        unfold putF
        by_cases h3 : 64 * ((i - 2) / 2) + 62 + (i - 2) % 2 = j
        · rw [if_pos h3, if_pos]
          unfold posG
          rw [if_neg (by omega)]
          omega
        · rw [if_neg h3, if_neg]
          unfold posG
          split <;> omega
      · rw [if_neg h2, if_neg h2]
        by_cases h3 : i / 64 < 8 ∧ i % 64 = 62
        · rw [if_pos h3, if_pos h3, if_neg]
          unfold posG
          split <;> omega
        · rw [if_neg h3, if_neg h3]
          by_cases h4 : i / 64 < 8 ∧ i % 64 = 63
          · rw [if_pos h4, if_pos h4, if_neg]
            unfold posG
            split <;> omega
          · rw [if_neg h4, if_neg h4]
            unfold putF
            by_cases h5 : i = j
            · rw [if_pos h5, if_pos]
              unfold posG
              rw [if_pos (by omega)]
              omega
            · rw [if_neg h5, if_neg]
              unfold posG
              split <;> omega

theorem guard_pos (m : Int) (p : Nat → Int) (j : Nat) (h18 : 18 ≤ j) (hj : j < 512) : guardF m p (posG j) = p j := by
  have h := guard_put m p j (p j) h18 hj (posG j) (posG_lt hj)
  rw [if_pos rfl] at h
  rw [← h]
  congr 1
  funext i
  unfold putF
  split <;> simp_all

/-- The number of bytes that differ, of the first k. -/
def cntC (q : Nat) (d : Bool) (k : Nat) : Int := if q < k ∧ d = true then 1 else 0
theorem cntC_zero (q : Nat) (d : Bool) : cntC q d 0 = 0 := by simp [cntC]
theorem cntC_other {q : Nat} {d : Bool} {k : Nat} (h : k ≠ q ∨ d = false) : cntC q d (k + 1) = cntC q d k := by
  unfold cntC
  rcases h with h | h
  · by_cases h1 : q < k
    · simp [h1, show q < k + 1 by omega]
    · simp [h1, show ¬ q < k + 1 by omega]
  · simp [h]
theorem cntC_hit (q : Nat) : cntC q true (q + 1) = 1 ∧ cntC q true q = 0 := by simp [cntC]
theorem cntC_bound (q : Nat) (d : Bool) (k : Nat) : 0 ≤ cntC q d k ∧ cntC q d k ≤ 1 := by unfold cntC; split <;> omega

def FinContent (w : World) (e : Ending) (w' : World) : Prop := e = .returned (.bool true) ∧ Below w.heap.size w w'

set_option maxRecDepth 8000 in
set_option maxHeartbeats 4000000 in
theorem fixContent_walk (v0 : Value) (n0 : Nat) (f0 : Nat → Int) (m j y : Int) (w : World) (h0 : ByteArg w v0 n0 f0)
    (hm : (Lit.int .i64 m).wf = true) (hj : (Lit.int .i64 j).wf = true) (hy : (Lit.int .u8 y).wf = true) :
    Calls Try.prog 7 #[v0, .int .i64 m, .int .i64 j, .int .u8 y] w (FinContent w) := by
  obtain ⟨a0, c0, rfl⟩ := h0.slice
  have H0 := Lib.hid h0; clear h0
  have Hm := Lib.hid hm; clear hm
  have hy2 := u8_of_wf hy
  have Hy := Lib.hid hy2; clear hy hy2
  obtain ⟨r1, r2⟩ := i64_of_wf hj
  clear hj
  by_cases hl : n0 ≤ 2000
  · obtain ⟨K, hK, t, ht, tb, tb2, htc⟩ : ∃ K : Nat, K < 494 ∧ ∃ t, Int.tmod j 494 = t ∧ -494 < t ∧ t < 494 ∧ ((t < 0 ∧ t + 494 = (K : Int)) ∨ (¬ t < 0 ∧ t = (K : Int))) := by
      have hc := tmod_cases j 494 (by omega)
      refine ⟨(j % 494).toNat, by omega, _, rfl, ?_⟩
      omega
    clear r1 r2
    have HK := Lib.hid hK
    rcases htc with ⟨tn, te⟩ | ⟨tn, rfl⟩
    all_goals
      go_enter Try.func7, Try.ntmps7
      go_wp2_with fail
      refine (page_p _ _ _ _ (by omega) H0.out).mono ?_
      rintro e w1 ⟨gP, cP, rfl, -, pP, hb⟩
      have P1 := Lib.hid pP
      have H1 := Lib.hid (H0.out.all hb)
      have B1 := Lib.hid hb; clear hb pP
      go_wp2_with fail
      refine (page_p _ _ _ _ (by omega) H1.out).mono ?_
      rintro e w2 ⟨gQ, cQ, rfl, hgQ, pQ, hb⟩
      have P2 := Lib.hid (P1.out.all hb)
      have B2 := Lib.hid (B1.out.trans (hb.mono B1.out.size))
      have hne : gP ≠ gQ := by have := P1.out.row.lt; omega
      have hwQ : w.heap.size ≤ gQ := by have := B1.out.size; omega
      clear hb B1
      clear P1
      obtain ⟨X, hX, hXb, hXe⟩ := xor_u8 (pageF n0 f0 (18 + K)) y (pQ.byte _ (by omega)) Hy.out
      have cq := pQ.row.cell (i := 18 + K) (by omega)
      have zq := pQ.row.frozen (18 + K)
      unfold bytesV at cq
      have hcap := pQ.row.le
      have Q2 := Lib.hid pQ
      have HXb := Lib.hid hXb
      have HXe := Lib.hid hXe
      clear pQ hXb hXe
      go_wp2_with fail
      have P3 : Hid (Pg (w2.setCell ⟨gQ, 18 + K, none⟩ (.int .u8 X)) gP cP (pageF n0 f0)) := Lib.hid ⟨P2.out.row.setOther _ _ (by simpa using fun e => hne e.symm), P2.out.max, P2.out.byte⟩
      have Q3 : Hid (Pg (w2.setCell ⟨gQ, 18 + K, none⟩ (.int .u8 X)) gQ cQ (putF (pageF n0 f0) (18 + K) X)) := Lib.hid ⟨(Q2.out.row.set _ _).congr (fun i _ => by unfold bytesV putF; split <;> rfl), Q2.out.max, fun i hi => by
        unfold putF
        split
        · exact HXb.out
        · exact Q2.out.byte i hi⟩
      have B3 := Lib.hid (B2.out.setCell (p := ⟨gQ, 18 + K, none⟩) hwQ (.int .u8 X))
      generalize w2.setCell ⟨gQ, 18 + K, none⟩ (.int .u8 X) = w3 at *
      clear P2 Q2 B2 cq zq hne hwQ hcap
      have gd := fun i (hi : i < 512) => guard_put (m % 65535 + 1) (pageF n0 f0) (18 + K) X (by omega) (by have := HK.out; omega) i hi
      have gp := guard_pos (m % 65535 + 1) (pageF n0 f0) (18 + K) (by omega) (by have := HK.out; omega)
      have gl : posG (18 + K) < 512 := posG_lt (by have := HK.out; omega)
      have LM := Lib.hid (fun (W : World) => lawmarked_any m W Hm.out)
      have hM : 1 ≤ m % 65535 + 1 ∧ m % 65535 + 1 ≤ 65535 := by omega
      generalize m % 65535 + 1 = M at *
      generalize posG (18 + K) = q at *
      generalize hx0 : pageF n0 f0 (18 + K) = x0 at *
      have Hx0 := Lib.hid hx0; clear hx0
      have Gd := Lib.hid gd; clear gd
      have Gp := Lib.hid gp; clear gp
      clear hX
      refine (LM.out _).mono ?_
      rintro e w4 ⟨rfl, rfl⟩
      go_wp2_with fail
      refine (guard_p _ _ M hM _ (fun i hi => by unfold pageF; rw [if_pos (.inl hi)]) _ P3.out).mono ?_
      rintro e w4 ⟨gX, cX, rfl, -, pX, hb⟩
      have Q4 := Lib.hid (Q3.out.all hb)
      have X4 := Lib.hid pX
      have B4 := Lib.hid (B3.out.trans (hb.mono B3.out.size)); clear hb B3 P3 Q3 pX
      go_wp2_with fail
      refine (LM.out _).mono ?_
      rintro e w5 ⟨rfl, rfl⟩
      go_wp2_with fail
      refine (guard_p _ _ M hM _ (fun i hi => by unfold putF pageF; rw [if_neg (by omega), if_pos (.inl hi)]) _ Q4.out).mono ?_
      rintro e w5 ⟨gY, cY, rfl, -, pY, hb⟩
      have X5 := Lib.hid (X4.out.all hb)
      have Y5 := Lib.hid (Pg.congr (f' := putF (guardF M (pageF n0 f0)) q X) pY (fun i hi => Gd.out i hi))
      have B5 := Lib.hid (B4.out.trans (hb.mono B4.out.size)); clear hb B4 Q4 X4 pY
      have hcX := X5.out.row.le
      have hcY := Y5.out.row.le
      go_wp2_with fail
      generalize hd : (x0 != X) = d at *
      have Hd := Lib.hid hd; clear hd
      go_loopw [16, 17] (fun u t wr => ∃ k : Nat, k ≤ 512 ∧ t = .int .i64 k ∧ u = .int .i64 (cntC q d k) ∧ Below w5.heap.size w5 wr) (fun _ t _ => 512 - (intOf t).toNat)
      case atStart => exact ⟨0, by omega, rfl, by rw [cntC_zero], Below.refl _ _⟩
      case round =>
        obtain ⟨k, hk, rfl, rfl, hb⟩ := hrel
        have Hb := Lib.hid hb; clear hb
        by_cases hlt : k < 512
        · have cx := (X5.out.all Hb.out).row.cell (i := k) hlt
          have cy := (Y5.out.all Hb.out).row.cell (i := k) hlt
          unfold bytesV at cx cy
          unfold putF at cy
          have ⟨cb1, cb2⟩ := cntC_bound q d k
          by_cases hq : k = q
          · subst hq
            rw [if_pos rfl] at cy
            rw [Gp.out] at cx
            rcases hdd : (x0 != X) with _ | _
            · have hn := cntC_other (q := k) (d := d) (k := k) (.inr (by rw [← Hd.out, hdd]))
              have Hn := Lib.hid hn; clear hn
              generalize cntC k d k = z at *
              go_wp2
              go_quiet (fail)
              go_wp2
              go_roundw
              case rel => exact ⟨k + 1, by omega, by go_num, by rw [Hn.out], Hb.out.trans (below_drewN _ _ _)⟩
              case measure => simp [intOf]; omega
            · have hdt : d = true := by rw [← Hd.out, hdd]
              obtain ⟨hn1, hn2⟩ := cntC_hit k
              rw [← hdt] at hn1 hn2
              rw [hn2]
              have Hn := Lib.hid hn1; clear hn1 hn2 cb1 cb2
              go_wp2
              go_quiet (fail)
              go_wp2
              go_roundw
              case rel => exact ⟨k + 1, by omega, by go_num, by rw [Hn.out], Hb.out.trans (below_drewN _ _ _)⟩
              case measure => simp [intOf]; omega
          · rw [if_neg hq] at cy
            have hn := cntC_other (q := q) (d := d) (k := k) (.inl hq)
            have Hn := Lib.hid hn; clear hn
            generalize cntC q d k = z at *
            go_wp2
            go_quiet (fail)
            go_wp2
            go_roundw
            case rel => exact ⟨k + 1, by omega, by go_num, by rw [Hn.out], Hb.out.trans (below_drewN _ _ _)⟩
            case measure => simp [intOf]; omega
        · obtain rfl : k = 512 := by omega
          have hc : cntC q d 512 = if d = true then 1 else 0 := by unfold cntC; simp [gl]
          go_wp2_with fail
          refine (sanity_any _).mono ?_
          rintro e w8 ⟨rfl, hb⟩
          have B8 := Lib.hid ((B5.out.trans (Hb.out.mono B5.out.size)).trans (hb.mono (by have := B5.out.size; have := Hb.out.size; omega))); clear hb
          by_cases hy0 : y = 0
          · have hdf : d = false := by rw [← Hd.out, HXe.out.2 hy0]; simp
            rw [hc, hdf, hy0]
            clear hc hdf
            go_wp2_with fail
            go_ret
            exact ⟨rfl, B8.out⟩
          · have hdt : d = true := by
              rw [← Hd.out, bne_iff_ne]
              intro h
              exact hy0 (HXe.out.1 h.symm)
            have hy1 : (y == 0) = false := by rw [beq_eq_false_iff_ne]; exact hy0
            have hy2 : (y != 0) = true := by rw [bne_iff_ne]; exact hy0
            rw [hc, hdt]
            clear hc hdt
            go_wp2_with fail
            go_ret
            exact ⟨rfl, B8.out⟩
  · go_enter Try.func7, Try.ntmps7
    go_wp2_with fail
    refine (sanity_any _).mono ?_
    rintro e w8 ⟨rfl, hb⟩
    go_wp2_with fail
    go_ret
    exact ⟨rfl, hb⟩

end Go.Proofs.Ytjfcjpkfefmhlaa
