/- FixMends. -/
import Derived.Test.YtjfcjpkfefmhlaaLawF
namespace Go.Proofs.Ytjfcjpkfefmhlaa
open Go.RowKit
attribute [local go_sem] Oper.semAt_some

theorem markI_congr {f g : Nat → Int} (h : ∀ i, i < 512 → f i = g i) (s : Nat) (hs : s < 8) : markI f s = markI g s := by
  unfold markI
  rw [h 0 (by omega), h 1 (by omega), h 62 (by omega), h 63 (by omega), h (64 * s + 62) (by omega), h (64 * s + 63) (by omega)]

theorem wholeB_congr {f g : Nat → Int} (h : ∀ i, i < 512 → f i = g i) : wholeB f = wholeB g := by
  rw [Bool.eq_iff_iff, wholeB_iff, wholeB_iff]
  constructor
  · intro H s hs
    rw [← markI_congr h s hs, ← markI_congr h 0 (by omega)]
    exact H s hs
  · intro H s hs
    rw [markI_congr h s hs, markI_congr h 0 (by omega)]
    exact H s hs

theorem and7_nat (m : Int) : ∃ M : Nat, M < 8 ∧ bits .and .i64 m 7 = (M : Int) := ⟨(m % 8).toNat, by omega, by rw [and7_i64]; omega⟩

/-- f with the first k bytes of sector s turned to J. -/
def badK (f J : Nat → Int) (s k i : Nat) : Int := if 64 * s ≤ i ∧ i < 64 * s + k then J (i - 64 * s) else f i
theorem badK_zero (f J : Nat → Int) (s i : Nat) : badK f J s 0 i = f i := by unfold badK; rw [if_neg (by omega)]
theorem badK_succ (f J : Nat → Int) (s k i : Nat) (x : Int) (hx : x = J k) : (if i = 64 * s + k then x else badK f J s k i) = badK f J s (k + 1) i := by
  unfold badK
  by_cases h : i = 64 * s + k
  · rw [if_pos h, if_pos (by omega), hx]; congr 1; omega
  · rw [if_neg h]
    by_cases h2 : 64 * s ≤ i ∧ i < 64 * s + k
    · rw [if_pos h2, if_pos (by omega)]
    · rw [if_neg h2, if_neg (by omega)]

def junkF (n : Nat) (f : Nat → Int) (i : Nat) : Int := if i < n then f i else 0

theorem mend_bad_back (f J : Nat → Int) (s i : Nat) : mendF (badK f J s 64) (fun i => f (64 * s + i)) s i = f i := by
  unfold mendF badK
  by_cases h : 64 * s ≤ i ∧ i < 64 * s + 64
  · rw [if_pos h]
    show f (64 * s + (i - 64 * s)) = f i
    congr 1
    omega
  · rw [if_neg h, if_neg h]

set_option maxRecDepth 8000 in
set_option maxHeartbeats 4000000 in
theorem fixMends_walk (v0 : Value) (n0 : Nat) (f0 : Nat → Int) (m j : Int) (v1 : Value) (n1 : Nat) (f1 : Nat → Int) (w : World) (h0 : ByteArg w v0 n0 f0) (hm : (Lit.int .i64 m).wf = true) (_ : (Lit.int .i64 j).wf = true) (h1 : ByteArg w v1 n1 f1) :
    Calls Try.prog 9 #[v0, .int .i64 m, .int .i64 j, v1] w (FinContent w) := by
  have hjb : ∀ i, 0 ≤ junkF n1 f1 i ∧ junkF n1 f1 i < 256 := by
    intro i
    unfold junkF
    split
    · rcases h1 with ⟨_, _⟩ | ⟨_, _, _, _, _, _, _, _, hf⟩
      · omega
      · exact hf i (by assumption)
    · omega
  have Hjb := Lib.hid hjb; clear hjb
  obtain ⟨a0, c0, rfl⟩ := h0.slice
  have H0 := Lib.hid h0; clear h0
  have H1 := Lib.hid h1
  obtain ⟨a1, c1, rfl⟩ := h1.slice
  clear h1
  have Hm := Lib.hid hm; clear hm
  obtain ⟨S, hS, hj⟩ := and7_nat j
  by_cases hl : n0 ≤ 2000
  · by_cases hl1 : n1 ≤ 2000
    · go_enter Try.func9, Try.ntmps9
      go_wp2_with fail
      refine (page_p _ _ _ _ (by omega) H0.out).mono ?_
      rintro e w1 ⟨gP, cP, rfl, -, pP, hb⟩
      have P1 := Lib.hid pP
      have C1 := Lib.hid (H1.out.all hb)
      have B1 := Lib.hid hb; clear hb pP
      go_wp2_with fail
      refine (lawmarked_any _ _ Hm.out).mono ?_
      rintro e w' ⟨rfl, rfl⟩
      have hM : 1 ≤ m % 65535 + 1 ∧ m % 65535 + 1 ≤ 65535 := by omega
      generalize m % 65535 + 1 = M at *
      go_wp2_with fail
      refine (guard_p _ _ M hM _ (fun i hi => by unfold pageF; rw [if_pos (.inl hi)]) _ P1.out).mono ?_
      rintro e w2 ⟨gX, cX, rfl, -, pX, hb⟩
      have X2 := Lib.hid pX
      have C2 := Lib.hid (C1.out.all hb)
      have B2 := Lib.hid (B1.out.trans (hb.mono B1.out.size)); clear hb pX B1 P1 C1
      have Wh := Lib.hid (guard_whole M (by omega) (pageF n0 f0))
      generalize guardF M (pageF n0 f0) = F at *
      go_wp2_with (at_builtin; refine Hold.stop ?_)
      refine Hold.go ?_
      refine wpList_append_o rfl _ _ 22 5 _ _ rfl Try.underlying22 info_u8 rfl w2.heap.size _ 0 (fun _ => undef) rfl (.inr ⟨_, 0, rfl, Nat.le_refl _, RowAt.new w2 #[] _ _ 0 (Nat.le_refl _) (fun i hi => absurd hi (by omega)), by simp [maxLen]⟩) gX 0 512 cX (bytesV F) rfl (X2.out.row.alloc _).reads (fun _ _ => rfl) (by omega) (by decide) (by simp) ?_
      intro v' w3 hown hgr _ _
      obtain ⟨gB, cB, rfl, hgB, hrow, hmx⟩ := hown.row (by omega)
      rw [Nat.zero_add] at hrow ⊢
      have hb : Below w2.heap.size w2 w3 := ((Below.refl _ w2).alloc (Nat.le_refl _) _).grown hgr (by simp) (fun k hk => by simp [Value.ownBlock, Act.eval] at hk; omega)
      have hrow := hrow.congr (f' := bytesV (badK F (junkF n1 f1) S 0)) (fun i hi => by unfold bytesV; rw [badK_zero]; simp)
      have R3 := Lib.hid hrow
      have hb' := Lib.hid hb
      have hwB : w.heap.size ≤ gB := by have := B2.out.size; omega
      have hcB : 512 ≤ cB := hrow.le
      have hcX : 512 ≤ cX := X2.out.row.le
      have hne : gX ≠ gB := by have := X2.out.row.lt; omega
      clear hown hgr hb hrow C2
      have HgB := Lib.hid hgB; clear hgB
      have Hmx := Lib.hid hmx; clear hmx
      go_wp2_with fail
      go_loopw [12] (fun t wr => ∃ k : Nat, k ≤ 64 ∧ t = .int .i64 k ∧ RowAt wr gB 5 cB 512 (bytesV (badK F (junkF n1 f1) S k)) ∧ Below w2.heap.size w2 wr) (fun t _ => 64 - (intOf t).toNat)
      case atStart => exact ⟨0, by omega, rfl, R3.out, hb'.out⟩
      case round =>
        obtain ⟨k, hk, rfl, hr, hb⟩ := hrel
        have hw := B2.out.trans (hb.mono B2.out.size)
        have hx := X2.out.all hb
        by_cases hlt : k < 64
        · have ⟨u1, e1⟩ := hr.ex (i := 64 * S + k) (by omega)
          have z1 := hr.frozen (64 * S + k)
          have hr2 := hr.set (64 * S + k) (.int .u8 0)
          have ⟨u2, e2⟩ := hr2.ex (i := 64 * S + k) (by omega)
          have z2 := hr2.frozen (64 * S + k)
          have hb2 : Below w2.heap.size w2 (wr.setCell ⟨gB, 64 * S + k, none⟩ (.int .u8 0)) := hb.setCell HgB.out _
          by_cases hj1 : k < n1
          · have hj2 := H1.out
            rcases hj2 with ⟨h, _⟩ | ⟨b, off, cap, hv, hn0, hcap, hmx2, hc, _⟩
            · omega
            · cases hv
              have hcj := hc.below hw (hc.lt hn0) k hj1
              have hcj2 : (wr.setCell ⟨gB, 64 * S + k, none⟩ (.int .u8 0)).cell? ⟨b, off + k, none⟩ = some (.int .u8 (f1 k)) := by
                rw [World.cell?_setCell_far _ _ _ _ (by simp; have := hc.lt hn0; omega)]
                exact hcj
              have hr3 := hr2.set (64 * S + k) (.int .u8 (f1 k))
              have hb3 := hb2.setCell (p := ⟨gB, 64 * S + k, none⟩) HgB.out (.int .u8 (f1 k))
              have hr4 := hr3.congr (f' := bytesV (badK F (junkF n1 f1) S (k + 1))) (fun i _ => by
                have hh := badK_succ F (junkF n1 f1) S k i (f1 k) (by unfold junkF; rw [if_pos hj1])
                unfold bytesV
                rw [← hh]
                split <;> rfl)
              have HR := Lib.hid hr4
              have HB := Lib.hid hb3
              clear hr hr2 hr3 hr4 hb hb2 hb3 hc hcj hw hx
              go_wp2
              go_roundw
              case rel => exact ⟨k + 1, by omega, by go_num, HR.out, HB.out⟩
              case measure => simp [intOf]; omega
          · have hr4 := hr2.congr (f' := bytesV (badK F (junkF n1 f1) S (k + 1))) (fun i _ => by
                have hh := badK_succ F (junkF n1 f1) S k i 0 (by unfold junkF; rw [if_neg hj1])
                unfold bytesV
                rw [← hh]
                split <;> rfl)
            have HR := Lib.hid hr4
            have HB := Lib.hid hb2
            clear hr hr2 hr4 hb hb2 hw hx
            go_wp2
            go_roundw
            case rel => exact ⟨k + 1, by omega, by go_num, HR.out, HB.out⟩
            case measure => simp [intOf]; omega
        · obtain rfl : k = 64 := by omega
          have HR := Lib.hid hr; clear hr
          have HW := Lib.hid hw; clear hw
          have HX := Lib.hid hx; clear hx hb
          go_wp2_with fail
          have hF := HX.out.byte
          have hcs : Cells wr gX (64 * S) 64 (bytesV (fun i => F (64 * S + i))) := by
            have := HX.out.row.reads.drop (64 * S) 64 (by omega)
            rw [Nat.zero_add] at this
            exact this
          have hwm : wholeB (mendF (badK F (junkF n1 f1) S 64) (fun i => F (64 * S + i)) S) = true := by
            rw [wholeB_congr (g := F) (fun i _ => mend_bad_back F _ S i)]
            exact Wh.out
          have hmb : ∀ i, i < 512 → 0 ≤ badK F (junkF n1 f1) S 64 i ∧ badK F (junkF n1 f1) S 64 i < 256 := fun i hi => by
            unfold badK
            split
            · exact Hjb.out _
            · exact hF i hi
          refine (mend_main gB 0 cB gX (64 * S) (cX - 64 * S) (by omega) S hS (badK F (junkF n1 f1) S 64) (fun i => F (64 * S + i)) hmb (fun i hi => hF _ (by omega)) wr HR.out.reads hcs).mono ?_
          intro e w5 h
          unfold MendPost at h
          rw [if_pos hwm] at h
          obtain ⟨gY, cY, rfl, -, hrY, hmY, hb⟩ := h
          have hrY := hrY.congr (f' := bytesV F) (fun i _ => by unfold bytesV; rw [mend_bad_back])
          have Y5 := Lib.hid (show Pg w5 gY cY F from ⟨hrY, hmY, hF⟩)
          have X5 := Lib.hid (HX.out.all hb)
          have B5 := Lib.hid (HW.out.trans (hb.mono HW.out.size))
          clear hb hrY hmY hwm hmb hcs hF
          go_wp2_with fail
          refine (sanity_any _).mono ?_
          rintro e w7 ⟨rfl, hb⟩
          have s1 := (Y5.out.all hb).str
          have s2 := (X5.out.all hb).str
          have B7 := Lib.hid (B5.out.trans (hb.mono B5.out.size)); clear hb
          go_wp2_with fail
          go_ret
          exact ⟨rfl, B7.out⟩
    · go_enter Try.func9, Try.ntmps9
      go_wp2_with fail
      refine (sanity_any _).mono ?_
      rintro e w8 ⟨rfl, hb⟩
      go_wp2_with fail
      go_ret
      exact ⟨rfl, hb⟩
  · go_enter Try.func9, Try.ntmps9
    go_wp2_with fail
    refine (sanity_any _).mono ?_
    rintro e w8 ⟨rfl, hb⟩
    go_wp2_with fail
    go_ret
    exact ⟨rfl, hb⟩

end Go.Proofs.Ytjfcjpkfefmhlaa
