/- FixTorn. -/
import Derived.Test.YtjfcjpkfefmhlaaLawH
namespace Go.Proofs.Ytjfcjpkfefmhlaa
open Go.RowKit
attribute [local go_sem] Oper.semAt_some

theorem tornL_le (f : Nat → Int) (k n : Nat) (h : k ≤ n) : (tornL f k).length ≤ (tornL f n).length := by
  induction n with
  | zero => obtain rfl : k = 0 := by omega
            exact Nat.le_refl _
  | succ n ih =>
    by_cases hk : k = n + 1
    · subst hk; exact Nat.le_refl _
    · have := ih (by omega)
      rw [tornL_succ]
      split
      · rw [List.length_append]; omega
      · exact this

theorem tornL_at (f : Nat → Int) (k : Nat) (hp : tornP f k = true) (n : Nat) (h : k < n) : (tornL f n).getD (tornL f k).length 0 = (k : Int) := by
  induction n with
  | zero => omega
  | succ n ih =>
    by_cases hk : k = n
    · subst hk
      rw [tornL_succ, if_pos hp]
      simp [List.getD_eq_getElem?_getD]
    · have h1 := ih (by omega)
      have h2 : (tornL f k).length < (tornL f n).length := by
        have h3 := tornL_le f (k + 1) n (by omega)
        rw [tornL_succ, if_pos hp, List.length_append] at h3
        simp at h3
        omega
      rw [tornL_succ]
      split
      · rw [← h1, List.getD_eq_getElem?_getD, List.getD_eq_getElem?_getD, List.getElem?_append_left h2]
      · exact h1

theorem tornP_two (M N : Int) (hM : M ≠ 0) (hN : N ≠ 0) (hne : N ≠ M) (f g : Nat → Int) (O : Nat) (s : Nat) (hs : s < 8) :
    tornP (blendF (bitI O) (guardF M f) (guardF N g)) s = (O.testBit s != O.testBit 0) := by
  unfold tornP
  rw [markI_two M N f g O s hs, markI_two M N f g O 0 (by omega)]
  have h1 : (M != N) = true := by rw [bne_iff_ne]; exact fun e => hne e.symm
  have h2 : (N != M) = true := by rw [bne_iff_ne]; exact hne
  have h3 : (M == 0) = false := by rw [beq_eq_false_iff_ne]; exact hM
  have h4 : (N == 0) = false := by rw [beq_eq_false_iff_ne]; exact hN
  cases O.testBit s <;> cases O.testBit 0 <;> simp [h1, h2, h3, h4]

theorem torn_two (M N : Int) (hne : N ≠ M) (f g : Nat → Int) (O : Nat) (hO : O < 256) (h0 : O ≠ 0) (h1 : O ≠ 255) :
    wholeB (blendF (bitI O) (guardF M f) (guardF N g)) = false := by
  cases h : wholeB (blendF (bitI O) (guardF M f) (guardF N g))
  · rfl
  · exfalso
    have hw := fun s hs => (wholeB_iff.1 h s hs).2
    have hall : ∀ s, s < 8 → O.testBit s = O.testBit 0 := by
      intro s hs
      have := hw s hs
      rw [markI_two M N f g O s hs, markI_two M N f g O 0 (by omega)] at this
      revert this
      cases O.testBit s <;> cases O.testBit 0 <;> simp
      · exact fun e => hne e.symm
      · exact hne
    cases hb : O.testBit 0
    · apply h0
      apply Nat.eq_of_testBit_eq
      intro s
      rw [Nat.zero_testBit]
      by_cases hs : s < 8
      · rw [hall s hs, hb]
      · have hp : (2 : Nat) ^ 8 ≤ 2 ^ s := Nat.pow_le_pow_right (by decide) (by omega)
        exact Nat.testBit_lt_two_pow (by omega)
    · apply h1
      have := (or255 O O hO hO).2 (fun s hs => .inl (by rw [hall s hs, hb]))
      rwa [Nat.or_self] at this

theorem tornL_whole (f : Nat → Int) (h : wholeB f = true) (k : Nat) (hk : k ≤ 8) : tornL f k = [] := by
  induction k with
  | zero => rfl
  | succ k ih =>
    rw [tornL_succ, if_neg, ih (by omega)]
    unfold tornP
    have hs := wholeB_iff.1 h k (by omega)
    have h0 := wholeB_iff.1 h 0 (by omega)
    have e1 : (markI f k != markI f 0) = false := by simp [hs.2]
    have e2 : (markI f 0 == 0) = false := by rw [beq_eq_false_iff_ne]; exact h0.1
    simp [e1, e2]

theorem torn_p (g cap : Nat) (f : Nat → Int) (w : World) (hc : Pg w g cap f) :
    Calls Try.prog 25 #[.slice (some ⟨g, 0, none⟩) 512 cap] w fun e w' =>
      ∃ v, e = .returned (.tuple #[v, .int .i64 0]) ∧ IntsAt w' v (tornL f 8) ∧ Below w.heap.size w w' := by
  refine (torn_ok g 0 cap hc.row.le hc.max f hc.byte w hc.row.reads).mono ?_
  rintro e w' ⟨v, rfl, ho, hb⟩
  exact ⟨v, rfl, IntsAt.own ho, hb⟩

theorem bit_shr (O s : Nat) : Int.tmod ((O : Int) / 2 ^ s) 2 = if O.testBit s = true then 1 else 0 := by
  rw [Int.tmod_eq_emod_of_nonneg (Int.ediv_nonneg (by omega) (Int.pow_nonneg (by decide)))]
  rw [← bitI_nat]
  unfold bitI
  have h := Int.emod_two_eq ((O : Int) / 2 ^ s)
  rcases h with h | h <;> rw [h] <;> simp

set_option maxRecDepth 8000 in
set_option maxHeartbeats 8000000 in
theorem fixTorn_walk (v0 : Value) (n0 : Nat) (f0 : Nat → Int) (v1 : Value) (n1 : Nat) (f1 : Nat → Int) (m j o : Int) (w : World) (h0 : ByteArg w v0 n0 f0) (h1 : ByteArg w v1 n1 f1)
    (hm : (Lit.int .i64 m).wf = true) (hj : (Lit.int .i64 j).wf = true) (_ : (Lit.int .i64 o).wf = true) :
    Calls Try.prog 10 #[v0, v1, .int .i64 m, .int .i64 j, .int .i64 o] w (FinContent w) := by
  obtain ⟨a0, c0, rfl⟩ := h0.slice
  obtain ⟨a1, c1, rfl⟩ := h1.slice
  have H0 := Lib.hid h0; clear h0
  have H1 := Lib.hid h1; clear h1
  obtain ⟨O, hO, ho⟩ := and255_nat o
  have HO := Lib.hid hO
  have hM : 1 ≤ m % 65535 + 1 ∧ m % 65535 + 1 ≤ 65535 := by omega
  have LM := Lib.hid (fun (W : World) => lawmarked_any m W hm)
  have hJ : 1 ≤ j % 65535 + 1 ∧ j % 65535 + 1 ≤ 65535 := by omega
  have LJ := Lib.hid (fun (W : World) => lawmarked_any j W hj)
  clear hm hj
  generalize m % 65535 + 1 = M at *
  generalize j % 65535 + 1 = J at *
  by_cases hl : n0 ≤ 2000
  · by_cases hl1 : n1 ≤ 2000
    · obtain ⟨N, hN, hne, hcase⟩ : ∃ N, (1 ≤ N ∧ N ≤ 65535) ∧ N ≠ M ∧ (((M == J) = true ∧ ∃ R, Int.tmod J 65535 = R ∧ 0 ≤ R ∧ R < 65535 ∧ R + 1 = N) ∨ ((M == J) = false ∧ N = J)) := by
        by_cases hMJ : M = J
        · refine ⟨J % 65535 + 1, by omega, by omega, .inl ⟨by simpa using hMJ, J % 65535, Int.tmod_eq_emod_of_nonneg (by omega), by omega, by omega, rfl⟩⟩
        · exact ⟨J, hJ, fun e => hMJ e.symm, .inr ⟨by rw [beq_eq_false_iff_ne]; exact hMJ, rfl⟩⟩
      have Hne := Lib.hid hne; clear hne
      rcases hcase with ⟨hMJ, R, hR, hR0, hR1, hRN⟩ | ⟨hMJ, rfl⟩
      all_goals
        go_enter Try.func10, Try.ntmps10
        go_wp2_with fail
        refine (LM.out _).mono ?_
        rintro e w' ⟨rfl, rfl⟩
        go_wp2_with fail
        refine (LJ.out _).mono ?_
        rintro e w' ⟨rfl, rfl⟩
        go_wp2_with fail
        refine (page_p _ _ _ _ (by omega) H0.out).mono ?_
        rintro e w1 ⟨gP, cP, rfl, -, pP, hb⟩
        have P1 := Lib.hid pP
        have A1 := Lib.hid (H0.out.all hb)
        have C1 := Lib.hid (H1.out.all hb)
        have B1 := Lib.hid hb; clear hb pP
        go_wp2_with fail
        refine (guard_p _ _ M hM _ (fun i hi => by unfold pageF; rw [if_pos (.inl hi)]) _ P1.out).mono ?_
        rintro e w2 ⟨gX, cX, rfl, -, pX, hb⟩
        have X2 := Lib.hid pX
        have A2 := Lib.hid (A1.out.all hb)
        have C2 := Lib.hid (C1.out.all hb)
        have B2 := Lib.hid (B1.out.trans (hb.mono B1.out.size)); clear hb pX B1 P1 C1 A1
        go_wp2_with fail
        refine (page_p _ _ _ _ (by omega) C2.out).mono ?_
        rintro e w3 ⟨gQ, cQ, rfl, -, pQ, hb⟩
        have Q3 := Lib.hid pQ
        have X3 := Lib.hid (X2.out.all hb)
        have A3 := Lib.hid (A2.out.all hb)
        have C3 := Lib.hid (C2.out.all hb)
        have B3 := Lib.hid (B2.out.trans (hb.mono B2.out.size)); clear hb pQ B2 X2 C2 A2
        go_wp2_with fail
        refine (guard_p _ _ N hN _ (fun i hi => by unfold pageF; rw [if_pos (.inl hi)]) _ Q3.out).mono ?_
        rintro e w4 ⟨gY, cY, rfl, -, pY, hb⟩
        have Y4 := Lib.hid pY
        have X4 := Lib.hid (X3.out.all hb)
        have A4 := Lib.hid (A3.out.all hb)
        have C4 := Lib.hid (C3.out.all hb)
        have B4 := Lib.hid (B3.out.trans (hb.mono B3.out.size)); clear hb pY B3 X3 Q3 A3 C3
        have bF : Hid (Blank (pageF n0 f0)) := Lib.hid (fun i hi => by unfold pageF; rw [if_pos (.inl hi)])
        have bG : Hid (Blank (pageF n1 f1)) := Lib.hid (fun i hi => by unfold pageF; rw [if_pos (.inl hi)])
        go_wp2_with fail
        refine (blend_p _ _ _ _ O (by omega) (by have := HO.out; omega) _ _ _ X4.out Y4.out).mono ?_
        rintro e w5 ⟨gC, cC, rfl, -, pC, hb⟩
        have A5 := Lib.hid (A4.out.all hb)
        have C5 := Lib.hid (C4.out.all hb)
        have B5 := Lib.hid (B4.out.trans (hb.mono B4.out.size)); clear hb B4 X4 Y4 A4 C4
        by_cases hO0 : O = 0
        · subst hO0
          have pC := pC.congr (fun i hi => blend_none _ _ i hi)
          have hwh := guard_whole M (by omega) (pageF n0 f0)
          have D5 := Lib.hid pC; clear pC
          have htl := tornL_whole _ hwh 8 (Nat.le_refl _)
          have Hwh := Lib.hid hwh; clear hwh
          have Htl := Lib.hid htl; clear htl
          go_wp2_with fail
          refine (open_p _ _ _ Hwh.out _ D5.out).mono ?_
          rintro e w6 ⟨gO, cO, rfl, -, pO, hb⟩
          have pO : Pg w6 gO cO (pageF n0 f0) := Pg.congr pO (fun i hi => open_guard M _ bF.out i hi)
          rw [guard_markI M _ 0 (by omega)]
          have A6 := Lib.hid (A5.out.all hb)
          have D6 := Lib.hid (D5.out.all hb)
          have O6 := Lib.hid pO
          have B6 := Lib.hid (B5.out.trans (hb.mono B5.out.size)); clear hb pO B5 A5 C5 D5
          go_wp2_with fail
          refine (torn_p _ _ _ _ D6.out).mono ?_
          rintro e w7 ⟨vT, rfl, hT, hb⟩
          rw [Htl.out] at hT
          obtain ⟨aT, cT, rfl⟩ := hT.slice
          have A7 := Lib.hid (A6.out.all hb)
          have O7 := Lib.hid (O6.out.all hb)
          have B7 := Lib.hid (B6.out.trans (hb.mono B6.out.size)); clear hb hT B6 A6 O6 D6
          go_wp2_with fail
          have hd : Below w7.heap.size w7 w7.drew := (Below.refl _ w7).drew
          have sO := O7.out.str
          go_region_held (fun w' => (convert 22 9 (.slice (some ⟨gO, 0, none⟩) 512 cO)).run Try.prog w' = .ok (.string (strF 512 (pageF n0 f0))) w' ∧ Below w7.heap.size w7 w')
            (exact ⟨(O7.out.all (by assumption)).str, by assumption⟩)
            (first | (go_at_call 12; refine (sanity_any _).mono ?_; rintro e w8 ⟨rfl, hb⟩; replace hd := hd.trans (hb.mono hd.size); clear hb) | (go_at_call 19; refine (page_p _ _ _ _ (by omega) (A7.out.all hd)).mono ?_; rintro e w9 ⟨gP2, cP2, rfl, -, pP2, hb⟩; have sP2 := pP2.str; replace hd := hd.trans (hb.mono hd.size); clear hb))
          have B8 := Lib.hid (B7.out.trans (hd.mono B7.out.size)); clear hd
          go_wp2_with fail
          go_ret
          exact ⟨rfl, B8.out⟩
        · have hE0 : ((O : Int) == 0) = false := by rw [beq_eq_false_iff_ne]; omega
          by_cases hO1 : O = 255
          · subst hO1
            have pC := pC.congr (fun i hi => blend_all _ _ i hi)
            have hwh := guard_whole N (by omega) (pageF n1 f1)
            have D5 := Lib.hid pC; clear pC
            have htl := tornL_whole _ hwh 8 (Nat.le_refl _)
            have Hwh := Lib.hid hwh; clear hwh
            have Htl := Lib.hid htl; clear htl
            go_wp2_with fail
            refine (open_p _ _ _ Hwh.out _ D5.out).mono ?_
            rintro e w6 ⟨gO, cO, rfl, -, pO, hb⟩
            have pO : Pg w6 gO cO (pageF n1 f1) := Pg.congr pO (fun i hi => open_guard N _ bG.out i hi)
            rw [guard_markI N _ 0 (by omega)]
            have A6 := Lib.hid (C5.out.all hb)
            have D6 := Lib.hid (D5.out.all hb)
            have O6 := Lib.hid pO
            have B6 := Lib.hid (B5.out.trans (hb.mono B5.out.size)); clear hb pO B5 A5 C5 D5
            go_wp2_with fail
            refine (torn_p _ _ _ _ D6.out).mono ?_
            rintro e w7 ⟨vT, rfl, hT, hb⟩
            rw [Htl.out] at hT
            obtain ⟨aT, cT, rfl⟩ := hT.slice
            have A7 := Lib.hid (A6.out.all hb)
            have O7 := Lib.hid (O6.out.all hb)
            have B7 := Lib.hid (B6.out.trans (hb.mono B6.out.size)); clear hb hT B6 A6 O6 D6
            go_wp2_with fail
            have hd : Below w7.heap.size w7 w7.drew := (Below.refl _ w7).drew
            have sO := O7.out.str
            go_region_held (fun w' => (convert 22 9 (.slice (some ⟨gO, 0, none⟩) 512 cO)).run Try.prog w' = .ok (.string (strF 512 (pageF n1 f1))) w' ∧ Below w7.heap.size w7 w')
              (exact ⟨(O7.out.all (by assumption)).str, by assumption⟩)
              (first | (go_at_call 12; refine (sanity_any _).mono ?_; rintro e w8 ⟨rfl, hb⟩; replace hd := hd.trans (hb.mono hd.size); clear hb) | (go_at_call 19; refine (page_p _ _ _ _ (by omega) (A7.out.all hd)).mono ?_; rintro e w9 ⟨gP2, cP2, rfl, -, pP2, hb⟩; have sP2 := pP2.str; replace hd := hd.trans (hb.mono hd.size); clear hb))
            have B8 := Lib.hid (B7.out.trans (hd.mono B7.out.size)); clear hd
            go_wp2_with fail
            go_ret
            exact ⟨rfl, B8.out⟩
          · have hE1 : ((O : Int) == 255) = false := by rw [beq_eq_false_iff_ne]; omega
            have htw := torn_two M N Hne.out (pageF n0 f0) (pageF n1 f1) O hO hO0 hO1
            have htp := fun s hs => tornP_two M N (by omega) (by omega) Hne.out (pageF n0 f0) (pageF n1 f1) O s hs
            have D5 := Lib.hid pC; clear pC
            generalize blendF (bitI O) (guardF M (pageF n0 f0)) (guardF N (pageF n1 f1)) = Z at *
            have Htw := Lib.hid htw; clear htw
            have Htp := Lib.hid htp; clear htp hO0 hO1
            go_wp2_with fail
            refine (open_p_torn _ _ _ Htw.out _ D5.out).mono ?_
            rintro e w6 ⟨rfl, hb⟩
            have D6 := Lib.hid (D5.out.all hb)
            have B6 := Lib.hid (B5.out.trans (hb.mono B5.out.size)); clear hb B5 A5 C5 D5
            go_wp2_with fail
            refine (torn_p _ _ _ _ D6.out).mono ?_
            rintro e w7 ⟨vT, rfl, hT, hb⟩
            obtain ⟨aT, cT, rfl⟩ := hT.slice
            have HT := Lib.hid hT; clear hT
            have B7 := Lib.hid (B6.out.trans (hb.mono B6.out.size)); clear hb B6 D6
            go_wp2_with fail
            have hb0 : Int.tmod (O : Int) 2 = if O.testBit 0 = true then 1 else 0 := by
              have := bit_shr O 0
              simpa using this
            have HB0 := Lib.hid hb0; clear hb0
            go_loop [22, 23] (fun u t => ∃ k : Nat, k ≤ 8 ∧ t = .int .i64 k ∧ u = .int .i64 ((tornL Z k).length : Nat)) (fun _ t => 8 - (intOf t).toNat)
            case atStart => exact ⟨0, by omega, rfl, rfl⟩
            case round =>
              obtain ⟨k, hk, rfl, rfl⟩ := hrel
              have hA8 := tornL_len Z k
              by_cases hlt : k < 8
              · have hbk := bit_shr O k
                have hb0 := HB0.out
                have hpk := Htp.out k hlt
                have hsu := tornL_succ Z k
                by_cases hp : tornP Z k = true
                · have hat := tornL_at Z k hp 8 hlt
                  have hlen : (tornL Z (k + 1)).length = (tornL Z k).length + 1 := by rw [hsu, if_pos hp, List.length_append]; rfl
                  have hle := tornL_le Z (k + 1) 8 hlt
                  have hc8 := HT.out
                  rcases hc8 with ⟨h, _⟩ | ⟨b8, off8, cap8, hv8, hp8, hc8, hcl⟩
                  · rw [h, hlen, List.length_nil] at hle; omega
                  · cases hv8
                    have hcell := hcl (tornL Z k).length (by omega)
                    unfold listV at hcell
                    rw [hat] at hcell
                    have hle2 : (tornL Z k).length + 1 ≤ (tornL Z 8).length := by omega
                    have Hlen := Lib.hid hlen
                    rw [hp] at hpk
                    clear hsu hat hlen hle hcl hp
                    generalize (tornL Z k).length = A at *
                    generalize (tornL Z 8).length = n8 at *
                    cases hx : O.testBit k <;> cases hy : O.testBit 0 <;> rw [hx, hy] at hpk <;> simp at hpk
                    all_goals
                      rw [hx] at hbk
                      rw [hy] at hb0
                      simp only [if_true, Bool.false_eq_true, if_false] at hbk hb0
                      clear hx hy
                      go_wp2
                      go_round
                      case rel => exact ⟨k + 1, by omega, by go_num, by rw [Hlen.out]; go_num⟩
                      case measure => simp [intOf]; omega
                · have hp : tornP Z k = false := by simpa using hp
                  have hlen : (tornL Z (k + 1)).length = (tornL Z k).length := by rw [hsu, if_neg (by rw [hp]; simp)]
                  have Hlen := Lib.hid hlen
                  rw [hp] at hpk
                  clear hsu hlen hp
                  generalize (tornL Z k).length = A at *
                  cases hx : O.testBit k <;> cases hy : O.testBit 0 <;> rw [hx, hy] at hpk <;> simp at hpk
                  all_goals
                    rw [hx] at hbk
                    rw [hy] at hb0
                    simp only [if_true, Bool.false_eq_true, if_false] at hbk hb0
                    clear hx hy
                    go_wp2
                    go_round
                    case rel => exact ⟨k + 1, by omega, by go_num, by rw [Hlen.out]⟩
                    case measure => simp [intOf]; omega
              · obtain rfl : k = 8 := by omega
                generalize (tornL Z 8).length = n8 at *
                go_wp2_with fail
                refine (sanity_any _).mono ?_
                rintro e w8 ⟨rfl, hb⟩
                have B8 := Lib.hid (B7.out.trans (hb.mono B7.out.size)); clear hb
                go_wp2_with fail
                go_ret
                exact ⟨rfl, B8.out⟩
    · go_enter Try.func10, Try.ntmps10
      go_wp2_with fail
      refine (sanity_any _).mono ?_
      rintro e w8 ⟨rfl, hb⟩
      go_wp2_with fail
      go_ret
      exact ⟨rfl, hb⟩
  · go_enter Try.func10, Try.ntmps10
    go_wp2_with fail
    refine (sanity_any _).mono ?_
    rintro e w8 ⟨rfl, hb⟩
    go_wp2_with fail
    go_ret
    exact ⟨rfl, hb⟩

end Go.Proofs.Ytjfcjpkfefmhlaa
