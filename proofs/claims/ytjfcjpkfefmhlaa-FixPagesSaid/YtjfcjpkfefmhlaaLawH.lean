/- FixCopies. -/
import Derived.Test.YtjfcjpkfefmhlaaLawG
namespace Go.Proofs.Ytjfcjpkfefmhlaa
open Go.RowKit
attribute [local go_sem] Oper.semAt_some

theorem or255 (O T : Nat) (hO : O < 256) (hT : T < 256) : O ||| T = 255 ↔ ∀ s, s < 8 → O.testBit s = true ∨ T.testBit s = true := by
  constructor
  · intro h s hs
    have h1 := congrArg (Nat.testBit · s) h
    simp only [Nat.testBit_or] at h1
    have h2 : ∀ s, s < 8 → Nat.testBit 255 s = true := by decide
    rw [h2 s hs] at h1
    simpa using h1
  · intro h
    apply Nat.eq_of_testBit_eq
    intro s
    rw [Nat.testBit_or]
    by_cases hs : s < 8
    · have h2 : ∀ s, s < 8 → Nat.testBit 255 s = true := by decide
      rw [h2 s hs]
      simpa using h s hs
    · have hp : (2 : Nat) ^ 8 ≤ 2 ^ s := Nat.pow_le_pow_right (by decide) (by omega)
      rw [Nat.testBit_lt_two_pow (by omega), Nat.testBit_lt_two_pow (by omega), Nat.testBit_lt_two_pow (by omega)]
      rfl

theorem and0 (O T : Nat) (hO : O < 256) (hT : T < 256) : O &&& T = 0 ↔ ∀ s, s < 8 → O.testBit s = false ∨ T.testBit s = false := by
  constructor
  · intro h s hs
    have h1 := congrArg (Nat.testBit · s) h
    simp only [Nat.testBit_and, Nat.zero_testBit] at h1
    revert h1
    cases O.testBit s <;> cases T.testBit s <;> simp
  · intro h
    apply Nat.eq_of_testBit_eq
    intro s
    rw [Nat.testBit_and, Nat.zero_testBit]
    by_cases hs : s < 8
    · have h1 := h s hs
      revert h1
      cases O.testBit s <;> cases T.testBit s <;> simp
    · have hp : (2 : Nat) ^ 8 ≤ 2 ^ s := Nat.pow_le_pow_right (by decide) (by omega)
      rw [Nat.testBit_lt_two_pow (by omega), Nat.testBit_lt_two_pow (by omega)]
      rfl

/-- The marks of a mixture. -/
theorem markI_blend (q : Nat → Bool) (f g : Nat → Int) (s : Nat) (hs : s < 8) : markI (blendF q f g) s = if q s = true then markI g s else markI f s := by
  have e0 : (64 * s + 62) / 64 = s := by omega
  have e1 : (64 * s + 63) / 64 = s := by omega
  unfold markI blendF
  rw [e0, e1]
  cases h : q s <;> by_cases h0 : s = 0
  · subst h0; simp [h]
  · simp [h0]
  · subst h0; simp [h]
  · simp [h0]

theorem markI_two (M N : Int) (f g : Nat → Int) (O : Nat) (s : Nat) (hs : s < 8) :
    markI (blendF (bitI O) (guardF M f) (guardF N g)) s = if O.testBit s = true then N else M := by
  rw [markI_blend _ _ _ s hs, bitI_nat, guard_markI _ _ _ hs, guard_markI _ _ _ hs]

section
variable {x y : Nat → Int} {M N : Int} {O T : Nat}

theorem best_new (hx : ∀ s, s < 8 → x s = if O.testBit s = true then N else M) (hy : ∀ s, s < 8 → y s = if T.testBit s = true then N else M)
    (hM : M ≠ 0) (hN : N ≠ 0) (hnew : newerF N M = true) (hold : newerF M N = false)
    (h : ∀ s, s < 8 → O.testBit s = true ∨ T.testBit s = true) : bestOf x y = N := by
  have hc : coversB x y N = true := by
    rw [coversB_iff]
    refine ⟨hN, fun s hs => ?_⟩
    rw [hx s hs, hy s hs]
    rcases h s hs with h | h <;> simp [h]
  have h0 := h 0 (by omega)
  have x0 := hx 0 (by omega)
  have y0 := hy 0 (by omega)
  have hNN := newerF_self N
  have hN0 : (N == 0) = false := by rw [beq_eq_false_iff_ne]; exact hN
  have hM0 : (M == 0) = false := by rw [beq_eq_false_iff_ne]; exact hM
  unfold bestOf
  rw [x0, y0]
  cases a : O.testBit 0 <;> cases b : T.testBit 0 <;> simp [a, b] at h0 ⊢
  · unfold betterB
    rw [hc]
    cases hm : coversB x y M <;> simp [hnew]
  · unfold betterB
    rw [hc]
    simp [hold, hN0]
  · unfold betterB
    rw [hc]
    simp

theorem best_old (hx : ∀ s, s < 8 → x s = if O.testBit s = true then N else M) (hy : ∀ s, s < 8 → y s = if T.testBit s = true then N else M)
    (hM : M ≠ 0) (hne : N ≠ M)
    (hn : ¬ ∀ s, s < 8 → O.testBit s = true ∨ T.testBit s = true) (h : ∀ s, s < 8 → O.testBit s = false ∨ T.testBit s = false) : bestOf x y = M := by
  have hc : coversB x y M = true := by
    rw [coversB_iff]
    refine ⟨hM, fun s hs => ?_⟩
    rw [hx s hs, hy s hs]
    rcases h s hs with h | h <;> simp [h]
  have hcn : coversB x y N = false := by
    cases hcc : coversB x y N
    · rfl
    · exfalso
      apply hn
      intro s hs
      have := (coversB_iff.1 hcc).2 s hs
      rw [hx s hs, hy s hs] at this
      cases a : O.testBit s <;> cases b : T.testBit s <;> simp [a, b] at this ⊢
      exact hne this.symm
  have h0 := h 0 (by omega)
  have x0 := hx 0 (by omega)
  have y0 := hy 0 (by omega)
  have hMM := newerF_self M
  have hM0 : (M == 0) = false := by rw [beq_eq_false_iff_ne]; exact hM
  unfold bestOf
  rw [x0, y0]
  cases a : O.testBit 0 <;> cases b : T.testBit 0 <;> simp [a, b] at h0 ⊢
  · unfold betterB
    rw [hc]
    simp
  · unfold betterB
    rw [hc, hcn]
    simp
  · unfold betterB
    rw [hc, hcn]
    simp

theorem best_none (hx : ∀ s, s < 8 → x s = if O.testBit s = true then N else M) (hy : ∀ s, s < 8 → y s = if T.testBit s = true then N else M)
    (hne : N ≠ M) (hn : ¬ ∀ s, s < 8 → O.testBit s = true ∨ T.testBit s = true) (h : ¬ ∀ s, s < 8 → O.testBit s = false ∨ T.testBit s = false) : bestOf x y = 0 := by
  have hcn : coversB x y N = false := by
    cases hcc : coversB x y N
    · rfl
    · exfalso
      apply hn
      intro s hs
      have := (coversB_iff.1 hcc).2 s hs
      rw [hx s hs, hy s hs] at this
      cases a : O.testBit s <;> cases b : T.testBit s <;> simp [a, b] at this ⊢
      exact hne this.symm
  have hcm : coversB x y M = false := by
    cases hcc : coversB x y M
    · rfl
    · exfalso
      apply h
      intro s hs
      have := (coversB_iff.1 hcc).2 s hs
      rw [hx s hs, hy s hs] at this
      cases a : O.testBit s <;> cases b : T.testBit s <;> simp [a, b] at this ⊢
      exact hne this
  have x0 := hx 0 (by omega)
  have y0 := hy 0 (by omega)
  unfold bestOf
  rw [x0, y0]
  unfold betterB
  cases a : O.testBit 0 <;> cases b : T.testBit 0 <;> simp [hcn, hcm]
end

theorem merged_new (M N : Int) (hne : N ≠ M) (O T : Nat) (f g : Nat → Int) (h : ∀ s, s < 8 → O.testBit s = true ∨ T.testBit s = true) (i : Nat) (hi : i < 512) :
    blendF (fun s => markI (blendF (bitI O) (guardF M f) (guardF N g)) s != N) (blendF (bitI O) (guardF M f) (guardF N g)) (blendF (bitI T) (guardF M f) (guardF N g)) i = guardF N g i := by
  have hx := markI_two M N f g O (i / 64) (by omega)
  have h1 := h (i / 64) (by omega)
  show (if (markI (blendF (bitI O) (guardF M f) (guardF N g)) (i / 64) != N) = true then _ else _) = _
  rw [hx]
  have hb : (M != N) = true := by rw [bne_iff_ne]; exact fun e => hne e.symm
  cases a : O.testBit (i / 64)
  · simp only [Bool.false_eq_true, if_false, hb, if_true]
    rw [a] at h1
    unfold blendF
    rw [if_pos (by rw [bitI_nat]; simpa using h1)]
  · simp only [if_true, bne_self_eq_false, Bool.false_eq_true, if_false]
    unfold blendF
    rw [if_pos (by rw [bitI_nat]; exact a)]

theorem merged_old (M N : Int) (hne : N ≠ M) (O T : Nat) (f g : Nat → Int) (h : ∀ s, s < 8 → O.testBit s = false ∨ T.testBit s = false) (i : Nat) (hi : i < 512) :
    blendF (fun s => markI (blendF (bitI O) (guardF M f) (guardF N g)) s != M) (blendF (bitI O) (guardF M f) (guardF N g)) (blendF (bitI T) (guardF M f) (guardF N g)) i = guardF M f i := by
  have hx := markI_two M N f g O (i / 64) (by omega)
  have h1 := h (i / 64) (by omega)
  show (if (markI (blendF (bitI O) (guardF M f) (guardF N g)) (i / 64) != M) = true then _ else _) = _
  rw [hx]
  have hb : (N != M) = true := by rw [bne_iff_ne]; exact hne
  cases a : O.testBit (i / 64)
  · simp only [Bool.false_eq_true, if_false, bne_self_eq_false]
    unfold blendF
    rw [if_neg (by rw [bitI_nat]; simp [a])]
  · simp only [if_true, hb]
    rw [a] at h1
    unfold blendF
    rw [if_neg (by rw [bitI_nat]; simpa using h1)]

theorem newerF_step (M K R : Int) (hM : 1 ≤ M ∧ M ≤ 65535) (hK : 0 ≤ K ∧ K < 32767) (hR : (M + K) % 65535 = R) : newerF (R + 1) M = true ∧ newerF M (R + 1) = false ∧ R + 1 ≠ M := by
  have h1 : R = M + K ∨ R = M + K - 65535 := by omega
  rcases h1 with rfl | rfl
  · refine ⟨?_, ?_, by omega⟩
    · rw [newerF_pos (by omega) (by omega), decide_eq_true_eq]; omega
    · rw [newerF_neg (by omega) (by omega), decide_eq_false_iff_not]; omega
  · refine ⟨?_, ?_, by omega⟩
    · rw [newerF_neg (by omega) (by omega), decide_eq_true_eq]; omega
    · rw [newerF_pos (by omega) (by omega), decide_eq_false_iff_not]; omega

set_option maxRecDepth 8000 in
set_option maxHeartbeats 4000000 in
theorem fixCopies_walk (v0 : Value) (n0 : Nat) (f0 : Nat → Int) (v1 : Value) (n1 : Nat) (f1 : Nat → Int) (m j o t : Int) (w : World) (h0 : ByteArg w v0 n0 f0) (h1 : ByteArg w v1 n1 f1)
    (hm : (Lit.int .i64 m).wf = true) (hj : (Lit.int .i64 j).wf = true) (_ : (Lit.int .i64 o).wf = true) (_ : (Lit.int .i64 t).wf = true) :
    Calls Try.prog 5 #[v0, v1, .int .i64 m, .int .i64 j, .int .i64 o, .int .i64 t] w (FinContent w) := by
  obtain ⟨a0, c0, rfl⟩ := h0.slice
  obtain ⟨a1, c1, rfl⟩ := h1.slice
  have H0 := Lib.hid h0; clear h0
  have H1 := Lib.hid h1; clear h1
  have Hm := Lib.hid hm; clear hm
  obtain ⟨r1, r2⟩ := i64_of_wf hj
  clear hj
  obtain ⟨O, hO, ho⟩ := and255_nat o
  obtain ⟨T, hT, ht⟩ := and255_nat t
  have hor := or_nat_i64 O T hO hT
  have hand := and_nat_i64 O T hO hT
  have hM : 1 ≤ m % 65535 + 1 ∧ m % 65535 + 1 ≤ 65535 := by omega
  have LM := Lib.hid (fun (W : World) => lawmarked_any m W Hm.out)
  generalize m % 65535 + 1 = M at *
  by_cases hl : n0 ≤ 2000
  · by_cases hl1 : n1 ≤ 2000
    · obtain ⟨K, hK, hKi, d, hd, htc⟩ : ∃ K : Int, 0 ≤ K ∧ K < 32767 ∧ ∃ d, Int.tmod j 32767 = d ∧ ((d < 0 ∧ -32767 < d ∧ d + 32767 = K) ∨ (¬ d < 0 ∧ d = K)) := by
        have hc := tmod_cases j 32767 (by omega)
        refine ⟨j % 32767, by omega, by omega, _, rfl, ?_⟩
        omega
      clear r1 r2
      obtain ⟨R, hR, hmod⟩ : ∃ R, (M + K) % 65535 = R ∧ Int.tmod (M + K) 65535 = R := ⟨_, rfl, Int.tmod_eq_emod_of_nonneg (by omega)⟩
      have ⟨nw1, nw2, nw3⟩ := newerF_step M K R hM (by omega) hR
      have hN : 1 ≤ R + 1 ∧ R + 1 ≤ 65535 := by omega
      have hRb : 0 ≤ R ∧ R < 65535 := by omega
      have NW1 := Lib.hid nw1
      have NW2 := Lib.hid nw2
      have NW3 := Lib.hid nw3
      clear nw1 nw2 nw3 hR
      rcases htc with ⟨tn, tb, te⟩ | ⟨tn, rfl⟩
      all_goals
        go_enter Try.func5, Try.ntmps5
        go_wp2_with fail
        refine (LM.out _).mono ?_
        rintro e w' ⟨rfl, rfl⟩
        go_wp2_with fail
        refine (page_p _ _ _ _ (by omega) H0.out).mono ?_
        rintro e w1 ⟨gP, cP, rfl, -, pP, hb⟩
        have P1 := Lib.hid pP
        have C1 := Lib.hid (H1.out.all hb)
        have B1 := Lib.hid hb; clear hb pP
        go_wp2_with fail
        refine (guard_p _ _ M hM _ (fun i hi => by unfold pageF; rw [if_pos (.inl hi)]) _ P1.out).mono ?_
        rintro e w2 ⟨gX, cX, rfl, -, pX, hb⟩
        have X2 := Lib.hid pX
        have C2 := Lib.hid (C1.out.all hb)
        have B2 := Lib.hid (B1.out.trans (hb.mono B1.out.size)); clear hb pX B1 P1 C1
        go_wp2_with fail
        refine (page_p _ _ _ _ (by omega) C2.out).mono ?_
        rintro e w3 ⟨gQ, cQ, rfl, -, pQ, hb⟩
        have Q3 := Lib.hid pQ
        have X3 := Lib.hid (X2.out.all hb)
        have B3 := Lib.hid (B2.out.trans (hb.mono B2.out.size)); clear hb pQ B2 X2 C2
        go_wp2_with fail
        refine (guard_p _ _ (R + 1) hN _ (fun i hi => by unfold pageF; rw [if_pos (.inl hi)]) _ Q3.out).mono ?_
        rintro e w4 ⟨gY, cY, rfl, -, pY, hb⟩
        have Y4 := Lib.hid pY
        have X4 := Lib.hid (X3.out.all hb)
        have B4 := Lib.hid (B3.out.trans (hb.mono B3.out.size)); clear hb pY B3 X3 Q3
        generalize pageF n0 f0 = F at *
        generalize pageF n1 f1 = G at *
        go_wp2_with fail
        refine (blend_p _ _ _ _ O (by omega) (by omega) _ _ _ X4.out Y4.out).mono ?_
        rintro e w5 ⟨gC, cC, rfl, -, pC, hb⟩
        have C5 := Lib.hid pC
        have X5 := Lib.hid (X4.out.all hb)
        have Y5 := Lib.hid (Y4.out.all hb)
        have B5 := Lib.hid (B4.out.trans (hb.mono B4.out.size)); clear hb pC B4 X4 Y4
        go_wp2_with fail
        refine (blend_p _ _ _ _ T (by omega) (by omega) _ _ _ X5.out Y5.out).mono ?_
        rintro e w6 ⟨gD, cD, rfl, -, pD, hb⟩
        have D6 := Lib.hid pD
        have C6 := Lib.hid (C5.out.all hb)
        have X6 := Lib.hid (X5.out.all hb)
        have Y6 := Lib.hid (Y5.out.all hb)
        have B6 := Lib.hid (B5.out.trans (hb.mono B5.out.size)); clear hb pD B5 C5 X5 Y5
        go_wp2_with fail
        have hx := fun s hs => markI_two M (R + 1) F G O s hs
        have hy := fun s hs => markI_two M (R + 1) F G T s hs
        by_cases hA : O ||| T = 255
        · have hA' := (or255 O T hO hT).1 hA
          have hbest := best_new hx hy (by omega) (by omega) NW1.out NW2.out hA'
          refine (merge_p _ _ _ _ _ _ _ (by rw [hbest]; omega) C6.out D6.out).mono ?_
          rw [hbest]
          rintro e w7 ⟨gM, cM, gF, cF, rfl, -, -, pM, rF, hb⟩
          have M7 := Lib.hid (Pg.congr pM (fun i hi => merged_new M (R + 1) NW3.out O T F G hA' i hi))
          have Y7 := Lib.hid (Y6.out.all hb)
          have B7 := Lib.hid (B6.out.trans (hb.mono B6.out.size)); clear hb pM B6 D6 C6 X6 Y6 hx hy hbest hA' rF
          rw [hA] at hor
          clear hA
          go_wp2_with fail
          refine (sanity_any _).mono ?_
          rintro e w8 ⟨rfl, hb⟩
          have s1 := (M7.out.all hb).str
          have s2 := (Y7.out.all hb).str
          have B8 := Lib.hid (B7.out.trans (hb.mono B7.out.size)); clear hb
          go_wp2_with fail
          go_ret
          exact ⟨rfl, B8.out⟩
        · have hA' : ¬ ∀ s, s < 8 → O.testBit s = true ∨ T.testBit s = true := fun h => hA ((or255 O T hO hT).2 h)
          have hA2 : (((O ||| T : Nat) : Int) == 255) = false := by rw [beq_eq_false_iff_ne]; omega
          generalize O ||| T = OT at *
          by_cases hB : O &&& T = 0
          · have hB' := (and0 O T hO hT).1 hB
            have hbest := best_old hx hy (by omega) NW3.out hA' hB'
            refine (merge_p _ _ _ _ _ _ _ (by rw [hbest]; omega) C6.out D6.out).mono ?_
            rw [hbest]
            rintro e w7 ⟨gM, cM, gF, cF, rfl, -, -, pM, rF, hb⟩
            have M7 := Lib.hid (Pg.congr pM (fun i hi => merged_old M (R + 1) NW3.out O T F G hB' i hi))
            have X7 := Lib.hid (X6.out.all hb)
            have B7 := Lib.hid (B6.out.trans (hb.mono B6.out.size)); clear hb pM B6 D6 C6 X6 Y6 hx hy hbest hA' hB' rF hA
            rw [hB] at hand
            clear hB
            go_wp2_with fail
            refine (sanity_any _).mono ?_
            rintro e w8 ⟨rfl, hb⟩
            have s1 := (M7.out.all hb).str
            have s2 := (X7.out.all hb).str
            have B8 := Lib.hid (B7.out.trans (hb.mono B7.out.size)); clear hb
            go_wp2_with fail
            go_ret
            exact ⟨rfl, B8.out⟩
          · have hB' : ¬ ∀ s, s < 8 → O.testBit s = false ∨ T.testBit s = false := fun h => hB ((and0 O T hO hT).2 h)
            have hB2 : (((O &&& T : Nat) : Int) == 0) = false := by rw [beq_eq_false_iff_ne]; omega
            generalize O &&& T = AT at *
            have hbest := best_none hx hy NW3.out hA' hB'
            refine (merge_p_torn _ _ _ _ _ _ _ hbest C6.out D6.out).mono ?_
            rintro e w7 ⟨rfl, hb⟩
            have B7 := Lib.hid (B6.out.trans (hb.mono B6.out.size)); clear hb B6 D6 C6 X6 Y6 hx hy hbest hA' hB' hA hB
            go_wp2_with fail
            refine (sanity_any _).mono ?_
            rintro e w8 ⟨rfl, hb⟩
            have B8 := Lib.hid (B7.out.trans (hb.mono B7.out.size)); clear hb
            go_wp2_with fail
            go_ret
            exact ⟨rfl, B8.out⟩
    · go_enter Try.func5, Try.ntmps5
      go_wp2_with fail
      refine (sanity_any _).mono ?_
      rintro e w8 ⟨rfl, hb⟩
      go_wp2_with fail
      go_ret
      exact ⟨rfl, hb⟩
  · go_enter Try.func5, Try.ntmps5
    go_wp2_with fail
    refine (sanity_any _).mono ?_
    rintro e w8 ⟨rfl, hb⟩
    go_wp2_with fail
    go_ret
    exact ⟨rfl, hb⟩

end Go.Proofs.Ytjfcjpkfefmhlaa
