/- FixBlends. -/
import Derived.Test.YtjfcjpkfefmhlaaLawC
namespace Go.Proofs.Ytjfcjpkfefmhlaa
open Go.RowKit
attribute [local go_sem] Oper.semAt_some

theorem and255_nat (m : Int) : ∃ M : Nat, M < 256 ∧ bits .and .i64 m 255 = (M : Int) := ⟨(m % 256).toNat, by omega, by rw [and255_i64]; omega⟩

theorem blend_none (f g : Nat → Int) (i : Nat) (hi : i < 512) : blendF (bitI 0) f g i = f i := by
  unfold blendF
  rw [if_neg]
  have := bitI_nat 0 (i / 64)
  simp at this
  simp [this]

theorem blend_all (f g : Nat → Int) (i : Nat) (hi : i < 512) : blendF (bitI 255) f g i = g i := by
  unfold blendF
  rw [if_pos]
  have h : ∀ k, k < 8 → bitI 255 k = true := by decide
  exact h _ (by omega)

theorem blend_twice (M N : Nat) (f g : Nat → Int) (i : Nat) : blendF (bitI N) (blendF (bitI M) f g) g i = blendF (bitI ((M ||| N : Nat) : Int)) f g i := by
  unfold blendF
  rw [bitI_nat, bitI_nat, bitI_nat, Nat.testBit_or]
  cases M.testBit (i / 64) <;> cases N.testBit (i / 64) <;> simp

set_option maxHeartbeats 4000000 in
theorem fixBlends_walk (v0 : Value) (n0 : Nat) (f0 : Nat → Int) (v1 : Value) (n1 : Nat) (f1 : Nat → Int) (m n : Int) (w : World) (h0 : ByteArg w v0 n0 f0) (h1 : ByteArg w v1 n1 f1)
    (_ : (Lit.int .i64 m).wf = true) (_ : (Lit.int .i64 n).wf = true) :
    Calls Try.prog 8 #[v0, v1, .int .i64 m, .int .i64 n] w fun e w' => e = .returned (.bool true) ∧ Below w.heap.size w w' := by
  obtain ⟨a0, c0, rfl⟩ := h0.slice
  obtain ⟨a1, c1, rfl⟩ := h1.slice
  have H0 := Lib.hid h0; clear h0
  have H1 := Lib.hid h1; clear h1
  obtain ⟨M, hM, hm⟩ := and255_nat m
  obtain ⟨N, hN, hn⟩ := and255_nat n
  have hor := or_nat_i64 M N hM hN
  have hor2 : M ||| N < 256 := Nat.or_lt_two_pow (n := 8) hM hN
  by_cases hl : n0 ≤ 2000
  · by_cases hl1 : n1 ≤ 2000
    · go_enter Try.func8, Try.ntmps8
      go_wp2_with fail
      refine (page_p _ _ _ _ (by omega) H0.out).mono ?_
      rintro e w1 ⟨gP, cP, rfl, -, pP, hb⟩
      have P1 := Lib.hid pP
      have H1' := Lib.hid (H1.out.all hb)
      have B1 := Lib.hid hb; clear hb pP
      go_wp2_with fail
      refine (page_p _ _ _ _ (by omega) H1'.out).mono ?_
      rintro e w2 ⟨gQ, cQ, rfl, -, pQ, hb⟩
      have P2 := Lib.hid (P1.out.all hb)
      have Q2 := Lib.hid pQ
      have B2 := Lib.hid (B1.out.trans (hb.mono B1.out.size)); clear hb pQ B1 P1
      go_wp2_with fail
      refine (blend_p _ _ _ _ 0 (by omega) (by omega) _ _ _ P2.out Q2.out).mono ?_
      rintro e w3 ⟨gR, cR, rfl, -, pR, hb⟩
      have P3 := Lib.hid (P2.out.all hb)
      have Q3 := Lib.hid (Q2.out.all hb)
      have R3 := Lib.hid (Pg.congr pR (blend_none _ _))
      have B3 := Lib.hid (B2.out.trans (hb.mono B2.out.size)); clear hb pR B2 P2 Q2
      go_wp2_with fail
      refine (blend_p _ _ _ _ 255 (by omega) (by omega) _ _ _ P3.out Q3.out).mono ?_
      rintro e w4 ⟨gS, cS, rfl, -, pS, hb⟩
      have P4 := Lib.hid (P3.out.all hb)
      have Q4 := Lib.hid (Q3.out.all hb)
      have R4 := Lib.hid (R3.out.all hb)
      have S4 := Lib.hid (Pg.congr pS (blend_all _ _))
      have B4 := Lib.hid (B3.out.trans (hb.mono B3.out.size)); clear hb pS B3 P3 Q3 R3
      go_wp2_with fail
      refine (blend_p _ _ _ _ M (by omega) (by omega) _ _ _ P4.out Q4.out).mono ?_
      rintro e w5 ⟨gX, cX, rfl, -, pX, hb⟩
      have P5 := Lib.hid (P4.out.all hb)
      have Q5 := Lib.hid (Q4.out.all hb)
      have R5 := Lib.hid (R4.out.all hb)
      have S5 := Lib.hid (S4.out.all hb)
      have X5 := Lib.hid pX
      have B5 := Lib.hid (B4.out.trans (hb.mono B4.out.size)); clear hb pX B4 P4 Q4 R4 S4
      go_wp2_with fail
      refine (blend_p _ _ _ _ N (by omega) (by omega) _ _ _ X5.out Q5.out).mono ?_
      rintro e w6 ⟨gY, cY, rfl, -, pY, hb⟩
      have P6 := Lib.hid (P5.out.all hb)
      have Q6 := Lib.hid (Q5.out.all hb)
      have R6 := Lib.hid (R5.out.all hb)
      have S6 := Lib.hid (S5.out.all hb)
      have Y6 := Lib.hid (Pg.congr pY (fun i _ => blend_twice M N _ _ i))
      have B6 := Lib.hid (B5.out.trans (hb.mono B5.out.size)); clear hb pY B5 P5 Q5 R5 S5 X5
      go_wp2_with fail
      refine (blend_p _ _ _ _ ((M ||| N : Nat) : Int) (by omega) (by omega) _ _ _ P6.out Q6.out).mono ?_
      rintro e w7 ⟨gZ, cZ, rfl, -, pZ, hb⟩
      have P7 := Lib.hid (P6.out.all hb)
      have Q7 := Lib.hid (Q6.out.all hb)
      have R7 := Lib.hid (R6.out.all hb)
      have S7 := Lib.hid (S6.out.all hb)
      have Y7 := Lib.hid (Y6.out.all hb)
      have Z7 := Lib.hid pZ
      have B7 := Lib.hid (B6.out.trans (hb.mono B6.out.size)); clear hb pZ B6 P6 Q6 R6 S6 Y6
      go_wp2_with fail
      refine (sanity_any _).mono ?_
      rintro e w8 ⟨rfl, hb⟩
      have sP := (P7.out.all hb).str
      have sQ := (Q7.out.all hb).str
      have sR := (R7.out.all hb).str
      have sS := (S7.out.all hb).str
      have sY := (Y7.out.all hb).str
      have sZ := (Z7.out.all hb).str
      have B8 := Lib.hid (B7.out.trans (hb.mono B7.out.size)); clear hb B7 P7 Q7 R7 S7 Y7 Z7
      go_wp2_with fail
      go_ret
      exact ⟨rfl, B8.out⟩
    · go_enter Try.func8, Try.ntmps8
      go_wp2_with fail
      refine (sanity_any _).mono ?_
      rintro e w8 ⟨rfl, hb⟩
      go_wp2_with fail
      go_ret
      exact ⟨rfl, hb⟩
  · go_enter Try.func8, Try.ntmps8
    go_wp2_with fail
    refine (sanity_any _).mono ?_
    rintro e w8 ⟨rfl, hb⟩
    go_wp2_with fail
    go_ret
    exact ⟨rfl, hb⟩

end Go.Proofs.Ytjfcjpkfefmhlaa
