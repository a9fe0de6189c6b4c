/- Go's bit operations on numbers, in Lean's own arithmetic. -/
import Derived.Test.YtjhcaedfknhilaaBase
namespace Go.Proofs.Ytjhcaedfknhilaa

theorem wraps_i64 (n : Int) (h0 : 0 ≤ n) (h1 : n < 2 ^ 63) : IntKind.i64.wrap n = n := by rw [IntKind.wrap_i64]; omega

/-- x & (2^i - 1), whatever x. -/
theorem and_mask_i64 (i : Nat) (hi : i ≤ 62) (x : Int) : bits .and .i64 x (2 ^ i - 1) = x % 2 ^ i := by
  have hpos : 0 < 2 ^ i := Nat.two_pow_pos i
  have h64 : (2 : Nat) ^ i ≤ 2 ^ 62 := Nat.pow_le_pow_right (by decide) hi
  have hdvd : (2 ^ i : Int) ∣ 2 ^ 64 := ⟨2 ^ (64 - i), by rw [← Int.pow_add]; congr 1; omega⟩
  have hc : ((2 : Int) ^ i - 1) = ((2 ^ i - 1 : Nat) : Int) := by rw [Int.natCast_sub hpos]; simp
  have h1 : (BitVec.ofInt 64 x).toNat = (x % 2 ^ 64).toNat := by rw [BitVec.toNat_ofInt]; rfl
  have h2 : (BitVec.ofInt 64 ((2 ^ i - 1 : Nat) : Int)).toNat = 2 ^ i - 1 := by
    rw [BitVec.ofInt_natCast, BitVec.toNat_ofNat]; exact Nat.mod_eq_of_lt (by omega)
  rw [hc]
  show IntKind.i64.wrap ((BitVec.ofInt 64 x &&& BitVec.ofInt 64 ((2 ^ i - 1 : Nat) : Int)).toNat : Int) = _
  rw [BitVec.toNat_and, h1, h2, Nat.and_two_pow_sub_one_eq_mod]
  have h3 : (((x % 2 ^ 64).toNat % 2 ^ i : Nat) : Int) = x % 2 ^ i := by
    rw [Int.natCast_emod, Int.toNat_of_nonneg (Int.emod_nonneg _ (by decide))]
    simp only [Int.natCast_pow]
    exact Int.emod_emod_of_dvd x hdvd
  have h4 : (x % 2 ^ 64).toNat % 2 ^ i < 2 ^ i := Nat.mod_lt _ hpos
  rw [wraps_i64 _ (by omega) (by omega), h3]

theorem and1_i64 (x : Int) : bits .and .i64 x 1 = x % 2 := and_mask_i64 1 (by decide) x
theorem and7_i64 (x : Int) : bits .and .i64 x 7 = x % 8 := and_mask_i64 3 (by decide) x
theorem and255_i64 (x : Int) : bits .and .i64 x 255 = x % 256 := and_mask_i64 8 (by decide) x

theorem and_nat_i64 (a b : Nat) (ha : a < 256) (hb : b < 256) : bits .and .i64 (a : Int) (b : Int) = ((a &&& b : Nat) : Int) :=
  (bits_nat .i64 8 (by decide) (fun n h0 h1 => wraps_i64 n h0 (by omega)) a b ha hb).1
theorem or_nat_i64 (a b : Nat) (ha : a < 256) (hb : b < 256) : bits .or .i64 (a : Int) (b : Int) = ((a ||| b : Nat) : Int) :=
  (bits_nat .i64 8 (by decide) (fun n h0 h1 => wraps_i64 n h0 (by omega)) a b ha hb).2

/-- Bit s of a number. -/
def bitI (m : Int) (s : Nat) : Bool := m / 2 ^ s % 2 == 1

theorem bitI_nat (a s : Nat) : bitI (a : Int) s = a.testBit s := by
  unfold bitI
  rw [Nat.testBit_eq_decide_div_mod_eq, Bool.eq_iff_iff]
  simp only [beq_iff_eq, decide_eq_true_eq]
  have : ((a : Int) / 2 ^ s % 2) = ((a / 2 ^ s % 2 : Nat) : Int) := by simp
  rw [this]; omega

end Go.Proofs.Ytjhcaedfknhilaa
