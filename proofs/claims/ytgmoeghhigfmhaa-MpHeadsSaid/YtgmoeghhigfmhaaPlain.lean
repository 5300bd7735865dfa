/- Plain facts on numbers and bytes, without a program. -/
import Derived.WalkKit
import Derived.Laws.BytesArg
namespace Go.Proofs.Ytgmoeghhigfmhaa.Plain
open Go Go.RowKit

theorem pow_cast (n : Nat) : (2 : Int) ^ n = ((2 ^ n : Nat) : Int) := by simp

/-- x & (2^n - 1), of any int, below zero too. -/
theorem and_mask (n : Nat) (hn : n ≤ 31) (x : Int) : bits .and .i64 x (2 ^ n - 1) = x % 2 ^ n := by
  have h2 : (2 : Nat) ^ n ≤ 2 ^ 31 := Nat.pow_le_pow_right (by omega) hn
  have h3 : (2 : Nat) ^ n ∣ 2 ^ 64 := Nat.pow_dvd_pow 2 (by omega)
  have hp : 0 < (2 : Nat) ^ n := Nat.pow_pos (by omega)
  have hc := pow_cast n
  show IntKind.wrap .i64 (((BitVec.ofInt 64 x) &&& (BitVec.ofInt 64 (2 ^ n - 1))).toNat : Int) = _
  rw [BitVec.toNat_and, BitVec.toNat_ofInt, BitVec.toNat_ofInt]
  have e1 : (((2 : Int) ^ n - 1) % ((2 ^ 64 : Nat) : Int)).toNat = 2 ^ n - 1 := by
    rw [hc]
    generalize (2 : Nat) ^ n = m at *
    omega
  rw [e1, Nat.and_two_pow_sub_one_eq_mod]
  have e2 : (((x % ((2 ^ 64 : Nat) : Int)).toNat % 2 ^ n : Nat) : Int) = x % 2 ^ n := by
    rw [Int.natCast_emod, Int.toNat_of_nonneg (Int.emod_nonneg _ (by decide)), ← hc]
    exact Int.emod_emod_of_dvd _ (by have := Int.natCast_dvd_natCast.2 h3; rw [hc]; exact this)
  rw [e2]
  have h4 : 0 ≤ x % 2 ^ n := Int.emod_nonneg _ (by omega)
  have h5 : x % 2 ^ n < 2 ^ n := Int.emod_lt_of_pos _ (by omega)
  have h6 : (2 : Int) ^ n ≤ 2147483648 := by omega
  generalize x % 2 ^ n = y at *
  generalize (2 : Int) ^ n = z at *
  clear hc e1 e2
  unfold IntKind.wrap
  simp [IntKind.bits, IntKind.signed]
  omega

theorem and3 (x : Int) : bits .and .i64 x 3 = x % 4 := and_mask 2 (by omega) x
theorem and7 (x : Int) : bits .and .i64 x 7 = x % 8 := and_mask 3 (by omega) x
theorem and15 (x : Int) : bits .and .i64 x 15 = x % 16 := and_mask 4 (by omega) x
theorem and31 (x : Int) : bits .and .i64 x 31 = x % 32 := and_mask 5 (by omega) x
theorem and63 (x : Int) : bits .and .i64 x 63 = x % 64 := and_mask 6 (by omega) x
theorem and255 (x : Int) : bits .and .i64 x 255 = x % 256 := and_mask 8 (by omega) x
theorem and2047 (x : Int) : bits .and .i64 x 2047 = x % 2048 := and_mask 11 (by omega) x
theorem and4095 (x : Int) : bits .and .i64 x 4095 = x % 4096 := and_mask 12 (by omega) x
theorem and1 (x : Int) : bits .and .i64 x 1 = x % 2 := and_mask 1 (by omega) x

theorem wf_i64_iff {x : Int} : (Lit.int .i64 x).wf = true ↔ -9223372036854775808 ≤ x ∧ x ≤ 9223372036854775807 := by
  simp [Lit.wf, IntKind.min, IntKind.max, IntKind.bits, IntKind.signed]

theorem u64_wrap (x : Int) : IntKind.u64.wrap x = x % 18446744073709551616 := by
  simp [IntKind.wrap, IntKind.bits, IntKind.signed]

theorem wrap_i64 {n : Int} (h0 : -9223372036854775808 ≤ n) (h1 : n ≤ 9223372036854775807) : wrap64 n = n := by
  unfold wrap64; omega

theorem size_strOfNums (xs : List Int) : (strOfNums xs).size = xs.length := by
  show (strOfNums xs).data.size = _
  simp [strOfNums]

end Go.Proofs.Ytgmoeghhigfmhaa.Plain
