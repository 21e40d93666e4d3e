/-
  THE PLAIN LAWS on 64-bit words of this seat: no Go in sight: xor with all zeros and with all ones, the lowest bit, and the two case tables of zigzag.
-/
import Derived.Laws.Bits64
import Derived.Laws.Bits64b
import Derived.Laws.BitsLemmas
import Derived.RowKit
namespace Go.Proofs.Ymwham
open Go.RowKit

theorem and_one (a : Int) (h0 : 0 ≤ a) (h1 : a < 18446744073709551616) : bits .and .u64 a 1 = a % 2 := by
  obtain ⟨n, rfl⟩ := Int.eq_ofNat_of_zero_le h0
  have e := bits_and_u64_nat n 1 (by omega) (by omega)
  rw [Nat.and_one_is_mod] at e
  rw [show ((1 : Int)) = ((1 : Nat) : Int) from rfl, e]
  omega

theorem toNat_ofInt64 (a : Int) : ((BitVec.ofInt 64 a).toNat : Int) = a % 18446744073709551616 := by
  rw [BitVec.toNat_ofInt]
  omega

theorem xor_i64_zero (a : Int) (h0 : -9223372036854775808 ≤ a) (h1 : a < 9223372036854775808) : bits .xor .i64 a 0 = a := by
  show IntKind.i64.wrap ((BitVec.ofInt 64 a ^^^ BitVec.ofInt 64 0).toNat : Int) = _
  have hz : BitVec.ofInt 64 0 = 0#64 := by decide
  rw [hz, BitVec.xor_zero, toNat_ofInt64, IntKind.wrap_i64]
  omega

theorem xor_i64_ones (a : Int) (h0 : -9223372036854775808 ≤ a) (h1 : a < 9223372036854775808) : bits .xor .i64 a (-1) = -1 - a := by
  show IntKind.i64.wrap ((BitVec.ofInt 64 a ^^^ BitVec.ofInt 64 (-1)).toNat : Int) = _
  have hz : BitVec.ofInt 64 (-1) = BitVec.allOnes 64 := by decide
  have hl := (BitVec.ofInt 64 a).isLt
  have e := toNat_ofInt64 a
  rw [hz, BitVec.xor_allOnes, BitVec.toNat_not, IntKind.wrap_i64]
  omega

theorem xor_u64_zero (a : Int) (h0 : 0 ≤ a) (h1 : a < 18446744073709551616) : bits .xor .u64 a 0 = a := by
  show IntKind.u64.wrap ((BitVec.ofInt 64 a ^^^ BitVec.ofInt 64 0).toNat : Int) = _
  have hz : BitVec.ofInt 64 0 = 0#64 := by decide
  rw [hz, BitVec.xor_zero, toNat_ofInt64, IntKind.wrap_u64]
  omega

theorem xor_u64_ones (a : Int) (h0 : 0 ≤ a) (h1 : a < 18446744073709551616) : bits .xor .u64 a 18446744073709551615 = 18446744073709551615 - a := by
  show IntKind.u64.wrap ((BitVec.ofInt 64 a ^^^ BitVec.ofInt 64 18446744073709551615).toNat : Int) = _
  have hz : BitVec.ofInt 64 18446744073709551615 = BitVec.allOnes 64 := by decide
  have hl := (BitVec.ofInt 64 a).isLt
  have e := toNat_ofInt64 a
  rw [hz, BitVec.xor_allOnes, BitVec.toNat_not, IntKind.wrap_u64]
  omega

/-- What 'Unzigzag' computes, as the model spells it, is the case table: even. -/
theorem unzigzag_even (a : Int) (h0 : 0 ≤ a) (h1 : a < 18446744073709551616) (h : (a.tmod 2 == 0) = true) :
    (bits .xor .i64 (wrap64 (a / 2)) (wrap64 (-wrap64 (bits .and .u64 a 1))) == wrap64 (IntKind.u64.wrap (a.tdiv 2))) = true := by
  rw [beq_iff_eq] at h ⊢
  rw [Int.tmod_eq_emod_of_nonneg h0] at h
  rw [Int.tdiv_eq_ediv_of_nonneg h0, and_one a h0 h1, h, IntKind.wrap_u64]
  have e : wrap64 (-wrap64 0) = 0 := by decide
  have e1 : wrap64 (a / 2) = a / 2 := by unfold wrap64; omega
  rw [e, e1, xor_i64_zero _ (by omega) (by omega)]
  unfold wrap64
  omega

/-- Odd. -/
theorem unzigzag_odd (a : Int) (h0 : 0 ≤ a) (h1 : a < 18446744073709551616) (h : (a.tmod 2 == 0) = false) :
    (bits .xor .i64 (wrap64 (a / 2)) (wrap64 (-wrap64 (bits .and .u64 a 1))) == wrap64 (wrap64 (-wrap64 (IntKind.u64.wrap (a.tdiv 2))) - 1)) = true := by
  rw [beq_eq_false_iff_ne, ne_eq, Int.tmod_eq_emod_of_nonneg h0] at h
  have h2 : a % 2 = 1 := by omega
  rw [beq_iff_eq, Int.tdiv_eq_ediv_of_nonneg h0, and_one a h0 h1, h2, IntKind.wrap_u64]
  have e : wrap64 (-wrap64 1) = -1 := by decide
  have e1 : wrap64 (a / 2) = a / 2 := by unfold wrap64; omega
  rw [e, e1, xor_i64_ones _ (by omega) (by omega)]
  unfold wrap64
  omega

/-- What 'Zigzag' computes, as the model spells it, is the case table: not negative. -/
theorem zigzag_pos (a : Int) (h1 : a < 9223372036854775808) (h : 0 ≤ a) :
    (bits .xor .u64 (IntKind.u64.wrap (IntKind.u64.wrap a * 2)) (IntKind.u64.wrap (a / 9223372036854775808)) == IntKind.u64.wrap (IntKind.u64.wrap a * 2)) = true := by
  have e : IntKind.u64.wrap (a / 9223372036854775808) = 0 := by rw [IntKind.wrap_u64]; omega
  have e1 : IntKind.u64.wrap (IntKind.u64.wrap a * 2) = 2 * a := by rw [IntKind.wrap_u64, IntKind.wrap_u64]; omega
  rw [beq_iff_eq, e, e1, xor_u64_zero _ (by omega) (by omega)]

/-- Negative. -/
theorem zigzag_neg (a : Int) (h0 : -9223372036854775808 ≤ a) (h : a < 0) :
    (bits .xor .u64 (IntKind.u64.wrap (IntKind.u64.wrap a * 2)) (IntKind.u64.wrap (a / 9223372036854775808)) == IntKind.u64.wrap (IntKind.u64.wrap (IntKind.u64.wrap (wrap64 (-wrap64 (a + 1))) * 2) + 1)) = true := by
  have e : IntKind.u64.wrap (a / 9223372036854775808) = 18446744073709551615 := by rw [IntKind.wrap_u64]; omega
  have e1 : IntKind.u64.wrap (IntKind.u64.wrap a * 2) = 18446744073709551616 + 2 * a := by rw [IntKind.wrap_u64, IntKind.wrap_u64]; omega
  have e2 : wrap64 (-wrap64 (a + 1)) = -(a + 1) := by unfold wrap64; omega
  rw [beq_iff_eq, e, e1, e2, xor_u64_ones _ (by omega) (by omega), IntKind.wrap_u64, IntKind.wrap_u64, IntKind.wrap_u64]
  omega

theorem ret_true {b : Bool} (h : b = true) : Ending.returned (.bool b) = .returned (.bool true) := by rw [h]

theorem u64_range {a : Int} (h : (Lit.int .u64 a).wf = true) : 0 ≤ a ∧ a < 18446744073709551616 := by
  simp [Lit.wf, IntKind.min, IntKind.max, IntKind.bits, IntKind.signed] at h
  omega
theorem i64_range {a : Int} (h : (Lit.int .i64 a).wf = true) : -9223372036854775808 ≤ a ∧ a < 9223372036854775808 := by
  simp [Lit.wf, IntKind.min, IntKind.max, IntKind.bits, IntKind.signed] at h
  omega
end Go.Proofs.Ymwham
