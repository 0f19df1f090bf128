/- Words of the program (bits, shifts, wraps) at natural numbers. No condition. -/
import Derived.Laws.BitsAllLaws
import Derived.Laws.Wrap64
import Derived.Test.YtghmelcbkjejeaaWMore
namespace Go.Proofs.Ytghmelcbkjejeaa.Br
open Go.RowKit Go.Proofs.YtghmelcbkjejeaaW.PrintWords Go.Proofs.YtghmelcbkjejeaaW.PrintLast Go.Proofs.YtghmelcbkjejeaaW.PrintMore

theorem wf_u8 {a : Int} (h : (Lit.int .u8 a).wf = true) : ∃ n : Nat, a = (n : Int) ∧ n < 256 := by
  simp [Lit.wf, IntKind.min, IntKind.max, IntKind.bits, IntKind.signed] at h
  exact ⟨a.toNat, by omega, by omega⟩
theorem and_u8 (a b : Nat) (ha : a < 256) (hb : b < 256) : Go.bits .and .u8 (a : Int) (b : Int) = ((a &&& b : Nat) : Int) := u8_and_nat a b ha hb
theorem or_u8 (a b : Nat) (ha : a < 256) (hb : b < 256) : Go.bits .or .u8 (a : Int) (b : Int) = ((a ||| b : Nat) : Int) := u8_or_nat a b ha hb
theorem xor_u8 (a b : Nat) (ha : a < 256) (hb : b < 256) : Go.bits .xor .u8 (a : Int) (b : Int) = ((a ^^^ b : Nat) : Int) := u8_xor_nat a b ha hb
theorem xor_i64 (a b : Nat) (ha : a < 2 ^ 62) (hb : b < 2 ^ 62) : Go.bits .xor .i64 (a : Int) (b : Int) = ((a ^^^ b : Nat) : Int) := by
  have hx : a ^^^ b < 2 ^ 62 := Nat.xor_lt_two_pow ha hb
  show IntKind.i64.wrap ((BitVec.ofInt 64 (a : Int) ^^^ BitVec.ofInt 64 (b : Int)).toNat : Int) = _
  rw [BitVec.toNat_xor, BitVec.ofInt_natCast, BitVec.ofInt_natCast, BitVec.toNat_ofNat, BitVec.toNat_ofNat, Nat.mod_eq_of_lt (by omega), Nat.mod_eq_of_lt (by omega), IntKind.wrap_i64]
  omega
theorem w64 (x : Int) (h : -9223372036854775808 ≤ x) (h2 : x ≤ 9223372036854775807) : wrap64 x = x := by unfold wrap64; omega
theorem shr_nat (k : IntKind) (a i : Nat) (hi : i ≤ k.bits) : shr k (a : Int) (i : Int) = ((a / 2 ^ i : Nat) : Int) := by
  unfold shr
  rw [Int.toNat_natCast, Nat.min_eq_left hi]
  norm_cast
theorem shl_i64 (a i : Nat) (hi : i ≤ 64) (h : a * 2 ^ i < 2 ^ 62) : shl .i64 (a : Int) (i : Int) = ((a * 2 ^ i : Nat) : Int) := by
  unfold shl
  rw [Int.toNat_natCast, show IntKind.i64.bits = 64 from rfl, Nat.min_eq_left hi]
  have : ((a : Int) * 2 ^ i) = ((a * 2 ^ i : Nat) : Int) := by norm_cast
  rw [this, IntKind.wrap_i64]
  omega
theorem shl_u8 (a i : Nat) (hi : i ≤ 8) : shl .u8 (a : Int) (i : Int) = ((a * 2 ^ i % 256 : Nat) : Int) := by
  unfold shl
  rw [Int.toNat_natCast, show IntKind.u8.bits = 8 from rfl, Nat.min_eq_left hi, IntKind.wrap_u8']
  have : ((a : Int) * 2 ^ i) = ((a * 2 ^ i : Nat) : Int) := by norm_cast
  rw [this]
  generalize a * 2 ^ i = x
  omega
theorem tmod2 (a : Nat) : Int.tmod (a : Int) 2 = ((a % 2 : Nat) : Int) := by
  rw [Int.tmod_eq_emod_of_nonneg (by omega)]; norm_cast
theorem bit_mod (a i : Nat) : (a / 2 ^ i) % 2 = 1 ↔ a.testBit i = true := by
  rw [Nat.testBit_eq_decide_div_mod_eq]; simp

end Go.Proofs.Ytghmelcbkjejeaa.Br
