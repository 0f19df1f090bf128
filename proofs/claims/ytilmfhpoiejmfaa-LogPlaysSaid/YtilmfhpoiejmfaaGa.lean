/- The log on the heap of the mind: check sums. By this session. -/
import Derived.Test.YtilmfhpoiejmfaaGc
import Derived.Test.YtilmfhpoiejmfaaGp
namespace Go.Proofs.Ytilmfhpoiejmfaa.Gk
open Go.Proofs.Ytilmfhpoiejmfaa.Lh Go.RowKit Go.Proofs.Ytilmfhpoiejmfaa.Lg
set_option maxRecDepth 100000
set_option linter.unusedSimpArgs false
set_option linter.unusedSectionVars false
set_option linter.unusedVariables false
variable [Fz]
def wN (x : Nat) : LVal := .int .u32 (x : Int)
def bN (b : Nat) : LVal := .int .u8 (b : Int)
def bSeg8 (f : F8) (i : Nat) : Segs := .one (bN (f i)) .nil
def bV (m : Nat) (f : F8) : LVal := .rsl m 1 (bSeg8 f)
theorem w32 {n : Nat} (h : n < 4294967296) : IntKind.u32.wrap (n : Int) = n := by
  simp [IntKind.wrap, IntKind.bits, IntKind.signed]
  omega
theorem w64 {n : Int} (h : -9223372036854775808 ≤ n ∧ n ≤ 9223372036854775807) : IntKind.i64.wrap n = n := by
  simp [IntKind.wrap, IntKind.bits, IntKind.signed]
  omega
theorem w8 {n : Nat} : IntKind.u8.wrap (n : Int) = ((n % 256 : Nat) : Int) := by
  simp [IntKind.wrap, IntKind.bits, IntKind.signed]
theorem of32 (x : Nat) : BitVec.ofInt IntKind.u32.bits (x : Int) = BitVec.ofNat 32 x := by
  show BitVec.ofInt 32 _ = _
  apply BitVec.eq_of_toNat_eq
  simp
theorem xor32 {x y : Nat} (hx : x < 4294967296) (hy : y < 4294967296) : IntKind.u32.wrap ((BitVec.ofInt IntKind.u32.bits (x : Int) ^^^ BitVec.ofInt IntKind.u32.bits (y : Int)).toNat : Int) = ((x ^^^ y : Nat) : Int) := by
  rw [of32, of32]
  show IntKind.u32.wrap ((BitVec.ofNat 32 x ^^^ BitVec.ofNat 32 y).toNat : Int) = _
  rw [BitVec.toNat_xor, BitVec.toNat_ofNat, BitVec.toNat_ofNat, Nat.mod_eq_of_lt hx, Nat.mod_eq_of_lt hy]
  exact w32 (Nat.xor_lt_two_pow (n := 32) hx hy)
theorem and32 {x : Nat} (hx : x < 4294967296) : IntKind.u32.wrap ((BitVec.ofInt IntKind.u32.bits (x : Int) &&& BitVec.ofInt IntKind.u32.bits 1).toNat : Int) = ((x % 2 : Nat) : Int) := by
  rw [of32]
  show IntKind.u32.wrap ((BitVec.ofNat 32 x &&& BitVec.ofNat 32 1).toNat : Int) = _
  rw [BitVec.toNat_and, BitVec.toNat_ofNat, BitVec.toNat_ofNat, Nat.mod_eq_of_lt hx, show 1 % 2 ^ 32 = 1 from rfl, Nat.and_one_is_mod]
  exact w32 (by omega)
theorem or32 {x y : Nat} (hx : x < 4294967296) (hy : y < 4294967296) : IntKind.u32.wrap ((BitVec.ofInt IntKind.u32.bits (x : Int) ||| BitVec.ofInt IntKind.u32.bits (y : Int)).toNat : Int) = ((x ||| y : Nat) : Int) := by
  rw [of32, of32]
  show IntKind.u32.wrap ((BitVec.ofNat 32 x ||| BitVec.ofNat 32 y).toNat : Int) = _
  rw [BitVec.toNat_or, BitVec.toNat_ofNat, BitVec.toNat_ofNat, Nat.mod_eq_of_lt hx, Nat.mod_eq_of_lt hy]
  exact w32 (Nat.or_lt_two_pow (n := 32) hx hy)
theorem not32 {x : Nat} (hx : x < 4294967296) : IntKind.u32.wrap ((BitVec.ofInt IntKind.u32.bits (if IntKind.u32.signed = true then -1 else IntKind.u32.max) ^^^ BitVec.ofInt IntKind.u32.bits (x : Int)).toNat : Int) = ((Crc.M ^^^ x : Nat) : Int) := by
  have := xor32 (x := Crc.M) (y := x) (by decide) hx
  exact this
theorem sub32 {x : Nat} (hx : x < 4294967296) : IntKind.u32.wrap (4294967295 - (x : Int)) = ((Crc.M ^^^ x : Nat) : Int) := by
  have e : Crc.M ^^^ x = 4294967295 - x := by
    have h : Crc.M = 2 ^ 32 - 1 := rfl
    apply Nat.eq_of_testBit_eq
    intro i
    rw [show 4294967295 - x = 2 ^ 32 - (x + 1) by omega, Nat.testBit_two_pow_sub_succ hx, h, Nat.testBit_xor, Nat.testBit_two_pow_sub_one]
    by_cases c : i < 32
    · simp [c]
    · have : x.testBit i = false := Nat.testBit_lt_two_pow (Nat.lt_of_lt_of_le (show x < 2 ^ 32 from hx) (Nat.pow_le_pow_right (n := 2) (by decide) (by omega : 32 ≤ i)))
      simp [c, this]
  rw [e, show (4294967295 : Int) - (x : Int) = ((4294967295 - x : Nat) : Int) by omega]
  exact w32 (by omega)
theorem steps_tail (n : Nat) (r : Nat) : Crc.steps (n + 1) r = Crc.step (Crc.steps n r) := by
  rw [Crc.steps_add n 1 r]; rfl
theorem M_lt {x : Nat} (h : x < 4294967296) : Crc.M ^^^ x < 4294967296 := Nat.xor_lt_two_pow (n := 32) (by decide) h
theorem byteOf (r b : Nat) (hr : r < 4294967296) (hb : b < 256) : LCalls Try.prog 130 (.cons (wN r) (.cons (bN b) .nil)) [] (fun e h' => e = .ret (wN (Crc.byteOf r b)) ∧ h' = []) := by
  have h0 : r ^^^ b < 4294967296 := Nat.xor_lt_two_pow (n := 32) hr (by omega)
  have hst : ∀ k, Crc.steps k (r ^^^ b) < 4294967296 := fun k => Crc.steps_lt k h0
  unfold wN bN
  refine LCalls.tell ?_; refine enter130 rfl ?_; conv => whnf
  rewrite [w32 (n := b) (by omega), xor32 hr (by omega)]
  refine Loop.inv (lwp_mono _) (fun n t1 h => ∃ (k : Nat), k ≤ 8 ∧ n = 8 - k ∧ t1 = [wN (Crc.steps k (r ^^^ b)), .any, .any, .any, .any, .any, .any, .any, .any, .any, .int .i64 (k : Int), .any, .any, .any, .any, .any, .any, .any, .any, .any, .any, .any] ∧ h = []) ?_ ?_
  · refine ⟨_, _, _, ⟨[], trivial, [], rfl, rfl, ?_, ?_⟩, 0, Nat.zero_le _, rfl, rfl, rfl⟩
    · (repeat' first | exact trivial | exact rfl | exact sh0 rfl | exact Nat.le_refl _ | exact .inl shA | exact .inr ⟨rfl, rfl, rfl, rfl, rfl⟩ | exact .inl shB | exact fun h => h | refine ⟨?_, ?_, ?_, .inl ?_⟩ | refine ⟨?_, ?_⟩ | refine fun ii hii => ?_ | omega | fail)
    · (repeat' first | exact trivial | exact rfl | exact sh0 rfl | exact Nat.le_refl _ | exact .inl shA | exact .inr ⟨rfl, rfl, rfl, rfl, rfl⟩ | exact .inl shB | exact fun h => h | refine ⟨?_, ?_, ?_, .inl ?_⟩ | refine ⟨?_, ?_⟩ | refine fun ii hii => ?_ | omega | fail)
  · rintro n _ _ ⟨k, hk, rfl, rfl, rfl⟩
    have hs := hst k
    have htl := steps_tail k (r ^^^ b)
    have hbo : k = 8 → Crc.byteOf r b = Crc.steps k (r ^^^ b) := fun h => by rw [h]; rfl
    generalize Crc.steps k (r ^^^ b) = s at hs htl hbo
    conv => whnf
    by_cases hk8 : k < 8
    · rewrite [show decide ((k : Int) < 8) = true from decide_eq_true (by omega)]
      conv => whnf
      rewrite [and32 hs, show (s : Int) / 2 = ((s / 2 : Nat) : Int) from rfl]
      by_cases h1 : s % 2 = 1
      · rewrite [show ((((s % 2 : Nat) : Int)) == 1) = true by rw [h1]; rfl]
        conv => whnf
        rewrite [show IntKind.u32.wrap ((BitVec.ofInt IntKind.u32.bits ((s / 2 : Nat) : Int) ^^^ BitVec.ofInt IntKind.u32.bits 3988292384).toNat : Int) = ((s / 2 ^^^ Crc.P : Nat) : Int) from xor32 (x := s / 2) (y := Crc.P) (by omega) (by decide)]
        have hst2 : Crc.steps (k + 1) (r ^^^ b) = s / 2 ^^^ Crc.P := by rw [htl]; unfold Crc.step; exact if_pos h1
        refine ⟨_, _, _, ?_, ⟨[], trivial, [], rfl, rfl, ?_, ?_⟩, k + 1, by omega, rfl, rfl, rfl⟩
        · omega
        · rewrite [hst2]
          (repeat' first | exact trivial | exact rfl | exact sh0 rfl | exact Nat.le_refl _ | exact .inl shA | exact .inr ⟨rfl, rfl, rfl, rfl, rfl⟩ | exact .inl shB | exact fun h => h | refine ⟨?_, ?_, ?_, .inl ?_⟩ | refine ⟨?_, ?_⟩ | refine fun ii hii => ?_ | omega | fail)
          all_goals exact w64 (by omega)
        · (repeat' first | exact trivial | exact rfl | exact sh0 rfl | exact Nat.le_refl _ | exact .inl shA | exact .inr ⟨rfl, rfl, rfl, rfl, rfl⟩ | exact .inl shB | exact fun h => h | refine ⟨?_, ?_, ?_, .inl ?_⟩ | refine ⟨?_, ?_⟩ | refine fun ii hii => ?_ | omega | fail)
      · rewrite [show ((((s % 2 : Nat) : Int)) == 1) = false from beq_eq_false_iff_ne.2 (by omega)]
        conv => whnf
        have hst2 : Crc.steps (k + 1) (r ^^^ b) = s / 2 := by rw [htl]; unfold Crc.step; exact if_neg h1
        refine ⟨_, _, _, ?_, ⟨[], trivial, [], rfl, rfl, ?_, ?_⟩, k + 1, by omega, rfl, rfl, rfl⟩
        · omega
        · rewrite [hst2]
          (repeat' first | exact trivial | exact rfl | exact sh0 rfl | exact Nat.le_refl _ | exact .inl shA | exact .inr ⟨rfl, rfl, rfl, rfl, rfl⟩ | exact .inl shB | exact fun h => h | refine ⟨?_, ?_, ?_, .inl ?_⟩ | refine ⟨?_, ?_⟩ | refine fun ii hii => ?_ | omega | fail)
          all_goals exact w64 (by omega)
        · (repeat' first | exact trivial | exact rfl | exact sh0 rfl | exact Nat.le_refl _ | exact .inl shA | exact .inr ⟨rfl, rfl, rfl, rfl, rfl⟩ | exact .inl shB | exact fun h => h | refine ⟨?_, ?_, ?_, .inl ?_⟩ | refine ⟨?_, ?_⟩ | refine fun ii hii => ?_ | omega | fail)
    · rewrite [show decide ((k : Int) < 8) = false from decide_eq_false (by omega)]
      obtain rfl : k = 8 := by omega
      rewrite [hbo rfl]
      conv => whnf
      refine ⟨[], _, _, rfl, rfl, ?_, ?_, rfl, rfl⟩
      · (repeat' first | exact trivial | exact rfl | exact sh0 rfl | exact Nat.le_refl _ | exact .inl shA | exact .inr ⟨rfl, rfl, rfl, rfl, rfl⟩ | exact .inl shB | exact fun h => h | refine ⟨?_, ?_, ?_, .inl ?_⟩ | refine ⟨?_, ?_⟩ | refine fun ii hii => ?_ | omega | fail)
      · (repeat' first | exact trivial | exact rfl | exact sh0 rfl | exact Nat.le_refl _ | exact .inl shA | exact .inr ⟨rfl, rfl, rfl, rfl, rfl⟩ | exact .inl shB | exact fun h => h | refine ⟨?_, ?_, ?_, .inl ?_⟩ | refine ⟨?_, ?_⟩ | refine fun ii hii => ?_ | omega | fail)
theorem sumAdd (m : Nat) (f : F8) (hf : ∀ i, f i < 256) (hm : m ≤ 4611686018427387904) : LCalls Try.prog 120 (.cons (wN 0) (.cons (bV m f) .nil)) [] (fun e h' => e = .ret (wN (sumN m f)) ∧ h' = []) := by
  have hlt : ∀ k, Crc.run Crc.M (lst k f) < 4294967296 := fun k => Crc.run_lt _ (by decide) (lst_lt hf)
  unfold wN bV
  refine LCalls.tell ?_; refine enter120 rfl ?_; conv => whnf
  rewrite [show IntKind.u32.wrap ((BitVec.ofInt IntKind.u32.bits (if IntKind.u32.signed = true then -1 else IntKind.u32.max) ^^^ BitVec.ofInt IntKind.u32.bits ((0 : Nat) : Int)).toNat : Int) = ((Crc.M : Nat) : Int) from not32 (x := 0) (by decide)]
  refine Loop.inv (lwp_mono _) (fun n t1 h => ∃ (k : Nat), k ≤ m ∧ n = m - k ∧ t1 = [.any, .any, .any, .any, .any, wN (Crc.run Crc.M (lst k f)), .any, .any, .any, .any, bV m f, .int .i64 (m : Int), .int .i64 (k : Int), .any, .any, .any, .any, .any, .any, .any, .any, .any] ∧ h = []) ?_ ?_
  · refine ⟨_, _, _, ⟨[], trivial, [], rfl, rfl, ?_, ?_⟩, 0, Nat.zero_le _, rfl, rfl, rfl⟩
    · (repeat' first | exact trivial | exact rfl | exact sh0 rfl | exact Nat.le_refl _ | exact .inl shA | exact .inr ⟨rfl, rfl, rfl, rfl, rfl⟩ | exact .inl shB | exact fun h => h | refine ⟨?_, ?_, ?_, .inl ?_⟩ | refine ⟨?_, ?_⟩ | refine fun ii hii => ?_ | omega | fail)
    · (repeat' first | exact trivial | exact rfl | exact sh0 rfl | exact Nat.le_refl _ | exact .inl shA | exact .inr ⟨rfl, rfl, rfl, rfl, rfl⟩ | exact .inl shB | exact fun h => h | refine ⟨?_, ?_, ?_, .inl ?_⟩ | refine ⟨?_, ?_⟩ | refine fun ii hii => ?_ | omega | fail)
  · rintro n _ _ ⟨k, hk, rfl, rfl, rfl⟩
    have hs := hlt k
    have htl := run_succ Crc.M k f
    have hbo : k = m → sumN m f = Crc.M ^^^ Crc.run Crc.M (lst k f) := fun h => by rw [h]; rfl
    generalize Crc.run Crc.M (lst k f) = s at hs htl hbo
    conv => whnf
    by_cases hkm : k < m
    · rewrite [show decide ((k : Int) < (m : Int)) = true from decide_eq_true (by omega)]
      conv => whnf
      refine ⟨⟨by omega, by omega⟩, ?_⟩
      rewrite [Int.toNat_natCast]
      conv => whnf
      refine LCalls.use (byteOf s (f k) hs (hf k)) [] rfl rfl trivial ?_
      rintro _ _ ⟨rfl, rfl⟩
      rewrite [← htl]
      conv => whnf
      refine ⟨_, _, _, ?_, ⟨[], trivial, [], rfl, rfl, ?_, ?_⟩, k + 1, by omega, rfl, rfl, rfl⟩
      · omega
      · (repeat' first | exact trivial | exact rfl | exact sh0 rfl | exact Nat.le_refl _ | exact .inl shA | exact .inr ⟨rfl, rfl, rfl, rfl, rfl⟩ | exact .inl shB | exact fun h => h | refine ⟨?_, ?_, ?_, .inl ?_⟩ | refine ⟨?_, ?_⟩ | refine fun ii hii => ?_ | omega | fail)
        all_goals exact w64 (by omega)
      · (repeat' first | exact trivial | exact rfl | exact sh0 rfl | exact Nat.le_refl _ | exact .inl shA | exact .inr ⟨rfl, rfl, rfl, rfl, rfl⟩ | exact .inl shB | exact fun h => h | refine ⟨?_, ?_, ?_, .inl ?_⟩ | refine ⟨?_, ?_⟩ | refine fun ii hii => ?_ | omega | fail)
    · rewrite [show decide ((k : Int) < (m : Int)) = false from decide_eq_false (by omega)]
      obtain rfl : k = m := by omega
      rewrite [hbo rfl]
      conv => whnf
      rewrite [not32 hs]
      refine ⟨[], _, _, rfl, rfl, ?_, ?_, rfl, rfl⟩
      · (repeat' first | exact trivial | exact rfl | exact sh0 rfl | exact Nat.le_refl _ | exact .inl shA | exact .inr ⟨rfl, rfl, rfl, rfl, rfl⟩ | exact .inl shB | exact fun h => h | refine ⟨?_, ?_, ?_, .inl ?_⟩ | refine ⟨?_, ?_⟩ | refine fun ii hii => ?_ | omega | fail)
      · (repeat' first | exact trivial | exact rfl | exact sh0 rfl | exact Nat.le_refl _ | exact .inl shA | exact .inr ⟨rfl, rfl, rfl, rfl, rfl⟩ | exact .inl shB | exact fun h => h | refine ⟨?_, ?_, ?_, .inl ?_⟩ | refine ⟨?_, ?_⟩ | refine fun ii hii => ?_ | omega | fail)
theorem sumSum (m : Nat) (f : F8) (hf : ∀ i, f i < 256) (hm : m ≤ 4611686018427387904) : LCalls Try.prog 101 (.cons (bV m f) .nil) [] (fun e h' => e = .ret (wN (sumN m f)) ∧ h' = []) := by
  refine LCalls.tell ?_; refine enter101 rfl ?_; conv => whnf
  refine LCalls.use (sumAdd m f hf hm) [] rfl rfl trivial ?_; rintro _ _ ⟨rfl, rfl⟩; conv => whnf
  refine ⟨[], _, _, rfl, rfl, ?_, ?_, rfl, rfl⟩
  · (repeat' first | exact trivial | exact rfl | exact sh0 rfl | exact Nat.le_refl _ | exact .inl shA | exact .inr ⟨rfl, rfl, rfl, rfl, rfl⟩ | exact .inl shB | exact fun h => h | refine ⟨?_, ?_, ?_, .inl ?_⟩ | refine ⟨?_, ?_⟩ | refine fun ii hii => ?_ | omega | fail)
  · (repeat' first | exact trivial | exact rfl | exact sh0 rfl | exact Nat.le_refl _ | exact .inl shA | exact .inr ⟨rfl, rfl, rfl, rfl, rfl⟩ | exact .inl shB | exact fun h => h | refine ⟨?_, ?_, ?_, .inl ?_⟩ | refine ⟨?_, ?_⟩ | refine fun ii hii => ?_ | omega | fail)
end Go.Proofs.Ytilmfhpoiejmfaa.Gk
