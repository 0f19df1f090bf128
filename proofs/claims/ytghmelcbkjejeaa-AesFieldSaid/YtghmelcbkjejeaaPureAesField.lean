/- Products of bytes commute, associate, go over sums, and 1 is neutral, for any three bytes. No condition. -/
import Derived.Test.YtghmelcbkjejeaaPAesFieldx1
import Derived.Test.YtghmelcbkjejeaaGf
import Derived.Test.YtghmelcbkjejeaaBr
namespace Go.Proofs.Ytghmelcbkjejeaa.Pure
open Go.RowKit Go.Proofs.Ytghmelcbkjejeaa.PAesField Go.Proofs.YtghmelcbkjejeaaW.PrintWords Go.Proofs.YtghmelcbkjejeaaW.PrintLast Go.Proofs.YtghmelcbkjejeaaW.PrintMore

theorem double_eq (a : Nat) (ha : a < 256) : aes_double.f (a : Int) = some ((Gf.dbl a : Nat) : Int) := by
  unfold aes_double.f Gf.dbl
  have h1 : Go.bits .and .u8 (a : Int) 128 = ((a &&& 128 : Nat) : Int) := Br.and_u8 a 128 ha (by decide)
  have h2 : ((a : Int) * 2) % 256 = ((a * 2 % 256 : Nat) : Int) := by omega
  have h3 : Go.bits .xor .u8 ((a * 2 % 256 : Nat) : Int) 27 = (((a * 2 % 256) ^^^ 27 : Nat) : Int) := Br.xor_u8 _ 27 (Nat.mod_lt _ (by decide)) (by decide)
  rw [h1, h2, h3]
  by_cases h : a &&& 128 = 0
  · rw [if_pos (by rw [h]; rfl), if_pos h]
  · rw [if_neg (by omega), if_neg h]
theorem times_l0 (n : Nat) : ∀ (k a b p : Nat), b < 2 ^ n → n < k → a < 256 → p < 256 → aes_Times.l0 k (a : Int) (b : Int) (p : Int) = some ((p ^^^ Gf.mul n a b : Nat) : Int) := by
  induction n with
  | zero =>
    intro k a b p hb hk _ _
    obtain ⟨k, rfl⟩ : ∃ m, k = m + 1 := ⟨k - 1, by omega⟩
    have : b = 0 := by simpa using hb
    subst this
    simp only [aes_Times.l0]
    rw [if_pos (by rfl)]
    simp [Gf.mul]
  | succ n ih =>
    intro k a b p hb hk ha hp
    obtain ⟨k, rfl⟩ : ∃ m, k = m + 1 := ⟨k - 1, by omega⟩
    have hand : Go.bits .and .u8 (b : Int) 1 = 1 ↔ b % 2 = 1 := by
      have : ∀ x : Int, (Go.bits .and .u8 x 1) = x % 2 := by
        intro x
        show IntKind.u8.wrap ((BitVec.ofInt 8 x &&& BitVec.ofInt 8 1).toNat : Int) = _
        rw [BitVec.toNat_and, BitVec.toNat_ofInt, IntKind.wrap_u8']
        rw [show (BitVec.ofInt 8 1).toNat = 1 from rfl, Nat.and_one_is_mod]
        omega
      rw [this]
      omega
    have hd : ((b : Int) / 2) = ((b / 2 : Nat) : Int) := by omega
    have hb2 : b / 2 < 2 ^ n := by rw [Nat.pow_succ] at hb; omega
    have hx : Go.bits .xor .u8 (p : Int) (a : Int) = ((p ^^^ a : Nat) : Int) := Br.xor_u8 p a hp ha
    have hpa : p ^^^ a < 256 := Nat.xor_lt_two_pow (n := 8) hp ha
    simp only [aes_Times.l0, double_eq a ha, Option.bind_some, hd, hx, Gf.mul]
    by_cases h0 : b = 0
    · subst h0
      rw [if_pos (by rfl)]
      have : Gf.mul n (Gf.dbl a) 0 = 0 := by have := Gf.mul_xor_right n (Gf.dbl a) 0 0; simpa using this
      simp [this]
    · rw [if_neg (by omega)]
      by_cases h1 : b % 2 = 1
      · rw [if_pos (hand.mpr h1), if_pos h1, ih k _ _ _ hb2 (by omega) (Gf.dbl_lt a) hpa, Nat.xor_assoc]
      · rw [if_neg (fun h => h1 (hand.mp h)), if_neg h1, ih k _ _ _ hb2 (by omega) (Gf.dbl_lt a) hp, Nat.zero_xor]
theorem times_eq (k a b : Nat) (hk : 8 < k) (ha : a < 256) (hb : b < 256) : aes_Times.f k (a : Int) (b : Int) = some ((Gf.m8 a b : Nat) : Int) := by
  unfold aes_Times.f
  have := times_l0 8 k a b 0 hb hk ha (by decide)
  simpa using this

theorem AesField : palatinelaw06_AesField.Pure := by
  intro x y z hx hy hz
  obtain ⟨a, rfl, ha⟩ := Br.wf_u8 hx
  obtain ⟨b, rfl, hb⟩ := Br.wf_u8 hy
  obtain ⟨c, rfl, hc⟩ := Br.wf_u8 hz
  refine ⟨9, ?_⟩
  have t : ∀ a b : Nat, a < 256 → b < 256 → aes_Times.f 9 (a : Int) (b : Int) = some ((Gf.m8 a b : Nat) : Int) := fun a b => times_eq 9 a b (by decide)
  have l : ∀ a b : Nat, a < 256 → Gf.m8 a b < 256 := fun a b h => Gf.mul_lt 8 a b h
  have hx : Go.bits .xor .u8 (a : Int) (b : Int) = ((a ^^^ b : Nat) : Int) := Br.xor_u8 a b ha hb
  have hx2 : Go.bits .xor .u8 ((Gf.m8 a c : Nat) : Int) ((Gf.m8 b c : Nat) : Int) = ((Gf.m8 a c ^^^ Gf.m8 b c : Nat) : Int) := Br.xor_u8 _ _ (l a c ha) (l b c hb)
  have h1 : aes_Times.f 9 (a : Int) 1 = some ((Gf.m8 a 1 : Nat) : Int) := t a 1 ha (by decide)
  unfold palatinelaw06_AesField.f
  simp only [t a b ha hb, t b a hb ha, t b c hb hc, t a c ha hc, t _ c (l a b ha) hc, t a _ ha (l b c hb), hx, t _ c (Nat.xor_lt_two_pow (n := 8) ha hb) hc, h1, Option.bind_some, hx2]
  rw [if_pos (by rw [Gf.m8_comm a b ha hb]), if_pos (by rw [Gf.m8_assoc a b c ha hb hc]), if_pos (by simp only [Gf.m8]; rw [Gf.mul_xor_left]), Gf.m8_one a ha]
  simp

end Go.Proofs.Ytghmelcbkjejeaa.Pure
