/- Boxes of unlike bytes are unlike, and no byte is its own box nor its contrary, for any two bytes. No condition. -/
import Derived.Test.YtghmelcbkjejeaaPAesBoxesx1
import Derived.Test.YtghmelcbkjejeaaGf
import Derived.Test.YtghmelcbkjejeaaBr
namespace Go.Proofs.Ytghmelcbkjejeaa.Pure
open Go.RowKit Go.Proofs.Ytghmelcbkjejeaa.PAesBoxes Go.Proofs.YtghmelcbkjejeaaW.PrintWords Go.Proofs.YtghmelcbkjejeaaW.PrintLast Go.Proofs.YtghmelcbkjejeaaW.PrintMore

theorem double_eq (a : Nat) (ha : a < 256) : aes_double.f (a : Int) = some ((Gf.dbl a : Nat) : Int) := by
  unfold aes_double.f Gf.dbl
  have h1 : Go.bits .and .u8 (a : Int) 128 = ((a &&& 128 : Nat) : Int) := Br.and_u8 a 128 ha (by decide)
  have h2 : ((a : Int) * 2) % 256 = ((a * 2 % 256 : Nat) : Int) := by omega
  have h3 : Go.bits .xor .u8 ((a * 2 % 256 : Nat) : Int) 27 = (((a * 2 % 256) ^^^ 27 : Nat) : Int) := Br.xor_u8 _ 27 (Nat.mod_lt _ (by decide)) (by decide)
  rw [h1, h2, h3]
  by_cases h : a &&& 128 = 0
  · rw [if_pos (by rw [h]; rfl), if_pos h]
  · rw [if_neg (by omega), if_neg h]
theorem times_l0 (n : Nat) : ∀ (k a b p : Nat), b < 2 ^ n → n < k → a < 256 → p < 256 → aes_Times.l0 k (a : Int) (b : Int) (p : Int) = some ((p ^^^ Gf.mul n a b : Nat) : Int) := by
  induction n with
  | zero =>
    intro k a b p hb hk _ _
    obtain ⟨k, rfl⟩ : ∃ m, k = m + 1 := ⟨k - 1, by omega⟩
    have : b = 0 := by simpa using hb
    subst this
    simp only [aes_Times.l0]
    rw [if_pos (by rfl)]
    simp [Gf.mul]
  | succ n ih =>
    intro k a b p hb hk ha hp
    obtain ⟨k, rfl⟩ : ∃ m, k = m + 1 := ⟨k - 1, by omega⟩
    have hand : Go.bits .and .u8 (b : Int) 1 = 1 ↔ b % 2 = 1 := by
      have : ∀ x : Int, (Go.bits .and .u8 x 1) = x % 2 := by
        intro x
        show IntKind.u8.wrap ((BitVec.ofInt 8 x &&& BitVec.ofInt 8 1).toNat : Int) = _
        rw [BitVec.toNat_and, BitVec.toNat_ofInt, IntKind.wrap_u8']
        rw [show (BitVec.ofInt 8 1).toNat = 1 from rfl, Nat.and_one_is_mod]
        omega
      rw [this]
      omega
    have hd : ((b : Int) / 2) = ((b / 2 : Nat) : Int) := by omega
    have hb2 : b / 2 < 2 ^ n := by rw [Nat.pow_succ] at hb; omega
    have hx : Go.bits .xor .u8 (p : Int) (a : Int) = ((p ^^^ a : Nat) : Int) := Br.xor_u8 p a hp ha
    have hpa : p ^^^ a < 256 := Nat.xor_lt_two_pow (n := 8) hp ha
    simp only [aes_Times.l0, double_eq a ha, Option.bind_some, hd, hx, Gf.mul]
    by_cases h0 : b = 0
    · subst h0
      rw [if_pos (by rfl)]
      have : Gf.mul n (Gf.dbl a) 0 = 0 := by have := Gf.mul_xor_right n (Gf.dbl a) 0 0; simpa using this
      simp [this]
    · rw [if_neg (by omega)]
      by_cases h1 : b % 2 = 1
      · rw [if_pos (hand.mpr h1), if_pos h1, ih k _ _ _ hb2 (by omega) (Gf.dbl_lt a) hpa, Nat.xor_assoc]
      · rw [if_neg (fun h => h1 (hand.mp h)), if_neg h1, ih k _ _ _ hb2 (by omega) (Gf.dbl_lt a) hp, Nat.zero_xor]
theorem times_eq (k a b : Nat) (hk : 8 < k) (ha : a < 256) (hb : b < 256) : aes_Times.f k (a : Int) (b : Int) = some ((Gf.m8 a b : Nat) : Int) := by
  unfold aes_Times.f
  have := times_l0 8 k a b 0 hb hk ha (by decide)
  simpa using this

theorem inverse_l0 (d : Nat) : ∀ (k b p i : Nat), i + d = 7 → d + 9 < k → b < 256 → p < 256 → aes_inverse.l0 k (b : Int) (p : Int) (i : Int) = some ((Gf.invr d b p : Nat) : Int) := by
  induction d with
  | zero =>
    intro k b p i hi hk _ _
    obtain ⟨k, rfl⟩ : ∃ m, k = m + 1 := ⟨k - 1, by omega⟩
    simp only [aes_inverse.l0, Gf.invr]
    rw [if_neg (by omega)]
  | succ d ih =>
    intro k b p i hi hk hb hp
    obtain ⟨k, rfl⟩ : ∃ m, k = m + 1 := ⟨k - 1, by omega⟩
    have e1 : wrap64 ((i : Int) + 1) = ((i + 1 : Nat) : Int) := by rw [Br.w64 _ (by omega) (by omega)]; omega
    have l1 := Gf.mul_lt 8 b b hb
    simp only [aes_inverse.l0, Gf.invr, e1, times_eq k b b (by omega) hb hb, times_eq k p (Gf.m8 b b) (by omega) hp l1, Option.bind_some]
    rw [if_pos (by omega), ih k _ _ (i + 1) (by omega) (by omega) l1 (Gf.mul_lt 8 p _ hp)]
theorem inverse_eq (k b : Nat) (hk : 16 < k) (hb : b < 256) : aes_inverse.f k (b : Int) = some ((Gf.inv b : Nat) : Int) := by
  unfold aes_inverse.f
  exact inverse_l0 7 k b 1 0 rfl (by omega) hb (by decide)
theorem rotl_eq (x k : Nat) (hx : x < 256) (hk : k < 8) : bits_RotateLeft8.f (x : Int) (k : Int) = some ((Gf.rotl x k : Nat) : Int) := by
  have h1 : ∀ k : Nat, k < 8 → Go.bits .and .u64 (IntKind.u64.wrap (k : Int)) 7 = (k : Int) ∧ IntKind.u64.wrap (8 - (k : Int)) = ((8 - k : Nat) : Int) := by decide +kernel
  obtain ⟨h2, h3⟩ := h1 k hk
  unfold bits_RotateLeft8.f Gf.rotl
  rw [h2, h3, if_pos (by omega), if_pos (by omega), Br.shl_u8 x k (by omega), Br.shr_nat .u8 x (8 - k) (show 8 - k ≤ 8 by omega)]
  rw [Br.or_u8 _ _ (Nat.mod_lt _ (by decide)) (Nat.lt_of_le_of_lt (Nat.div_le_self _ _) hx)]
theorem box_l0 (d : Nat) : ∀ (k r o i : Nat), i + d = 5 → d < k → r < 256 → o < 256 → aes_Box.l0 k (r : Int) (o : Int) (i : Int) = some ((Gf.boxr d r o i : Nat) : Int) := by
  induction d with
  | zero =>
    intro k r o i hi hk _ _
    obtain ⟨k, rfl⟩ : ∃ m, k = m + 1 := ⟨k - 1, by omega⟩
    simp only [aes_Box.l0, Gf.boxr]
    rw [if_neg (by omega)]
  | succ d ih =>
    intro k r o i hi hk hr ho
    obtain ⟨k, rfl⟩ : ∃ m, k = m + 1 := ⟨k - 1, by omega⟩
    have e1 : wrap64 ((i : Int) + 1) = ((i + 1 : Nat) : Int) := by rw [Br.w64 _ (by omega) (by omega)]; omega
    have l1 := Gf.rotl_lt r i hr
    simp only [aes_Box.l0, Gf.boxr, e1, rotl_eq r i hr (by omega), Option.bind_some]
    rw [if_pos (by omega), Br.xor_u8 o _ ho l1, ih k r _ (i + 1) (by omega) (by omega) hr (Nat.xor_lt_two_pow (n := 8) ho l1)]
theorem box_eq (k b : Nat) (hk : 16 < k) (hb : b < 256) : aes_Box.f k (b : Int) = some ((Gf.box b : Nat) : Int) := by
  unfold aes_Box.f
  rw [inverse_eq k b hk hb, Option.bind_some]
  exact box_l0 5 k (Gf.inv b) 99 0 rfl (by omega) (Gf.inv_lt b hb) (by decide)

theorem AesBoxes : palatinelaw06_AesBoxes.Pure := by
  intro x y hx hy
  obtain ⟨a, rfl, ha⟩ := Br.wf_u8 hx
  obtain ⟨b, rfl, hb⟩ := Br.wf_u8 hy
  refine ⟨17, ?_⟩
  unfold palatinelaw06_AesBoxes.f
  rw [box_eq 17 a (by decide) ha, box_eq 17 b (by decide) hb, Option.bind_some, Option.bind_some]
  obtain ⟨n1, n2⟩ := Gf.box_ne a ha
  have hl := Gf.box_lt a ha
  have e : ((((Gf.box a : Nat) : Int) == ((Gf.box b : Nat) : Int)) == ((a : Int) == (b : Int))) = true := by
    by_cases h : a = b
    · subst h; simp
    · have h2 : Gf.box a ≠ Gf.box b := fun e => h (Gf.box_inj a b ha hb e)
      have f1 : (((Gf.box a : Nat) : Int) == ((Gf.box b : Nat) : Int)) = false := beq_eq_false_iff_ne.mpr (by omega)
      have f2 : ((a : Int) == (b : Int)) = false := beq_eq_false_iff_ne.mpr (by omega)
      rw [f1, f2]
      rfl
  rw [if_pos e, if_neg (by omega)]
  have : (((Gf.box a : Nat) : Int) != ((255 - (a : Int)) % 256)) = true := by
    rw [bne_iff_ne]
    omega
  rw [this]

end Go.Proofs.Ytghmelcbkjejeaa.Pure
