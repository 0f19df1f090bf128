/- A byte's box is the document's, for any byte. No condition. -/
import Derived.Test.YtghmelcbkjejeaaPAesBoxx1
import Derived.Test.YtghmelcbkjejeaaGf
import Derived.Test.YtghmelcbkjejeaaBr
namespace Go.Proofs.Ytghmelcbkjejeaa.Pure
open Go.RowKit Go.Proofs.Ytghmelcbkjejeaa.PAesBox Go.Proofs.YtghmelcbkjejeaaW.PrintWords Go.Proofs.YtghmelcbkjejeaaW.PrintLast Go.Proofs.YtghmelcbkjejeaaW.PrintMore

theorem double_eq (a : Nat) (ha : a < 256) : aes_double.f (a : Int) = some ((Gf.dbl a : Nat) : Int) := by
  unfold aes_double.f Gf.dbl
  have h1 : Go.bits .and .u8 (a : Int) 128 = ((a &&& 128 : Nat) : Int) := Br.and_u8 a 128 ha (by decide)
  have h2 : ((a : Int) * 2) % 256 = ((a * 2 % 256 : Nat) : Int) := by omega
  have h3 : Go.bits .xor .u8 ((a * 2 % 256 : Nat) : Int) 27 = (((a * 2 % 256) ^^^ 27 : Nat) : Int) := Br.xor_u8 _ 27 (Nat.mod_lt _ (by decide)) (by decide)
  rw [h1, h2, h3]
  by_cases h : a &&& 128 = 0
  · rw [if_pos (by rw [h]; rfl), if_pos h]
  · rw [if_neg (by omega), if_neg h]
theorem times_l0 (n : Nat) : ∀ (k a b p : Nat), b < 2 ^ n → n < k → a < 256 → p < 256 → aes_Times.l0 k (a : Int) (b : Int) (p : Int) = some ((p ^^^ Gf.mul n a b : Nat) : Int) := by
  induction n with
  | zero =>
    intro k a b p hb hk _ _
    obtain ⟨k, rfl⟩ : ∃ m, k = m + 1 := ⟨k - 1, by omega⟩
    have : b = 0 := by simpa using hb
    subst this
    simp only [aes_Times.l0]
    rw [if_pos (by rfl)]
    simp [Gf.mul]
  | succ n ih =>
    intro k a b p hb hk ha hp
    obtain ⟨k, rfl⟩ : ∃ m, k = m + 1 := ⟨k - 1, by omega⟩
    have hand : Go.bits .and .u8 (b : Int) 1 = 1 ↔ b % 2 = 1 := by
      have : ∀ x : Int, (Go.bits .and .u8 x 1) = x % 2 := by
        intro x
        show IntKind.u8.wrap ((BitVec.ofInt 8 x &&& BitVec.ofInt 8 1).toNat : Int) = _
        rw [BitVec.toNat_and, BitVec.toNat_ofInt, IntKind.wrap_u8']
        rw [show (BitVec.ofInt 8 1).toNat = 1 from rfl, Nat.and_one_is_mod]
        omega
      rw [this]
      omega
    have hd : ((b : Int) / 2) = ((b / 2 : Nat) : Int) := by omega
    have hb2 : b / 2 < 2 ^ n := by rw [Nat.pow_succ] at hb; omega
    have hx : Go.bits .xor .u8 (p : Int) (a : Int) = ((p ^^^ a : Nat) : Int) := Br.xor_u8 p a hp ha
    have hpa : p ^^^ a < 256 := Nat.xor_lt_two_pow (n := 8) hp ha
    simp only [aes_Times.l0, double_eq a ha, Option.bind_some, hd, hx, Gf.mul]
    by_cases h0 : b = 0
    · subst h0
      rw [if_pos (by rfl)]
      have : Gf.mul n (Gf.dbl a) 0 = 0 := by have := Gf.mul_xor_right n (Gf.dbl a) 0 0; simpa using this
      simp [this]
    · rw [if_neg (by omega)]
      by_cases h1 : b % 2 = 1
      · rw [if_pos (hand.mpr h1), if_pos h1, ih k _ _ _ hb2 (by omega) (Gf.dbl_lt a) hpa, Nat.xor_assoc]
      · rw [if_neg (fun h => h1 (hand.mp h)), if_neg h1, ih k _ _ _ hb2 (by omega) (Gf.dbl_lt a) hp, Nat.zero_xor]
theorem times_eq (k a b : Nat) (hk : 8 < k) (ha : a < 256) (hb : b < 256) : aes_Times.f k (a : Int) (b : Int) = some ((Gf.m8 a b : Nat) : Int) := by
  unfold aes_Times.f
  have := times_l0 8 k a b 0 hb hk ha (by decide)
  simpa using this

theorem ref_l1 (d : Nat) : ∀ (k p : Nat), d < k → d ≤ 7 → p < 2 ^ 16 → palatineref06_Times.l1 k (p : Int) ((7 + d : Nat) : Int) = some ((Gf.r1 d p % 256 : Nat) : Int) := by
  induction d with
  | zero =>
    intro k p hk _ _
    obtain ⟨k, rfl⟩ : ∃ m, k = m + 1 := ⟨k - 1, by omega⟩
    simp only [palatineref06_Times.l1, Gf.r1]
    rw [if_neg (by omega)]
    simp
  | succ d ih =>
    intro k p hk hd hp
    obtain ⟨k, rfl⟩ : ∃ m, k = m + 1 := ⟨k - 1, by omega⟩
    have e1 : ((7 + (d + 1) : Nat) : Int) = ((d + 8 : Nat) : Int) := by omega
    have e2 : wrap64 (((d + 8 : Nat) : Int) - 8) = ((d : Nat) : Int) := by rw [Br.w64 _ (by omega) (by omega)]; omega
    have e3 : wrap64 (((d + 8 : Nat) : Int) - 1) = ((7 + d : Nat) : Int) := by rw [Br.w64 _ (by omega) (by omega)]; omega
    have e4 : Int.tmod (shr .i64 (p : Int) ((d + 8 : Nat) : Int)) 2 = 1 ↔ p.testBit (d + 8) = true := by
      rw [Br.shr_nat .i64 p (d + 8) (show d + 8 ≤ 64 by omega), Br.tmod2, ← Br.bit_mod]
      omega
    have hs : 283 * 2 ^ d < 2 ^ 16 := by
      have h := Nat.pow_le_pow_right (n := 2) (by decide) (show d ≤ 6 by omega)
      omega
    have e5 : shl .i64 283 (d : Int) = ((283 * 2 ^ d : Nat) : Int) := Br.shl_i64 283 d (by omega) (by omega)
    have e6 : Go.bits .xor .i64 (p : Int) ((283 * 2 ^ d : Nat) : Int) = ((p ^^^ (283 * 2 ^ d) : Nat) : Int) := Br.xor_i64 _ _ (by omega) (by omega)
    have hx : p ^^^ (283 * 2 ^ d) < 2 ^ 16 := Nat.xor_lt_two_pow hp hs
    rw [e1]
    simp only [palatineref06_Times.l1, Gf.r1, e2, e3, e5, e6]
    rw [if_pos (show ((d + 8 : Nat) : Int) ≥ 8 by omega), if_pos (show (0 : Int) ≤ ((d + 8 : Nat) : Int) by omega), if_pos (show (0 : Int) ≤ ((d : Nat) : Int) by omega)]
    by_cases h : p.testBit (d + 8) = true
    · rw [if_pos (e4.mpr h), if_pos h, ih k _ (by omega) (by omega) hx]
    · rw [if_neg (fun x => h (e4.mp x)), if_neg h, ih k _ (by omega) (by omega) hp]
theorem r0_lt (n : Nat) : ∀ (a b m : Nat), a * 2 ^ n ≤ 2 ^ m → Gf.r0 n a b < 2 ^ m := by
  induction n with
  | zero => intro a b m _; simp [Gf.r0, Nat.two_pow_pos]
  | succ n ih =>
    intro a b m h
    simp only [Gf.r0]
    have h2 : a * 2 * 2 ^ n ≤ 2 ^ m := by rw [Nat.pow_succ] at h; rw [Nat.mul_assoc, Nat.mul_comm 2]; exact h
    have hpos := Nat.two_pow_pos n
    have ha : a < 2 ^ m := by
      have : a * 2 ≤ a * 2 * 2 ^ n := Nat.le_mul_of_pos_right _ hpos
      have := Nat.two_pow_pos m
      omega
    refine Nat.xor_lt_two_pow ?_ (ih _ _ _ h2)
    split
    · exact ha
    · exact Nat.two_pow_pos _
theorem ref_l0 (d : Nat) : ∀ (k a b p i : Nat), i + d = 8 → a < 256 → p < 2 ^ 16 → b < 256 →
    palatineref06_Times.l0 (k + d + 1) (a : Int) (b : Int) (p : Int) (i : Int) = palatineref06_Times.l1 k ((p ^^^ Gf.r0 d (a * 2 ^ i) (b / 2 ^ i) : Nat) : Int) 14 := by
  induction d with
  | zero =>
    intro k a b p i hi _ _ _
    simp only [palatineref06_Times.l0, Gf.r0]
    rw [if_neg (by omega)]
    simp
  | succ d ih =>
    intro k a b p i hi ha hp hb
    have ha2 : a * 2 ^ i < 2 ^ 16 := by
      have h := Nat.pow_le_pow_right (n := 2) (by decide) (show i ≤ 7 by omega)
      have : a * 2 ^ i ≤ 255 * 2 ^ 7 := Nat.mul_le_mul (by omega) h
      omega
    have e0 : wrap64 ((b : Int)) = (b : Int) := Br.w64 _ (by omega) (by omega)
    have e0a : wrap64 ((a : Int)) = (a : Int) := Br.w64 _ (by omega) (by omega)
    have e1 : wrap64 ((i : Int) + 1) = ((i + 1 : Nat) : Int) := by rw [Br.w64 _ (by omega) (by omega)]; omega
    have e4 : Int.tmod (shr .i64 (b : Int) (i : Int)) 2 = 1 ↔ (b / 2 ^ i) % 2 = 1 := by
      rw [Br.shr_nat .i64 b i (show i ≤ 64 by omega), Br.tmod2]
      omega
    have e5 : shl .i64 (a : Int) (i : Int) = ((a * 2 ^ i : Nat) : Int) := Br.shl_i64 a i (by omega) (by omega)
    have e6 : Go.bits .xor .i64 (p : Int) ((a * 2 ^ i : Nat) : Int) = ((p ^^^ (a * 2 ^ i) : Nat) : Int) := Br.xor_i64 _ _ (by omega) (by omega)
    have hx : p ^^^ (a * 2 ^ i) < 2 ^ 16 := Nat.xor_lt_two_pow hp ha2
    have f1 : a * 2 ^ i * 2 = a * 2 ^ (i + 1) := by rw [Nat.pow_succ, Nat.mul_assoc]
    have f2 : b / 2 ^ i / 2 = b / 2 ^ (i + 1) := by rw [Nat.pow_succ, Nat.div_div_eq_div_mul]
    obtain ⟨q, hq⟩ : ∃ q, q = k + d + 1 := ⟨_, rfl⟩
    rw [show k + (d + 1) + 1 = (k + d + 1) + 1 from rfl, ← hq]
    simp only [palatineref06_Times.l0, Gf.r0, e0, e0a, e1, e5, e6, f1, f2]
    rw [if_pos (by omega), if_pos (by omega)]
    by_cases h : (b / 2 ^ i) % 2 = 1
    · rw [if_pos (e4.mpr h), if_pos h, hq, ih k a b _ (i + 1) (by omega) ha hx hb, Nat.xor_assoc]
    · rw [if_neg (fun x => h (e4.mp x)), if_neg h, hq, ih k a b _ (i + 1) (by omega) ha hp hb, Nat.zero_xor]
theorem ref_eq (k a b : Nat) (hk : 16 < k) (ha : a < 256) (hb : b < 256) : palatineref06_Times.f k (a : Int) (b : Int) = some ((Gf.m8 a b : Nat) : Int) := by
  obtain ⟨k, rfl⟩ : ∃ m, k = m + 8 + 1 := ⟨k - 9, by omega⟩
  unfold palatineref06_Times.f
  have h := ref_l0 8 k a b 0 0 rfl ha (by decide) hb
  have hl : Gf.r0 8 a b < 2 ^ 16 := r0_lt 8 a b 16 (by omega)
  have h1 := ref_l1 7 k (Gf.r0 8 a b) (by omega) (by omega) hl
  simp only [Nat.pow_zero, Nat.mul_one, Nat.div_one, Nat.zero_xor] at h
  rw [show ((0 : Nat) : Int) = 0 from rfl] at h
  rw [h, show (14 : Int) = ((7 + 7 : Nat) : Int) from rfl, h1]
  show some ((Gf.ref a b : Nat) : Int) = _
  rw [Gf.ref_eq a b ha hb]

theorem inverse_l0 (d : Nat) : ∀ (k b p i : Nat), i + d = 7 → d + 9 < k → b < 256 → p < 256 → aes_inverse.l0 k (b : Int) (p : Int) (i : Int) = some ((Gf.invr d b p : Nat) : Int) := by
  induction d with
  | zero =>
    intro k b p i hi hk _ _
    obtain ⟨k, rfl⟩ : ∃ m, k = m + 1 := ⟨k - 1, by omega⟩
    simp only [aes_inverse.l0, Gf.invr]
    rw [if_neg (by omega)]
  | succ d ih =>
    intro k b p i hi hk hb hp
    obtain ⟨k, rfl⟩ : ∃ m, k = m + 1 := ⟨k - 1, by omega⟩
    have e1 : wrap64 ((i : Int) + 1) = ((i + 1 : Nat) : Int) := by rw [Br.w64 _ (by omega) (by omega)]; omega
    have l1 := Gf.mul_lt 8 b b hb
    simp only [aes_inverse.l0, Gf.invr, e1, times_eq k b b (by omega) hb hb, times_eq k p (Gf.m8 b b) (by omega) hp l1, Option.bind_some]
    rw [if_pos (by omega), ih k _ _ (i + 1) (by omega) (by omega) l1 (Gf.mul_lt 8 p _ hp)]
theorem inverse_eq (k b : Nat) (hk : 16 < k) (hb : b < 256) : aes_inverse.f k (b : Int) = some ((Gf.inv b : Nat) : Int) := by
  unfold aes_inverse.f
  exact inverse_l0 7 k b 1 0 rfl (by omega) hb (by decide)
theorem rotl_eq (x k : Nat) (hx : x < 256) (hk : k < 8) : bits_RotateLeft8.f (x : Int) (k : Int) = some ((Gf.rotl x k : Nat) : Int) := by
  have h1 : ∀ k : Nat, k < 8 → Go.bits .and .u64 (IntKind.u64.wrap (k : Int)) 7 = (k : Int) ∧ IntKind.u64.wrap (8 - (k : Int)) = ((8 - k : Nat) : Int) := by decide +kernel
  obtain ⟨h2, h3⟩ := h1 k hk
  unfold bits_RotateLeft8.f Gf.rotl
  rw [h2, h3, if_pos (by omega), if_pos (by omega), Br.shl_u8 x k (by omega), Br.shr_nat .u8 x (8 - k) (show 8 - k ≤ 8 by omega)]
  rw [Br.or_u8 _ _ (Nat.mod_lt _ (by decide)) (Nat.lt_of_le_of_lt (Nat.div_le_self _ _) hx)]
theorem box_l0 (d : Nat) : ∀ (k r o i : Nat), i + d = 5 → d < k → r < 256 → o < 256 → aes_Box.l0 k (r : Int) (o : Int) (i : Int) = some ((Gf.boxr d r o i : Nat) : Int) := by
  induction d with
  | zero =>
    intro k r o i hi hk _ _
    obtain ⟨k, rfl⟩ : ∃ m, k = m + 1 := ⟨k - 1, by omega⟩
    simp only [aes_Box.l0, Gf.boxr]
    rw [if_neg (by omega)]
  | succ d ih =>
    intro k r o i hi hk hr ho
    obtain ⟨k, rfl⟩ : ∃ m, k = m + 1 := ⟨k - 1, by omega⟩
    have e1 : wrap64 ((i : Int) + 1) = ((i + 1 : Nat) : Int) := by rw [Br.w64 _ (by omega) (by omega)]; omega
    have l1 := Gf.rotl_lt r i hr
    simp only [aes_Box.l0, Gf.boxr, e1, rotl_eq r i hr (by omega), Option.bind_some]
    rw [if_pos (by omega), Br.xor_u8 o _ ho l1, ih k r _ (i + 1) (by omega) (by omega) hr (Nat.xor_lt_two_pow (n := 8) ho l1)]
theorem box_eq (k b : Nat) (hk : 16 < k) (hb : b < 256) : aes_Box.f k (b : Int) = some ((Gf.box b : Nat) : Int) := by
  unfold aes_Box.f
  rw [inverse_eq k b hk hb, Option.bind_some]
  exact box_l0 5 k (Gf.inv b) 99 0 rfl (by omega) (Gf.inv_lt b hb) (by decide)

theorem refinv_l0 (d : Nat) : ∀ (k a n : Nat), n + d = 256 → d + 17 < k → 1 ≤ n → a < 256 → (∀ m, 1 ≤ m → m < n → Gf.m8 a m ≠ 1) → palatineref06_Inverse.l0 k (a : Int) (n : Int) = some ((Gf.inv a : Nat) : Int) := by
  induction d with
  | zero =>
    intro k a n hn hk _ ha hno
    obtain ⟨k, rfl⟩ : ∃ m, k = m + 1 := ⟨k - 1, by omega⟩
    simp only [palatineref06_Inverse.l0]
    rw [if_neg (by omega)]
    have h0 : a = 0 := by
      by_cases h : a = 0
      · exact h
      · have h1 := Gf.inv_mul a ha h
        have h2 := Gf.inv_lt a ha
        have h3 : 1 ≤ Gf.inv a := by
          rcases Nat.eq_zero_or_pos (Gf.inv a) with e | e
          · rw [e] at h1
            have := Gf.mul_xor_right 8 a 0 0
            rw [Nat.xor_self] at this
            rw [Nat.xor_self] at this
            exact absurd h1 (by simp only [Gf.m8]; omega)
          · exact e
        exact absurd h1 (hno _ h3 (by omega))
    subst h0
    rw [Gf.inv_zero]
    rfl
  | succ d ih =>
    intro k a n hn hk h1 ha hno
    obtain ⟨k, rfl⟩ : ∃ m, k = m + 1 := ⟨k - 1, by omega⟩
    have e0 : ((n : Int)) % 256 = (n : Int) := by omega
    have e1 : wrap64 ((n : Int) + 1) = ((n + 1 : Nat) : Int) := by rw [Br.w64 _ (by omega) (by omega)]; omega
    simp only [palatineref06_Inverse.l0, e0, e1, ref_eq k a n (by omega) ha (show n < 256 by omega), Option.bind_some]
    rw [if_pos (by omega)]
    by_cases h : Gf.m8 a n = 1
    · rw [if_pos (by rw [h]; rfl), Gf.inv_unique a n ha (by omega) h]
    · rw [if_neg (by omega)]
      refine ih k a (n + 1) (by omega) (by omega) (by omega) ha (fun m hm hmn => ?_)
      rcases Nat.lt_or_ge m n with hlt | hge
      · exact hno m hm hlt
      · have : m = n := by omega
        subst this
        exact h
theorem boxes_alike : ∀ r, r < 256 → aes_Box.l0 300 ((r : Nat) : Int) 99 0 = palatineref06_Box.l0 300 ((r : Nat) : Int) 0 0 := Gf.ball 256 (by decide +kernel)
theorem AesBox : palatinelaw06_AesBox.Pure := by
  intro x hx
  obtain ⟨a, rfl, ha⟩ := Br.wf_u8 hx
  refine ⟨300, ?_⟩
  have h1 := box_eq 300 a (by decide) ha
  have h2 : palatineref06_Box.f 300 (a : Int) = aes_Box.f 300 (a : Int) := by
    unfold palatineref06_Box.f palatineref06_Inverse.f aes_Box.f
    have hi := refinv_l0 255 300 a 1 rfl (by decide) (by decide) ha (fun m hm hmn => by omega)
    have hl := Gf.inv_lt a ha
    rw [show (1 : Int) = ((1 : Nat) : Int) from rfl, hi, inverse_eq 300 a (by decide) ha, Option.bind_some, Option.bind_some, Br.w64 _ (by omega) (by omega)]
    exact (boxes_alike _ hl).symm
  unfold palatinelaw06_AesBox.f
  rw [h2, h1]
  simp

end Go.Proofs.Ytghmelcbkjejeaa.Pure
