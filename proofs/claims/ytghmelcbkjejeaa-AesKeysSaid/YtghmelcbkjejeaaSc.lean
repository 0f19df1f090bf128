/- The contracts of the program's scalar functions (double, Times, inverse, RotateLeft8, Box, unbox): each answers as the plain function says, and leaves the world alone. Any bytes. -/
import Derived.Test.YtghmelcbkjejeaaProg
import Derived.Test.YtghmelcbkjejeaaGf
import Derived.Test.YtghmelcbkjejeaaMem
import Derived.Laws.BitsAllLaws
import Derived.Laws.Wrap64
namespace Go.Proofs.Ytghmelcbkjejeaa.Sc
open Go.RowKit
theorem ret_u8 {a b : Nat} (h : a = b) : Ending.returned (.int .u8 (a : Int)) = .returned (.int .u8 (b : Int)) := by rw [h]
abbrev B (n : Nat) : Value := .int .u8 (n : Int)

theorem double_same (a : Nat) (ha : a < 256) (w : World) : Calls Try.prog 21 #[B a] w fun e w' => e = .returned (B (Gf.dbl a)) ∧ w = w' := by
  have h1 : Go.bits .and .u8 (a : Int) 128 = ((a &&& 128 : Nat) : Int) := u8_and_nat a 128 ha (by decide)
  have h2 : ((a : Int) * 2) % 256 = ((a * 2 % 256 : Nat) : Int) := by omega
  have h3 : Go.bits .xor .u8 ((a * 2 % 256 : Nat) : Int) 27 = (((a * 2 % 256) ^^^ 27 : Nat) : Int) := u8_xor_nat _ 27 (Nat.mod_lt _ (by decide)) (by decide)
  by_cases h : a &&& 128 = 0
  · have c : (Go.bits .and .u8 (a : Int) 128 != 0) = false := by rw [h1, h]; rfl
    have hd : Gf.dbl a = a * 2 % 256 := by unfold Gf.dbl; rw [if_pos h]
    have H := Lib.hid h2
    have D := Lib.hid hd
    clear h1 h2 h3 h hd
    go_enter Try.func21, Try.ntmps21
    go_wp2
    go_ret
    refine ⟨?_, rfl⟩
    rw [D.out]
    exact congrArg (fun x => Ending.returned (.int .u8 x)) H.out
  · have c : (Go.bits .and .u8 (a : Int) 128 != 0) = true := by rw [h1, bne_iff_ne]; omega
    have hd : Gf.dbl a = (a * 2 % 256) ^^^ 27 := by unfold Gf.dbl; rw [if_neg h]
    have H := Lib.hid h2
    have H3 := Lib.hid h3
    have D := Lib.hid hd
    clear h1 h2 h3 h hd
    go_enter Try.func21, Try.ntmps21
    go_wp2
    go_ret
    refine ⟨?_, rfl⟩
    rw [D.out]
    refine congrArg (fun x => Ending.returned (.int .u8 x)) ?_
    rw [← H3.out, ← H.out]

theorem mul_shift (n a b : Nat) : Gf.mul (n + 1) a b = (if b % 2 = 1 then a else 0) ^^^ Gf.mul n (Gf.dbl a) (b / 2) := rfl
theorem mul_zero (n : Nat) : ∀ a, Gf.mul n a 0 = 0 := fun a => by have := Gf.mul_xor_right n a 0 0; simpa using this
theorem and1 (x : Nat) (hx : x < 256) : Go.bits .and .u8 (x : Int) 1 = ((x % 2 : Nat) : Int) := by
  rw [show (1 : Int) = ((1 : Nat) : Int) from rfl, u8_and_nat x 1 hx (by decide), Nat.and_one_is_mod]

set_option maxHeartbeats 1000000 in
theorem times_same (a b : Nat) (ha : a < 256) (hb : b < 256) (w : World) : Calls Try.prog 11 #[B a, B b] w fun e w' => e = .returned (B (Gf.m8 a b)) ∧ w = w' := by
  go_enter Try.func11, Try.ntmps11
  go_wp2
  go_loop [0, 1, 5] (fun va vb vp => ∃ x y p : Nat, va = B x ∧ vb = B y ∧ vp = B p ∧ x < 256 ∧ p < 256 ∧ y < 256 ∧ Hid (∃ q, y < 2 ^ q ∧ p ^^^ Gf.mul q x y = Gf.m8 a b)) (fun _ vb _ => (intOf vb).toNat)
  case atStart => exact ⟨a, b, 0, rfl, rfl, rfl, ha, by decide, hb, Lib.hid ⟨8, hb, Nat.zero_xor _⟩⟩
  case round =>
    obtain ⟨x, y, p, rfl, rfl, rfl, hx, hp, hy, H⟩ := hrel
    by_cases h0 : y = 0
    · have c : ((y : Int) != 0) = false := by rw [h0]; rfl
      have H2 : Hid (p = Gf.m8 a b) := by
        obtain ⟨q, _, h⟩ := H.out
        rw [h0, mul_zero, Nat.xor_zero] at h
        exact Lib.hid h
      clear h0 H
      go_wp2
      go_ret
      exact ⟨ret_u8 H2.out, rfl⟩
    · have c : ((y : Int) != 0) = true := by rw [bne_iff_ne]; omega
      have hd := Gf.dbl_lt x
      have hm : y / 2 < y := Nat.div_lt_self (by omega) (by decide)
      have hA := and1 y hy
      by_cases h1 : y % 2 = 1
      · have c1 : (Go.bits .and .u8 (y : Int) 1 == 1) = true := by rw [hA, h1]; rfl
        have hX : Hid (Go.bits .xor .u8 (p : Int) (x : Int) = ((p ^^^ x : Nat) : Int)) := Lib.hid (u8_xor_nat p x hp hx)
        have hpx : p ^^^ x < 256 := Nat.xor_lt_two_pow (n := 8) hp hx
        have H2 : Hid (∃ q, y / 2 < 2 ^ q ∧ (p ^^^ x) ^^^ Gf.mul q (Gf.dbl x) (y / 2) = Gf.m8 a b) := by
          obtain ⟨q, hq, h⟩ := H.out
          cases q with
          | zero => exact absurd hq (by simp; omega)
          | succ q =>
            rw [mul_shift, if_pos h1, ← Nat.xor_assoc] at h
            exact Lib.hid ⟨q, by rw [Nat.pow_succ] at hq; omega, h⟩
        clear h0 hA h1 H
        go_wp2_with (go_at_call 21; refine (double_same _ hx _).mono ?_; rintro e w' ⟨rfl, rfl⟩)
        go_round
        case rel => exact ⟨Gf.dbl x, y / 2, p ^^^ x, rfl, by go_num, congrArg (Value.int .u8) hX.out, hd, hpx, by omega, H2⟩
        case measure => simp [intOf]; omega
      · have h1' : y % 2 = 0 := by omega
        have c1 : (Go.bits .and .u8 (y : Int) 1 == 1) = false := by rw [hA, h1']; rfl
        have H2 : Hid (∃ q, y / 2 < 2 ^ q ∧ p ^^^ Gf.mul q (Gf.dbl x) (y / 2) = Gf.m8 a b) := by
          obtain ⟨q, hq, h⟩ := H.out
          cases q with
          | zero => exact absurd hq (by simp; omega)
          | succ q =>
            rw [mul_shift, if_neg h1, Nat.zero_xor] at h
            exact Lib.hid ⟨q, by rw [Nat.pow_succ] at hq; omega, h⟩
        clear h0 hA h1 h1' H
        go_wp2_with (go_at_call 21; refine (double_same _ hx _).mono ?_; rintro e w' ⟨rfl, rfl⟩)
        go_round
        case rel => exact ⟨Gf.dbl x, y / 2, p, rfl, by go_num, rfl, hd, hp, by omega, H2⟩
        case measure => simp [intOf]; omega

theorem invr_step (n b p : Nat) : Gf.invr (n + 1) b p = Gf.invr n (Gf.m8 b b) (Gf.m8 p (Gf.m8 b b)) := rfl
set_option maxHeartbeats 1000000 in
theorem inverse_same (b : Nat) (hb : b < 256) (w : World) : Calls Try.prog 22 #[B b] w fun e w' => e = .returned (B (Gf.inv b)) ∧ w = w' := by
  go_enter Try.func22, Try.ntmps22
  go_wp2
  go_loop [0, 3, 4] (fun vb vp vi => ∃ k x p : Nat, k ≤ 7 ∧ vb = B x ∧ vp = B p ∧ vi = .int .i64 (k : Int) ∧ x < 256 ∧ p < 256 ∧ Hid (Gf.invr (7 - k) x p = Gf.inv b)) (fun _ _ vi => 7 - (intOf vi).toNat)
  case atStart => exact ⟨0, b, 1, by decide, rfl, rfl, rfl, hb, by decide, Lib.hid rfl⟩
  case round =>
    obtain ⟨k, x, p, hk, rfl, rfl, rfl, hx, hp, H⟩ := hrel
    by_cases hlt : k < 7
    · have hxx : Gf.m8 x x < 256 := Gf.mul_lt 8 x x hx
      have hpp : Gf.m8 p (Gf.m8 x x) < 256 := Gf.mul_lt 8 p _ hp
      have H2 : Hid (Gf.invr (7 - (k + 1)) (Gf.m8 x x) (Gf.m8 p (Gf.m8 x x)) = Gf.inv b) := by
        have h := H.out
        rw [show 7 - k = (7 - (k + 1)) + 1 by omega, invr_step] at h
        exact Lib.hid h
      go_wp2_with fail
      refine (times_same x x hx hx _).mono ?_
      rintro e w' ⟨rfl, rfl⟩
      go_wp2_with fail
      refine (times_same p (Gf.m8 x x) hp hxx _).mono ?_
      rintro e w' ⟨rfl, rfl⟩
      go_wp2_with fail
      go_round
      case rel => exact ⟨k + 1, Gf.m8 x x, Gf.m8 p (Gf.m8 x x), by omega, rfl, rfl, by go_num, hxx, hpp, H2⟩
      case measure => simp [intOf]; omega
    · have H2 : Hid (p = Gf.inv b) := by
        have h := H.out
        rw [show 7 - k = 0 by omega] at h
        exact Lib.hid h
      go_wp2
      go_ret
      exact ⟨ret_u8 H2.out, rfl⟩
theorem and7 : ∀ k : Nat, k < 8 → Go.bits .and .u64 (k : Int) 7 = (k : Int) := by decide +kernel
set_option maxHeartbeats 1000000 in
theorem rot_same (x k : Nat) (hx : x < 256) (hk : k < 8) (w : World) : Calls Try.prog 23 #[B x, .int .i64 (k : Int)] w fun e w' => e = .returned (B (Gf.rotl x k)) ∧ w = w' := by
  have hA := and7 k hk
  go_enter Try.func23, Try.ntmps23
  go_wp2
  go_ret
  refine ⟨congrArg (fun v => Ending.returned (.int .u8 v)) ?_, rfl⟩
  have e1 : (x : Int) * 2 ^ k % 256 = ((x * 2 ^ k % 256 : Nat) : Int) := by
    rw [show (x : Int) * 2 ^ k = ((x * 2 ^ k : Nat) : Int) by norm_cast]
    generalize x * 2 ^ k = z
    omega
  have e2 : (x : Int) / 2 ^ (8 - k) = ((x / 2 ^ (8 - k) : Nat) : Int) := by norm_cast
  rw [e1, e2, u8_or_nat _ _ (Nat.mod_lt _ (by decide)) (Nat.lt_of_le_of_lt (Nat.div_le_self _ _) hx)]
  rfl
theorem boxr_step (n r o i : Nat) : Gf.boxr (n + 1) r o i = Gf.boxr n r (o ^^^ Gf.rotl r i) (i + 1) := rfl
set_option maxHeartbeats 1000000 in
theorem box_same (b : Nat) (hb : b < 256) (w : World) : Calls Try.prog 13 #[B b] w fun e w' => e = .returned (B (Gf.box b)) ∧ w = w' := by
  have hr := Gf.inv_lt b hb
  go_enter Try.func13, Try.ntmps13
  go_wp2_with fail
  refine (inverse_same b hb _).mono ?_
  rintro e w' ⟨rfl, rfl⟩
  go_wp2_with fail
  go_loop [4, 8] (fun vo vi => ∃ k o : Nat, k ≤ 5 ∧ vo = B o ∧ vi = .int .i64 (k : Int) ∧ o < 256 ∧ Hid (Gf.boxr (5 - k) (Gf.inv b) o k = Gf.box b)) (fun _ vi => 5 - (intOf vi).toNat)
  case atStart => exact ⟨0, 99, by decide, rfl, rfl, by decide, Lib.hid rfl⟩
  case round =>
    obtain ⟨k, o, hk, rfl, rfl, ho, H⟩ := hrel
    by_cases hlt : k < 5
    · have hl := Gf.rotl_lt (Gf.inv b) k hr
      have hx : Hid (Go.bits .xor .u8 (o : Int) (Gf.rotl (Gf.inv b) k : Int) = ((o ^^^ Gf.rotl (Gf.inv b) k : Nat) : Int)) := Lib.hid (u8_xor_nat _ _ ho hl)
      have hlo : o ^^^ Gf.rotl (Gf.inv b) k < 256 := Nat.xor_lt_two_pow (n := 8) ho hl
      have H2 : Hid (Gf.boxr (5 - (k + 1)) (Gf.inv b) (o ^^^ Gf.rotl (Gf.inv b) k) (k + 1) = Gf.box b) := by
        have h := H.out
        rw [show 5 - k = (5 - (k + 1)) + 1 by omega, boxr_step] at h
        exact Lib.hid h
      go_wp2_with fail
      refine (rot_same (Gf.inv b) k hr (by omega) _).mono ?_
      rintro e w' ⟨rfl, rfl⟩
      go_wp2_with fail
      go_round
      case rel => exact ⟨k + 1, o ^^^ Gf.rotl (Gf.inv b) k, by omega, congrArg (Value.int .u8) hx.out, by go_num, hlo, H2⟩
      case measure => simp [intOf]; omega
    · have H2 : Hid (o = Gf.box b) := by
        have h := H.out
        rw [show 5 - k = 0 by omega] at h
        exact Lib.hid h
      go_wp2
      go_ret
      exact ⟨ret_u8 H2.out, rfl⟩
set_option maxHeartbeats 1000000 in
theorem unbox_same (b : Nat) (hb : b < 256) (w : World) : Calls Try.prog 31 #[B b] w fun e w' => e = .returned (B (Gf.unbox b)) ∧ w = w' := by
  have hx : b ^^^ 99 < 256 := Nat.xor_lt_two_pow (n := 8) hb (by decide)
  have e0 : Go.bits .xor .u8 (b : Int) 99 = ((b ^^^ 99 : Nat) : Int) := u8_xor_nat b 99 hb (by decide)
  have l1 := Gf.rotl_lt (b ^^^ 99) 1 hx
  have l3 := Gf.rotl_lt (b ^^^ 99) 3 hx
  have l6 := Gf.rotl_lt (b ^^^ 99) 6 hx
  have l13 : Gf.rotl (b ^^^ 99) 1 ^^^ Gf.rotl (b ^^^ 99) 3 < 256 := Nat.xor_lt_two_pow (n := 8) l1 l3
  have l136 : Gf.rotl (b ^^^ 99) 1 ^^^ Gf.rotl (b ^^^ 99) 3 ^^^ Gf.rotl (b ^^^ 99) 6 < 256 := Nat.xor_lt_two_pow (n := 8) l13 l6
  have e1 := u8_xor_nat _ _ l1 l3
  have e2 := u8_xor_nat _ _ l13 l6
  go_enter Try.func31, Try.ntmps31
  go_wp2_with fail
  refine (rot_same (b ^^^ 99) 1 hx (by decide) _).mono ?_
  rintro e w' ⟨rfl, rfl⟩
  go_wp2_with fail
  refine (rot_same (b ^^^ 99) 3 hx (by decide) _).mono ?_
  rintro e w' ⟨rfl, rfl⟩
  go_wp2_with fail
  refine (rot_same (b ^^^ 99) 6 hx (by decide) _).mono ?_
  rintro e w' ⟨rfl, rfl⟩
  go_wp2_with fail
  refine (inverse_same _ l136 _).mono ?_
  rintro e w' ⟨rfl, rfl⟩
  go_wp2_with fail
  go_ret
  exact ⟨rfl, rfl⟩
end Go.Proofs.Ytghmelcbkjejeaa.Sc
