/- Numbers by bytes, without Go. By this session. -/
import Derived.Test.YtbojbofakmihmaaPb
namespace Go.Proofs.Ytbojbofakmihmaa.Bp
set_option linter.unusedVariables false
set_option linter.unusedSimpArgs false
def byteI (n : Int) : UInt8 := byteN (n % 256).toNat
/-- A number's bytes, the fewest. -/
def intP : Nat → Int → Bs
  | 0, n => [byteI n]
  | f + 1, n => if -128 ≤ n ∧ n < 128 then [byteI n] else intP f (n / 256) ++ [byteI n]
def sgn (a : UInt8) : Int := if a.toNat < 128 then a.toNat else (a.toNat : Int) - 256
def valF : Int → Bs → Int
  | acc, [] => acc
  | acc, c :: r => valF (256 * acc + c.toNat) r
def valP : Bs → Int
  | [] => 0
  | a :: r => valF (sgn a) r
def least : Bs → Bool
  | a :: b :: _ => !((decide (a.toNat = 0) && decide (b.toNat < 128)) || (decide (a.toNat = 255) && decide (128 ≤ b.toNat)))
  | _ => true
def numP (s : Bs) : Int × Bool := if s.length < 1 ∨ 4 < s.length ∨ least s = false then (0, false) else (valP s, true)
theorem byteI_toNat (n : Int) : ((byteI n).toNat : Int) = n % 256 := by
  unfold byteI
  rw [byteN_toNat (by omega)]
  omega
theorem byteI_of (a : UInt8) (n : Int) (h : n % 256 = a.toNat) : byteI n = a := by
  unfold byteI
  rw [h, Int.toNat_natCast, byteN_of]
theorem valF_app : ∀ (l : Bs) (acc : Int) (c : UInt8), valF acc (l ++ [c]) = 256 * valF acc l + c.toNat
  | [], acc, c => rfl
  | x :: l, acc, c => valF_app l _ c
theorem valP_app {l : Bs} (h : l ≠ []) (c : UInt8) : valP (l ++ [c]) = 256 * valP l + c.toNat := by
  cases l with
  | nil => exact absurd rfl h
  | cons a l => exact valF_app l _ c
theorem intP_ne (f : Nat) (n : Int) : intP f n ≠ [] := by
  cases f with
  | zero => simp [intP]
  | succ f => unfold intP; split <;> simp
theorem sgn_byteI {n : Int} (h1 : -128 ≤ n) (h2 : n < 128) : sgn (byteI n) = n := by
  have := byteI_toNat n
  unfold sgn
  split <;> omega
theorem small_pow (f : Nat) : (128 : Int) ≤ 128 * 256 ^ f := by
  have : (0 : Int) < 256 ^ f := Int.pow_pos (by decide)
  omega
theorem valP_intP : ∀ (f : Nat) (n : Int), -(128 * 256 ^ f) ≤ n → n < 128 * 256 ^ f → valP (intP f n) = n
  | 0, n, h1, h2 => by
    simp only [intP, valP, valF]
    rw [Int.pow_zero] at h1 h2
    exact sgn_byteI (by omega) (by omega)
  | f + 1, n, h1, h2 => by
    rw [Int.pow_succ] at h1 h2
    unfold intP
    split
    · rename_i c
      exact sgn_byteI c.1 c.2
    · rw [valP_app (intP_ne _ _), valP_intP f (n / 256) (by omega) (by omega), byteI_toNat]
      omega
theorem intP_len : ∀ (f : Nat) (n : Int), 1 ≤ (intP f n).length ∧ (intP f n).length ≤ f + 1
  | 0, n => by simp [intP]
  | f + 1, n => by
    have := intP_len f (n / 256)
    unfold intP
    split
    · simp
    · simp; omega
theorem intP_small : ∀ (k f : Nat) (n : Int), k ≤ f → ((intP f n).length ≤ k + 1 ↔ (k = f ∨ (-(128 * 256 ^ k) ≤ n ∧ n < 128 * 256 ^ k)))
  | 0, 0, n, _ => by simp [intP]
  | 0, f + 1, n, _ => by
    have := intP_len f (n / 256)
    unfold intP
    split
    · rename_i c; rw [Int.pow_zero]; simp only [List.length_cons, List.length_nil]; omega
    · rename_i c; rw [Int.pow_zero]; simp only [List.length_append, List.length_cons, List.length_nil]; omega
  | k + 1, 0, n, h => by omega
  | k + 1, f + 1, n, h => by
    have ih := intP_small k f (n / 256) (by omega)
    have hp := small_pow k
    rw [Int.pow_succ]
    unfold intP
    split
    · rename_i c
      simp only [List.length_cons, List.length_nil]
      constructor
      · intro _; right; omega
      · intro _; omega
    · rename_i c
      simp only [List.length_append, List.length_cons, List.length_nil]
      constructor
      · intro h1
        rcases ih.1 (by omega) with h2 | h2
        · left; omega
        · right; omega
      · rintro (h1 | h1)
        · have := ih.2 (.inl (by omega)); omega
        · have := ih.2 (.inr (by omega)); omega
theorem sgn_range (a : UInt8) : -128 ≤ sgn a ∧ sgn a < 128 ∧ sgn a % 256 = a.toNat := by
  have := u8_lt a
  unfold sgn
  split <;> omega
theorem step_least {s : Bs} (h : s ≠ []) {f : Nat} (c : UInt8) (ih : intP f (valP s) = s) : intP (f + 1) (valP (s ++ [c])) = s ++ [c] ↔ ¬ (-128 ≤ valP (s ++ [c]) ∧ valP (s ++ [c]) < 128) := by
  have hc := u8_lt c
  have e : valP (s ++ [c]) = 256 * valP s + c.toNat := valP_app h c
  have hl : 1 ≤ s.length := by cases s with
    | nil => exact absurd rfl h
    | cons => simp
  unfold intP
  split
  · rename_i q
    constructor
    · intro hx
      have := congrArg List.length hx
      simp at this
      exact absurd this h
    · intro hx; exact absurd q hx
  · rename_i q
    refine ⟨fun _ => q, fun _ => ?_⟩
    rw [show valP (s ++ [c]) / 256 = valP s by omega, ih, byteI_of c _ (by omega)]
theorem int_one (f : Nat) (a : UInt8) : intP f (valP [a]) = [a] := by
  have := sgn_range a
  have e : valP [a] = sgn a := rfl
  rw [e]
  cases f with
  | zero => simp [intP, byteI_of a _ this.2.2]
  | succ f => unfold intP; rw [if_pos ⟨this.1, this.2.1⟩, byteI_of a _ this.2.2]
theorem int_ne {s : Bs} {f : Nat} {c : UInt8} (h : s ≠ []) (hi : ¬ intP f (valP s) = s) : ¬ intP (f + 1) (valP (s ++ [c])) = s ++ [c] := by
  have hc := u8_lt c
  have e : valP (s ++ [c]) = 256 * valP s + c.toNat := valP_app h c
  unfold intP
  split
  · intro hx
    have := congrArg List.length hx
    simp at this
    exact h this
  · intro hx
    rw [show valP (s ++ [c]) / 256 = valP s by omega] at hx
    exact hi (List.append_inj_left' hx rfl)
theorem least_two (f : Nat) (a b : UInt8) : intP (f + 1) (valP [a, b]) = [a, b] ↔ least [a, b] = true := by
  have hb := u8_lt b
  have ha := u8_lt a
  have := sgn_range a
  have e : valP [a, b] = 256 * sgn a + b.toNat := rfl
  have h := step_least (s := [a]) (by simp) b (int_one f a)
  rw [show [a] ++ [b] = [a, b] from rfl] at h
  rw [h, e]
  simp only [least, Bool.not_eq_true', Bool.or_eq_false_iff, Bool.and_eq_false_iff, decide_eq_false_iff_not]
  unfold sgn
  split <;> omega
theorem least_more {f : Nat} {a b : UInt8} {r : Bs} {c : UInt8} (ih : intP f (valP (a :: b :: r)) = a :: b :: r ↔ least (a :: b :: r) = true) : intP (f + 1) (valP (a :: b :: r ++ [c])) = a :: b :: r ++ [c] ↔ least (a :: b :: r ++ [c]) = true := by
  have hc := u8_lt c
  have e : valP (a :: b :: r ++ [c]) = 256 * valP (a :: b :: r) + c.toNat := valP_app (by simp) c
  have hl : least (a :: b :: r ++ [c]) = least (a :: b :: r) := rfl
  rw [hl, ← ih]
  by_cases q : intP f (valP (a :: b :: r)) = a :: b :: r
  · rw [step_least (by simp) c q]
    refine ⟨fun _ => q, fun _ hx => ?_⟩
    have h2 : intP f (valP (a :: b :: r)) = [byteI (valP (a :: b :: r))] := by
      cases f with
      | zero => rfl
      | succ f => unfold intP; rw [if_pos (by omega)]
    rw [h2] at q
    simp at q
  · exact ⟨fun h => absurd h (int_ne (by simp) q), fun h => absurd h q⟩
/-- Bytes are a number's own where they are the fewest. -/
theorem least_iff (s : Bs) (h1 : 1 ≤ s.length) (h4 : s.length ≤ 4) : intP 7 (valP s) = s ↔ least s = true := by
  match s, h1, h4 with
  | [a], _, _ => exact ⟨fun _ => rfl, fun _ => int_one 7 a⟩
  | [a, b], _, _ => exact least_two 6 a b
  | [a, b, c], _, _ => exact least_more (r := []) (least_two 5 a b)
  | [a, b, c, d], _, _ => exact least_more (r := [c]) (least_more (r := []) (least_two 4 a b))
theorem valF_range : ∀ (l : Bs) (k : Nat) (acc : Int), -(128 * 256 ^ k) ≤ acc → acc < 128 * 256 ^ k → -(128 * 256 ^ (k + l.length)) ≤ valF acc l ∧ valF acc l < 128 * 256 ^ (k + l.length)
  | [], k, acc, h1, h2 => ⟨h1, h2⟩
  | c :: r, k, acc, h1, h2 => by
    have hc := u8_lt c
    have := valF_range r (k + 1) (256 * acc + c.toNat) (by rw [Int.pow_succ]; omega) (by rw [Int.pow_succ]; omega)
    rw [show k + (c :: r).length = k + 1 + r.length by simp; omega]
    exact this
theorem numP_int (n : Int) (h1 : -(128 * 256 ^ 7) ≤ n) (h2 : n < 128 * 256 ^ 7) : numP (intP 7 n) = if -2147483648 ≤ n ∧ n < 2147483648 then (n, true) else (0, false) := by
  have hl := intP_len 7 n
  have hs := intP_small 3 7 n (by omega)
  have hv := valP_intP 7 n h1 h2
  have e : (128 : Int) * 256 ^ 3 = 2147483648 := by decide
  rw [e] at hs
  unfold numP
  by_cases c : -2147483648 ≤ n ∧ n < 2147483648
  · have h4 := hs.2 (.inr c)
    have hle : least (intP 7 n) = true := (least_iff _ hl.1 h4).1 (by rw [hv])
    rw [if_pos c, if_neg, hv]
    rintro (h | h | h)
    · omega
    · omega
    · rw [hle] at h; cases h
  · rw [if_neg c, if_pos]
    right; left
    have : ¬ (intP 7 n).length ≤ 3 + 1 := fun h => (hs.1 h).elim (by omega) c
    omega
theorem numP_own {s : Bs} {x : Int} (h : numP s = (x, true)) : intP 7 x = s := by
  unfold numP at h
  split at h
  · cases h
  · rename_i c
    simp only [Prod.mk.injEq] at h
    rw [← h.1]
    exact (least_iff s (by omega) (by omega)).2 (by
      cases hl : least s with
      | true => rfl
      | false => exact absurd (Or.inr (Or.inr hl)) c)
end Go.Proofs.Ytbojbofakmihmaa.Bp
