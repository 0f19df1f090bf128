/- The document's sums, numbers and bytes of a log's sector. By this session. -/
import Derived.Test.YtilmfhpoiejmfaaGe
import Derived.Test.YtilmfhpoiejmfaaGg
import Derived.Test.YtilmfhpoiejmfaaGm
namespace Go.Proofs.Ytilmfhpoiejmfaa.Gk
open Go.Proofs.Ytilmfhpoiejmfaa.Lh Go.RowKit Go.Proofs.Ytilmfhpoiejmfaa.Lg
set_option maxRecDepth 100000
set_option linter.unusedSimpArgs false
set_option linter.unusedSectionVars false
set_option linter.unusedVariables false
variable [Fz]
def rk (r b k : Nat) : Nat := Crc.steps k (r ^^^ b) ^^^ (b / 2 ^ k)
theorem xor_odd (a b : Nat) : ((a ^^^ b) % 2 = 1) ↔ (a % 2 ≠ b % 2) := by
  rw [Crc.mod2_bit, Nat.testBit_xor]
  have ha := Crc.mod2_bit a
  have hb := Crc.mod2_bit b
  cases h1 : a.testBit 0 <;> cases h2 : b.testBit 0 <;> simp [h1, h2] at ha hb ⊢ <;> omega
theorem rk_succ (r b k : Nat) : rk r b (k + 1) = if rk r b k % 2 ≠ b / 2 ^ k % 2 then rk r b k / 2 ^^^ Crc.P else rk r b k / 2 := by
  unfold rk
  rw [steps_tail, Nat.pow_succ, ← Nat.div_div_eq_div_mul, Crc.half_xor]
  generalize Crc.steps k (r ^^^ b) = c
  generalize b / 2 ^ k = n
  have h : ((c ^^^ n) % 2 ≠ n % 2) ↔ c % 2 = 1 := by
    have e : ((c ^^^ n) ^^^ n) = c := by rw [Nat.xor_assoc, Nat.xor_self, Nat.xor_zero]
    rw [← xor_odd, e]
  unfold Crc.step
  by_cases o : c % 2 = 1
  · rw [if_pos o, if_pos (h.2 o), Nat.xor_assoc, Nat.xor_comm Crc.P, ← Nat.xor_assoc]
  · rw [if_neg o, if_neg (fun x => o (h.1 x))]
theorem rk_lt {r b : Nat} (hr : r < 4294967296) (hb : b < 256) (k : Nat) : rk r b k < 4294967296 := by
  have h0 : r ^^^ b < 4294967296 := Nat.xor_lt_two_pow (n := 32) hr (by omega)
  exact Nat.xor_lt_two_pow (n := 32) (Crc.steps_lt k h0) (Nat.lt_of_le_of_lt (Nat.div_le_self _ _) (by omega))
theorem rk_8 {r b : Nat} (hb : b < 256) : rk r b 8 = Crc.byteOf r b := by
  unfold rk Crc.byteOf
  rw [Nat.div_eq_of_lt (by omega), Nat.xor_zero]
theorem leN_head (f : F8) : ∀ (k a : Nat), leN f a (k + 1) = f a + 256 * leN f (a + 1) k
  | 0, a => by simp [leN]
  | k + 1, a => by
    show leN f a (k + 1) + f (a + (k + 1)) * 256 ^ (k + 1) = f a + 256 * (leN f (a + 1) k + f (a + 1 + k) * 256 ^ k)
    rw [leN_head f k a, show a + 1 + k = a + (k + 1) by omega, Nat.pow_succ, Nat.mul_add, Nat.add_assoc]
    congr 2
    rw [← Nat.mul_assoc, Nat.mul_comm]
theorem number (m : Nat) (f : F8) (hf : ∀ i, f i < 256) (a c : Nat) (hc : c ≤ 4) (ha : a + c ≤ m) (hm : m ≤ 1000000) : LCalls Try.prog 121 (.cons (bV m f) (.cons (.int .i64 (a : Int)) (.cons (.int .i64 (c : Int)) .nil))) [] (fun e h' => e = .ret (wN (leN f a c)) ∧ h' = []) := by
  unfold wN
  refine LCalls.tell ?_; refine enter121 rfl ?_; conv => whnf
  rewrite [w64 (n := (c : Int) - 1) (by omega)]
  refine Loop.inv (lwp_mono _) (fun n t1 h => ∃ (j : Nat), j ≤ c ∧ n = 0 + j ∧ t1 = [bV m f, .int .i64 (a : Int), .any, .any, .any, .any, .any, .int .u32 (leN f (a + j) (c - j) : Int), .int .i64 ((j : Int) - 1), .any, .any, .any, .any, .any, .any, .any, .any, .any, .any, .any, .any, .any, .any, .any, .any, .any] ∧ h = []) ?_ ?_
  · refine ⟨_, _, _, ⟨[], trivial, [], rfl, rfl, ?_, ?_⟩, c, Nat.le_refl _, rfl, rfl, rfl⟩
    · rw [Nat.sub_self]
      (repeat' first | exact trivial | exact rfl | exact sh0 rfl | exact Nat.le_refl _ | exact .inl shA | exact .inr ⟨rfl, rfl, rfl, rfl, rfl⟩ | exact .inl shB | exact fun h => h | refine ⟨?_, ?_, ?_, .inl ?_⟩ | refine ⟨?_, ?_⟩ | refine fun ii hii => ?_ | omega | fail)
    · (repeat' first | exact trivial | exact rfl | exact sh0 rfl | exact Nat.le_refl _ | exact .inl shA | exact .inr ⟨rfl, rfl, rfl, rfl, rfl⟩ | exact .inl shB | exact fun h => h | refine ⟨?_, ?_, ?_, .inl ?_⟩ | refine ⟨?_, ?_⟩ | refine fun ii hii => ?_ | omega | fail)
  · rintro n _ _ ⟨j, hj, rfl, rfl, rfl⟩
    conv => whnf
    by_cases h0 : 1 ≤ j
    · rewrite [show decide ((j : Int) - 1 ≥ 0) = true from decide_eq_true (by omega)]
      have hl := leN_lt hf (a + j) (c - j)
      have hhd : leN f (a + (j - 1)) (c - (j - 1)) = f (a + (j - 1)) + 256 * leN f (a + j) (c - j) := by
        rw [show c - (j - 1) = (c - j) + 1 by omega, leN_head, show a + (j - 1) + 1 = a + j by omega]
      have hpw : 256 ^ (c - j) ≤ 256 ^ 3 := Nat.pow_le_pow_right (by decide) (by omega)
      have hfb := hf (a + (j - 1))
      obtain ⟨v, hv⟩ : ∃ v, v = leN f (a + j) (c - j) := ⟨_, rfl⟩
      rw [← hv] at hl hhd ⊢
      conv => whnf
      rewrite [w64 (n := (a : Int) + ((j : Int) - 1)) (by omega), show (a : Int) + ((j : Int) - 1) = ((a + (j - 1) : Nat) : Int) by omega]
      refine ⟨⟨by omega, by omega⟩, ?_⟩
      rewrite [Int.toNat_natCast]
      conv => whnf
      rewrite [w32 (n := f (a + (j - 1))) (by omega), show (v : Int) * 256 = ((v * 256 : Nat) : Int) by omega, w32 (n := v * 256) (by omega), show ((v * 256 : Nat) : Int) + (f (a + (j - 1)) : Int) = ((v * 256 + f (a + (j - 1)) : Nat) : Int) by omega, w32 (n := v * 256 + f (a + (j - 1))) (by omega), w64 (n := (j : Int) - 1 - 1) (by omega)]
      refine ⟨_, _, _, ?_, ⟨[], trivial, [], rfl, rfl, ?_, ?_⟩, j - 1, by omega, rfl, rfl, rfl⟩
      · omega
      · rw [hhd]
        (repeat' first | exact trivial | exact rfl | exact sh0 rfl | exact Nat.le_refl _ | exact .inl shA | exact .inr ⟨rfl, rfl, rfl, rfl, rfl⟩ | exact .inl shB | exact fun h => h | refine ⟨?_, ?_, ?_, .inl ?_⟩ | refine ⟨?_, ?_⟩ | refine fun ii hii => ?_ | omega | fail)
      · (repeat' first | exact trivial | exact rfl | exact sh0 rfl | exact Nat.le_refl _ | exact .inl shA | exact .inr ⟨rfl, rfl, rfl, rfl, rfl⟩ | exact .inl shB | exact fun h => h | refine ⟨?_, ?_, ?_, .inl ?_⟩ | refine ⟨?_, ?_⟩ | refine fun ii hii => ?_ | omega | fail)
    · rewrite [show decide ((j : Int) - 1 ≥ 0) = false from decide_eq_false (by omega)]
      obtain rfl : j = 0 := by omega
      rewrite [Nat.add_zero, Nat.sub_zero]
      conv => whnf
      refine ⟨[], _, _, rfl, rfl, ?_, ?_, rfl, rfl⟩
      · (repeat' first | exact trivial | exact rfl | exact sh0 rfl | exact Nat.le_refl _ | exact .inl shA | exact .inr ⟨rfl, rfl, rfl, rfl, rfl⟩ | exact .inl shB | exact fun h => h | refine ⟨?_, ?_, ?_, .inl ?_⟩ | refine ⟨?_, ?_⟩ | refine fun ii hii => ?_ | omega | fail)
      · (repeat' first | exact trivial | exact rfl | exact sh0 rfl | exact Nat.le_refl _ | exact .inl shA | exact .inr ⟨rfl, rfl, rfl, rfl, rfl⟩ | exact .inl shB | exact fun h => h | refine ⟨?_, ?_, ?_, .inl ?_⟩ | refine ⟨?_, ?_⟩ | refine fun ii hii => ?_ | omega | fail)
theorem leB_next (w k : Nat) : w / 256 ^ k % 256 = leB w k := rfl
theorem put_row (w k i : Nat) (hi : i < k + 1) : shS 1000000 (frzAll [] []) (if i < k then bSeg8 (leB w) (0 + i) else if 0 + (i - k) = 0 then .one (.int .u8 ((leB w k : Nat) : Int)) .nil else .one (.int .u8 0) .nil) (bSeg8 (leB w) i) := by
  refine sh_ite (fun c => ⟨⟨rfl, ?_⟩, trivial⟩) (fun c => sh_ite (fun c2 => ⟨⟨rfl, ?_⟩, trivial⟩) (fun c2 => ⟨⟨rfl, ?_⟩, trivial⟩))
  · show ((leB w (0 + i) : Nat) : Int) = ((leB w i : Nat) : Int)
    rw [Nat.zero_add]
  · show ((leB w k : Nat) : Int) = ((leB w i : Nat) : Int)
    rw [show k = i by omega]
  · omega
theorem puts (w c : Nat) (hw : w < 4294967296) (hc : c ≤ 4) : LCalls Try.prog 105 (.cons (wN w) (.cons (.int .i64 (c : Int)) .nil)) [] (fun e h' => e = .ret (.slice ⟨0, [], 0⟩ 0 1 c c none) ∧ h' = [byO c (leB w)]) := by
  unfold wN
  refine LCalls.tell ?_; refine enter105 rfl ?_; conv => whnf
  refine Loop.inv (lwp_mono _) (fun n t1 h => ∃ (k : Nat), k ≤ c ∧ n = c - k ∧ t1 = [.int .u32 ((w / 256 ^ k : Nat) : Int), .int .i64 (c : Int), .any, .any, .any, .slice ⟨0, [], 0⟩ 0 1 k k none, .int .i64 (k : Int), .any, .any, .any, .any, .any, .any, .any, .any, .any, .any, .any, .any, .any, .any] ∧ h = [byO k (leB w)]) ?_ ?_
  · refine ⟨_, _, _, ⟨[], trivial, [98], rfl, rfl, ?_, ?_⟩, 0, Nat.zero_le _, rfl, rfl, rfl⟩
    · rw [Nat.pow_zero, Nat.div_one]
      (repeat' first | exact trivial | exact rfl | exact sh0 rfl | exact Nat.le_refl _ | exact .inl shA | exact .inr ⟨rfl, rfl, rfl, rfl, rfl⟩ | exact .inl shB | exact fun h => h | refine ⟨?_, ?_, ?_, .inl ?_⟩ | refine ⟨?_, ?_⟩ | refine fun ii hii => ?_ | omega | fail)
    · (repeat' first | exact trivial | exact rfl | exact sh0 rfl | exact Nat.le_refl _ | exact .inl shA | exact .inr ⟨rfl, rfl, rfl, rfl, rfl⟩ | exact .inl shB | exact fun h => h | refine ⟨?_, ?_, ?_, .inl ?_⟩ | refine ⟨?_, ?_⟩ | refine fun ii hii => ?_ | omega | fail)
  · rintro n _ _ ⟨k, hk, rfl, rfl, rfl⟩
    have hvl : w / 256 ^ k < 4294967296 := Nat.lt_of_le_of_lt (Nat.div_le_self _ _) hw
    have hv2 : w / 256 ^ (k + 1) = w / 256 ^ k / 256 := by rw [Nat.pow_succ, Nat.div_div_eq_div_mul]
    have hlb : leB w k = w / 256 ^ k % 256 := rfl
    obtain ⟨v, hv⟩ : ∃ v, v = w / 256 ^ k := ⟨_, rfl⟩
    rw [← hv] at hvl hv2 hlb ⊢
    conv => whnf
    by_cases hkc : k < c
    · rewrite [show decide ((k : Int) < (c : Int)) = true from decide_eq_true (by omega)]
      conv => whnf
      refine ⟨by decide, ?_⟩
      rewrite [show ((v : Int)).tmod 256 = ((v % 256 : Nat) : Int) from rfl]
      conv => whnf
      rewrite [w8 (n := v % 256), Nat.mod_mod, ← hlb]
      refine ⟨by first | omega | (dsimp only; omega), ?_⟩
      conv => whnf
      refine ⟨by first | omega | (dsimp only; omega), ?_⟩
      conv => whnf
      refine ⟨by decide, ?_⟩
      rewrite [show ((v : Int)).tdiv 256 = ((v / 256 : Nat) : Int) from rfl]
      conv => whnf
      rewrite [w32 (n := v / 256) (by omega), w64 (n := (k : Int) + 1) (by omega)]
      have putRow := put_row w k
      refine ⟨_, _, _, ?_, ⟨[], trivial, [2], rfl, rfl, ?_, ?_⟩, k + 1, by omega, rfl, rfl, rfl⟩
      · omega
      · rw [hv2]
        (repeat' first | exact trivial | exact rfl | exact sh0 rfl | exact Nat.le_refl _ | exact .inl shA | exact .inr ⟨rfl, rfl, rfl, rfl, rfl⟩ | exact .inl shB | exact fun h => h | refine ⟨?_, ?_, ?_, .inl ?_⟩ | refine ⟨?_, ?_⟩ | refine fun ii hii => ?_ | omega | fail)
      · (repeat' first | exact trivial | exact rfl | exact sh0 rfl | exact Nat.le_refl _ | exact .inl shA | exact .inr ⟨rfl, rfl, rfl, rfl, rfl⟩ | exact .inl shB | exact fun h => h | refine ⟨?_, ?_, ?_, .inl ?_⟩ | refine ⟨?_, ?_⟩ | refine fun ii hii => ?_ | omega | fail)
        all_goals exact putRow ii hii
    · rewrite [show decide ((k : Int) < (c : Int)) = false from decide_eq_false (by omega)]
      obtain rfl : k = c := by omega
      conv => whnf
      refine ⟨[0], _, _, rfl, rfl, ?_, ?_, rfl, rfl⟩
      · (repeat' first | exact trivial | exact rfl | exact sh0 rfl | exact Nat.le_refl _ | exact .inl shA | exact .inr ⟨rfl, rfl, rfl, rfl, rfl⟩ | exact .inl shB | exact fun h => h | refine ⟨?_, ?_, ?_, .inl ?_⟩ | refine ⟨?_, ?_⟩ | refine fun ii hii => ?_ | omega | fail)
      · (repeat' first | exact trivial | exact rfl | exact sh0 rfl | exact Nat.le_refl _ | exact .inl shA | exact .inr ⟨rfl, rfl, rfl, rfl, rfl⟩ | exact .inl shB | exact fun h => h | refine ⟨?_, ?_, ?_, .inl ?_⟩ | refine ⟨?_, ?_⟩ | refine fun ii hii => ?_ | omega | fail)
theorem neI (a b : Nat) : ((a : Int) != (b : Int)) = decide (a ≠ b) := by
  by_cases h : a = b
  · subst h; simp
  · rw [decide_eq_true h]
    exact bne_iff_ne.2 (by omega)
theorem rAdd (m : Nat) (f : F8) (hf : ∀ i, f i < 256) (hm : m ≤ 1000000) : LCalls Try.prog 122 (.cons (wN 0) (.cons (bV m f) .nil)) [] (fun e h' => e = .ret (wN (sumN m f)) ∧ h' = []) := by
  have hrl : ∀ k, Crc.run (Crc.M ^^^ 0) (lst k f) < 4294967296 := fun k => Crc.run_lt _ (M_lt (by decide)) (lst_lt hf)
  have hr1 : ∀ k, Crc.run (Crc.M ^^^ 0) (lst (k + 1) f) = Crc.byteOf (Crc.run (Crc.M ^^^ 0) (lst k f)) (f k) := fun k => run_succ _ k f
  have hend : sumN m f = Crc.M ^^^ Crc.run (Crc.M ^^^ 0) (lst m f) := rfl
  obtain ⟨run, hrun⟩ : ∃ run : Nat → Nat, run = fun k => Crc.run (Crc.M ^^^ 0) (lst k f) := ⟨_, rfl⟩
  have hrl : ∀ k, run k < 4294967296 := by rw [hrun]; exact hrl
  have hr1 : ∀ k, run (k + 1) = Crc.byteOf (run k) (f k) := by rw [hrun]; exact hr1
  have hend : sumN m f = Crc.M ^^^ run m := by rw [hrun]; exact hend
  have hr0 : run 0 = 4294967295 := by rw [hrun]; rfl
  rw [hend]
  unfold wN
  refine LCalls.tell ?_; refine enter122 rfl ?_; conv => whnf
  rewrite [show IntKind.u32.wrap (4294967295 - ((0 : Nat) : Int)) = ((run 0 : Nat) : Int) from by rw [hr0]; rfl]
  refine Loop.inv (lwp_mono _) (fun n t1 h => ∃ (i : Nat), i ≤ m ∧ n = m - i ∧ t1 = [.any, bV m f, .any, .any, .any, .int .u32 (run i : Int), .int .i64 (i : Int), .any, .any, .any, .any, .any, .any, .any, .any, .any, .any, .any, .any, .any, .any, .any, .any, .any, .any, .any, .any, .any, .any, .any, .any, .any, .any, .any, .any, .any, .any, .any, .any, .any, .any, .any] ∧ h = []) ?_ ?_
  · refine ⟨_, _, _, ⟨[], trivial, [], rfl, rfl, ?_, ?_⟩, 0, Nat.zero_le _, rfl, rfl, rfl⟩
    · (repeat' first | exact trivial | exact rfl | exact sh0 rfl | exact Nat.le_refl _ | exact .inl shA | exact .inr ⟨rfl, rfl, rfl, rfl, rfl⟩ | exact .inl shB | exact fun h => h | refine ⟨?_, ?_, ?_, .inl ?_⟩ | refine ⟨?_, ?_⟩ | refine fun ii hii => ?_ | omega | fail)
    · (repeat' first | exact trivial | exact rfl | exact sh0 rfl | exact Nat.le_refl _ | exact .inl shA | exact .inr ⟨rfl, rfl, rfl, rfl, rfl⟩ | exact .inl shB | exact fun h => h | refine ⟨?_, ?_, ?_, .inl ?_⟩ | refine ⟨?_, ?_⟩ | refine fun ii hii => ?_ | omega | fail)
  · rintro n _ _ ⟨i, hi, rfl, rfl, rfl⟩
    conv => whnf
    by_cases him : i < m
    · rewrite [show decide ((i : Int) < (m : Int)) = true from decide_eq_true (by omega)]
      conv => whnf
      refine ⟨⟨by omega, by omega⟩, ?_⟩
      rewrite [Int.toNat_natCast]
      conv => whnf
      have hb := hf i
      have hri := hrl i
      rewrite [w64 (n := (f i : Int)) (by omega)]
      have h8 := rk_8 (r := run i) hb
      have hk0 : rk (run i) (f i) 0 = run i := by unfold rk; rw [Nat.pow_zero, Nat.div_one]; show (run i ^^^ f i) ^^^ f i = run i; rw [Nat.xor_assoc, Nat.xor_self, Nat.xor_zero]
      refine Loop.inv (lwp_mono _) (fun n t1 h => ∃ (k : Nat), k ≤ 8 ∧ n = 8 - k ∧ t1 = [.any, bV m f, .any, .any, .any, .int .u32 (rk (run i) (f i) k : Int), .int .i64 (i : Int), .int .i64 ((f i / 2 ^ k : Nat) : Int), .int .i64 (k : Int), .any, .any, .any, .any, .any, .any, .any, .any, .any, .any, .any, .any, .any, .any, .any, .any, .any, .any, .any, .any, .any, .any, .any, .any, .any, .any, .any, .any, .any, .any, .any, .any, .any] ∧ h = []) ?_ ?_
      · refine ⟨_, _, _, ⟨[], trivial, [], rfl, rfl, ?_, ?_⟩, 0, Nat.zero_le _, rfl, rfl, rfl⟩
        · rw [hk0, Nat.pow_zero, Nat.div_one]
          (repeat' first | exact trivial | exact rfl | exact sh0 rfl | exact Nat.le_refl _ | exact .inl shA | exact .inr ⟨rfl, rfl, rfl, rfl, rfl⟩ | exact .inl shB | exact fun h => h | refine ⟨?_, ?_, ?_, .inl ?_⟩ | refine ⟨?_, ?_⟩ | refine fun ii hii => ?_ | omega | fail)
        · (repeat' first | exact trivial | exact rfl | exact sh0 rfl | exact Nat.le_refl _ | exact .inl shA | exact .inr ⟨rfl, rfl, rfl, rfl, rfl⟩ | exact .inl shB | exact fun h => h | refine ⟨?_, ?_, ?_, .inl ?_⟩ | refine ⟨?_, ?_⟩ | refine fun ii hii => ?_ | omega | fail)
      · rintro n _ _ ⟨k, hk, rfl, rfl, rfl⟩
        have hsu := rk_succ (run i) (f i) k
        have hlt := rk_lt hri hb k
        have hnl : f i / 2 ^ k < 256 := Nat.lt_of_le_of_lt (Nat.div_le_self _ _) hb
        have hn2 : f i / 2 ^ (k + 1) = f i / 2 ^ k / 2 := by rw [Nat.pow_succ, Nat.div_div_eq_div_mul]
        obtain ⟨v, hv⟩ : ∃ v, v = rk (run i) (f i) k := ⟨_, rfl⟩
        obtain ⟨u, hu⟩ : ∃ u, u = f i / 2 ^ k := ⟨_, rfl⟩
        rw [← hv] at hsu hlt
        rw [← hu] at hnl hn2 hsu
        rw [← hv, ← hu]
        conv => whnf
        by_cases hk8 : k < 8
        · rewrite [show decide ((k : Int) < 8) = true from decide_eq_true (by omega)]
          conv => whnf
          refine ⟨by decide, ?_⟩
          rewrite [show ((v : Int)).tmod 2 = ((v % 2 : Nat) : Int) from rfl]
          conv => whnf
          rewrite [w64 (n := ((v % 2 : Nat) : Int)) (by omega)]
          refine ⟨by decide, ?_⟩
          rewrite [show ((u : Int)).tmod 2 = ((u % 2 : Nat) : Int) from rfl]
          conv => whnf
          refine ⟨by decide, ?_⟩
          rewrite [show ((u : Int)).tdiv 2 = ((u / 2 : Nat) : Int) from rfl]
          conv => whnf
          refine ⟨by decide, ?_⟩
          rewrite [show ((v : Int)).tdiv 2 = ((v / 2 : Nat) : Int) from rfl]
          conv => whnf
          rewrite [w32 (n := v / 2) (by omega), w64 (n := ((u / 2 : Nat) : Int)) (by omega), neI]
          by_cases ho : v % 2 ≠ u % 2
          · rewrite [decide_eq_true ho]
            rw [if_pos ho] at hsu
            conv => whnf
            rewrite [show IntKind.u32.wrap ((BitVec.ofInt IntKind.u32.bits ((v / 2 : Nat) : Int) ^^^ BitVec.ofInt IntKind.u32.bits 3988292384).toNat : Int) = ((v / 2 ^^^ Crc.P : Nat) : Int) from xor32 (x := v / 2) (y := Crc.P) (by omega) (by decide), w64 (n := (k : Int) + 1) (by omega)]
            refine ⟨_, _, _, ?_, ⟨[], trivial, [], rfl, rfl, ?_, ?_⟩, k + 1, by omega, rfl, rfl, rfl⟩
            · omega
            · rw [hsu, hn2]
              (repeat' first | exact trivial | exact rfl | exact sh0 rfl | exact Nat.le_refl _ | exact .inl shA | exact .inr ⟨rfl, rfl, rfl, rfl, rfl⟩ | exact .inl shB | exact fun h => h | refine ⟨?_, ?_, ?_, .inl ?_⟩ | refine ⟨?_, ?_⟩ | refine fun ii hii => ?_ | omega | fail)
            · (repeat' first | exact trivial | exact rfl | exact sh0 rfl | exact Nat.le_refl _ | exact .inl shA | exact .inr ⟨rfl, rfl, rfl, rfl, rfl⟩ | exact .inl shB | exact fun h => h | refine ⟨?_, ?_, ?_, .inl ?_⟩ | refine ⟨?_, ?_⟩ | refine fun ii hii => ?_ | omega | fail)
          · rewrite [decide_eq_false ho]
            rw [if_neg ho] at hsu
            conv => whnf
            rewrite [w64 (n := (k : Int) + 1) (by omega)]
            refine ⟨_, _, _, ?_, ⟨[], trivial, [], rfl, rfl, ?_, ?_⟩, k + 1, by omega, rfl, rfl, rfl⟩
            · omega
            · rw [hsu, hn2]
              (repeat' first | exact trivial | exact rfl | exact sh0 rfl | exact Nat.le_refl _ | exact .inl shA | exact .inr ⟨rfl, rfl, rfl, rfl, rfl⟩ | exact .inl shB | exact fun h => h | refine ⟨?_, ?_, ?_, .inl ?_⟩ | refine ⟨?_, ?_⟩ | refine fun ii hii => ?_ | omega | fail)
            · (repeat' first | exact trivial | exact rfl | exact sh0 rfl | exact Nat.le_refl _ | exact .inl shA | exact .inr ⟨rfl, rfl, rfl, rfl, rfl⟩ | exact .inl shB | exact fun h => h | refine ⟨?_, ?_, ?_, .inl ?_⟩ | refine ⟨?_, ?_⟩ | refine fun ii hii => ?_ | omega | fail)
        · rewrite [show decide ((k : Int) < 8) = false from decide_eq_false (by omega)]
          obtain rfl : k = 8 := by omega
          rewrite [hv, h8, ← hr1]
          conv => whnf
          rewrite [w64 (n := (i : Int) + 1) (by omega)]
          refine ⟨_, _, _, ?_, ⟨[], trivial, [], rfl, rfl, ?_, ?_⟩, i + 1, by omega, rfl, rfl, rfl⟩
          · omega
          · (repeat' first | exact trivial | exact rfl | exact sh0 rfl | exact Nat.le_refl _ | exact .inl shA | exact .inr ⟨rfl, rfl, rfl, rfl, rfl⟩ | exact .inl shB | exact fun h => h | refine ⟨?_, ?_, ?_, .inl ?_⟩ | refine ⟨?_, ?_⟩ | refine fun ii hii => ?_ | omega | fail)
          · (repeat' first | exact trivial | exact rfl | exact sh0 rfl | exact Nat.le_refl _ | exact .inl shA | exact .inr ⟨rfl, rfl, rfl, rfl, rfl⟩ | exact .inl shB | exact fun h => h | refine ⟨?_, ?_, ?_, .inl ?_⟩ | refine ⟨?_, ?_⟩ | refine fun ii hii => ?_ | omega | fail)
    · rewrite [show decide ((i : Int) < (m : Int)) = false from decide_eq_false (by omega)]
      obtain rfl : i = m := by omega
      conv => whnf
      rewrite [sub32 (hrl i)]
      refine ⟨[], _, _, rfl, rfl, ?_, ?_, rfl, rfl⟩
      · (repeat' first | exact trivial | exact rfl | exact sh0 rfl | exact Nat.le_refl _ | exact .inl shA | exact .inr ⟨rfl, rfl, rfl, rfl, rfl⟩ | exact .inl shB | exact fun h => h | refine ⟨?_, ?_, ?_, .inl ?_⟩ | refine ⟨?_, ?_⟩ | refine fun ii hii => ?_ | omega | fail)
      · (repeat' first | exact trivial | exact rfl | exact sh0 rfl | exact Nat.le_refl _ | exact .inl shA | exact .inr ⟨rfl, rfl, rfl, rfl, rfl⟩ | exact .inl shB | exact fun h => h | refine ⟨?_, ?_, ?_, .inl ?_⟩ | refine ⟨?_, ?_⟩ | refine fun ii hii => ?_ | omega | fail)
theorem rSum (m : Nat) (f : F8) (hf : ∀ i, f i < 256) (hm : m ≤ 1000000) : LCalls Try.prog 106 (.cons (bV m f) .nil) [] (fun e h' => e = .ret (wN (sumN m f)) ∧ h' = []) := by
  refine LCalls.tell ?_; refine enter106 rfl ?_; conv => whnf
  refine LCalls.use (rAdd m f hf hm) [] rfl rfl trivial ?_; rintro _ _ ⟨rfl, rfl⟩; conv => whnf
  refine ⟨[], _, _, rfl, rfl, ?_, ?_, rfl, rfl⟩
  · (repeat' first | exact trivial | exact rfl | exact sh0 rfl | exact Nat.le_refl _ | exact .inl shA | exact .inr ⟨rfl, rfl, rfl, rfl, rfl⟩ | exact .inl shB | exact fun h => h | refine ⟨?_, ?_, ?_, .inl ?_⟩ | refine ⟨?_, ?_⟩ | refine fun ii hii => ?_ | omega | fail)
  · (repeat' first | exact trivial | exact rfl | exact sh0 rfl | exact Nat.le_refl _ | exact .inl shA | exact .inr ⟨rfl, rfl, rfl, rfl, rfl⟩ | exact .inl shB | exact fun h => h | refine ⟨?_, ?_, ?_, .inl ?_⟩ | refine ⟨?_, ?_⟩ | refine fun ii hii => ?_ | omega | fail)
end Go.Proofs.Ytilmfhpoiejmfaa.Gk
