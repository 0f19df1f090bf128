/- The log on the heap of the mind: a sector's bytes. By this session. -/
import Derived.Test.YtilmfhpoiejmfaaGa
namespace Go.Proofs.Ytilmfhpoiejmfaa.Gk
open Go.Proofs.Ytilmfhpoiejmfaa.Lh Go.RowKit Go.Proofs.Ytilmfhpoiejmfaa.Lg
set_option maxRecDepth 100000
set_option linter.unusedSimpArgs false
set_option linter.unusedSectionVars false
set_option linter.unusedVariables false
variable [Fz]
theorem sh_ite {k : Nat} {F : Fzl} {p : Prop} [Decidable p] {x y z : Segs} (hx : p → shS k F x z) (hy : ¬ p → shS k F y z) : shS k F (if p then x else y) z := by
  by_cases h : p
  · rw [if_pos h]; exact hx h
  · rw [if_neg h]; exact hy h
theorem beqN (a b : Nat) : ((a : Int) == (b : Int)) = (a == b) := by
  by_cases h : a = b
  · subst h; simp
  · rw [beq_eq_false_iff_ne.2 h]
    exact beq_eq_false_iff_ne.2 (by omega)
/-- decode's 'get', its bytes in a block. -/
def boxB (m : Nat) (f : F8) : Option LObj := some ⟨.one (bV m f) .nil, 29, false, false⟩
theorem or_add {a b k : Nat} (h : b < 2 ^ k) : b ||| 2 ^ k * a = b + 2 ^ k * a := by
  rw [Nat.or_comm, Nat.add_comm]
  exact (Nat.two_pow_add_eq_or_of_lt h a).symm
theorem shl32 {x k : Nat} (hx : x < 256) (hk : k < 4) : IntKind.u32.wrap ((x : Int) * 2 ^ min (8 * (k : Int)).toNat IntKind.u32.bits) = ((x * 256 ^ k : Nat) : Int) := by
  have e : min (8 * (k : Int)).toNat IntKind.u32.bits = 8 * k := by
    rw [show (8 * (k : Int)).toNat = 8 * k by omega]
    exact Nat.min_eq_left (by show 8 * k ≤ 32; omega)
  have e2 : ((x : Int) * 2 ^ (8 * k)) = ((x * 256 ^ k : Nat) : Int) := by rw [Int.pow_mul]; norm_cast
  rw [e, e2]
  refine w32 ?_
  rcases (show k = 0 ∨ k = 1 ∨ k = 2 ∨ k = 3 by omega) with rfl | rfl | rfl | rfl <;> omega
theorem get (m : Nat) (f : F8) (hf : ∀ i, f i < 256) (a c : Nat) (hc : c ≤ 4) (ha : a + c ≤ m) (hm : m ≤ 1000000) : LCalls Try.prog 100 (.cons (.int .i64 (a : Int)) (.cons (.int .i64 (c : Int)) (.cons (.ptr ⟨0, [], 0⟩) .nil))) [boxB m f] (fun e h' => e = .ret (wN (leN f a c)) ∧ h' = [boxB m f]) := by
  unfold wN
  refine LCalls.tell ?_; refine enter100 rfl ?_; conv => whnf
  refine Loop.inv (lwp_mono _) (fun n t1 h => ∃ (k : Nat), k ≤ c ∧ n = c - k ∧ t1 = [.int .i64 (a : Int), .any, .ptr ⟨0, [], 0⟩, .any, .any, .any, wN (leN f a k), .any, .int .i64 (c : Int), .int .i64 (k : Int), .any, .any, .any, .any, .any, .any, .any, .any, .any, .any, .any, .any, .any, .any, .any, .any] ∧ h = [boxB m f]) ?_ ?_
  · refine ⟨_, _, _, ⟨[], trivial, [0], rfl, rfl, ?_, ?_⟩, 0, Nat.zero_le _, rfl, rfl, rfl⟩
    · (repeat' first | exact trivial | exact rfl | exact sh0 rfl | exact Nat.le_refl _ | exact .inl shA | exact .inr ⟨rfl, rfl, rfl, rfl, rfl⟩ | exact .inl shB | exact fun h => h | refine ⟨?_, ?_, ?_, .inl ?_⟩ | refine ⟨?_, ?_⟩ | refine fun ii hii => ?_ | omega | fail)
    · (repeat' first | exact trivial | exact rfl | exact sh0 rfl | exact Nat.le_refl _ | exact .inl shA | exact .inr ⟨rfl, rfl, rfl, rfl, rfl⟩ | exact .inl shB | exact fun h => h | refine ⟨?_, ?_, ?_, .inl ?_⟩ | refine ⟨?_, ?_⟩ | refine fun ii hii => ?_ | omega | fail)
  · rintro n _ _ ⟨k, hk, rfl, rfl, rfl⟩
    have hs := leN_lt hf a k
    have htl : leN f a (k + 1) = leN f a k + f (a + k) * 256 ^ k := rfl
    have hend : k = c → leN f a c = leN f a k := fun h => by rw [h]
    generalize leN f a k = s at hs htl hend
    conv => whnf
    by_cases hkc : k < c
    · rewrite [show decide ((k : Int) < (c : Int)) = true from decide_eq_true (by omega)]
      conv => whnf
      rewrite [w64 (n := (a : Int) + (k : Int)) (by omega), show (a : Int) + (k : Int) = ((a + k : Nat) : Int) by omega]
      refine ⟨⟨by omega, by omega⟩, ?_⟩
      rewrite [Int.toNat_natCast]
      conv => whnf
      have hb := hf (a + k)
      rewrite [w64 (n := 8 * (k : Int)) (by omega)]
      refine ⟨by omega, ?_⟩
      rewrite [w32 (n := f (a + k)) (by omega), shl32 hb (by omega)]
      conv => whnf
      have hs2 : s < 4294967296 ∧ f (a + k) * 256 ^ k < 4294967296 ∧ s ||| f (a + k) * 256 ^ k = leN f a (k + 1) := by
        rw [htl, show 256 ^ k = 2 ^ (8 * k) by rw [Nat.pow_mul], Nat.mul_comm, or_add (by rw [Nat.pow_mul]; exact hs)]
        rw [Nat.pow_mul]
        rcases (show k = 0 ∨ k = 1 ∨ k = 2 ∨ k = 3 by omega) with rfl | rfl | rfl | rfl <;> (refine ⟨by omega, by omega, rfl⟩)
      rewrite [or32 hs2.1 hs2.2.1, hs2.2.2]
      refine ⟨_, _, _, ?_, ⟨[], trivial, [0], rfl, rfl, ?_, ?_⟩, k + 1, by omega, rfl, rfl, rfl⟩
      · omega
      · (repeat' first | exact trivial | exact rfl | exact sh0 rfl | exact Nat.le_refl _ | exact .inl shA | exact .inr ⟨rfl, rfl, rfl, rfl, rfl⟩ | exact .inl shB | exact fun h => h | refine ⟨?_, ?_, ?_, .inl ?_⟩ | refine ⟨?_, ?_⟩ | refine fun ii hii => ?_ | omega | fail)
        all_goals exact w64 (by omega)
      · (repeat' first | exact trivial | exact rfl | exact sh0 rfl | exact Nat.le_refl _ | exact .inl shA | exact .inr ⟨rfl, rfl, rfl, rfl, rfl⟩ | exact .inl shB | exact fun h => h | refine ⟨?_, ?_, ?_, .inl ?_⟩ | refine ⟨?_, ?_⟩ | refine fun ii hii => ?_ | omega | fail)
    · rewrite [show decide ((k : Int) < (c : Int)) = false from decide_eq_false (by omega)]
      obtain rfl : k = c := by omega
      rewrite [hend rfl]
      conv => whnf
      refine ⟨[0], _, _, rfl, rfl, ?_, ?_, rfl, rfl⟩
      · (repeat' first | exact trivial | exact rfl | exact sh0 rfl | exact Nat.le_refl _ | exact .inl shA | exact .inr ⟨rfl, rfl, rfl, rfl, rfl⟩ | exact .inl shB | exact fun h => h | refine ⟨?_, ?_, ?_, .inl ?_⟩ | refine ⟨?_, ?_⟩ | refine fun ii hii => ?_ | omega | fail)
      · (repeat' first | exact trivial | exact rfl | exact sh0 rfl | exact Nat.le_refl _ | exact .inl shA | exact .inr ⟨rfl, rfl, rfl, rfl, rfl⟩ | exact .inl shB | exact fun h => h | refine ⟨?_, ?_, ?_, .inl ?_⟩ | refine ⟨?_, ?_⟩ | refine fun ii hii => ?_ | omega | fail)
def sctV (f : F8) : LVal := .agg (.one (wN (leN f 4 4)) (.one (wN (leN f 8 4)) (.one (.int .i64 (leN f 12 2 : Int)) (.one (bN (f 14)) (.one (.int .i64 (f 15 : Int)) (.one (bV (min (f 15) 48) fun i => f (16 + i)) .nil))))))
theorem decode (f : F8) (hf : ∀ i, f i < 256) : LCalls Try.prog 74 (.cons (bV 64 f) .nil) [] (fun e h' => e = .ret (.tup (.cons (sctV f) (.cons (.bool (rightB f)) .nil))) ∧ h' = []) := by
  have g4 := get 64 f hf 4 4 (by omega) (by omega) (by omega)
  have g8 := get 64 f hf 8 4 (by omega) (by omega) (by omega)
  have g12 := get 64 f hf 12 2 (by omega) (by omega) (by omega)
  have g0 := get 64 f hf 0 4 (by omega) (by omega) (by omega)
  refine LCalls.tell ?_; refine enter74 rfl ?_; conv => whnf
  refine ⟨⟨by omega, by omega⟩, ?_⟩
  rewrite [show Int.toNat 15 = 15 from rfl]
  conv => whnf
  have h15 := hf 15
  rewrite [w64 (n := (f 15 : Int)) (by omega)]
  refine ⟨_, [0], ⟨⟨_, _, _, g4, fun _ => rfl, fun _ => rfl, rfl, fun _ => ⟨rfl, trivial⟩, rfl⟩⟩, ?_⟩; conv => whnf
  refine ⟨_, [0], ⟨⟨_, _, _, g8, fun _ => rfl, fun _ => rfl, rfl, fun _ => ⟨rfl, trivial⟩, rfl⟩⟩, ?_⟩; conv => whnf
  refine ⟨_, [0], ⟨⟨_, _, _, g12, fun _ => rfl, fun _ => rfl, rfl, fun _ => ⟨rfl, trivial⟩, rfl⟩⟩, ?_⟩; conv => whnf
  have h12 := leN_lt hf 12 2
  have hmin : (if (48 : Int) < (f 15 : Int) then (48 : Int) else (f 15 : Int)) = ((min (f 15) 48 : Nat) : Int) := by
    by_cases c : 48 < f 15
    · rw [if_pos (by omega)]; omega
    · rw [if_neg (by omega)]; omega
  refine ⟨⟨by omega, by omega⟩, ?_⟩
  conv => whnf
  rewrite [hmin, w64 (n := 16 + ((min (f 15) 48 : Nat) : Int)) (by omega), show 16 + ((min (f 15) 48 : Nat) : Int) = ((16 + min (f 15) 48 : Nat) : Int) by omega, w64 (n := (leN f 12 2 : Int)) (by omega)]
  refine ⟨by omega, ?_⟩
  conv => whnf
  refine ⟨by omega, ?_⟩
  conv => whnf
  rewrite [Int.toNat_natCast, show Int.toNat 16 = 16 from rfl, show Int.toNat 14 = 14 from rfl]
  refine ⟨⟨by omega, by omega⟩, ?_⟩
  rewrite [Nat.add_sub_cancel_left]
  conv => whnf
  refine ⟨_, [0], ⟨⟨_, _, _, g0, fun _ => rfl, fun _ => rfl, rfl, fun _ => ⟨rfl, trivial⟩, rfl⟩⟩, ?_⟩; conv => whnf
  (repeat (refine And.intro (by first | omega | (dsimp only; omega)) ?_; conv => whnf))
  refine .inl ⟨_, [], ⟨⟨_, _, _, sumSum 60 (fun k => f (4 + k)) (fun i => hf _) (by omega), fun _ => rfl, fun _ => rfl, rfl, fun _ => trivial, rfl⟩⟩, ?_⟩; conv => whnf
  rewrite [beqN]
  refine ⟨[], _, _, rfl, rfl, ?_, ?_, rfl, rfl⟩
  · (repeat' first | exact trivial | exact rfl | exact sh0 rfl | exact Nat.le_refl _ | exact .inl shA | exact .inr ⟨rfl, rfl, rfl, rfl, rfl⟩ | exact .inl shB | exact fun h => h | refine ⟨?_, ?_, ?_, .inl ?_⟩ | refine ⟨?_, ?_⟩ | refine fun ii hii => ?_ | omega | fail)
  · (repeat' first | exact trivial | exact rfl | exact sh0 rfl | exact Nat.le_refl _ | exact .inl shA | exact .inr ⟨rfl, rfl, rfl, rfl, rfl⟩ | exact .inl shB | exact fun h => h | refine ⟨?_, ?_, ?_, .inl ?_⟩ | refine ⟨?_, ?_⟩ | refine fun ii hii => ?_ | omega | fail)
end Go.Proofs.Ytilmfhpoiejmfaa.Gk
