/- The document's look at a log's sector. By this session. -/
import Derived.Test.YtilmfhpoiejmfaaJa
namespace Go.Proofs.Ytilmfhpoiejmfaa.Gk
open Go.Proofs.Ytilmfhpoiejmfaa.Lh Go.RowKit Go.Proofs.Ytilmfhpoiejmfaa.Lg
set_option maxRecDepth 100000
set_option linter.unusedSimpArgs false
set_option linter.unusedSectionVars false
set_option linter.unusedVariables false
variable [Fz]
theorem snoc_row (g : F8) (m i : Nat) (hi : i < m + 1) : shS 1000000 (frzAll [] []) (if i < m then bSeg8 g (0 + i) else if 0 + (i - m) = 0 then .one (bN (g m)) .nil else .one (.int .u8 0) .nil) (bSeg8 g i) := by
  refine sh_ite (fun c => ⟨⟨rfl, ?_⟩, trivial⟩) (fun c => sh_ite (fun c2 => ⟨⟨rfl, ?_⟩, trivial⟩) (fun c2 => ⟨⟨rfl, ?_⟩, trivial⟩))
  · show ((g (0 + i) : Nat) : Int) = ((g i : Nat) : Int)
    rw [Nat.zero_add]
  · show ((g m : Nat) : Int) = ((g i : Nat) : Int)
    rw [show m = i by omega]
  · omega
def lookV (f : F8) : LVal := .agg (.one (.bool (rightB f)) (.one (wN (leN f 4 4)) (.one (wN (leN f 8 4)) (.one (.int .i64 (leN f 12 2 : Int)) (.one (.int .i64 (f 14 : Int)) (.one (.int .i64 (f 15 : Int)) (.one (bV (min (f 15) 48) fun i => f (16 + i)) .nil)))))))
set_option maxHeartbeats 1000000 in
theorem Look (f : F8) (hf : ∀ i, f i < 256) : LCalls Try.prog 103 (.cons (bV 64 f) .nil) [] (fun e h' => e = .ret (lookV f) ∧ h' = []) := by
  have n4 := number 64 f hf 4 4 (by omega) (by omega) (by omega)
  have n8 := number 64 f hf 8 4 (by omega) (by omega) (by omega)
  have n12 := number 64 f hf 12 2 (by omega) (by omega) (by omega)
  have n0 := number 64 f hf 0 4 (by omega) (by omega) (by omega)
  have h12 := leN_lt hf 12 2
  unfold lookV
  refine LCalls.tellF ?_
  refine enter103 rfl ?_
  conv => whnf
  refine .inl ⟨_, [], ⟨⟨_, _, _, n4, fun _ => rfl, fun _ => rfl, rfl, fun _ => trivial, rfl⟩⟩, ?_⟩; conv => whnf
  refine .inl ⟨_, [], ⟨⟨_, _, _, n8, fun _ => rfl, fun _ => rfl, rfl, fun _ => trivial, rfl⟩⟩, ?_⟩; conv => whnf
  refine .inl ⟨_, [], ⟨⟨_, _, _, n12, fun _ => rfl, fun _ => rfl, rfl, fun _ => trivial, rfl⟩⟩, ?_⟩; conv => whnf
  rewrite [w64 (n := (leN f 12 2 : Int)) (by omega)]
  refine ⟨⟨by omega, by omega⟩, ?_⟩
  rewrite [show Int.toNat 14 = 14 from rfl]
  conv => whnf
  refine ⟨⟨by omega, by omega⟩, ?_⟩
  rewrite [show Int.toNat 15 = 15 from rfl]
  conv => whnf
  have h14 := hf 14
  have h15 := hf 15
  rewrite [w64 (n := (f 14 : Int)) (by omega), w64 (n := (f 15 : Int)) (by omega)]
  conv => whnf
  refine .inl ⟨_, [], ⟨⟨_, _, _, n0, fun _ => rfl, fun _ => rfl, rfl, fun _ => trivial, rfl⟩⟩, ?_⟩; conv => whnf
  refine ⟨by omega, ?_⟩
  rewrite [show Int.toNat 4 = 4 from rfl]
  conv => whnf
  refine ⟨⟨by omega, by omega⟩, ?_⟩
  conv => whnf
  refine .inl ⟨_, [], ⟨⟨_, _, _, rSum 60 (fun k => f (4 + k)) (fun i => hf _) (by omega), fun _ => rfl, fun _ => rfl, rfl, fun _ => trivial, rfl⟩⟩, ?_⟩; conv => whnf
  rewrite [beqN, show (leN f 0 4 == sumN 60 fun k => f (4 + k)) = rightB f from rfl]
  obtain ⟨rb, hrb⟩ : ∃ rb, rb = rightB f := ⟨_, rfl⟩
  obtain ⟨e4, he4⟩ : ∃ e4, e4 = leN f 4 4 := ⟨_, rfl⟩
  obtain ⟨e8, he8⟩ : ∃ e8, e8 = leN f 8 4 := ⟨_, rfl⟩
  obtain ⟨e12, he12⟩ : ∃ e12, e12 = leN f 12 2 := ⟨_, rfl⟩
  obtain ⟨ln, hln⟩ : ∃ ln, ln = f 15 := ⟨_, rfl⟩
  rw [← hrb, ← he4, ← he8, ← he12, ← hln]
  rw [← hln] at h15
  refine Loop.inv (lwp_mono _) (fun n t1 h => ∃ (m : Nat), m ≤ min ln 48 ∧ n = 48 - m ∧ t1 = [bV 64 f, .any, .ptr ⟨0, [], 0⟩, .ptr ⟨1, [], 0⟩, .int .i64 (m : Int), .any, .any, .any, .any, .any, .any, .any, .any, .any, .any, .any, .any, .any, .any, .any, .any, .any, .any, .any, .any, .any, .any, .any, .any, .any, .any, .any, .any, .any, .any, .any, .any, .any, .any, .any, .any, .any, .any, .any, .any, .any, .any, .any, .any] ∧ h = [some ⟨.one (.bool false) (.one (.int .u32 0) (.one (.int .u32 0) (.one (.int .i64 0) (.one (.int .i64 0) (.one (.int .i64 0) (.one (.slice ⟨0, [], 0⟩ 0 0 0 0 (some 0)) .nil)))))), 176, false, false⟩, some ⟨.one (.bool rb) (.one (.int .u32 (e4 : Int)) (.one (.int .u32 (e8 : Int)) (.one (.int .i64 (e12 : Int)) (.one (.int .i64 (f 14 : Int)) (.one (.int .i64 (ln : Int)) (.one (.slice ⟨2, [], 0⟩ 0 1 m m none) .nil)))))), 176, false, false⟩, byO m (fun i => f (16 + i))]) ?_ ?_
  · refine ⟨_, _, _, ⟨[], trivial, [0, 17, 98], rfl, rfl, ?_, ?_⟩, 0, Nat.zero_le _, rfl, rfl, rfl⟩
    · (repeat' first | exact trivial | exact rfl | exact sh0 rfl | exact Nat.le_refl _ | exact .inl shA | exact .inr ⟨rfl, rfl, rfl, rfl, rfl⟩ | exact .inl shB | exact fun h => h | refine ⟨?_, ?_, ?_, .inl ?_⟩ | refine ⟨?_, ?_⟩ | refine fun ii hii => ?_ | omega | fail)
    · (repeat' first | exact trivial | exact rfl | exact sh0 rfl | exact Nat.le_refl _ | exact .inl shA | exact .inr ⟨rfl, rfl, rfl, rfl, rfl⟩ | exact .inl shB | exact fun h => h | refine ⟨?_, ?_, ?_, .inl ?_⟩ | refine ⟨?_, ?_⟩ | refine fun ii hii => ?_ | omega | fail)
  · rintro n _ _ ⟨m, hm, rfl, rfl, rfl⟩
    conv => whnf
    by_cases h1 : m < ln
    · rewrite [show decide ((m : Int) < (ln : Int)) = true from decide_eq_true (by omega)]
      conv => whnf
      by_cases h2 : m < 48
      · rewrite [show decide ((m : Int) < 48) = true from decide_eq_true (by omega)]
        conv => whnf
        rewrite [w64 (n := 16 + (m : Int)) (by omega), show 16 + (m : Int) = ((16 + m : Nat) : Int) by omega]
        refine ⟨⟨by omega, by omega⟩, ?_⟩
        rewrite [Int.toNat_natCast]
        conv => whnf
        refine ⟨by first | omega | (dsimp only; omega), ?_⟩
        conv => whnf
        refine ⟨by first | omega | (dsimp only; omega), ?_⟩
        conv => whnf
        rewrite [w64 (n := (m : Int) + 1) (by omega)]
        have snocRow := snoc_row (fun i => f (16 + i)) m
        refine ⟨_, _, _, ?_, ⟨[], trivial, [0, 1, 11], rfl, rfl, ?_, ?_⟩, m + 1, by omega, rfl, rfl, rfl⟩
        · omega
        · (repeat' first | exact trivial | exact rfl | exact sh0 rfl | exact Nat.le_refl _ | exact .inl shA | exact .inr ⟨rfl, rfl, rfl, rfl, rfl⟩ | exact .inl shB | exact fun h => h | refine ⟨?_, ?_, ?_, .inl ?_⟩ | refine ⟨?_, ?_⟩ | refine fun ii hii => ?_ | omega | fail)
        · (repeat' first | exact trivial | exact rfl | exact sh0 rfl | exact Nat.le_refl _ | exact .inl shA | exact .inr ⟨rfl, rfl, rfl, rfl, rfl⟩ | exact .inl shB | exact fun h => h | refine ⟨?_, ?_, ?_, .inl ?_⟩ | refine ⟨?_, ?_⟩ | refine fun ii hii => ?_ | omega | fail)
          all_goals exact snocRow ii hii
      · rewrite [show decide ((m : Int) < 48) = false from decide_eq_false (by omega)]
        have hm2 : min ln 48 = m := by omega
        rw [hm2]
        conv => whnf
        refine ⟨[(2, m, 1, bSeg8 fun i => f (16 + i))], ⟨⟨rfl, Nat.le_refl _, rfl, fun i hi => ⟨⟨rfl, rfl⟩, trivial⟩⟩, rfl, trivial⟩, [], _, _, rfl, rfl, ?_, ?_, rfl, rfl⟩
        · (repeat' first | exact trivial | exact rfl | exact sh0 rfl | exact Nat.le_refl _ | exact .inl shA | exact .inr ⟨rfl, rfl, rfl, rfl, rfl⟩ | exact .inl shB | exact fun h => h | refine ⟨?_, ?_, ?_, .inl ?_⟩ | refine ⟨?_, ?_⟩ | refine fun ii hii => ?_ | omega | fail)
          all_goals exact .inr ⟨rfl, rfl, rfl, rfl, rfl, by simp, fun i hi => by show bSeg8 (fun i => f (16 + i)) (offs 0 i) = bSeg8 (fun i => f (16 + i)) i; rfl⟩
        · (repeat' first | exact trivial | exact rfl | exact sh0 rfl | exact Nat.le_refl _ | exact .inl shA | exact .inr ⟨rfl, rfl, rfl, rfl, rfl⟩ | exact .inl shB | exact fun h => h | refine ⟨?_, ?_, ?_, .inl ?_⟩ | refine ⟨?_, ?_⟩ | refine fun ii hii => ?_ | omega | fail)
    · rewrite [show decide ((m : Int) < (ln : Int)) = false from decide_eq_false (by omega)]
      have hm2 : min ln 48 = m := by omega
      rw [hm2]
      conv => whnf
      refine ⟨[(2, m, 1, bSeg8 fun i => f (16 + i))], ⟨⟨rfl, Nat.le_refl _, rfl, fun i hi => ⟨⟨rfl, rfl⟩, trivial⟩⟩, rfl, trivial⟩, [], _, _, rfl, rfl, ?_, ?_, rfl, rfl⟩
      · (repeat' first | exact trivial | exact rfl | exact sh0 rfl | exact Nat.le_refl _ | exact .inl shA | exact .inr ⟨rfl, rfl, rfl, rfl, rfl⟩ | exact .inl shB | exact fun h => h | refine ⟨?_, ?_, ?_, .inl ?_⟩ | refine ⟨?_, ?_⟩ | refine fun ii hii => ?_ | omega | fail)
        all_goals exact .inr ⟨rfl, rfl, rfl, rfl, rfl, by simp, fun i hi => by show bSeg8 (fun i => f (16 + i)) (offs 0 i) = bSeg8 (fun i => f (16 + i)) i; rfl⟩
      · (repeat' first | exact trivial | exact rfl | exact sh0 rfl | exact Nat.le_refl _ | exact .inl shA | exact .inr ⟨rfl, rfl, rfl, rfl, rfl⟩ | exact .inl shB | exact fun h => h | refine ⟨?_, ?_, ?_, .inl ?_⟩ | refine ⟨?_, ?_⟩ | refine fun ii hii => ?_ | omega | fail)
end Go.Proofs.Ytilmfhpoiejmfaa.Gk
