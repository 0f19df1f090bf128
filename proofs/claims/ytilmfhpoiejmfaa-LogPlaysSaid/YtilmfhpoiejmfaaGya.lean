/- The log: the document's counts of sectors, and comparing texts. By this session. -/
import Derived.Test.YtilmfhpoiejmfaaGu
import Derived.Test.YtilmfhpoiejmfaaGf
namespace Go.Proofs.Ytilmfhpoiejmfaa.Gk
open Go.Proofs.Ytilmfhpoiejmfaa.Lh Go.RowKit Go.Proofs.Ytilmfhpoiejmfaa.Lg Go.Proofs.Ytilmfhpoiejmfaa.Gdk
open Go.Proofs.Ytilmfhpoiejmfaa.Dk (Disk Sec nought diskR crashed picked crash' keepQ boolS Inv)
set_option maxRecDepth 100000
set_option linter.unusedSimpArgs false
set_option linter.unusedSectionVars false
set_option linter.unusedVariables false
variable [Fz]
theorem str_self (b : ByteArray) : (b == b) = true := by
  cases b with
  | mk d =>
    show (d == d) = true
    simp
theorem rSectors (m : Nat) (hm : m ≤ 4611686018427387904) : LCalls Try.prog 40 (.cons (.int .i64 (m : Int)) .nil) [] (fun e h' => e = .ret (.int .i64 (secN m : Int)) ∧ h' = []) := by
  refine LCalls.tell ?_; refine enter40 rfl ?_; conv => whnf
  refine Loop.inv (lwp_mono _) (fun n t1 h => ∃ (k : Nat), 48 * k ≤ m ∧ (k = 0 ∨ 1 ≤ m - 48 * k) ∧ n = m - 48 * k ∧ t1 = [.int .i64 ((m - 48 * k : Nat) : Int), .any, .any, .int .i64 ((1 + k : Nat) : Int), .any, .any, .any, .any, .any, .any, .any] ∧ h = []) ?_ ?_
  · refine ⟨_, _, _, ⟨[], trivial, [], rfl, rfl, ?_, ?_⟩, 0, by omega, .inl rfl, rfl, rfl, rfl⟩
    · (repeat' first | exact trivial | exact rfl | exact sh0 rfl | exact Nat.le_refl _ | exact .inl shA | exact .inr ⟨rfl, rfl, rfl, rfl, rfl⟩ | exact .inl shB | exact fun h => h | refine ⟨?_, ?_, ?_, .inl ?_⟩ | refine ⟨?_, ?_⟩ | refine fun ii hii => ?_ | omega | fail)
    · (repeat' first | exact trivial | exact rfl | exact sh0 rfl | exact Nat.le_refl _ | exact .inl shA | exact .inr ⟨rfl, rfl, rfl, rfl, rfl⟩ | exact .inl shB | exact fun h => h | refine ⟨?_, ?_, ?_, .inl ?_⟩ | refine ⟨?_, ?_⟩ | refine fun ii hii => ?_ | omega | fail)
  · rintro n _ _ ⟨k, hk, hk1, rfl, rfl, rfl⟩
    conv => whnf
    by_cases c : m - 48 * k > 48
    · rewrite [show decide (((m - 48 * k : Nat) : Int) > 48) = true from decide_eq_true (by omega)]
      conv => whnf
      rewrite [w64 (n := ((1 + k : Nat) : Int) + 1) (by omega), w64 (n := ((m - 48 * k : Nat) : Int) - 48) (by omega)]
      refine ⟨_, _, _, ?_, ⟨[], trivial, [], rfl, rfl, ?_, ?_⟩, k + 1, by omega, .inr (by omega), rfl, rfl, rfl⟩
      · omega
      · (repeat' first | exact trivial | exact rfl | exact sh0 rfl | exact Nat.le_refl _ | exact .inl shA | exact .inr ⟨rfl, rfl, rfl, rfl, rfl⟩ | exact .inl shB | exact fun h => h | refine ⟨?_, ?_, ?_, .inl ?_⟩ | refine ⟨?_, ?_⟩ | refine fun ii hii => ?_ | omega | fail)
      · (repeat' first | exact trivial | exact rfl | exact sh0 rfl | exact Nat.le_refl _ | exact .inl shA | exact .inr ⟨rfl, rfl, rfl, rfl, rfl⟩ | exact .inl shB | exact fun h => h | refine ⟨?_, ?_, ?_, .inl ?_⟩ | refine ⟨?_, ?_⟩ | refine fun ii hii => ?_ | omega | fail)
    · rewrite [show decide (((m - 48 * k : Nat) : Int) > 48) = false from decide_eq_false (by omega)]
      have hs : secN m = 1 + k := by unfold secN; split <;> omega
      rw [hs]
      conv => whnf
      refine ⟨[], _, _, rfl, rfl, ?_, ?_, rfl, rfl⟩
      · (repeat' first | exact trivial | exact rfl | exact sh0 rfl | exact Nat.le_refl _ | exact .inl shA | exact .inr ⟨rfl, rfl, rfl, rfl, rfl⟩ | exact .inl shB | exact fun h => h | refine ⟨?_, ?_, ?_, .inl ?_⟩ | refine ⟨?_, ?_⟩ | refine fun ii hii => ?_ | omega | fail)
      · (repeat' first | exact trivial | exact rfl | exact sh0 rfl | exact Nat.le_refl _ | exact .inl shA | exact .inr ⟨rfl, rfl, rfl, rfl, rfl⟩ | exact .inl shB | exact fun h => h | refine ⟨?_, ?_, ?_, .inl ?_⟩ | refine ⟨?_, ?_⟩ | refine fun ii hii => ?_ | omega | fail)
theorem Texts (l : List Lg.Bs) (hl : l.length ≤ 140737488351232) : LCalls Try.prog 42 (.cons (strsV l) (.cons (strsV l) .nil)) [] (fun e h' => e = .ret (.bool true) ∧ h' = []) := by
  refine LCalls.tell ?_; refine enter42 rfl ?_; conv => whnf
  rewrite [show ((l.length : Int) != (l.length : Int)) = false from by simp]
  conv => whnf
  refine Loop.inv (lwp_mono _) (fun n t1 h => ∃ (k : Nat), k ≤ l.length ∧ n = l.length - k ∧ t1 = [strsV l, strsV l, .any, .any, .any, .int .i64 (k : Int), .any, .any, .any, .any, .any, .any, .any, .any, .any, .any, .any, .any, .any, .any, .any, .any, .any, .any, .any, .any] ∧ h = []) ?_ ?_
  · refine ⟨_, _, _, ⟨[], trivial, [], rfl, rfl, ?_, ?_⟩, 0, Nat.zero_le _, rfl, rfl, rfl⟩
    · (repeat' first | exact trivial | exact rfl | exact sh0 rfl | exact Nat.le_refl _ | exact .inl shA | exact .inr ⟨rfl, rfl, rfl, rfl, rfl⟩ | exact .inl shB | exact fun h => h | refine ⟨?_, ?_, ?_, .inl ?_⟩ | refine ⟨?_, ?_⟩ | refine fun ii hii => ?_ | omega | fail)
    · (repeat' first | exact trivial | exact rfl | exact sh0 rfl | exact Nat.le_refl _ | exact .inl shA | exact .inr ⟨rfl, rfl, rfl, rfl, rfl⟩ | exact .inl shB | exact fun h => h | refine ⟨?_, ?_, ?_, .inl ?_⟩ | refine ⟨?_, ?_⟩ | refine fun ii hii => ?_ | omega | fail)
  · rintro n _ _ ⟨k, hk, rfl, rfl, rfl⟩
    conv => whnf
    by_cases c : k < l.length
    · rewrite [show decide ((k : Int) < (l.length : Int)) = true from decide_eq_true (by omega)]
      conv => whnf
      refine ⟨⟨by omega, by omega⟩, ?_⟩
      conv => whnf
      refine ⟨⟨by omega, by omega⟩, ?_⟩
      conv => whnf
      rewrite [show ∀ b : ByteArray, (!(b == b)) = false from fun b => by rw [str_self]; rfl]
      conv => whnf
      rewrite [w64 (n := (k : Int) + 1) (by omega)]
      refine ⟨_, _, _, ?_, ⟨[], trivial, [], rfl, rfl, ?_, ?_⟩, k + 1, by omega, rfl, rfl, rfl⟩
      · omega
      · (repeat' first | exact trivial | exact rfl | exact sh0 rfl | exact Nat.le_refl _ | exact .inl shA | exact .inr ⟨rfl, rfl, rfl, rfl, rfl⟩ | exact .inl shB | exact fun h => h | refine ⟨?_, ?_, ?_, .inl ?_⟩ | refine ⟨?_, ?_⟩ | refine fun ii hii => ?_ | omega | fail)
      · (repeat' first | exact trivial | exact rfl | exact sh0 rfl | exact Nat.le_refl _ | exact .inl shA | exact .inr ⟨rfl, rfl, rfl, rfl, rfl⟩ | exact .inl shB | exact fun h => h | refine ⟨?_, ?_, ?_, .inl ?_⟩ | refine ⟨?_, ?_⟩ | refine fun ii hii => ?_ | omega | fail)
    · rewrite [show decide ((k : Int) < (l.length : Int)) = false from decide_eq_false (by omega)]
      conv => whnf
      refine ⟨[], _, _, rfl, rfl, ?_, ?_, rfl, rfl⟩
      · (repeat' first | exact trivial | exact rfl | exact sh0 rfl | exact Nat.le_refl _ | exact .inl shA | exact .inr ⟨rfl, rfl, rfl, rfl, rfl⟩ | exact .inl shB | exact fun h => h | refine ⟨?_, ?_, ?_, .inl ?_⟩ | refine ⟨?_, ?_⟩ | refine fun ii hii => ?_ | omega | fail)
      · (repeat' first | exact trivial | exact rfl | exact sh0 rfl | exact Nat.le_refl _ | exact .inl shA | exact .inr ⟨rfl, rfl, rfl, rfl, rfl⟩ | exact .inl shB | exact fun h => h | refine ⟨?_, ?_, ?_, .inl ?_⟩ | refine ⟨?_, ?_⟩ | refine fun ii hii => ?_ | omega | fail)
/-- The second list in a block of its own. -/
theorem TextsO (l : List Lg.Bs) (hl : l.length ≤ 140737488351232) : LCalls Try.prog 42 (.cons (strsV l) (.cons (.slice ⟨0, [], 0⟩ 0 1 l.length l.length none) .nil)) [strO l] (fun e h' => e = .ret (.bool true) ∧ h' = [none]) := by
  refine LCalls.preF [(0, l.length, 1, strS l)] ⟨⟨rfl, Nat.le_refl _, rfl, fun i hi => ⟨rfl, trivial⟩⟩, rfl, trivial⟩ [0] (.cons (strsV l) (.cons (strsV l) .nil)) [none] rfl rfl ?_ ?_ ?_
  · refine ⟨⟨rfl, rfl, fun i hi => ⟨rfl, trivial⟩⟩, .inr ⟨rfl, rfl, rfl, rfl, rfl, by simp, fun i hi => by show strS l (offs 0 i) = strS l i; rfl⟩, trivial⟩
  · (repeat' first | exact trivial | exact rfl | exact sh0 rfl | exact Nat.le_refl _ | exact .inl shA | exact .inr ⟨rfl, rfl, rfl, rfl, rfl⟩ | exact .inl shB | exact fun h => h | refine ⟨?_, ?_, ?_, .inl ?_⟩ | refine ⟨?_, ?_⟩ | refine fun ii hii => ?_ | omega | fail)
  refine (LCalls.frame (H := [none]) (Texts l hl) [] rfl trivial).mono ?_
  rintro _ _ ⟨_, _, ⟨rfl, rfl⟩, rfl, rfl⟩
  exact ⟨rfl, rfl⟩
def tt3 : Nat → Bool := fun _ => true
def o3t : LObj := ⟨.rows 3 1 (fun j => if j = 2 then .one (.bool true) .nil else if j = 1 then .one (.bool true) .nil else if j = 0 then .one (.bool true) .nil else .one (.bool false) .nil) .nil, 4, false, false⟩
theorem o3t_ren (g : Nat → Nat) : o3t.ren g = o3t := by
  unfold o3t LObj.ren
  simp only [renS]
  congr 2
  funext j
  repeat' split
  all_goals rfl
theorem crash3 (τ : Nat) (x : Disk) (hi : Inv x) : LCalls Try.prog 27 (.cons (.tok τ) (.cons (.slice ⟨1, [], 0⟩ 0 1 3 3 (some 3)) .nil)) [diskR τ x, some o3t] (fun e h' => e = .ret (.int .i64 (picked (keepQ 3 tt3) x.pend).length) ∧ h' = [diskR τ (crashed x (keepQ 3 tt3)), none]) := by
  refine LCalls.preF [(1, 3, 1, fun i => .one (.bool (tt3 i)) .nil)] ⟨⟨rfl, Nat.le_refl _, rfl, fun i hi => ?_⟩, rfl, trivial⟩ [0, 1] (.cons (.tok τ) (.cons (boolS 3 tt3) .nil)) [diskR τ x, none] rfl rfl ?_ ?_ ?_
  · have hi : i < 3 := hi
    match i, hi with
    | 0, _ => exact ⟨rfl, trivial⟩
    | 1, _ => exact ⟨rfl, trivial⟩
    | 2, _ => exact ⟨rfl, trivial⟩
  · exact ⟨rfl, .inr ⟨rfl, rfl, rfl, rfl, rfl, Nat.le_refl _, fun i hi => rfl⟩, trivial⟩
  · (repeat' first | exact trivial | exact rfl | exact sh0 rfl | exact Nat.le_refl _ | exact .inl shA | exact .inr ⟨rfl, rfl, rfl, rfl, rfl⟩ | exact .inl shB | exact fun h => h | refine ⟨?_, ?_, ?_, .inl ?_⟩ | refine ⟨?_, ?_⟩ | refine fun ii hii => ?_ | omega | fail)
  refine (LCalls.frame (H := [diskR τ x, none]) (crash' τ x hi.toWf 3 tt3) [0] rfl ⟨rfl, trivial⟩).mono ?_
  rintro _ _ ⟨_, _, ⟨rfl, rfl⟩, rfl, rfl⟩
  exact ⟨rfl, rfl⟩
end Go.Proofs.Ytilmfhpoiejmfaa.Gk
