/- The disk: what its functions do, on the heap of the mind. By this session. -/
import Derived.Test.YtilmfhpoiejmfaaDc
namespace Go.Proofs.Ytilmfhpoiejmfaa.Dk
open Go.Proofs.Ytilmfhpoiejmfaa.Lh
set_option maxRecDepth 100000
set_option linter.unusedSimpArgs false
set_option linter.unusedSectionVars false
variable [Fz]
abbrev Sec := Nat → Int
def sec (s : Sec) : Segs := .rows 64 1 (fun i => .one (.int .u8 (s i)) .nil) .nil
def nought : Sec := fun _ => 0
structure Disk where
  now : List Sec
  last : List Sec
  pend : List (Int × Sec)
  down : Bool
  left : Int
def srow (l : List Sec) : Nat → Segs := fun i => sec (l.getD i nought)
def prow (l : List (Int × Sec)) : Nat → Segs := fun i => .one (.int .i64 (l.getD i (0, nought)).1) (sec (l.getD i (0, nought)).2)
def ssl (b n : Nat) : LVal := .slice ⟨b, [], 0⟩ 0 64 n n none
def psl (b n : Nat) : LVal := .slice ⟨b, [], 0⟩ 0 65 n n none
def diskO (a b c : Nat) (x : Disk) : Option LObj := some ⟨.one (ssl a x.now.length) (.one (ssl b x.last.length) (.one (psl c x.pend.length) (.one (.bool x.down) (.one (.int .i64 x.left) .nil)))), 111, false, false⟩
def secO (l : List Sec) : Option LObj := some ⟨.rows l.length 64 (srow l) .nil, 116, false, false⟩
def penO (l : List (Int × Sec)) : Option LObj := some ⟨.rows l.length 65 (prow l) .nil, 118, true, false⟩
/-- A disk and what belongs to it. -/
def diskH (x : Disk) : LHeap := [diskO 1 2 3 x, secO x.now, secO x.last, penO x.pend]
theorem Load (x : Disk) : LCalls Try.prog 95 (.cons (.ptr ⟨0, [], 4⟩) .nil) [diskO 1 2 3 x, secO x.now, secO x.last, penO x.pend] (fun e h' => e = .ret (.int .i64 x.left) ∧ h' = [diskO 1 2 3 x, secO x.now, secO x.last, penO x.pend]) := by
  refine LCalls.tell ?_
  refine enter95 rfl ?_
  conv => whnf
  refine ⟨[0, 1, 2, 3], _, _, rfl, rfl, ?_, ?_, rfl, rfl⟩
  · (repeat' first | exact trivial | exact rfl | exact sh0 rfl | exact Nat.le_refl _ | exact .inl shA | exact .inr ⟨rfl, rfl, rfl, rfl, rfl⟩ | exact .inl shB | exact fun h => h | refine ⟨?_, ?_, ?_, .inl ?_⟩ | refine ⟨?_, ?_⟩ | refine fun ii hii => ?_ | omega | fail)
  · (repeat' first | exact trivial | exact rfl | exact sh0 rfl | exact Nat.le_refl _ | exact .inl shA | exact .inr ⟨rfl, rfl, rfl, rfl, rfl⟩ | exact .inl shB | exact fun h => h | refine ⟨?_, ?_, ?_, .inl ?_⟩ | refine ⟨?_, ?_⟩ | refine fun ii hii => ?_ | omega | fail)
theorem Store (x : Disk) (n : Int) : LCalls Try.prog 62 (.cons (.ptr ⟨0, [], 4⟩) (.cons (.int .i64 n) .nil)) [diskO 1 2 3 x, secO x.now, secO x.last, penO x.pend] (fun e h' => e = .ret .undef ∧ h' = [diskO 1 2 3 { x with left := n }, secO x.now, secO x.last, penO x.pend]) := by
  refine LCalls.tell ?_
  refine enter62 rfl ?_
  conv => whnf
  refine ⟨[0, 1, 2, 3], _, _, rfl, rfl, ?_, ?_, rfl, rfl⟩
  · (repeat' first | exact trivial | exact rfl | exact sh0 rfl | exact Nat.le_refl _ | exact .inl shA | exact .inr ⟨rfl, rfl, rfl, rfl, rfl⟩ | exact .inl shB | exact fun h => h | refine ⟨?_, ?_, ?_, .inl ?_⟩ | refine ⟨?_, ?_⟩ | refine fun ii hii => ?_ | omega | fail)
  · (repeat' first | exact trivial | exact rfl | exact sh0 rfl | exact Nat.le_refl _ | exact .inl shA | exact .inr ⟨rfl, rfl, rfl, rfl, rfl⟩ | exact .inl shB | exact fun h => h | refine ⟨?_, ?_, ?_, .inl ?_⟩ | refine ⟨?_, ?_⟩ | refine fun ii hii => ?_ | omega | fail)
theorem Dec (x : Disk) : LCalls Try.prog 96 (.cons (.ptr ⟨0, [], 4⟩) (.cons (.int .i64 (-1)) .nil)) [diskO 1 2 3 x, secO x.now, secO x.last, penO x.pend] (fun e h' => e = .ret (.int .i64 (IntKind.i64.wrap (x.left + -1))) ∧ h' = [diskO 1 2 3 { x with left := IntKind.i64.wrap (x.left + -1) }, secO x.now, secO x.last, penO x.pend]) := by
  refine LCalls.tell ?_
  refine enter96 rfl ?_
  conv => whnf
  refine ⟨[0, 1, 2, 3], _, _, rfl, rfl, ?_, ?_, rfl, rfl⟩
  · (repeat' first | exact trivial | exact rfl | exact sh0 rfl | exact Nat.le_refl _ | exact .inl shA | exact .inr ⟨rfl, rfl, rfl, rfl, rfl⟩ | exact .inl shB | exact fun h => h | refine ⟨?_, ?_, ?_, .inl ?_⟩ | refine ⟨?_, ?_⟩ | refine fun ii hii => ?_ | omega | fail)
  · (repeat' first | exact trivial | exact rfl | exact sh0 rfl | exact Nat.le_refl _ | exact .inl shA | exact .inr ⟨rfl, rfl, rfl, rfl, rfl⟩ | exact .inl shB | exact fun h => h | refine ⟨?_, ?_, ?_, .inl ?_⟩ | refine ⟨?_, ?_⟩ | refine fun ii hii => ?_ | omega | fail)
def fresh (n : Nat) : Disk := ⟨List.replicate n nought, List.replicate n nought, [], false, -1⟩
theorem New_err (n : Int) (h : ¬ (1 ≤ n ∧ n ≤ 4096)) : LCalls Try.prog 22 (.cons (.int .i64 n) .nil) [] (fun e h' => e = .ret (.tup (.cons .nilp (.cons (.int .i64 1) .nil))) ∧ h' = []) := by
  refine LCalls.tell ?_
  refine enter22 rfl ?_
  conv => whnf
  refine iteP_intro (fun hb => ?_) (fun hb => ?_)
  · rewrite [hb]
    conv => whnf
    refine ⟨[], _, _, rfl, rfl, ?_, ?_, rfl, rfl⟩
    · (repeat' first | exact trivial | exact rfl | exact sh0 rfl | exact Nat.le_refl _ | exact .inl shA | exact .inr ⟨rfl, rfl, rfl, rfl, rfl⟩ | exact .inl shB | exact fun h => h | refine ⟨?_, ?_, ?_, .inl ?_⟩ | refine ⟨?_, ?_⟩ | refine fun ii hii => ?_ | omega | fail)
    · (repeat' first | exact trivial | exact rfl | exact sh0 rfl | exact Nat.le_refl _ | exact .inl shA | exact .inr ⟨rfl, rfl, rfl, rfl, rfl⟩ | exact .inl shB | exact fun h => h | refine ⟨?_, ?_, ?_, .inl ?_⟩ | refine ⟨?_, ?_⟩ | refine fun ii hii => ?_ | omega | fail)
  · rewrite [hb]
    have e2 : decide (n > 4096) = true := decide_eq_true (by have := of_decide_eq_false hb; omega)
    conv => whnf
    rewrite [e2]
    conv => whnf
    refine ⟨[], _, _, rfl, rfl, ?_, ?_, rfl, rfl⟩
    · (repeat' first | exact trivial | exact rfl | exact sh0 rfl | exact Nat.le_refl _ | exact .inl shA | exact .inr ⟨rfl, rfl, rfl, rfl, rfl⟩ | exact .inl shB | exact fun h => h | refine ⟨?_, ?_, ?_, .inl ?_⟩ | refine ⟨?_, ?_⟩ | refine fun ii hii => ?_ | omega | fail)
    · (repeat' first | exact trivial | exact rfl | exact sh0 rfl | exact Nat.le_refl _ | exact .inl shA | exact .inr ⟨rfl, rfl, rfl, rfl, rfl⟩ | exact .inl shB | exact fun h => h | refine ⟨?_, ?_, ?_, .inl ?_⟩ | refine ⟨?_, ?_⟩ | refine fun ii hii => ?_ | omega | fail)
theorem nought_at (n i j : Nat) : (List.replicate n nought).getD i nought j = 0 := by
  rw [List.getD_eq_getElem?_getD, List.getElem?_replicate]
  split <;> rfl
theorem srow_repl (n i : Nat) : srow (List.replicate n nought) i = sec nought := by
  unfold srow
  congr 1
  rw [List.getD_eq_getElem?_getD, List.getElem?_replicate]
  split <;> rfl
theorem New_ok (n : Nat) (h1 : 1 ≤ n) (h2 : n ≤ 4096) : LCalls Try.prog 22 (.cons (.int .i64 n) .nil) [] (fun e h' => e = .ret (.tup (.cons (.ptr ⟨0, [], 0⟩) (.cons (.int .i64 0) .nil))) ∧ h' = [diskO 1 2 3 (fresh n), secO (fresh n).now, secO (fresh n).last, penO (fresh n).pend]) := by
  refine LCalls.tell ?_
  refine enter22 rfl ?_
  have e1 : decide ((n : Int) < 1) = false := decide_eq_false (by omega)
  have e2 : decide ((n : Int) > 4096) = false := decide_eq_false (by omega)
  conv => whnf
  rewrite [e1]
  conv => whnf
  rewrite [e2]
  (conv => whnf); (repeat (refine And.intro (by first | omega | (dsimp only; omega)) ?_; conv => whnf))
  refine LCalls.pre [0, 1, 2, 3, 4, 5, 99] (.cons (.ptr ⟨5, [], 4⟩) (.cons (.int .i64 (-1)) .nil)) [none, secO (fresh n).now, none, secO (fresh n).last, none, diskO 1 3 6 { fresh n with left := 0 }, penO []] rfl rfl ?_ ?_ ?_
  · (repeat' first | exact trivial | exact rfl | exact sh0 rfl | exact Nat.le_refl _ | exact .inl shA | exact .inr ⟨rfl, rfl, rfl, rfl, rfl⟩ | exact .inl shB | exact fun h => h | refine ⟨?_, ?_, ?_, .inl ?_⟩ | refine ⟨?_, ?_⟩ | refine fun ii hii => ?_ | omega | fail)
  · (repeat' first | exact trivial | exact rfl | exact sh0 rfl | exact Nat.le_refl _ | exact .inl shA | exact .inr ⟨rfl, rfl, rfl, rfl, rfl⟩ | exact .inl shB | exact fun h => h | refine ⟨?_, ?_, ?_, .inl ?_⟩ | refine ⟨?_, ?_⟩ | refine fun ii hii => ?_ | omega | fail)
    all_goals first
      | exact .inl ⟨rfl, rfl, rfl, by simp [fresh], by simp [fresh], by simp [fresh], .inl rfl, Nat.le_of_ble_eq_true rfl⟩
      | (simp [fresh]; done)
      | exact (nought_at n _ _).symm
  refine LCalls.use (Store { fresh n with left := 0 } (-1)) [5, 1, 3, 6] rfl rfl ⟨rfl, rfl, rfl, rfl, trivial⟩ ?_
  rintro _ _ ⟨rfl, rfl⟩
  conv => whnf
  refine ⟨[5, 1, 3, 6], _, _, rfl, rfl, ?_, ?_, rfl, rfl⟩
  · (repeat' first | exact trivial | exact rfl | exact sh0 rfl | exact Nat.le_refl _ | exact .inl shA | exact .inr ⟨rfl, rfl, rfl, rfl, rfl⟩ | exact .inl shB | exact fun h => h | refine ⟨?_, ?_, ?_, .inl ?_⟩ | refine ⟨?_, ?_⟩ | refine fun ii hii => ?_ | omega | fail)
  · (repeat' first | exact trivial | exact rfl | exact sh0 rfl | exact Nat.le_refl _ | exact .inl shA | exact .inr ⟨rfl, rfl, rfl, rfl, rfl⟩ | exact .inl shB | exact fun h => h | refine ⟨?_, ?_, ?_, .inl ?_⟩ | refine ⟨?_, ?_⟩ | refine fun ii hii => ?_ | omega | fail)
theorem Up (x : Disk) : LCalls Try.prog 28 (.cons (.ptr ⟨0, [], 0⟩) .nil) [diskO 1 2 3 x, secO x.now, secO x.last, penO x.pend] (fun e h' => e = .ret (.bool (!x.down)) ∧ h' = [diskO 1 2 3 x, secO x.now, secO x.last, penO x.pend]) := by
  refine LCalls.tell ?_
  refine enter28 rfl ?_
  conv => whnf
  refine ⟨[0, 1, 2, 3], _, _, rfl, rfl, ?_, ?_, rfl, rfl⟩
  · (repeat' first | exact trivial | exact rfl | exact sh0 rfl | exact Nat.le_refl _ | exact .inl shA | exact .inr ⟨rfl, rfl, rfl, rfl, rfl⟩ | exact .inl shB | exact fun h => h | refine ⟨?_, ?_, ?_, .inl ?_⟩ | refine ⟨?_, ?_⟩ | refine fun ii hii => ?_ | omega | fail)
  · (repeat' first | exact trivial | exact rfl | exact sh0 rfl | exact Nat.le_refl _ | exact .inl shA | exact .inr ⟨rfl, rfl, rfl, rfl, rfl⟩ | exact .inl shB | exact fun h => h | refine ⟨?_, ?_, ?_, .inl ?_⟩ | refine ⟨?_, ?_⟩ | refine fun ii hii => ?_ | omega | fail)
theorem Pending (x : Disk) : LCalls Try.prog 32 (.cons (.ptr ⟨0, [], 0⟩) .nil) [diskO 1 2 3 x, secO x.now, secO x.last, penO x.pend] (fun e h' => e = .ret (.int .i64 x.pend.length) ∧ h' = [diskO 1 2 3 x, secO x.now, secO x.last, penO x.pend]) := by
  refine LCalls.tell ?_
  refine enter32 rfl ?_
  conv => whnf
  refine ⟨[0, 1, 2, 3], _, _, rfl, rfl, ?_, ?_, rfl, rfl⟩
  · (repeat' first | exact trivial | exact rfl | exact sh0 rfl | exact Nat.le_refl _ | exact .inl shA | exact .inr ⟨rfl, rfl, rfl, rfl, rfl⟩ | exact .inl shB | exact fun h => h | refine ⟨?_, ?_, ?_, .inl ?_⟩ | refine ⟨?_, ?_⟩ | refine fun ii hii => ?_ | omega | fail)
  · (repeat' first | exact trivial | exact rfl | exact sh0 rfl | exact Nat.le_refl _ | exact .inl shA | exact .inr ⟨rfl, rfl, rfl, rfl, rfl⟩ | exact .inl shB | exact fun h => h | refine ⟨?_, ?_, ?_, .inl ?_⟩ | refine ⟨?_, ?_⟩ | refine fun ii hii => ?_ | omega | fail)
theorem Sectors (x : Disk) : LCalls Try.prog 72 (.cons (.ptr ⟨0, [], 0⟩) .nil) [diskO 1 2 3 x, secO x.now, secO x.last, penO x.pend] (fun e h' => e = .ret (.int .i64 x.now.length) ∧ h' = [diskO 1 2 3 x, secO x.now, secO x.last, penO x.pend]) := by
  refine LCalls.tell ?_
  refine enter72 rfl ?_
  conv => whnf
  refine ⟨[0, 1, 2, 3], _, _, rfl, rfl, ?_, ?_, rfl, rfl⟩
  · (repeat' first | exact trivial | exact rfl | exact sh0 rfl | exact Nat.le_refl _ | exact .inl shA | exact .inr ⟨rfl, rfl, rfl, rfl, rfl⟩ | exact .inl shB | exact fun h => h | refine ⟨?_, ?_, ?_, .inl ?_⟩ | refine ⟨?_, ?_⟩ | refine fun ii hii => ?_ | omega | fail)
  · (repeat' first | exact trivial | exact rfl | exact sh0 rfl | exact Nat.le_refl _ | exact .inl shA | exact .inr ⟨rfl, rfl, rfl, rfl, rfl⟩ | exact .inl shB | exact fun h => h | refine ⟨?_, ?_, ?_, .inl ?_⟩ | refine ⟨?_, ?_⟩ | refine fun ii hii => ?_ | omega | fail)
def hasB (x : Disk) (n : Int) : Bool := decide (n ≥ 0) && decide (n < (x.now.length : Int))
theorem Has (x : Disk) (n : Int) : LCalls Try.prog 63 (.cons (.ptr ⟨0, [], 0⟩) (.cons (.int .i64 n) .nil)) [diskO 1 2 3 x, secO x.now, secO x.last, penO x.pend] (fun e h' => e = .ret (.bool (hasB x n)) ∧ h' = [diskO 1 2 3 x, secO x.now, secO x.last, penO x.pend]) := by
  refine LCalls.tell ?_
  refine enter63 rfl ?_
  conv => whnf
  refine iteP_intro (fun hb => ?_) (fun hb => ?_)
  · rewrite [hb]
    conv => whnf
    refine ⟨[0, 1, 2, 3], _, _, rfl, rfl, ?_, ?_, rfl, rfl⟩
    · unfold hasB; rw [hb, Bool.true_and]; exact rfl
    · (repeat' first | exact trivial | exact rfl | exact sh0 rfl | exact Nat.le_refl _ | exact .inl shA | exact .inr ⟨rfl, rfl, rfl, rfl, rfl⟩ | exact .inl shB | exact fun h => h | refine ⟨?_, ?_, ?_, .inl ?_⟩ | refine ⟨?_, ?_⟩ | refine fun ii hii => ?_ | omega | fail)
  · rewrite [hb]
    conv => whnf
    refine ⟨[0, 1, 2, 3], _, _, rfl, rfl, ?_, ?_, rfl, rfl⟩
    · unfold hasB; rw [hb, Bool.false_and]; exact rfl
    · (repeat' first | exact trivial | exact rfl | exact sh0 rfl | exact Nat.le_refl _ | exact .inl shA | exact .inr ⟨rfl, rfl, rfl, rfl, rfl⟩ | exact .inl shB | exact fun h => h | refine ⟨?_, ?_, ?_, .inl ?_⟩ | refine ⟨?_, ?_⟩ | refine fun ii hii => ?_ | omega | fail)
def went (x : Disk) : Disk := if x.left < 0 then x else if x.left = 0 then { x with down := true } else { x with left := IntKind.i64.wrap (x.left + -1) }
def goesB (x : Disk) : Bool := !(x.left == 0)
theorem Goes (x : Disk) : LCalls Try.prog 65 (.cons (.ptr ⟨0, [], 0⟩) .nil) [diskO 1 2 3 x, secO x.now, secO x.last, penO x.pend] (fun e h' => e = .ret (.bool (goesB x)) ∧ h' = [diskO 1 2 3 (went x), secO (went x).now, secO (went x).last, penO (went x).pend]) := by
  refine LCalls.tell ?_
  refine enter65 rfl ?_
  conv => whnf
  refine LCalls.use (Load x) [0, 1, 2, 3] rfl rfl ⟨rfl, rfl, rfl, rfl, trivial⟩ ?_
  rintro _ _ ⟨rfl, rfl⟩
  conv => whnf
  refine iteP_intro (fun hb => ?_) (fun hb => ?_)
  · rewrite [hb]
    have h1 := of_decide_eq_true hb
    have e1 : went x = x := by simp [went, h1]
    have e2 : goesB x = true := by simp [goesB]; omega
    rw [e1, e2]
    conv => whnf
    refine ⟨[0, 1, 2, 3], _, _, rfl, rfl, ?_, ?_, rfl, rfl⟩
    · (repeat' first | exact trivial | exact rfl | exact sh0 rfl | exact Nat.le_refl _ | exact .inl shA | exact .inr ⟨rfl, rfl, rfl, rfl, rfl⟩ | exact .inl shB | exact fun h => h | refine ⟨?_, ?_, ?_, .inl ?_⟩ | refine ⟨?_, ?_⟩ | refine fun ii hii => ?_ | omega | fail)
    · (repeat' first | exact trivial | exact rfl | exact sh0 rfl | exact Nat.le_refl _ | exact .inl shA | exact .inr ⟨rfl, rfl, rfl, rfl, rfl⟩ | exact .inl shB | exact fun h => h | refine ⟨?_, ?_, ?_, .inl ?_⟩ | refine ⟨?_, ?_⟩ | refine fun ii hii => ?_ | omega | fail)
  rewrite [hb]
  have h1 := of_decide_eq_false hb
  conv => whnf
  refine iteP_intro (fun hb => ?_) (fun hb => ?_)
  · rewrite [hb]
    have h2 : x.left = 0 := by simpa using hb
    have e1 : went x = { x with down := true } := by simp [went, h2]
    have e2 : goesB x = false := by simp [goesB, h2]
    rw [e1, e2]
    conv => whnf
    refine ⟨[0, 1, 2, 3], _, _, rfl, rfl, ?_, ?_, rfl, rfl⟩
    · (repeat' first | exact trivial | exact rfl | exact sh0 rfl | exact Nat.le_refl _ | exact .inl shA | exact .inr ⟨rfl, rfl, rfl, rfl, rfl⟩ | exact .inl shB | exact fun h => h | refine ⟨?_, ?_, ?_, .inl ?_⟩ | refine ⟨?_, ?_⟩ | refine fun ii hii => ?_ | omega | fail)
    · (repeat' first | exact trivial | exact rfl | exact sh0 rfl | exact Nat.le_refl _ | exact .inl shA | exact .inr ⟨rfl, rfl, rfl, rfl, rfl⟩ | exact .inl shB | exact fun h => h | refine ⟨?_, ?_, ?_, .inl ?_⟩ | refine ⟨?_, ?_⟩ | refine fun ii hii => ?_ | omega | fail)
  · rewrite [hb]
    have h2 : ¬ x.left = 0 := by simpa using hb
    have e1 : went x = { x with left := IntKind.i64.wrap (x.left + -1) } := by simp [went, h1, h2]
    have e2 : goesB x = true := by simp [goesB, h2]
    rw [e1, e2]
    conv => whnf
    refine LCalls.use (Dec x) [0, 1, 2, 3] rfl rfl ⟨rfl, rfl, rfl, rfl, trivial⟩ ?_
    rintro _ _ ⟨rfl, rfl⟩
    conv => whnf
    refine ⟨[0, 1, 2, 3], _, _, rfl, rfl, ?_, ?_, rfl, rfl⟩
    · (repeat' first | exact trivial | exact rfl | exact sh0 rfl | exact Nat.le_refl _ | exact .inl shA | exact .inr ⟨rfl, rfl, rfl, rfl, rfl⟩ | exact .inl shB | exact fun h => h | refine ⟨?_, ?_, ?_, .inl ?_⟩ | refine ⟨?_, ?_⟩ | refine fun ii hii => ?_ | omega | fail)
    · (repeat' first | exact trivial | exact rfl | exact sh0 rfl | exact Nat.le_refl _ | exact .inl shA | exact .inr ⟨rfl, rfl, rfl, rfl, rfl⟩ | exact .inl shB | exact fun h => h | refine ⟨?_, ?_, ?_, .inl ?_⟩ | refine ⟨?_, ?_⟩ | refine fun ii hii => ?_ | omega | fail)
theorem shS_ite {k : Nat} {F : Fzl} {c : Prop} [Decidable c] {a b s : Segs} (h1 : c → shS k F a s) (h2 : ¬ c → shS k F b s) : shS k F (if c then a else b) s := by
  by_cases h : c
  · rw [if_pos h]; exact h1 h
  · rw [if_neg h]; exact h2 h
/-- A sector's bytes. -/
def byO (s : Sec) : Option LObj := some ⟨.rows 64 1 (fun i => .one (.int .u8 (s i)) .nil) .nil, 5, false, false⟩
def bsl (b : Nat) : LVal := .slice ⟨b, [], 0⟩ 0 1 64 64 none
def nils : LVal := .slice ⟨0, [], 0⟩ 0 0 0 0 (some 0)
theorem Out (s : Sec) : LCalls Try.prog 64 (.cons (.agg (sec s)) .nil) [] (fun e h' => e = .ret (bsl 0) ∧ h' = [byO s]) := by
  refine LCalls.tell ?_
  refine enter64 rfl ?_
  (conv => whnf); (repeat (refine And.intro (by first | omega | (dsimp only; omega)) ?_; conv => whnf))
  refine ⟨[1], _, _, rfl, rfl, ?_, ?_, rfl, rfl⟩
  · (repeat' first | exact trivial | exact rfl | exact sh0 rfl | exact Nat.le_refl _ | exact .inl shA | exact .inr ⟨rfl, rfl, rfl, rfl, rfl⟩ | exact .inl shB | exact fun h => h | refine ⟨?_, ?_, ?_, .inl ?_⟩ | refine ⟨?_, ?_⟩ | refine fun ii hii => ?_ | omega | fail)
  · (repeat' first | exact trivial | exact rfl | exact sh0 rfl | exact Nat.le_refl _ | exact .inl shA | exact .inr ⟨rfl, rfl, rfl, rfl, rfl⟩ | exact .inl shB | exact fun h => h | refine ⟨?_, ?_, ?_, .inl ?_⟩ | refine ⟨?_, ?_⟩ | refine fun ii hii => ?_ | omega | fail)
    have h64 : ii < 64 := hii
    refine shS_ite (fun c => ?_) (fun c => ?_)
    · exact ⟨⟨rfl, congrArg s (show 0 + (ii - 0) = ii by omega)⟩, trivial⟩
    · exact absurd ⟨Nat.zero_le _, (show ii < 0 + min (64 - 0) 64 by omega)⟩ c
theorem Lasting_no (x : Disk) (n : Int) (h : hasB { x with now := x.now } n = false) : LCalls Try.prog 31 (.cons (.ptr ⟨0, [], 0⟩) (.cons (.int .i64 n) .nil)) [diskO 1 2 3 x, secO x.now, secO x.last, penO x.pend] (fun e h' => e = .ret (.tup (.cons nils (.cons (.int .i64 11) .nil))) ∧ h' = [diskO 1 2 3 x, secO x.now, secO x.last, penO x.pend]) := by
  refine LCalls.tell ?_
  refine enter31 rfl ?_
  conv => whnf
  refine LCalls.use (Has x n) [0, 1, 2, 3] rfl rfl ⟨rfl, rfl, rfl, rfl, trivial⟩ ?_
  rintro _ _ ⟨rfl, rfl⟩
  rewrite [show hasB x n = false from h]
  conv => whnf
  refine ⟨[0, 1, 2, 3], _, _, rfl, rfl, ?_, ?_, rfl, rfl⟩
  · (repeat' first | exact trivial | exact rfl | exact sh0 rfl | exact Nat.le_refl _ | exact .inl shA | exact .inr ⟨rfl, rfl, rfl, rfl, rfl⟩ | exact .inl shB | exact fun h => h | refine ⟨?_, ?_, ?_, .inl ?_⟩ | refine ⟨?_, ?_⟩ | refine fun ii hii => ?_ | omega | fail)
  · (repeat' first | exact trivial | exact rfl | exact sh0 rfl | exact Nat.le_refl _ | exact .inl shA | exact .inr ⟨rfl, rfl, rfl, rfl, rfl⟩ | exact .inl shB | exact fun h => h | refine ⟨?_, ?_, ?_, .inl ?_⟩ | refine ⟨?_, ?_⟩ | refine fun ii hii => ?_ | omega | fail)
theorem Read_down (x : Disk) (n : Int) (h : x.down = true) : LCalls Try.prog 24 (.cons (.ptr ⟨0, [], 0⟩) (.cons (.int .i64 n) .nil)) [diskO 1 2 3 x, secO x.now, secO x.last, penO x.pend] (fun e h' => e = .ret (.tup (.cons nils (.cons (.int .i64 10) .nil))) ∧ h' = [diskO 1 2 3 x, secO x.now, secO x.last, penO x.pend]) := by
  obtain ⟨no, la, pe, dn, le⟩ := x
  have h : dn = true := h
  subst h
  refine LCalls.tell ?_
  refine enter24 rfl ?_
  conv => whnf
  refine ⟨[0, 1, 2, 3], _, _, rfl, rfl, ?_, ?_, rfl, rfl⟩
  · (repeat' first | exact trivial | exact rfl | exact sh0 rfl | exact Nat.le_refl _ | exact .inl shA | exact .inr ⟨rfl, rfl, rfl, rfl, rfl⟩ | exact .inl shB | exact fun h => h | refine ⟨?_, ?_, ?_, .inl ?_⟩ | refine ⟨?_, ?_⟩ | refine fun ii hii => ?_ | omega | fail)
  · (repeat' first | exact trivial | exact rfl | exact sh0 rfl | exact Nat.le_refl _ | exact .inl shA | exact .inr ⟨rfl, rfl, rfl, rfl, rfl⟩ | exact .inl shB | exact fun h => h | refine ⟨?_, ?_, ?_, .inl ?_⟩ | refine ⟨?_, ?_⟩ | refine fun ii hii => ?_ | omega | fail)
theorem Read_no (x : Disk) (n : Int) (h0 : x.down = false) (h : hasB x n = false) : LCalls Try.prog 24 (.cons (.ptr ⟨0, [], 0⟩) (.cons (.int .i64 n) .nil)) [diskO 1 2 3 x, secO x.now, secO x.last, penO x.pend] (fun e h' => e = .ret (.tup (.cons nils (.cons (.int .i64 11) .nil))) ∧ h' = [diskO 1 2 3 x, secO x.now, secO x.last, penO x.pend]) := by
  obtain ⟨no, la, pe, dn, le⟩ := x
  have h0 : dn = false := h0
  subst h0
  refine LCalls.tell ?_
  refine enter24 rfl ?_
  conv => whnf
  refine LCalls.use (Has _ n) [0, 1, 2, 3] rfl rfl ⟨rfl, rfl, rfl, rfl, trivial⟩ ?_
  rintro _ _ ⟨rfl, rfl⟩
  rewrite [h]
  conv => whnf
  refine ⟨[0, 1, 2, 3], _, _, rfl, rfl, ?_, ?_, rfl, rfl⟩
  · (repeat' first | exact trivial | exact rfl | exact sh0 rfl | exact Nat.le_refl _ | exact .inl shA | exact .inr ⟨rfl, rfl, rfl, rfl, rfl⟩ | exact .inl shB | exact fun h => h | refine ⟨?_, ?_, ?_, .inl ?_⟩ | refine ⟨?_, ?_⟩ | refine fun ii hii => ?_ | omega | fail)
  · (repeat' first | exact trivial | exact rfl | exact sh0 rfl | exact Nat.le_refl _ | exact .inl shA | exact .inr ⟨rfl, rfl, rfl, rfl, rfl⟩ | exact .inl shB | exact fun h => h | refine ⟨?_, ?_, ?_, .inl ?_⟩ | refine ⟨?_, ?_⟩ | refine fun ii hii => ?_ | omega | fail)
theorem Read_ok (x : Disk) (n : Nat) (h0 : x.down = false) (h : n < x.now.length) : LCalls Try.prog 24 (.cons (.ptr ⟨0, [], 0⟩) (.cons (.int .i64 n) .nil)) [diskO 1 2 3 x, secO x.now, secO x.last, penO x.pend] (fun e h' => e = .ret (.tup (.cons (bsl 4) (.cons (.int .i64 0) .nil))) ∧ h' = [diskO 1 2 3 x, secO x.now, secO x.last, penO x.pend, byO (x.now.getD n nought)]) := by
  obtain ⟨no, la, pe, dn, le⟩ := x
  have h0 : dn = false := h0
  subst h0
  have h : n < no.length := h
  refine LCalls.tell ?_
  refine enter24 rfl ?_
  conv => whnf
  refine LCalls.use (Has _ n) [0, 1, 2, 3] rfl rfl ⟨rfl, rfl, rfl, rfl, trivial⟩ ?_
  rintro _ _ ⟨rfl, rfl⟩
  rewrite [show hasB (Disk.mk no la pe false le) n = true from by simp [hasB]; exact h]
  (conv => whnf); (repeat (refine And.intro (by first | omega | (dsimp only; omega)) ?_; conv => whnf))
  rewrite [show 0 + (n : Int).toNat = n by omega]
  refine LCalls.use (Out (no.getD n nought)) [] rfl rfl trivial ?_
  rintro _ _ ⟨rfl, rfl⟩
  conv => whnf
  refine ⟨[0, 1, 2, 3, 4], _, _, rfl, rfl, ?_, ?_, rfl, rfl⟩
  · (repeat' first | exact trivial | exact rfl | exact sh0 rfl | exact Nat.le_refl _ | exact .inl shA | exact .inr ⟨rfl, rfl, rfl, rfl, rfl⟩ | exact .inl shB | exact fun h => h | refine ⟨?_, ?_, ?_, .inl ?_⟩ | refine ⟨?_, ?_⟩ | refine fun ii hii => ?_ | omega | fail)
  · (repeat' first | exact trivial | exact rfl | exact sh0 rfl | exact Nat.le_refl _ | exact .inl shA | exact .inr ⟨rfl, rfl, rfl, rfl, rfl⟩ | exact .inl shB | exact fun h => h | refine ⟨?_, ?_, ?_, .inl ?_⟩ | refine ⟨?_, ?_⟩ | refine fun ii hii => ?_ | omega | fail)
theorem Lasting_ok (x : Disk) (n : Nat) (hl : x.last.length = x.now.length) (h : n < x.now.length) : LCalls Try.prog 31 (.cons (.ptr ⟨0, [], 0⟩) (.cons (.int .i64 n) .nil)) [diskO 1 2 3 x, secO x.now, secO x.last, penO x.pend] (fun e h' => e = .ret (.tup (.cons (bsl 4) (.cons (.int .i64 0) .nil))) ∧ h' = [diskO 1 2 3 x, secO x.now, secO x.last, penO x.pend, byO (x.last.getD n nought)]) := by
  refine LCalls.tell ?_
  refine enter31 rfl ?_
  conv => whnf
  refine LCalls.use (Has _ n) [0, 1, 2, 3] rfl rfl ⟨rfl, rfl, rfl, rfl, trivial⟩ ?_
  rintro _ _ ⟨rfl, rfl⟩
  rewrite [show hasB x n = true from by simp [hasB]; exact h]
  (conv => whnf); (repeat (refine And.intro (by first | omega | (dsimp only; omega)) ?_; conv => whnf))
  rewrite [show 0 + (n : Int).toNat = n by omega]
  refine LCalls.use (Out (x.last.getD n nought)) [] rfl rfl trivial ?_
  rintro _ _ ⟨rfl, rfl⟩
  conv => whnf
  refine ⟨[0, 1, 2, 3, 4], _, _, rfl, rfl, ?_, ?_, rfl, rfl⟩
  · (repeat' first | exact trivial | exact rfl | exact sh0 rfl | exact Nat.le_refl _ | exact .inl shA | exact .inr ⟨rfl, rfl, rfl, rfl, rfl⟩ | exact .inl shB | exact fun h => h | refine ⟨?_, ?_, ?_, .inl ?_⟩ | refine ⟨?_, ?_⟩ | refine fun ii hii => ?_ | omega | fail)
  · (repeat' first | exact trivial | exact rfl | exact sh0 rfl | exact Nat.le_refl _ | exact .inl shA | exact .inr ⟨rfl, rfl, rfl, rfl, rfl⟩ | exact .inl shB | exact fun h => h | refine ⟨?_, ?_, ?_, .inl ?_⟩ | refine ⟨?_, ?_⟩ | refine fun ii hii => ?_ | omega | fail)
def armE (x : Disk) (n : Int) : Int := if n < 0 then 1 else if x.down = true then 10 else 0
def armed (x : Disk) (n : Int) : Disk := if armE x n = 0 then { x with left := n } else x
theorem Arm (x : Disk) (n : Int) : LCalls Try.prog 23 (.cons (.ptr ⟨0, [], 0⟩) (.cons (.int .i64 n) .nil)) [diskO 1 2 3 x, secO x.now, secO x.last, penO x.pend] (fun e h' => e = .ret (.int .i64 (armE x n)) ∧ h' = [diskO 1 2 3 (armed x n), secO (armed x n).now, secO (armed x n).last, penO (armed x n).pend]) := by
  refine LCalls.tell ?_
  refine enter23 rfl ?_
  conv => whnf
  refine iteP_intro (fun hb => ?_) (fun hb => ?_)
  · rewrite [hb]
    have h1 := of_decide_eq_true hb
    have e1 : armE x n = 1 := by simp [armE, h1]
    have e2 : armed x n = x := by simp [armed, e1]
    rw [e1, e2]
    conv => whnf
    refine ⟨[0, 1, 2, 3], _, _, rfl, rfl, ?_, ?_, rfl, rfl⟩
    · (repeat' first | exact trivial | exact rfl | exact sh0 rfl | exact Nat.le_refl _ | exact .inl shA | exact .inr ⟨rfl, rfl, rfl, rfl, rfl⟩ | exact .inl shB | exact fun h => h | refine ⟨?_, ?_, ?_, .inl ?_⟩ | refine ⟨?_, ?_⟩ | refine fun ii hii => ?_ | omega | fail)
    · (repeat' first | exact trivial | exact rfl | exact sh0 rfl | exact Nat.le_refl _ | exact .inl shA | exact .inr ⟨rfl, rfl, rfl, rfl, rfl⟩ | exact .inl shB | exact fun h => h | refine ⟨?_, ?_, ?_, .inl ?_⟩ | refine ⟨?_, ?_⟩ | refine fun ii hii => ?_ | omega | fail)
  rewrite [hb]
  have h1 := of_decide_eq_false hb
  cases hd : x.down
  · have e1 : armE x n = 0 := by simp [armE, h1, hd]
    have e2 : armed x n = { x with left := n } := by simp [armed, e1]
    rw [e1, e2]
    obtain ⟨no, la, pe, dn, le⟩ := x
    have hd : dn = false := hd
    subst hd
    conv => whnf
    refine LCalls.use (Store _ n) [0, 1, 2, 3] rfl rfl ⟨rfl, rfl, rfl, rfl, trivial⟩ ?_
    rintro _ _ ⟨rfl, rfl⟩
    conv => whnf
    refine ⟨[0, 1, 2, 3], _, _, rfl, rfl, ?_, ?_, rfl, rfl⟩
    · (repeat' first | exact trivial | exact rfl | exact sh0 rfl | exact Nat.le_refl _ | exact .inl shA | exact .inr ⟨rfl, rfl, rfl, rfl, rfl⟩ | exact .inl shB | exact fun h => h | refine ⟨?_, ?_, ?_, .inl ?_⟩ | refine ⟨?_, ?_⟩ | refine fun ii hii => ?_ | omega | fail)
    · (repeat' first | exact trivial | exact rfl | exact sh0 rfl | exact Nat.le_refl _ | exact .inl shA | exact .inr ⟨rfl, rfl, rfl, rfl, rfl⟩ | exact .inl shB | exact fun h => h | refine ⟨?_, ?_, ?_, .inl ?_⟩ | refine ⟨?_, ?_⟩ | refine fun ii hii => ?_ | omega | fail)
  · have e1 : armE x n = 10 := by simp [armE, h1, hd]
    have e2 : armed x n = x := by simp [armed, e1]
    rw [e1, e2]
    obtain ⟨no, la, pe, dn, le⟩ := x
    have hd : dn = true := hd
    subst hd
    conv => whnf
    refine ⟨[0, 1, 2, 3], _, _, rfl, rfl, ?_, ?_, rfl, rfl⟩
    · (repeat' first | exact trivial | exact rfl | exact sh0 rfl | exact Nat.le_refl _ | exact .inl shA | exact .inr ⟨rfl, rfl, rfl, rfl, rfl⟩ | exact .inl shB | exact fun h => h | refine ⟨?_, ?_, ?_, .inl ?_⟩ | refine ⟨?_, ?_⟩ | refine fun ii hii => ?_ | omega | fail)
    · (repeat' first | exact trivial | exact rfl | exact sh0 rfl | exact Nat.le_refl _ | exact .inl shA | exact .inr ⟨rfl, rfl, rfl, rfl, rfl⟩ | exact .inl shB | exact fun h => h | refine ⟨?_, ?_, ?_, .inl ?_⟩ | refine ⟨?_, ?_⟩ | refine fun ii hii => ?_ | omega | fail)
theorem shSec {k : Nat} {F : Fzl} {s s' : Segs} (a b : Sec) (h1 : s = sec a) (h2 : s' = sec b) (h : a = b) : shS k F s s' := by
  subst h h1 h2
  exact ⟨rfl, rfl, fun i hi => ⟨⟨rfl, rfl⟩, trivial⟩, trivial⟩
def wrote (l : List Sec) (p : List (Int × Sec)) : List Sec := p.foldl (fun l w => l.set w.1.toNat w.2) l
theorem wrote_len (p : List (Int × Sec)) : ∀ l, (wrote l p).length = l.length := by
  induction p with
  | nil => exact fun l => rfl
  | cons a r ih => exact fun l => (ih _).trans (List.length_set)
theorem wrote_succ (l : List Sec) (p : List (Int × Sec)) (k : Nat) (hk : k < p.length) : wrote l (p.take (k + 1)) = (wrote l (p.take k)).set (p.getD k (0, nought)).1.toNat (p.getD k (0, nought)).2 := by
  unfold wrote
  rw [List.take_add_one, List.foldl_append, List.getD_eq_getElem?_getD, List.getElem?_eq_getElem hk]
  rfl
structure Wf (x : Disk) : Prop where
  len : x.last.length = x.now.length
  at_ : ∀ k, k < x.pend.length → 0 ≤ (x.pend.getD k (0, nought)).1 ∧ (x.pend.getD k (0, nought)).1 < x.now.length
  few : x.pend.length ≤ 1000000
def flushed (x : Disk) : Disk := { x with last := wrote x.last x.pend, pend := [] }
theorem Flush_ok (x : Disk) (hw : Wf x) (h0 : x.down = false) (hg : goesB x = true) : LCalls Try.prog 25 (.cons (.ptr ⟨0, [], 0⟩) .nil) [diskO 1 2 3 x, secO x.now, secO x.last, penO x.pend] (fun e h' => e = .ret (.int .i64 0) ∧ h' = [diskO 1 2 3 (flushed (went x)), secO (flushed (went x)).now, secO (flushed (went x)).last, penO (flushed (went x)).pend]) := by
  have hwd : (went x).now = x.now ∧ (went x).last = x.last ∧ (went x).pend = x.pend := by
    unfold went
    split
    · exact ⟨rfl, rfl, rfl⟩
    · split <;> exact ⟨rfl, rfl, rfl⟩
  refine LCalls.tell ?_
  refine enter25 rfl ?_
  conv => whnf
  rewrite [h0]
  conv => whnf
  refine LCalls.use (Goes x) [0, 1, 2, 3] rfl rfl ⟨rfl, rfl, rfl, rfl, trivial⟩ ?_
  rintro _ _ ⟨rfl, rfl⟩
  rewrite [hg]
  generalize went x = y at *
  have wf2 : Wf y := ⟨by rw [hwd.2.1, hwd.1]; exact hw.len, by rw [hwd.2.2, hwd.1]; exact hw.at_, by rw [hwd.2.2]; exact hw.few⟩
  conv => whnf
  refine Loop.inv (lwp_mono _) (fun n t h => ∃ (k : Nat), k ≤ y.pend.length ∧ n = y.pend.length - k ∧ t = [.ptr ⟨0, [], 0⟩, .any, .any, .any, .any, .any, .any, .any, .any, .any, .any, .any, .any, .any, .any, .any, .any, psl 3 y.pend.length, .int .i64 y.pend.length, .int .i64 k, .any, .any, .any, .any, .any, .any, .any, .any, .any, .any, .any, .any, .any, .any, .any, .any] ∧ h = [diskO 1 2 3 { y with last := wrote y.last (y.pend.take k) }, secO y.now, secO (wrote y.last (y.pend.take k)), penO y.pend]) ?_ ?_
  · refine ⟨_, _, _, ⟨[], trivial, [0, 1, 2, 3], rfl, rfl, ?_, ?_⟩, 0, Nat.zero_le _, rfl, rfl, rfl⟩
    · (repeat' first | exact trivial | exact rfl | exact sh0 rfl | exact Nat.le_refl _ | exact .inl shA | exact .inr ⟨rfl, rfl, rfl, rfl, rfl⟩ | exact .inl shB | exact fun h => h | refine ⟨?_, ?_, ?_, .inl ?_⟩ | refine ⟨?_, ?_⟩ | refine fun ii hii => ?_ | omega | fail)
    · (repeat' first | exact trivial | exact rfl | exact sh0 rfl | exact Nat.le_refl _ | exact .inl shA | exact .inr ⟨rfl, rfl, rfl, rfl, rfl⟩ | exact .inl shB | exact fun h => h | refine ⟨?_, ?_, ?_, .inl ?_⟩ | refine ⟨?_, ?_⟩ | refine fun ii hii => ?_ | omega | fail)
  · rintro n _ _ ⟨k, hk, rfl, rfl, rfl⟩
    conv => whnf
    refine iteP_intro (fun hb => ?_) (fun hb => ?_)
    · rewrite [hb]
      have hb3 := of_decide_eq_true hb
      have hat := wf2.at_ k (by omega)
      have hlen := wrote_len (y.pend.take k) y.last
      have hl2 := wf2.len
      (conv => whnf); (repeat (refine And.intro (by first | omega | (dsimp only; omega)) ?_; conv => whnf))
      rewrite [show 0 + (k : Int).toNat = k by omega]
      (conv => whnf); (repeat (refine And.intro (by first | omega | (dsimp only; omega)) ?_; conv => whnf))
      have hfew := wf2.few
      rewrite [show IntKind.i64.wrap ((k : Int) + 1) = ((k + 1 : Nat) : Int) by simp [IntKind.wrap, IntKind.bits, IntKind.signed]; omega]
      refine ⟨_, _, _, ?_, ⟨[], trivial, [0, 1, 2, 3], rfl, rfl, ?_, ?_⟩, k + 1, by omega, rfl, rfl, rfl⟩
      · omega
      · (repeat' first | exact trivial | exact rfl | exact sh0 rfl | exact Nat.le_refl _ | exact .inl shA | exact .inr ⟨rfl, rfl, rfl, rfl, rfl⟩ | exact .inl shB | exact fun h => h | refine ⟨?_, ?_, ?_, .inl ?_⟩ | refine ⟨?_, ?_⟩ | refine fun ii hii => ?_ | omega | fail)
      · have e5 : (wrote y.last (y.pend.take (k + 1))).length = (wrote y.last (y.pend.take k)).length := by rw [wrote_len, wrote_len]
        (repeat' first | exact trivial | exact rfl | exact sh0 rfl | exact Nat.le_refl _ | exact .inl shA | exact .inr ⟨rfl, rfl, rfl, rfl, rfl⟩ | exact .inl shB | exact fun h => h | refine ⟨?_, ?_, ?_, .inl ?_⟩ | refine ⟨?_, ?_⟩ | refine fun ii hii => ?_ | omega | fail)
        · refine shS_ite (fun c => ?_) (fun c => ?_)
          · refine shSec (y.pend.getD k (0, nought)).2 ((wrote y.last (y.pend.take (k + 1))).getD ii nought) rfl rfl ?_
            rw [wrote_succ _ _ _ (by omega), c, Nat.zero_add, List.getD_eq_getElem?_getD (l := List.set _ _ _), List.getElem?_set_self (by omega)]
            rfl
          · refine shSec ((wrote y.last (y.pend.take k)).getD ii nought) ((wrote y.last (y.pend.take (k + 1))).getD ii nought) rfl rfl ?_
            rw [wrote_succ _ _ _ (by omega), List.getD_eq_getElem?_getD, List.getD_eq_getElem?_getD, List.getElem?_set_ne (by omega)]
    · rewrite [hb]
      have hb3 := of_decide_eq_false hb
      have hk2 : k = y.pend.length := by omega
      subst hk2
      rewrite [List.take_length]
      conv => whnf
      refine ⟨[0, 1, 2, 3], _, _, rfl, rfl, ?_, ?_, rfl, rfl⟩
      · (repeat' first | exact trivial | exact rfl | exact sh0 rfl | exact Nat.le_refl _ | exact .inl shA | exact .inr ⟨rfl, rfl, rfl, rfl, rfl⟩ | exact .inl shB | exact fun h => h | refine ⟨?_, ?_, ?_, .inl ?_⟩ | refine ⟨?_, ?_⟩ | refine fun ii hii => ?_ | omega | fail)
      · refine ⟨?_, ?_, ?_, ⟨rfl, id, rfl, .inr ⟨rfl, Nat.zero_le _, rfl, fun i hi => absurd hi (Nat.not_lt_zero _)⟩⟩, trivial⟩
        · (repeat' first | exact trivial | exact rfl | exact sh0 rfl | exact Nat.le_refl _ | exact .inl shA | exact .inr ⟨rfl, rfl, rfl, rfl, rfl⟩ | exact .inl shB | exact fun h => h | refine ⟨?_, ?_, ?_, .inl ?_⟩ | refine ⟨?_, ?_⟩ | refine fun ii hii => ?_ | omega | fail)
        · (repeat' first | exact trivial | exact rfl | exact sh0 rfl | exact Nat.le_refl _ | exact .inl shA | exact .inr ⟨rfl, rfl, rfl, rfl, rfl⟩ | exact .inl shB | exact fun h => h | refine ⟨?_, ?_, ?_, .inl ?_⟩ | refine ⟨?_, ?_⟩ | refine fun ii hii => ?_ | omega | fail)
        · (repeat' first | exact trivial | exact rfl | exact sh0 rfl | exact Nat.le_refl _ | exact .inl shA | exact .inr ⟨rfl, rfl, rfl, rfl, rfl⟩ | exact .inl shB | exact fun h => h | refine ⟨?_, ?_, ?_, .inl ?_⟩ | refine ⟨?_, ?_⟩ | refine fun ii hii => ?_ | omega | fail)
theorem Flush_down (x : Disk) (h0 : x.down = true) : LCalls Try.prog 25 (.cons (.ptr ⟨0, [], 0⟩) .nil) [diskO 1 2 3 x, secO x.now, secO x.last, penO x.pend] (fun e h' => e = .ret (.int .i64 10) ∧ h' = [diskO 1 2 3 x, secO x.now, secO x.last, penO x.pend]) := by
  obtain ⟨no, la, pe, dn, le⟩ := x
  have h0 : dn = true := h0
  subst h0
  refine LCalls.tell ?_
  refine enter25 rfl ?_
  conv => whnf
  refine ⟨[0, 1, 2, 3], _, _, rfl, rfl, ?_, ?_, rfl, rfl⟩
  · (repeat' first | exact trivial | exact rfl | exact sh0 rfl | exact Nat.le_refl _ | exact .inl shA | exact .inr ⟨rfl, rfl, rfl, rfl, rfl⟩ | exact .inl shB | exact fun h => h | refine ⟨?_, ?_, ?_, .inl ?_⟩ | refine ⟨?_, ?_⟩ | refine fun ii hii => ?_ | omega | fail)
  · (repeat' first | exact trivial | exact rfl | exact sh0 rfl | exact Nat.le_refl _ | exact .inl shA | exact .inr ⟨rfl, rfl, rfl, rfl, rfl⟩ | exact .inl shB | exact fun h => h | refine ⟨?_, ?_, ?_, .inl ?_⟩ | refine ⟨?_, ?_⟩ | refine fun ii hii => ?_ | omega | fail)
theorem Flush_no (x : Disk) (h0 : x.down = false) (hg : goesB x = false) : LCalls Try.prog 25 (.cons (.ptr ⟨0, [], 0⟩) .nil) [diskO 1 2 3 x, secO x.now, secO x.last, penO x.pend] (fun e h' => e = .ret (.int .i64 10) ∧ h' = [diskO 1 2 3 (went x), secO (went x).now, secO (went x).last, penO (went x).pend]) := by
  refine LCalls.tell ?_
  refine enter25 rfl ?_
  conv => whnf
  rewrite [h0]
  conv => whnf
  refine LCalls.use (Goes x) [0, 1, 2, 3] rfl rfl ⟨rfl, rfl, rfl, rfl, trivial⟩ ?_
  rintro _ _ ⟨rfl, rfl⟩
  rewrite [hg]
  conv => whnf
  refine ⟨[0, 1, 2, 3], _, _, rfl, rfl, ?_, ?_, rfl, rfl⟩
  · (repeat' first | exact trivial | exact rfl | exact sh0 rfl | exact Nat.le_refl _ | exact .inl shA | exact .inr ⟨rfl, rfl, rfl, rfl, rfl⟩ | exact .inl shB | exact fun h => h | refine ⟨?_, ?_, ?_, .inl ?_⟩ | refine ⟨?_, ?_⟩ | refine fun ii hii => ?_ | omega | fail)
  · (repeat' first | exact trivial | exact rfl | exact sh0 rfl | exact Nat.le_refl _ | exact .inl shA | exact .inr ⟨rfl, rfl, rfl, rfl, rfl⟩ | exact .inl shB | exact fun h => h | refine ⟨?_, ?_, ?_, .inl ?_⟩ | refine ⟨?_, ?_⟩ | refine fun ii hii => ?_ | omega | fail)
def pen (a : Int × Sec) : Segs := .one (.int .i64 a.1) (sec a.2)
theorem shPen {k : Nat} {F : Fzl} {s s' : Segs} (a b : Int × Sec) (h1 : s = pen a) (h2 : s' = pen b) (h : a = b) : shS k F s s' := by
  subst h h1 h2
  exact ⟨⟨rfl, rfl⟩, rfl, rfl, fun i hi => ⟨⟨rfl, rfl⟩, trivial⟩, trivial⟩
theorem shS_eq {k : Nat} {F : Fzl} {a s s' : Segs} (e : s' = s) (h : shS k F a s) : shS k F a s' := e ▸ h
/-- A sector out of bytes. -/
def cut (b : Nat → Int) (m : Nat) : Sec := fun i => if i < m then b i else 0
def wrS (x : Disk) (n : Nat) (b : Nat → Int) (m : Nat) : Disk := { x with now := x.now.set n (cut b m), pend := x.pend ++ [((n : Int), cut b m)] }
theorem Write_ok (x : Disk) (n : Nat) (b : Nat → Int) (m : Nat) (ty : TypeId) (mo ro : Bool) (h0 : x.down = false) (h1 : n < x.now.length) (h2 : m ≤ 64) (hg : goesB x = true) (hp : x.pend.length < 1000000) : LCalls Try.prog 26 (.cons (.ptr ⟨0, [], 0⟩) (.cons (.int .i64 n) (.cons (.slice ⟨4, [], 0⟩ 0 1 m m none) .nil))) [diskO 1 2 3 x, secO x.now, secO x.last, penO x.pend, some ⟨.rows m 1 (fun i => .one (.int .u8 (b i)) .nil) .nil, ty, mo, ro⟩] (fun e h' => e = .ret (.int .i64 0) ∧ h' = [diskO 1 2 5 (wrS (went x) n b m), secO (wrS (went x) n b m).now, secO (wrS (went x) n b m).last, none, some ⟨.rows m 1 (fun i => .one (.int .u8 (b i)) .nil) .nil, ty, mo, ro⟩, penO (wrS (went x) n b m).pend]) := by
  have hwd : (went x).now = x.now ∧ (went x).last = x.last ∧ (went x).pend = x.pend := by
    unfold went
    split
    · exact ⟨rfl, rfl, rfl⟩
    · split <;> exact ⟨rfl, rfl, rfl⟩
  refine LCalls.tell ?_
  refine enter26 rfl ?_
  conv => whnf
  rewrite [h0]
  conv => whnf
  refine LCalls.use (Has x n) [0, 1, 2, 3] rfl rfl ⟨rfl, rfl, rfl, rfl, trivial⟩ ?_
  rintro _ _ ⟨rfl, rfl⟩
  rewrite [show hasB x n = true from by simp [hasB]; exact h1]
  conv => whnf
  rewrite [show decide ((m : Int) > 64) = false from decide_eq_false (by omega)]
  conv => whnf
  refine LCalls.use (Goes x) [0, 1, 2, 3] rfl rfl ⟨rfl, rfl, rfl, rfl, trivial⟩ ?_
  rintro _ _ ⟨rfl, rfl⟩
  rewrite [hg]
  have hl1 : (went x).now.length = x.now.length := by rw [hwd.1]
  have hl2 : (went x).pend.length = x.pend.length := by rw [hwd.2.2]
  generalize went x = y at *
  (conv => whnf); (repeat (refine And.intro (by first | omega | (dsimp only; omega)) ?_; conv => whnf))
  refine ⟨[0, 1, 2, 3, 4, 13], _, _, rfl, rfl, ?_, ?_, rfl, rfl⟩
  · (repeat' first | exact trivial | exact rfl | exact sh0 rfl | exact Nat.le_refl _ | exact .inl shA | exact .inr ⟨rfl, rfl, rfl, rfl, rfl⟩ | exact .inl shB | exact fun h => h | refine ⟨?_, ?_, ?_, .inl ?_⟩ | refine ⟨?_, ?_⟩ | refine fun ii hii => ?_ | omega | fail)
  · simp only [wrS]
    (repeat' first | exact trivial | exact rfl | exact sh0 rfl | exact Nat.le_refl _ | exact .inl shA | exact .inr ⟨rfl, rfl, rfl, rfl, rfl⟩ | exact .inl shB | exact fun h => h | refine ⟨?_, ?_, ?_, .inl ?_⟩ | refine ⟨?_, ?_⟩ | refine fun ii hii => ?_ | omega | fail)
    · exact (List.length_set).symm
    · refine shS_ite (fun c => ?_) (fun c => ?_)
      · have e : (y.now.set n (cut b m)).getD ii nought = cut b m := by
          have : ii = n := by omega
          subst this
          rw [List.getD_eq_getElem?_getD, List.getElem?_set_self (by omega)]
          rfl
        refine shS_eq (e := congrArg sec e) ?_
        exact ⟨rfl, rfl, fun i hi => shS_ite (fun c => ⟨⟨rfl, by simp [cut]; omega⟩, trivial⟩) (fun c => ⟨⟨rfl, by simp [cut]; omega⟩, trivial⟩), trivial⟩
      · refine shSec (y.now.getD ii nought) ((y.now.set n (cut b m)).getD ii nought) rfl rfl ?_
        rw [List.getD_eq_getElem?_getD, List.getD_eq_getElem?_getD, List.getElem?_set_ne (by omega)]
    · simp
    · refine shS_ite (fun c => ?_) (fun c => ?_)
      · refine shPen (y.pend.getD (0 + ii) (0, nought)) ((y.pend ++ [((n : Int), cut b m)]).getD ii (0, nought)) rfl rfl ?_
        rw [Nat.zero_add, List.getD_eq_getElem?_getD, List.getD_eq_getElem?_getD, List.getElem?_append_left c]
      · have e : (y.pend ++ [((n : Int), cut b m)]).getD ii (0, nought) = ((n : Int), cut b m) := by
          have : ii = y.pend.length := by omega
          subst this
          simp
        have hz : ii - y.pend.length = 0 := by omega
        refine shS_eq (e := congrArg pen e) ?_
        rw [hz]
        exact ⟨⟨rfl, rfl⟩, rfl, rfl, fun i hi => shS_ite (fun c => ⟨⟨rfl, by simp [cut]; omega⟩, trivial⟩) (fun c => ⟨⟨rfl, by simp [cut]; omega⟩, trivial⟩), trivial⟩
end Go.Proofs.Ytilmfhpoiejmfaa.Dk
