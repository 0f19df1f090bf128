/- The disk: writes of bytes that stand still; refusals; all of it behind a token. Written by a program of this session. -/
import Derived.Test.YtilmfhpoiejmfaaDp
import Derived.Test.YtilmfhpoiejmfaaLh13
namespace Go.Proofs.Ytilmfhpoiejmfaa.Dk
open Go.Proofs.Ytilmfhpoiejmfaa.Lh
set_option maxRecDepth 100000
set_option linter.unusedSimpArgs false
set_option linter.unusedSectionVars false
set_option linter.unusedVariables false
variable [Fz]
def byteR (b : Nat → Int) : Nat → Segs := fun i => .one (.int .u8 (b i)) .nil
def bytesV (m : Nat) (b : Nat → Int) : LVal := .rsl m 1 (byteR b)
def bytesO (m : Nat) (b : Nat → Int) : Option LObj := some ⟨.rows m 1 (byteR b) .nil, 5, true, false⟩
def wrE (x : Disk) (n : Int) (m : Nat) : Int := if x.down = true then 10 else if hasB x n = false then 11 else if 64 < m then 2 else if goesB x = true then 0 else 10
def wrN (x : Disk) (n : Int) (m : Nat) : Disk := if x.down = false ∧ hasB x n = true ∧ m ≤ 64 then went x else x
def wrD (x : Disk) (n : Int) (b : Nat → Int) (m : Nat) : Disk := if wrE x n m = 0 then wrS (went x) n.toNat b m else wrN x n m
theorem wrE_ok {x : Disk} {n : Int} {m : Nat} (h : wrE x n m = 0) : x.down = false ∧ hasB x n = true ∧ m ≤ 64 ∧ goesB x = true := by
  unfold wrE at h
  split at h
  · omega
  · rename_i h1
    split at h
    · omega
    · rename_i h2
      split at h
      · omega
      · rename_i h3
        split at h
        · rename_i h4
          exact ⟨by simpa using h1, by simpa using h2, by omega, h4⟩
        · omega
theorem hasB_nat {x : Disk} {n : Int} (h : hasB x n = true) : ∃ k : Nat, n = k ∧ k < x.now.length := by
  simp only [hasB, Bool.and_eq_true, decide_eq_true_eq] at h
  exact ⟨n.toNat, by omega, by omega⟩
theorem went_same (x : Disk) : (went x).now = x.now ∧ (went x).last = x.last ∧ (went x).pend = x.pend := by
  unfold went
  split
  · exact ⟨rfl, rfl, rfl⟩
  · split <;> exact ⟨rfl, rfl, rfl⟩
theorem WriteS_no (x : Disk) (n : Int) (b : Nat → Int) (m : Nat) (h : wrE x n m ≠ 0) : LCalls Try.prog 26 (.cons (.ptr ⟨0, [], 0⟩) (.cons (.int .i64 n) (.cons (.slice ⟨4, [], 0⟩ 0 1 m m none) .nil))) [diskO 1 2 3 x, secO (x).now, secO (x).last, penO (x).pend, bytesO m b] (fun e h' => e = .ret (.int .i64 (wrE x n m)) ∧ h' = [diskO 1 2 3 (wrN x n m), secO ((wrN x n m)).now, secO ((wrN x n m)).last, penO ((wrN x n m)).pend, bytesO m b]) := by
  cases hd : x.down
  rotate_left
  · rw [show wrE x n m = 10 by simp [wrE, hd], show wrN x n m = x by simp [wrN, hd]]
    obtain ⟨no, la, pe, dn, le⟩ := x
    have hd : dn = true := hd
    subst hd
    refine LCalls.tell ?_; refine enter26 rfl ?_; conv => whnf
    refine ⟨[0, 1, 2, 3, 4], _, _, rfl, rfl, ?_, ?_, rfl, rfl⟩
    · (repeat' first | exact trivial | exact rfl | exact sh0 rfl | exact Nat.le_refl _ | exact .inl shA | exact .inr ⟨rfl, rfl, rfl, rfl, rfl⟩ | exact .inl shB | exact fun h => h | refine ⟨?_, ?_, ?_, .inl ?_⟩ | refine ⟨?_, ?_⟩ | refine fun ii hii => ?_ | omega | fail)
    · (repeat' first | exact trivial | exact rfl | exact sh0 rfl | exact Nat.le_refl _ | exact .inl shA | exact .inr ⟨rfl, rfl, rfl, rfl, rfl⟩ | exact .inl shB | exact fun h => h | refine ⟨?_, ?_, ?_, .inl ?_⟩ | refine ⟨?_, ?_⟩ | refine fun ii hii => ?_ | omega | fail)
  cases hh : hasB x n
  · rw [show wrE x n m = 11 by simp [wrE, hd, hh], show wrN x n m = x by simp [wrN, hh]]
    obtain ⟨no, la, pe, dn, le⟩ := x
    have hd : dn = false := hd
    subst hd
    refine LCalls.tell ?_; refine enter26 rfl ?_; conv => whnf
    refine LCalls.use (Has _ n) [0, 1, 2, 3] rfl rfl ⟨rfl, rfl, rfl, rfl, trivial⟩ ?_
    rintro _ _ ⟨rfl, rfl⟩
    rewrite [hh]
    conv => whnf
    refine ⟨[0, 1, 2, 3, 4], _, _, rfl, rfl, ?_, ?_, rfl, rfl⟩
    · (repeat' first | exact trivial | exact rfl | exact sh0 rfl | exact Nat.le_refl _ | exact .inl shA | exact .inr ⟨rfl, rfl, rfl, rfl, rfl⟩ | exact .inl shB | exact fun h => h | refine ⟨?_, ?_, ?_, .inl ?_⟩ | refine ⟨?_, ?_⟩ | refine fun ii hii => ?_ | omega | fail)
    · (repeat' first | exact trivial | exact rfl | exact sh0 rfl | exact Nat.le_refl _ | exact .inl shA | exact .inr ⟨rfl, rfl, rfl, rfl, rfl⟩ | exact .inl shB | exact fun h => h | refine ⟨?_, ?_, ?_, .inl ?_⟩ | refine ⟨?_, ?_⟩ | refine fun ii hii => ?_ | omega | fail)
  by_cases hm : 64 < m
  · rw [show wrE x n m = 2 by simp [wrE, hd, hh, hm], show wrN x n m = x by simp [wrN, Nat.not_le.2 hm]]
    obtain ⟨no, la, pe, dn, le⟩ := x
    have hd : dn = false := hd
    subst hd
    refine LCalls.tell ?_; refine enter26 rfl ?_; conv => whnf
    refine LCalls.use (Has _ n) [0, 1, 2, 3] rfl rfl ⟨rfl, rfl, rfl, rfl, trivial⟩ ?_
    rintro _ _ ⟨rfl, rfl⟩
    rewrite [hh]
    conv => whnf
    rewrite [show decide ((m : Int) > 64) = true from decide_eq_true (by omega)]
    conv => whnf
    refine ⟨[0, 1, 2, 3, 4], _, _, rfl, rfl, ?_, ?_, rfl, rfl⟩
    · (repeat' first | exact trivial | exact rfl | exact sh0 rfl | exact Nat.le_refl _ | exact .inl shA | exact .inr ⟨rfl, rfl, rfl, rfl, rfl⟩ | exact .inl shB | exact fun h => h | refine ⟨?_, ?_, ?_, .inl ?_⟩ | refine ⟨?_, ?_⟩ | refine fun ii hii => ?_ | omega | fail)
    · (repeat' first | exact trivial | exact rfl | exact sh0 rfl | exact Nat.le_refl _ | exact .inl shA | exact .inr ⟨rfl, rfl, rfl, rfl, rfl⟩ | exact .inl shB | exact fun h => h | refine ⟨?_, ?_, ?_, .inl ?_⟩ | refine ⟨?_, ?_⟩ | refine fun ii hii => ?_ | omega | fail)
  cases hg : goesB x
  · rw [show wrE x n m = 10 by simp [wrE, hd, hh, hm, hg], show wrN x n m = went x by simp [wrN, hd, hh, Nat.not_lt.1 hm]]
    have hwd := went_same x
    refine LCalls.tell ?_; refine enter26 rfl ?_; conv => whnf
    rewrite [hd]
    conv => whnf
    refine LCalls.use (Has x n) [0, 1, 2, 3] rfl rfl ⟨rfl, rfl, rfl, rfl, trivial⟩ ?_
    rintro _ _ ⟨rfl, rfl⟩
    rewrite [hh]
    conv => whnf
    rewrite [show decide ((m : Int) > 64) = false from decide_eq_false (by omega)]
    conv => whnf
    refine LCalls.use (Goes x) [0, 1, 2, 3] rfl rfl ⟨rfl, rfl, rfl, rfl, trivial⟩ ?_
    rintro _ _ ⟨rfl, rfl⟩
    rewrite [hg]
    conv => whnf
    refine ⟨[0, 1, 2, 3, 4], _, _, rfl, rfl, ?_, ?_, rfl, rfl⟩
    · (repeat' first | exact trivial | exact rfl | exact sh0 rfl | exact Nat.le_refl _ | exact .inl shA | exact .inr ⟨rfl, rfl, rfl, rfl, rfl⟩ | exact .inl shB | exact fun h => h | refine ⟨?_, ?_, ?_, .inl ?_⟩ | refine ⟨?_, ?_⟩ | refine fun ii hii => ?_ | omega | fail)
    · (repeat' first | exact trivial | exact rfl | exact sh0 rfl | exact Nat.le_refl _ | exact .inl shA | exact .inr ⟨rfl, rfl, rfl, rfl, rfl⟩ | exact .inl shB | exact fun h => h | refine ⟨?_, ?_, ?_, .inl ?_⟩ | refine ⟨?_, ?_⟩ | refine fun ii hii => ?_ | omega | fail)
  · exact absurd (by simp [wrE, hd, hh, hm, hg]) h
theorem WriteR_no (x : Disk) (n : Int) (b : Nat → Int) (m : Nat) (h : wrE x n m ≠ 0) : LCalls Try.prog 26 (.cons (.ptr ⟨0, [], 0⟩) (.cons (.int .i64 n) (.cons (bytesV m b) .nil))) [diskO 1 2 3 x, secO (x).now, secO (x).last, penO (x).pend] (fun e h' => e = .ret (.int .i64 (wrE x n m)) ∧ h' = [diskO 1 2 3 (wrN x n m), secO ((wrN x n m)).now, secO ((wrN x n m)).last, penO ((wrN x n m)).pend]) := by
  cases hd : x.down
  rotate_left
  · rw [show wrE x n m = 10 by simp [wrE, hd], show wrN x n m = x by simp [wrN, hd]]
    obtain ⟨no, la, pe, dn, le⟩ := x
    have hd : dn = true := hd
    subst hd
    refine LCalls.tell ?_; refine enter26 rfl ?_; conv => whnf
    refine ⟨[0, 1, 2, 3], _, _, rfl, rfl, ?_, ?_, rfl, rfl⟩
    · (repeat' first | exact trivial | exact rfl | exact sh0 rfl | exact Nat.le_refl _ | exact .inl shA | exact .inr ⟨rfl, rfl, rfl, rfl, rfl⟩ | exact .inl shB | exact fun h => h | refine ⟨?_, ?_, ?_, .inl ?_⟩ | refine ⟨?_, ?_⟩ | refine fun ii hii => ?_ | omega | fail)
    · (repeat' first | exact trivial | exact rfl | exact sh0 rfl | exact Nat.le_refl _ | exact .inl shA | exact .inr ⟨rfl, rfl, rfl, rfl, rfl⟩ | exact .inl shB | exact fun h => h | refine ⟨?_, ?_, ?_, .inl ?_⟩ | refine ⟨?_, ?_⟩ | refine fun ii hii => ?_ | omega | fail)
  cases hh : hasB x n
  · rw [show wrE x n m = 11 by simp [wrE, hd, hh], show wrN x n m = x by simp [wrN, hh]]
    obtain ⟨no, la, pe, dn, le⟩ := x
    have hd : dn = false := hd
    subst hd
    refine LCalls.tell ?_; refine enter26 rfl ?_; conv => whnf
    refine LCalls.use (Has _ n) [0, 1, 2, 3] rfl rfl ⟨rfl, rfl, rfl, rfl, trivial⟩ ?_
    rintro _ _ ⟨rfl, rfl⟩
    rewrite [hh]
    conv => whnf
    refine ⟨[0, 1, 2, 3], _, _, rfl, rfl, ?_, ?_, rfl, rfl⟩
    · (repeat' first | exact trivial | exact rfl | exact sh0 rfl | exact Nat.le_refl _ | exact .inl shA | exact .inr ⟨rfl, rfl, rfl, rfl, rfl⟩ | exact .inl shB | exact fun h => h | refine ⟨?_, ?_, ?_, .inl ?_⟩ | refine ⟨?_, ?_⟩ | refine fun ii hii => ?_ | omega | fail)
    · (repeat' first | exact trivial | exact rfl | exact sh0 rfl | exact Nat.le_refl _ | exact .inl shA | exact .inr ⟨rfl, rfl, rfl, rfl, rfl⟩ | exact .inl shB | exact fun h => h | refine ⟨?_, ?_, ?_, .inl ?_⟩ | refine ⟨?_, ?_⟩ | refine fun ii hii => ?_ | omega | fail)
  by_cases hm : 64 < m
  · rw [show wrE x n m = 2 by simp [wrE, hd, hh, hm], show wrN x n m = x by simp [wrN, Nat.not_le.2 hm]]
    obtain ⟨no, la, pe, dn, le⟩ := x
    have hd : dn = false := hd
    subst hd
    refine LCalls.tell ?_; refine enter26 rfl ?_; conv => whnf
    refine LCalls.use (Has _ n) [0, 1, 2, 3] rfl rfl ⟨rfl, rfl, rfl, rfl, trivial⟩ ?_
    rintro _ _ ⟨rfl, rfl⟩
    rewrite [hh]
    conv => whnf
    rewrite [show decide ((m : Int) > 64) = true from decide_eq_true (by omega)]
    conv => whnf
    refine ⟨[0, 1, 2, 3], _, _, rfl, rfl, ?_, ?_, rfl, rfl⟩
    · (repeat' first | exact trivial | exact rfl | exact sh0 rfl | exact Nat.le_refl _ | exact .inl shA | exact .inr ⟨rfl, rfl, rfl, rfl, rfl⟩ | exact .inl shB | exact fun h => h | refine ⟨?_, ?_, ?_, .inl ?_⟩ | refine ⟨?_, ?_⟩ | refine fun ii hii => ?_ | omega | fail)
    · (repeat' first | exact trivial | exact rfl | exact sh0 rfl | exact Nat.le_refl _ | exact .inl shA | exact .inr ⟨rfl, rfl, rfl, rfl, rfl⟩ | exact .inl shB | exact fun h => h | refine ⟨?_, ?_, ?_, .inl ?_⟩ | refine ⟨?_, ?_⟩ | refine fun ii hii => ?_ | omega | fail)
  cases hg : goesB x
  · rw [show wrE x n m = 10 by simp [wrE, hd, hh, hm, hg], show wrN x n m = went x by simp [wrN, hd, hh, Nat.not_lt.1 hm]]
    have hwd := went_same x
    refine LCalls.tell ?_; refine enter26 rfl ?_; conv => whnf
    rewrite [hd]
    conv => whnf
    refine LCalls.use (Has x n) [0, 1, 2, 3] rfl rfl ⟨rfl, rfl, rfl, rfl, trivial⟩ ?_
    rintro _ _ ⟨rfl, rfl⟩
    rewrite [hh]
    conv => whnf
    rewrite [show decide ((m : Int) > 64) = false from decide_eq_false (by omega)]
    conv => whnf
    refine LCalls.use (Goes x) [0, 1, 2, 3] rfl rfl ⟨rfl, rfl, rfl, rfl, trivial⟩ ?_
    rintro _ _ ⟨rfl, rfl⟩
    rewrite [hg]
    conv => whnf
    refine ⟨[0, 1, 2, 3], _, _, rfl, rfl, ?_, ?_, rfl, rfl⟩
    · (repeat' first | exact trivial | exact rfl | exact sh0 rfl | exact Nat.le_refl _ | exact .inl shA | exact .inr ⟨rfl, rfl, rfl, rfl, rfl⟩ | exact .inl shB | exact fun h => h | refine ⟨?_, ?_, ?_, .inl ?_⟩ | refine ⟨?_, ?_⟩ | refine fun ii hii => ?_ | omega | fail)
    · (repeat' first | exact trivial | exact rfl | exact sh0 rfl | exact Nat.le_refl _ | exact .inl shA | exact .inr ⟨rfl, rfl, rfl, rfl, rfl⟩ | exact .inl shB | exact fun h => h | refine ⟨?_, ?_, ?_, .inl ?_⟩ | refine ⟨?_, ?_⟩ | refine fun ii hii => ?_ | omega | fail)
  · exact absurd (by simp [wrE, hd, hh, hm, hg]) h
theorem WriteR_ok (x : Disk) (n : Nat) (b : Nat → Int) (m : Nat) (h0 : x.down = false) (h1 : n < x.now.length) (h2 : m ≤ 64) (hg : goesB x = true) (hp : x.pend.length < 1000000) : LCalls Try.prog 26 (.cons (.ptr ⟨0, [], 0⟩) (.cons (.int .i64 n) (.cons (bytesV m b) .nil))) [diskO 1 2 3 x, secO x.now, secO x.last, penO x.pend] (fun e h' => e = .ret (.int .i64 0) ∧ h' = [diskO 1 2 4 (wrS (went x) n b m), secO (wrS (went x) n b m).now, secO (wrS (went x) n b m).last, none, penO (wrS (went x) n b m).pend]) := by
  have hwd : (went x).now = x.now ∧ (went x).last = x.last ∧ (went x).pend = x.pend := by
    unfold went
    split
    · exact ⟨rfl, rfl, rfl⟩
    · split <;> exact ⟨rfl, rfl, rfl⟩
  refine LCalls.tell ?_
  refine enter26 rfl ?_
  conv => whnf
  rewrite [h0]
  conv => whnf
  refine LCalls.use (Has x n) [0, 1, 2, 3] rfl rfl ⟨rfl, rfl, rfl, rfl, trivial⟩ ?_
  rintro _ _ ⟨rfl, rfl⟩
  rewrite [show hasB x n = true from by simp [hasB]; exact h1]
  conv => whnf
  rewrite [show decide ((m : Int) > 64) = false from decide_eq_false (by omega)]
  conv => whnf
  refine LCalls.use (Goes x) [0, 1, 2, 3] rfl rfl ⟨rfl, rfl, rfl, rfl, trivial⟩ ?_
  rintro _ _ ⟨rfl, rfl⟩
  rewrite [hg]
  have hl1 : (went x).now.length = x.now.length := by rw [hwd.1]
  have hl2 : (went x).pend.length = x.pend.length := by rw [hwd.2.2]
  generalize went x = y at *
  (conv => whnf); (repeat (refine And.intro (by first | omega | (dsimp only; omega)) ?_; conv => whnf))
  refine ⟨[0, 1, 2, 3, 12], _, _, rfl, rfl, ?_, ?_, rfl, rfl⟩
  · (repeat' first | exact trivial | exact rfl | exact sh0 rfl | exact Nat.le_refl _ | exact .inl shA | exact .inr ⟨rfl, rfl, rfl, rfl, rfl⟩ | exact .inl shB | exact fun h => h | refine ⟨?_, ?_, ?_, .inl ?_⟩ | refine ⟨?_, ?_⟩ | refine fun ii hii => ?_ | omega | fail)
  · simp only [wrS]
    (repeat' first | exact trivial | exact rfl | exact sh0 rfl | exact Nat.le_refl _ | exact .inl shA | exact .inr ⟨rfl, rfl, rfl, rfl, rfl⟩ | exact .inl shB | exact fun h => h | refine ⟨?_, ?_, ?_, .inl ?_⟩ | refine ⟨?_, ?_⟩ | refine fun ii hii => ?_ | omega | fail)
    · exact (List.length_set).symm
    · refine shS_ite (fun c => ?_) (fun c => ?_)
      · have e : (y.now.set n (cut b m)).getD ii nought = cut b m := by
          have : ii = n := by omega
          subst this
          rw [List.getD_eq_getElem?_getD, List.getElem?_set_self (by omega)]
          rfl
        refine shS_eq (e := congrArg sec e) ?_
        exact ⟨rfl, rfl, fun i hi => shS_ite (fun c => ⟨⟨rfl, by simp [cut]; omega⟩, trivial⟩) (fun c => ⟨⟨rfl, by simp [cut]; omega⟩, trivial⟩), trivial⟩
      · refine shSec (y.now.getD ii nought) ((y.now.set n (cut b m)).getD ii nought) rfl rfl ?_
        rw [List.getD_eq_getElem?_getD, List.getD_eq_getElem?_getD, List.getElem?_set_ne (by omega)]
    · simp
    · refine shS_ite (fun c => ?_) (fun c => ?_)
      · refine shPen (y.pend.getD (0 + ii) (0, nought)) ((y.pend ++ [((n : Int), cut b m)]).getD ii (0, nought)) rfl rfl ?_
        rw [Nat.zero_add, List.getD_eq_getElem?_getD, List.getD_eq_getElem?_getD, List.getElem?_append_left c]
      · have e : (y.pend ++ [((n : Int), cut b m)]).getD ii (0, nought) = ((n : Int), cut b m) := by
          have : ii = y.pend.length := by omega
          subst this
          simp
        have hz : ii - y.pend.length = 0 := by omega
        refine shS_eq (e := congrArg pen e) ?_
        rw [hz]
        exact ⟨⟨rfl, rfl⟩, rfl, rfl, fun i hi => shS_ite (fun c => ⟨⟨rfl, by simp [cut]; omega⟩, trivial⟩) (fun c => ⟨⟨rfl, by simp [cut]; omega⟩, trivial⟩), trivial⟩
/-! Behind a token. -/
def diskR (τ : Nat) (x : Disk) : Option LObj := packO τ (diskH x)
theorem up' (τ : Nat) (x : Disk) : LCalls Try.prog 28 (.cons (.tok τ) .nil) [diskR τ x] (fun e h' => e = .ret (.bool (!x.down)) ∧ h' = [diskR τ x]) := by
  refine LCalls.packed (ext := []) (Up x) (fun _ => rfl) ⟨.inl ⟨rfl, rfl⟩, trivial⟩ ?_
  rintro _ _ ⟨rfl, rfl⟩
  refine ⟨[0, 1, 2, 3], diskH x, rfl, rfl, ⟨rfl, rfl, rfl, rfl, trivial⟩, ⟨trivial, trivial, trivial, trivial, trivial⟩, [], _, _, rfl, rfl, ?_, ?_, rfl, rfl⟩
  · (repeat' first | exact trivial | exact rfl | exact sh0 rfl | exact Nat.le_refl _ | exact .inl shA | exact .inr ⟨rfl, rfl, rfl, rfl, rfl⟩ | exact .inl shB | exact fun h => h | refine ⟨?_, ?_, ?_, .inl ?_⟩ | refine ⟨?_, ?_⟩ | refine fun ii hii => ?_ | omega | fail)
  · (repeat' first | exact trivial | exact rfl | exact sh0 rfl | exact Nat.le_refl _ | exact .inl shA | exact .inr ⟨rfl, rfl, rfl, rfl, rfl⟩ | exact .inl shB | exact fun h => h | refine ⟨?_, ?_, ?_, .inl ?_⟩ | refine ⟨?_, ?_⟩ | refine fun ii hii => ?_ | omega | fail)
theorem pending' (τ : Nat) (x : Disk) : LCalls Try.prog 32 (.cons (.tok τ) .nil) [diskR τ x] (fun e h' => e = .ret (.int .i64 x.pend.length) ∧ h' = [diskR τ x]) := by
  refine LCalls.packed (ext := []) (Pending x) (fun _ => rfl) ⟨.inl ⟨rfl, rfl⟩, trivial⟩ ?_
  rintro _ _ ⟨rfl, rfl⟩
  refine ⟨[0, 1, 2, 3], diskH x, rfl, rfl, ⟨rfl, rfl, rfl, rfl, trivial⟩, ⟨trivial, trivial, trivial, trivial, trivial⟩, [], _, _, rfl, rfl, ?_, ?_, rfl, rfl⟩
  · (repeat' first | exact trivial | exact rfl | exact sh0 rfl | exact Nat.le_refl _ | exact .inl shA | exact .inr ⟨rfl, rfl, rfl, rfl, rfl⟩ | exact .inl shB | exact fun h => h | refine ⟨?_, ?_, ?_, .inl ?_⟩ | refine ⟨?_, ?_⟩ | refine fun ii hii => ?_ | omega | fail)
  · (repeat' first | exact trivial | exact rfl | exact sh0 rfl | exact Nat.le_refl _ | exact .inl shA | exact .inr ⟨rfl, rfl, rfl, rfl, rfl⟩ | exact .inl shB | exact fun h => h | refine ⟨?_, ?_, ?_, .inl ?_⟩ | refine ⟨?_, ?_⟩ | refine fun ii hii => ?_ | omega | fail)
theorem sectors' (τ : Nat) (x : Disk) : LCalls Try.prog 72 (.cons (.tok τ) .nil) [diskR τ x] (fun e h' => e = .ret (.int .i64 x.now.length) ∧ h' = [diskR τ x]) := by
  refine LCalls.packed (ext := []) (Sectors x) (fun _ => rfl) ⟨.inl ⟨rfl, rfl⟩, trivial⟩ ?_
  rintro _ _ ⟨rfl, rfl⟩
  refine ⟨[0, 1, 2, 3], diskH x, rfl, rfl, ⟨rfl, rfl, rfl, rfl, trivial⟩, ⟨trivial, trivial, trivial, trivial, trivial⟩, [], _, _, rfl, rfl, ?_, ?_, rfl, rfl⟩
  · (repeat' first | exact trivial | exact rfl | exact sh0 rfl | exact Nat.le_refl _ | exact .inl shA | exact .inr ⟨rfl, rfl, rfl, rfl, rfl⟩ | exact .inl shB | exact fun h => h | refine ⟨?_, ?_, ?_, .inl ?_⟩ | refine ⟨?_, ?_⟩ | refine fun ii hii => ?_ | omega | fail)
  · (repeat' first | exact trivial | exact rfl | exact sh0 rfl | exact Nat.le_refl _ | exact .inl shA | exact .inr ⟨rfl, rfl, rfl, rfl, rfl⟩ | exact .inl shB | exact fun h => h | refine ⟨?_, ?_, ?_, .inl ?_⟩ | refine ⟨?_, ?_⟩ | refine fun ii hii => ?_ | omega | fail)
theorem arm' (τ : Nat) (x : Disk) (n : Int) : LCalls Try.prog 23 (.cons (.tok τ) (.cons (.int .i64 n) .nil)) [diskR τ x] (fun e h' => e = .ret (.int .i64 (armE x n)) ∧ h' = [diskR τ (armed x n)]) := by
  refine LCalls.packed (ext := []) (Arm x n) (fun _ => rfl) ⟨.inl ⟨rfl, rfl⟩, .inr rfl, trivial⟩ ?_
  rintro _ _ ⟨rfl, rfl⟩
  refine ⟨[0, 1, 2, 3], diskH (armed x n), rfl, rfl, ⟨rfl, rfl, rfl, rfl, trivial⟩, ⟨trivial, trivial, trivial, trivial, trivial⟩, [], _, _, rfl, rfl, ?_, ?_, rfl, rfl⟩
  · (repeat' first | exact trivial | exact rfl | exact sh0 rfl | exact Nat.le_refl _ | exact .inl shA | exact .inr ⟨rfl, rfl, rfl, rfl, rfl⟩ | exact .inl shB | exact fun h => h | refine ⟨?_, ?_, ?_, .inl ?_⟩ | refine ⟨?_, ?_⟩ | refine fun ii hii => ?_ | omega | fail)
  · (repeat' first | exact trivial | exact rfl | exact sh0 rfl | exact Nat.le_refl _ | exact .inl shA | exact .inr ⟨rfl, rfl, rfl, rfl, rfl⟩ | exact .inl shB | exact fun h => h | refine ⟨?_, ?_, ?_, .inl ?_⟩ | refine ⟨?_, ?_⟩ | refine fun ii hii => ?_ | omega | fail)
theorem crash' (τ : Nat) (x : Disk) (hw : Wf x) (m : Nat) (b : Nat → Bool) : LCalls Try.prog 27 (.cons (.tok τ) (.cons (boolS m b) .nil)) [diskR τ x] (fun e h' => e = .ret (.int .i64 (picked (keepQ m b) x.pend).length) ∧ h' = [diskR τ (crashed x (keepQ m b))]) := by
  refine LCalls.packed (ext := []) (Crash_ok x hw m b) (fun _ => rfl) ⟨.inl ⟨rfl, rfl⟩, .inr rfl, trivial⟩ ?_
  rintro _ _ ⟨rfl, rfl⟩
  refine ⟨[0, 1, 2, 3], diskH (crashed x (keepQ m b)), rfl, rfl, ⟨rfl, rfl, rfl, rfl, trivial⟩, ⟨trivial, trivial, trivial, trivial, trivial⟩, [], _, _, rfl, rfl, ?_, ?_, rfl, rfl⟩
  · (repeat' first | exact trivial | exact rfl | exact sh0 rfl | exact Nat.le_refl _ | exact .inl shA | exact .inr ⟨rfl, rfl, rfl, rfl, rfl⟩ | exact .inl shB | exact fun h => h | refine ⟨?_, ?_, ?_, .inl ?_⟩ | refine ⟨?_, ?_⟩ | refine fun ii hii => ?_ | omega | fail)
  · (repeat' first | exact trivial | exact rfl | exact sh0 rfl | exact Nat.le_refl _ | exact .inl shA | exact .inr ⟨rfl, rfl, rfl, rfl, rfl⟩ | exact .inl shB | exact fun h => h | refine ⟨?_, ?_, ?_, .inl ?_⟩ | refine ⟨?_, ?_⟩ | refine fun ii hii => ?_ | omega | fail)
def flE (x : Disk) : Int := if x.down = true then 10 else if goesB x = true then 0 else 10
def flD (x : Disk) : Disk := if x.down = true then x else if goesB x = true then flushed (went x) else went x
theorem flush' (τ : Nat) (x : Disk) (hw : Wf x) : LCalls Try.prog 25 (.cons (.tok τ) .nil) [diskR τ x] (fun e h' => e = .ret (.int .i64 (flE x)) ∧ h' = [diskR τ (flD x)]) := by
  cases hd : x.down
  · cases hg : goesB x
    · rw [show flE x = 10 by simp [flE, hd, hg], show flD x = went x by simp [flD, hd, hg]]
      refine LCalls.packed (ext := []) (Flush_no x hd hg) (fun _ => rfl) ⟨.inl ⟨rfl, rfl⟩, trivial⟩ ?_
      rintro _ _ ⟨rfl, rfl⟩
      refine ⟨[0, 1, 2, 3], diskH (went x), rfl, rfl, ⟨rfl, rfl, rfl, rfl, trivial⟩, ⟨trivial, trivial, trivial, trivial, trivial⟩, [], _, _, rfl, rfl, ?_, ?_, rfl, rfl⟩
      · (repeat' first | exact trivial | exact rfl | exact sh0 rfl | exact Nat.le_refl _ | exact .inl shA | exact .inr ⟨rfl, rfl, rfl, rfl, rfl⟩ | exact .inl shB | exact fun h => h | refine ⟨?_, ?_, ?_, .inl ?_⟩ | refine ⟨?_, ?_⟩ | refine fun ii hii => ?_ | omega | fail)
      · (repeat' first | exact trivial | exact rfl | exact sh0 rfl | exact Nat.le_refl _ | exact .inl shA | exact .inr ⟨rfl, rfl, rfl, rfl, rfl⟩ | exact .inl shB | exact fun h => h | refine ⟨?_, ?_, ?_, .inl ?_⟩ | refine ⟨?_, ?_⟩ | refine fun ii hii => ?_ | omega | fail)
    · rw [show flE x = 0 by simp [flE, hd, hg], show flD x = flushed (went x) by simp [flD, hd, hg]]
      refine LCalls.packed (ext := []) (Flush_ok x hw hd hg) (fun _ => rfl) ⟨.inl ⟨rfl, rfl⟩, trivial⟩ ?_
      rintro _ _ ⟨rfl, rfl⟩
      refine ⟨[0, 1, 2, 3], diskH (flushed (went x)), rfl, rfl, ⟨rfl, rfl, rfl, rfl, trivial⟩, ⟨trivial, trivial, trivial, trivial, trivial⟩, [], _, _, rfl, rfl, ?_, ?_, rfl, rfl⟩
      · (repeat' first | exact trivial | exact rfl | exact sh0 rfl | exact Nat.le_refl _ | exact .inl shA | exact .inr ⟨rfl, rfl, rfl, rfl, rfl⟩ | exact .inl shB | exact fun h => h | refine ⟨?_, ?_, ?_, .inl ?_⟩ | refine ⟨?_, ?_⟩ | refine fun ii hii => ?_ | omega | fail)
      · (repeat' first | exact trivial | exact rfl | exact sh0 rfl | exact Nat.le_refl _ | exact .inl shA | exact .inr ⟨rfl, rfl, rfl, rfl, rfl⟩ | exact .inl shB | exact fun h => h | refine ⟨?_, ?_, ?_, .inl ?_⟩ | refine ⟨?_, ?_⟩ | refine fun ii hii => ?_ | omega | fail)
  · rw [show flE x = 10 by simp [flE, hd], show flD x = x by simp [flD, hd]]
    refine LCalls.packed (ext := []) (Flush_down x hd) (fun _ => rfl) ⟨.inl ⟨rfl, rfl⟩, trivial⟩ ?_
    rintro _ _ ⟨rfl, rfl⟩
    refine ⟨[0, 1, 2, 3], diskH x, rfl, rfl, ⟨rfl, rfl, rfl, rfl, trivial⟩, ⟨trivial, trivial, trivial, trivial, trivial⟩, [], _, _, rfl, rfl, ?_, ?_, rfl, rfl⟩
    · (repeat' first | exact trivial | exact rfl | exact sh0 rfl | exact Nat.le_refl _ | exact .inl shA | exact .inr ⟨rfl, rfl, rfl, rfl, rfl⟩ | exact .inl shB | exact fun h => h | refine ⟨?_, ?_, ?_, .inl ?_⟩ | refine ⟨?_, ?_⟩ | refine fun ii hii => ?_ | omega | fail)
    · (repeat' first | exact trivial | exact rfl | exact sh0 rfl | exact Nat.le_refl _ | exact .inl shA | exact .inr ⟨rfl, rfl, rfl, rfl, rfl⟩ | exact .inl shB | exact fun h => h | refine ⟨?_, ?_, ?_, .inl ?_⟩ | refine ⟨?_, ?_⟩ | refine fun ii hii => ?_ | omega | fail)
theorem writeR' (τ : Nat) (x : Disk) (n : Int) (b : Nat → Int) (m : Nat) (hp : x.pend.length < 1000000) : LCalls Try.prog 26 (.cons (.tok τ) (.cons (.int .i64 n) (.cons (bytesV m b) .nil))) [diskR τ x] (fun e h' => e = .ret (.int .i64 (wrE x n m)) ∧ h' = [diskR τ (wrD x n b m)]) := by
  by_cases h : wrE x n m = 0
  · obtain ⟨h1, h2, h3, h4⟩ := wrE_ok h
    obtain ⟨k, rfl, h5⟩ := hasB_nat h2
    rw [show wrD x k b m = wrS (went x) k b m by unfold wrD; rw [if_pos h, Int.toNat_natCast], h]
    refine LCalls.packed (ext := []) (WriteR_ok x k b m h1 h5 h3 h4 hp) (fun _ => rfl) ⟨.inl ⟨rfl, rfl⟩, .inr rfl, .inr rfl, trivial⟩ ?_
    rintro _ _ ⟨rfl, rfl⟩
    refine ⟨[0, 1, 2, 4], diskH (wrS (went x) k b m), rfl, rfl, ⟨rfl, rfl, rfl, rfl, trivial⟩, ⟨trivial, trivial, trivial, trivial, trivial⟩, [], _, _, rfl, rfl, ?_, ?_, rfl, rfl⟩
    · (repeat' first | exact trivial | exact rfl | exact sh0 rfl | exact Nat.le_refl _ | exact .inl shA | exact .inr ⟨rfl, rfl, rfl, rfl, rfl⟩ | exact .inl shB | exact fun h => h | refine ⟨?_, ?_, ?_, .inl ?_⟩ | refine ⟨?_, ?_⟩ | refine fun ii hii => ?_ | omega | fail)
    · (repeat' first | exact trivial | exact rfl | exact sh0 rfl | exact Nat.le_refl _ | exact .inl shA | exact .inr ⟨rfl, rfl, rfl, rfl, rfl⟩ | exact .inl shB | exact fun h => h | refine ⟨?_, ?_, ?_, .inl ?_⟩ | refine ⟨?_, ?_⟩ | refine fun ii hii => ?_ | omega | fail)
  · rw [show wrD x n b m = wrN x n m by unfold wrD; rw [if_neg h]]
    refine LCalls.packed (ext := []) (WriteR_no x n b m h) (fun _ => rfl) ⟨.inl ⟨rfl, rfl⟩, .inr rfl, .inr rfl, trivial⟩ ?_
    rintro _ _ ⟨rfl, rfl⟩
    refine ⟨[0, 1, 2, 3], diskH (wrN x n m), rfl, rfl, ⟨rfl, rfl, rfl, rfl, trivial⟩, ⟨trivial, trivial, trivial, trivial, trivial⟩, [], _, _, rfl, rfl, ?_, ?_, rfl, rfl⟩
    · (repeat' first | exact trivial | exact rfl | exact sh0 rfl | exact Nat.le_refl _ | exact .inl shA | exact .inr ⟨rfl, rfl, rfl, rfl, rfl⟩ | exact .inl shB | exact fun h => h | refine ⟨?_, ?_, ?_, .inl ?_⟩ | refine ⟨?_, ?_⟩ | refine fun ii hii => ?_ | omega | fail)
    · (repeat' first | exact trivial | exact rfl | exact sh0 rfl | exact Nat.le_refl _ | exact .inl shA | exact .inr ⟨rfl, rfl, rfl, rfl, rfl⟩ | exact .inl shB | exact fun h => h | refine ⟨?_, ?_, ?_, .inl ?_⟩ | refine ⟨?_, ?_⟩ | refine fun ii hii => ?_ | omega | fail)
theorem writeS' (τ : Nat) (x : Disk) (n : Int) (b : Nat → Int) (m : Nat) (hp : x.pend.length < 1000000) : LCalls Try.prog 26 (.cons (.tok τ) (.cons (.int .i64 n) (.cons (.slice ⟨1, [], 0⟩ 0 1 m m none) .nil))) [diskR τ x, bytesO m b] (fun e h' => e = .ret (.int .i64 (wrE x n m)) ∧ h' = [diskR τ (wrD x n b m), bytesO m b]) := by
  by_cases h : wrE x n m = 0
  · obtain ⟨h1, h2, h3, h4⟩ := wrE_ok h
    obtain ⟨k, rfl, h5⟩ := hasB_nat h2
    rw [show wrD x k b m = wrS (went x) k b m by unfold wrD; rw [if_pos h, Int.toNat_natCast], h]
    refine LCalls.packed (h := diskH x) (ext := [bytesO m b]) (Write_ok x k b m _ _ _ h1 h5 h3 h4 hp) (fun _ => rfl) ⟨.inl ⟨rfl, rfl⟩, .inr rfl, .inr rfl, trivial⟩ ?_
    rintro _ _ ⟨rfl, rfl⟩
    refine ⟨[0, 1, 2, 5], diskH (wrS (went x) k b m), rfl, rfl, ⟨rfl, rfl, rfl, rfl, trivial⟩, ⟨trivial, trivial, trivial, trivial, trivial⟩, [4], _, _, rfl, rfl, ?_, ?_, rfl, rfl⟩
    · (repeat' first | exact trivial | exact rfl | exact sh0 rfl | exact Nat.le_refl _ | exact .inl shA | exact .inr ⟨rfl, rfl, rfl, rfl, rfl⟩ | exact .inl shB | exact fun h => h | refine ⟨?_, ?_, ?_, .inl ?_⟩ | refine ⟨?_, ?_⟩ | refine fun ii hii => ?_ | omega | fail)
    · (repeat' first | exact trivial | exact rfl | exact sh0 rfl | exact Nat.le_refl _ | exact .inl shA | exact .inr ⟨rfl, rfl, rfl, rfl, rfl⟩ | exact .inl shB | exact fun h => h | refine ⟨?_, ?_, ?_, .inl ?_⟩ | refine ⟨?_, ?_⟩ | refine fun ii hii => ?_ | omega | fail)
  · rw [show wrD x n b m = wrN x n m by unfold wrD; rw [if_neg h]]
    refine LCalls.packed (h := diskH x) (ext := [bytesO m b]) (WriteS_no x n b m h) (fun _ => rfl) ⟨.inl ⟨rfl, rfl⟩, .inr rfl, .inr rfl, trivial⟩ ?_
    rintro _ _ ⟨rfl, rfl⟩
    refine ⟨[0, 1, 2, 3], diskH (wrN x n m), rfl, rfl, ⟨rfl, rfl, rfl, rfl, trivial⟩, ⟨trivial, trivial, trivial, trivial, trivial⟩, [4], _, _, rfl, rfl, ?_, ?_, rfl, rfl⟩
    · (repeat' first | exact trivial | exact rfl | exact sh0 rfl | exact Nat.le_refl _ | exact .inl shA | exact .inr ⟨rfl, rfl, rfl, rfl, rfl⟩ | exact .inl shB | exact fun h => h | refine ⟨?_, ?_, ?_, .inl ?_⟩ | refine ⟨?_, ?_⟩ | refine fun ii hii => ?_ | omega | fail)
    · (repeat' first | exact trivial | exact rfl | exact sh0 rfl | exact Nat.le_refl _ | exact .inl shA | exact .inr ⟨rfl, rfl, rfl, rfl, rfl⟩ | exact .inl shB | exact fun h => h | refine ⟨?_, ?_, ?_, .inl ?_⟩ | refine ⟨?_, ?_⟩ | refine fun ii hii => ?_ | omega | fail)
/-- A sector that was told; or none. -/
def secV (c : Int) (s : Sec) : LVal := bytesV (if c = 0 then 64 else 0) s
def rdE (x : Disk) (n : Int) : Int := if x.down = true then 10 else if hasB x n = true then 0 else 11
def laE (x : Disk) (n : Int) : Int := if hasB x n = true then 0 else 11
theorem read' (τ : Nat) (x : Disk) (n : Int) : LCalls Try.prog 24 (.cons (.tok τ) (.cons (.int .i64 n) .nil)) [diskR τ x] (fun e h' => e = .ret (.tup (.cons (secV (rdE x n) (x.now.getD n.toNat nought)) (.cons (.int .i64 (rdE x n)) .nil))) ∧ h' = [diskR τ x]) := by
  cases hd : x.down
  · cases hh : hasB x n
    · rw [show rdE x n = 11 by simp [rdE, hd, hh]]
      refine LCalls.packed (ext := []) (Read_no x n hd hh) (fun _ => rfl) ⟨.inl ⟨rfl, rfl⟩, .inr rfl, trivial⟩ ?_
      rintro _ _ ⟨rfl, rfl⟩
      refine ⟨[0, 1, 2, 3], diskH x, rfl, rfl, ⟨rfl, rfl, rfl, rfl, trivial⟩, ⟨trivial, trivial, trivial, trivial, trivial⟩, [], _, _, rfl, rfl, ?_, ?_, rfl, rfl⟩
      · exact ⟨.inl ⟨rfl, rfl⟩, ⟨rfl, rfl⟩, trivial⟩
      · (repeat' first | exact trivial | exact rfl | exact sh0 rfl | exact Nat.le_refl _ | exact .inl shA | exact .inr ⟨rfl, rfl, rfl, rfl, rfl⟩ | exact .inl shB | exact fun h => h | refine ⟨?_, ?_, ?_, .inl ?_⟩ | refine ⟨?_, ?_⟩ | refine fun ii hii => ?_ | omega | fail)
    · rw [show rdE x n = 0 by simp [rdE, hd, hh]]
      obtain ⟨k, rfl, h5⟩ := hasB_nat hh
      rw [Int.toNat_natCast]
      have p : LCalls Try.prog 24 (.cons (.tok τ) (.cons (.int .i64 k) .nil)) [diskR τ x] (fun e h' => e = .ret (.tup (.cons (bsl 1) (.cons (.int .i64 0) .nil))) ∧ h' = [diskR τ x, byO (x.now.getD k nought)]) := by
        refine LCalls.packed (ext := []) (Read_ok x k hd h5) (fun _ => rfl) ⟨.inl ⟨rfl, rfl⟩, .inr rfl, trivial⟩ ?_
        rintro _ _ ⟨rfl, rfl⟩
        refine ⟨[0, 1, 2, 3], diskH x, rfl, rfl, ⟨rfl, rfl, rfl, rfl, trivial⟩, ⟨trivial, trivial, trivial, trivial, trivial⟩, [4], _, _, rfl, rfl, ?_, ?_, rfl, rfl⟩
        · (repeat' first | exact trivial | exact rfl | exact sh0 rfl | exact Nat.le_refl _ | exact .inl shA | exact .inr ⟨rfl, rfl, rfl, rfl, rfl⟩ | exact .inl shB | exact fun h => h | refine ⟨?_, ?_, ?_, .inl ?_⟩ | refine ⟨?_, ?_⟩ | refine fun ii hii => ?_ | omega | fail)
        · (repeat' first | exact trivial | exact rfl | exact sh0 rfl | exact Nat.le_refl _ | exact .inl shA | exact .inr ⟨rfl, rfl, rfl, rfl, rfl⟩ | exact .inl shB | exact fun h => h | refine ⟨?_, ?_, ?_, .inl ?_⟩ | refine ⟨?_, ?_⟩ | refine fun ii hii => ?_ | omega | fail)
      refine LCalls.tellF (p.mono ?_)
      rintro _ _ ⟨rfl, rfl⟩
      refine ⟨[(1, 64, 1, byteR (x.now.getD k nought))], ⟨⟨rfl, Nat.le_refl _, rfl, fun i hi => ⟨⟨rfl, rfl⟩, trivial⟩⟩, rfl, trivial⟩, [0], _, _, rfl, rfl, ?_, ?_, rfl, rfl⟩
      · exact ⟨.inr ⟨rfl, rfl, rfl, rfl, rfl, Nat.le_refl _, fun i hi => rfl⟩, ⟨rfl, rfl⟩, trivial⟩
      · (repeat' first | exact trivial | exact rfl | exact sh0 rfl | exact Nat.le_refl _ | exact .inl shA | exact .inr ⟨rfl, rfl, rfl, rfl, rfl⟩ | exact .inl shB | exact fun h => h | refine ⟨?_, ?_, ?_, .inl ?_⟩ | refine ⟨?_, ?_⟩ | refine fun ii hii => ?_ | omega | fail)
  · rw [show rdE x n = 10 by simp [rdE, hd]]
    refine LCalls.packed (ext := []) (Read_down x n hd) (fun _ => rfl) ⟨.inl ⟨rfl, rfl⟩, .inr rfl, trivial⟩ ?_
    rintro _ _ ⟨rfl, rfl⟩
    refine ⟨[0, 1, 2, 3], diskH x, rfl, rfl, ⟨rfl, rfl, rfl, rfl, trivial⟩, ⟨trivial, trivial, trivial, trivial, trivial⟩, [], _, _, rfl, rfl, ?_, ?_, rfl, rfl⟩
    · exact ⟨.inl ⟨rfl, rfl⟩, ⟨rfl, rfl⟩, trivial⟩
    · (repeat' first | exact trivial | exact rfl | exact sh0 rfl | exact Nat.le_refl _ | exact .inl shA | exact .inr ⟨rfl, rfl, rfl, rfl, rfl⟩ | exact .inl shB | exact fun h => h | refine ⟨?_, ?_, ?_, .inl ?_⟩ | refine ⟨?_, ?_⟩ | refine fun ii hii => ?_ | omega | fail)
theorem lasting' (τ : Nat) (x : Disk) (hl : x.last.length = x.now.length) (n : Int) : LCalls Try.prog 31 (.cons (.tok τ) (.cons (.int .i64 n) .nil)) [diskR τ x] (fun e h' => e = .ret (.tup (.cons (secV (laE x n) (x.last.getD n.toNat nought)) (.cons (.int .i64 (laE x n)) .nil))) ∧ h' = [diskR τ x]) := by
  cases hh : hasB x n
  · rw [show laE x n = 11 by simp [laE, hh]]
    refine LCalls.packed (ext := []) (Lasting_no x n hh) (fun _ => rfl) ⟨.inl ⟨rfl, rfl⟩, .inr rfl, trivial⟩ ?_
    rintro _ _ ⟨rfl, rfl⟩
    refine ⟨[0, 1, 2, 3], diskH x, rfl, rfl, ⟨rfl, rfl, rfl, rfl, trivial⟩, ⟨trivial, trivial, trivial, trivial, trivial⟩, [], _, _, rfl, rfl, ?_, ?_, rfl, rfl⟩
    · exact ⟨.inl ⟨rfl, rfl⟩, ⟨rfl, rfl⟩, trivial⟩
    · (repeat' first | exact trivial | exact rfl | exact sh0 rfl | exact Nat.le_refl _ | exact .inl shA | exact .inr ⟨rfl, rfl, rfl, rfl, rfl⟩ | exact .inl shB | exact fun h => h | refine ⟨?_, ?_, ?_, .inl ?_⟩ | refine ⟨?_, ?_⟩ | refine fun ii hii => ?_ | omega | fail)
  · rw [show laE x n = 0 by simp [laE, hh]]
    obtain ⟨k, rfl, h5⟩ := hasB_nat hh
    rw [Int.toNat_natCast]
    have p : LCalls Try.prog 31 (.cons (.tok τ) (.cons (.int .i64 k) .nil)) [diskR τ x] (fun e h' => e = .ret (.tup (.cons (bsl 1) (.cons (.int .i64 0) .nil))) ∧ h' = [diskR τ x, byO (x.last.getD k nought)]) := by
      refine LCalls.packed (ext := []) (Lasting_ok x k hl h5) (fun _ => rfl) ⟨.inl ⟨rfl, rfl⟩, .inr rfl, trivial⟩ ?_
      rintro _ _ ⟨rfl, rfl⟩
      refine ⟨[0, 1, 2, 3], diskH x, rfl, rfl, ⟨rfl, rfl, rfl, rfl, trivial⟩, ⟨trivial, trivial, trivial, trivial, trivial⟩, [4], _, _, rfl, rfl, ?_, ?_, rfl, rfl⟩
      · (repeat' first | exact trivial | exact rfl | exact sh0 rfl | exact Nat.le_refl _ | exact .inl shA | exact .inr ⟨rfl, rfl, rfl, rfl, rfl⟩ | exact .inl shB | exact fun h => h | refine ⟨?_, ?_, ?_, .inl ?_⟩ | refine ⟨?_, ?_⟩ | refine fun ii hii => ?_ | omega | fail)
      · (repeat' first | exact trivial | exact rfl | exact sh0 rfl | exact Nat.le_refl _ | exact .inl shA | exact .inr ⟨rfl, rfl, rfl, rfl, rfl⟩ | exact .inl shB | exact fun h => h | refine ⟨?_, ?_, ?_, .inl ?_⟩ | refine ⟨?_, ?_⟩ | refine fun ii hii => ?_ | omega | fail)
    refine LCalls.tellF (p.mono ?_)
    rintro _ _ ⟨rfl, rfl⟩
    refine ⟨[(1, 64, 1, byteR (x.last.getD k nought))], ⟨⟨rfl, Nat.le_refl _, rfl, fun i hi => ⟨⟨rfl, rfl⟩, trivial⟩⟩, rfl, trivial⟩, [0], _, _, rfl, rfl, ?_, ?_, rfl, rfl⟩
    · exact ⟨.inr ⟨rfl, rfl, rfl, rfl, rfl, Nat.le_refl _, fun i hi => rfl⟩, ⟨rfl, rfl⟩, trivial⟩
    · (repeat' first | exact trivial | exact rfl | exact sh0 rfl | exact Nat.le_refl _ | exact .inl shA | exact .inr ⟨rfl, rfl, rfl, rfl, rfl⟩ | exact .inl shB | exact fun h => h | refine ⟨?_, ?_, ?_, .inl ?_⟩ | refine ⟨?_, ?_⟩ | refine fun ii hii => ?_ | omega | fail)
theorem new_ok' (n : Nat) (h1 : 1 ≤ n) (h2 : n ≤ 4096) : LCalls Try.prog 22 (.cons (.int .i64 n) .nil) [] (fun e h' => ∃ τ, e = .ret (.tup (.cons (.tok τ) (.cons (.int .i64 0) .nil))) ∧ h' = [diskR τ (fresh n)]) := by
  refine LCalls.packNew (New_ok n h1 h2) ?_
  rintro _ _ ⟨rfl, rfl⟩
  refine .inr ⟨0, _, rfl, rfl, rfl, fun τ => ⟨.ret (.tup (.cons (.tok τ) (.cons (.int .i64 0) .nil))), ⟨⟨rfl, rfl, rfl, rfl⟩, rfl, trivial⟩, [0, 1, 2, 3], diskH (fresh n), rfl, rfl, ⟨rfl, rfl, rfl, rfl, trivial⟩, ⟨trivial, trivial, trivial, trivial, trivial⟩, [4], _, _, rfl, rfl, ?_, ?_, τ, rfl, rfl⟩⟩
  · (repeat' first | exact trivial | exact rfl | exact sh0 rfl | exact Nat.le_refl _ | exact .inl shA | exact .inr ⟨rfl, rfl, rfl, rfl, rfl⟩ | exact .inl shB | exact fun h => h | refine ⟨?_, ?_, ?_, .inl ?_⟩ | refine ⟨?_, ?_⟩ | refine fun ii hii => ?_ | omega | fail)
  · (repeat' first | exact trivial | exact rfl | exact sh0 rfl | exact Nat.le_refl _ | exact .inl shA | exact .inr ⟨rfl, rfl, rfl, rfl, rfl⟩ | exact .inl shB | exact fun h => h | refine ⟨?_, ?_, ?_, .inl ?_⟩ | refine ⟨?_, ?_⟩ | refine fun ii hii => ?_ | omega | fail)
end Go.Proofs.Ytilmfhpoiejmfaa.Dk
