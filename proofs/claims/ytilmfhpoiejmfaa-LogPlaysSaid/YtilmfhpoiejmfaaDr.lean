/- The document's disk: what its functions do. By this session. -/
import Derived.Test.YtilmfhpoiejmfaaDi
import Derived.Test.YtilmfhpoiejmfaaDd
namespace Go.Proofs.Ytilmfhpoiejmfaa.Dk
open Go.Proofs.Ytilmfhpoiejmfaa.Lh
set_option maxRecDepth 100000
set_option linter.unusedSimpArgs false
set_option linter.unusedSectionVars false
set_option linter.unusedVariables false
variable [Fz]
def refO (a b : Nat) (x : Disk) : Option LObj := some ⟨.one (ssl a x.last.length) (.one (psl b x.pend.length) (.one (.bool x.down) (.one (.int .i64 x.left) .nil))), 122, false, false⟩
def rsO (l : List Sec) : Option LObj := some ⟨.rows l.length 64 (srow l) .nil, 115, false, false⟩
def rpO (l : List (Int × Sec)) : Option LObj := some ⟨.rows l.length 65 (prow l) .nil, 171, true, false⟩
def refH (x : Disk) : LHeap := [refO 1 2 x, rsO x.last, rpO x.pend]
def refR (τ : Nat) (x : Disk) : Option LObj := packO τ (refH x)
theorem rNew_err (n : Int) (h : ¬ (1 ≤ n ∧ n ≤ 4096)) : LCalls Try.prog 33 (.cons (.int .i64 n) .nil) [] (fun e h' => e = .ret (.tup (.cons .nilp (.cons (.int .i64 1) .nil))) ∧ h' = []) := by
  refine LCalls.tell ?_; refine enter33 rfl ?_; conv => whnf
  refine iteP_intro (fun hb => ?_) (fun hb => ?_)
  · rewrite [hb]
    conv => whnf
    refine ⟨[], _, _, rfl, rfl, ?_, ?_, rfl, rfl⟩
    · (repeat' first | exact trivial | exact rfl | exact sh0 rfl | exact Nat.le_refl _ | exact .inl shA | exact .inr ⟨rfl, rfl, rfl, rfl, rfl⟩ | exact .inl shB | exact fun h => h | refine ⟨?_, ?_, ?_, .inl ?_⟩ | refine ⟨?_, ?_⟩ | refine fun ii hii => ?_ | omega | fail)
    · (repeat' first | exact trivial | exact rfl | exact sh0 rfl | exact Nat.le_refl _ | exact .inl shA | exact .inr ⟨rfl, rfl, rfl, rfl, rfl⟩ | exact .inl shB | exact fun h => h | refine ⟨?_, ?_, ?_, .inl ?_⟩ | refine ⟨?_, ?_⟩ | refine fun ii hii => ?_ | omega | fail)
  · rewrite [hb]
    have e2 : decide (n > 4096) = true := decide_eq_true (by have := of_decide_eq_false hb; omega)
    conv => whnf
    rewrite [e2]
    conv => whnf
    refine ⟨[], _, _, rfl, rfl, ?_, ?_, rfl, rfl⟩
    · (repeat' first | exact trivial | exact rfl | exact sh0 rfl | exact Nat.le_refl _ | exact .inl shA | exact .inr ⟨rfl, rfl, rfl, rfl, rfl⟩ | exact .inl shB | exact fun h => h | refine ⟨?_, ?_, ?_, .inl ?_⟩ | refine ⟨?_, ?_⟩ | refine fun ii hii => ?_ | omega | fail)
    · (repeat' first | exact trivial | exact rfl | exact sh0 rfl | exact Nat.le_refl _ | exact .inl shA | exact .inr ⟨rfl, rfl, rfl, rfl, rfl⟩ | exact .inl shB | exact fun h => h | refine ⟨?_, ?_, ?_, .inl ?_⟩ | refine ⟨?_, ?_⟩ | refine fun ii hii => ?_ | omega | fail)
theorem rNew_ok (n : Nat) (h1 : 1 ≤ n) (h2 : n ≤ 4096) : LCalls Try.prog 33 (.cons (.int .i64 n) .nil) [] (fun e h' => e = .ret (.tup (.cons (.ptr ⟨0, [], 0⟩) (.cons (.int .i64 0) .nil))) ∧ h' = [refO 1 2 (fresh n), rsO (fresh n).last, rpO (fresh n).pend]) := by
  have e1 : decide ((n : Int) < 1) = false := decide_eq_false (by omega)
  have e2 : decide ((n : Int) > 4096) = false := decide_eq_false (by omega)
  refine LCalls.tell ?_; refine enter33 rfl ?_; conv => whnf
  rewrite [e1]
  conv => whnf
  rewrite [e2]
  (conv => whnf); (repeat (refine And.intro (by first | omega | (dsimp only; omega)) ?_; conv => whnf))
  refine ⟨[1, 0, 99], _, _, rfl, rfl, ?_, ?_, rfl, rfl⟩
  · (repeat' first | exact trivial | exact rfl | exact sh0 rfl | exact Nat.le_refl _ | exact .inl shA | exact .inr ⟨rfl, rfl, rfl, rfl, rfl⟩ | exact .inl shB | exact fun h => h | refine ⟨?_, ?_, ?_, .inl ?_⟩ | refine ⟨?_, ?_⟩ | refine fun ii hii => ?_ | omega | fail)
  · (repeat' first | exact trivial | exact rfl | exact sh0 rfl | exact Nat.le_refl _ | exact .inl shA | exact .inr ⟨rfl, rfl, rfl, rfl, rfl⟩ | exact .inl shB | exact fun h => h | refine ⟨?_, ?_, ?_, .inl ?_⟩ | refine ⟨?_, ?_⟩ | refine fun ii hii => ?_ | omega | fail)
    all_goals first
      | exact .inl ⟨rfl, rfl, rfl, by simp [fresh], by simp [fresh], by simp [fresh], .inl rfl, Nat.le_of_ble_eq_true rfl⟩
      | (simp [fresh]; done)
      | exact (nought_at n _ _).symm
theorem rnew_ok' (n : Nat) (h1 : 1 ≤ n) (h2 : n ≤ 4096) : LCalls Try.prog 33 (.cons (.int .i64 n) .nil) [] (fun e h' => ∃ τ, e = .ret (.tup (.cons (.tok τ) (.cons (.int .i64 0) .nil))) ∧ h' = [refR τ (fresh n)]) := by
  refine LCalls.packNew (rNew_ok n h1 h2) ?_
  rintro _ _ ⟨rfl, rfl⟩
  refine .inr ⟨0, _, rfl, rfl, rfl, fun τ => ⟨.ret (.tup (.cons (.tok τ) (.cons (.int .i64 0) .nil))), ⟨⟨rfl, rfl, rfl, rfl⟩, rfl, trivial⟩, [0, 1, 2], refH (fresh n), rfl, rfl, ⟨rfl, rfl, rfl, trivial⟩, ⟨trivial, trivial, trivial, trivial⟩, [3], _, _, rfl, rfl, ?_, ?_, τ, rfl, rfl⟩⟩
  · (repeat' first | exact trivial | exact rfl | exact sh0 rfl | exact Nat.le_refl _ | exact .inl shA | exact .inr ⟨rfl, rfl, rfl, rfl, rfl⟩ | exact .inl shB | exact fun h => h | refine ⟨?_, ?_, ?_, .inl ?_⟩ | refine ⟨?_, ?_⟩ | refine fun ii hii => ?_ | omega | fail)
  · (repeat' first | exact trivial | exact rfl | exact sh0 rfl | exact Nat.le_refl _ | exact .inl shA | exact .inr ⟨rfl, rfl, rfl, rfl, rfl⟩ | exact .inl shB | exact fun h => h | refine ⟨?_, ?_, ?_, .inl ?_⟩ | refine ⟨?_, ?_⟩ | refine fun ii hii => ?_ | omega | fail)
theorem Bytes (s : Sec) : LCalls Try.prog 97 (.cons (.agg (sec s)) .nil) [] (fun e h' => e = .ret (bytesV 64 s) ∧ h' = []) := by
  refine LCalls.tellF ?_
  refine enter97 rfl ?_
  conv => whnf
  refine Loop.inv (lwp_mono _) (fun n t h => ∃ (k : Nat), k ≤ 64 ∧ n = 64 - k ∧ t = [.any, .ptr ⟨0, [], 0⟩, .any, .slice ⟨1, [], 0⟩ 0 1 k k none, .int .i64 k, .any, .any, .any, .any, .any, .any, .any, .any, .any, .any, .any] ∧ h = [some ⟨sec s, 115, false, false⟩, some ⟨.rows k 1 (byteR s) .nil, 5, true, false⟩]) ?_ ?_
  · refine ⟨_, _, _, ⟨[], trivial, [0, 99], rfl, rfl, ?_, ?_⟩, 0, by omega, rfl, rfl, rfl⟩
    · (repeat' first | exact trivial | exact rfl | exact sh0 rfl | exact Nat.le_refl _ | exact .inl shA | exact .inr ⟨rfl, rfl, rfl, rfl, rfl⟩ | exact .inl shB | exact fun h => h | refine ⟨?_, ?_, ?_, .inl ?_⟩ | refine ⟨?_, ?_⟩ | refine fun ii hii => ?_ | omega | fail)
    · (repeat' first | exact trivial | exact rfl | exact sh0 rfl | exact Nat.le_refl _ | exact .inl shA | exact .inr ⟨rfl, rfl, rfl, rfl, rfl⟩ | exact .inl shB | exact fun h => h | refine ⟨?_, ?_, ?_, .inl ?_⟩ | refine ⟨?_, ?_⟩ | refine fun ii hii => ?_ | omega | fail)
  · rintro n _ _ ⟨k, hk, rfl, rfl, rfl⟩
    conv => whnf
    refine iteP_intro (fun hb => ?_) (fun hb => ?_)
    · rewrite [hb]
      have hb3 := of_decide_eq_true hb
      (conv => whnf); (repeat (refine And.intro (by first | omega | (dsimp only; omega)) ?_; conv => whnf))
      rewrite [show IntKind.i64.wrap ((k : Int) + 1) = ((k + 1 : Nat) : Int) from wrap_nat (n := k + 1) (by omega)]
      refine ⟨_, _, _, ?_, ⟨[], trivial, [0, 3], rfl, rfl, ?_, ?_⟩, k + 1, by omega, rfl, rfl, rfl⟩
      · omega
      · (repeat' first | exact trivial | exact rfl | exact sh0 rfl | exact Nat.le_refl _ | exact .inl shA | exact .inr ⟨rfl, rfl, rfl, rfl, rfl⟩ | exact .inl shB | exact fun h => h | refine ⟨?_, ?_, ?_, .inl ?_⟩ | refine ⟨?_, ?_⟩ | refine fun ii hii => ?_ | omega | fail)
      · (repeat' first | exact trivial | exact rfl | exact sh0 rfl | exact Nat.le_refl _ | exact .inl shA | exact .inr ⟨rfl, rfl, rfl, rfl, rfl⟩ | exact .inl shB | exact fun h => h | refine ⟨?_, ?_, ?_, .inl ?_⟩ | refine ⟨?_, ?_⟩ | refine fun ii hii => ?_ | omega | fail)
        · refine shS_ite (fun c => ?_) (fun c => ?_)
          · exact ⟨⟨rfl, congrArg s (by omega)⟩, trivial⟩
          · have hz : ii - k = 0 := by omega
            rw [hz]
            exact ⟨⟨rfl, congrArg s (by omega)⟩, trivial⟩
    · rewrite [hb]
      have hb3 := of_decide_eq_false hb
      have hk2 : k = 64 := by omega
      subst hk2
      conv => whnf
      refine ⟨[(1, 64, 1, byteR s)], ⟨⟨rfl, Nat.le_refl _, rfl, fun i hi => ⟨⟨rfl, rfl⟩, trivial⟩⟩, rfl, trivial⟩, [], _, _, rfl, rfl, ?_, ?_, rfl, rfl⟩
      rotate_left
      · exact trivial
      exact .inr ⟨rfl, rfl, rfl, rfl, rfl, Nat.le_refl _, fun i hi => rfl⟩
theorem wrote_at (l : List Sec) (p : List (Int × Sec)) (k n : Nat) (hk : k < p.length) (hn : n < l.length) : (wrote l (p.take (k + 1))).getD n nought = if (p.getD k (0, nought)).1.toNat = n then (p.getD k (0, nought)).2 else (wrote l (p.take k)).getD n nought := by
  rw [wrote_succ _ _ _ hk]
  by_cases c : (p.getD k (0, nought)).1.toNat = n
  · rw [if_pos c, c, List.getD_eq_getElem?_getD, List.getElem?_set_self (by rw [wrote_len]; exact hn)]
    rfl
  · rw [if_neg c, List.getD_eq_getElem?_getD, List.getElem?_set_ne c, ← List.getD_eq_getElem?_getD]
theorem Now (x : Disk) (hw : Wf x) (n : Nat) (hn : n < x.now.length) : LCalls Try.prog 98 (.cons (.ptr ⟨0, [], 0⟩) (.cons (.int .i64 n) .nil)) (refH x) (fun e h' => e = .ret (.agg (sec ((wrote x.last x.pend).getD n nought))) ∧ h' = refH x) := by
  obtain ⟨hw1, hw2, hw3⟩ := hw
  refine LCalls.tell ?_; refine enter98 rfl ?_; conv => whnf
  refine ⟨⟨by omega, show _ < ((x.last.length : Nat) : Int) by omega⟩, ?_⟩
  (conv => whnf); (repeat (refine And.intro (by first | omega | (dsimp only; omega)) ?_; conv => whnf))
  rewrite [show 0 + (n : Int).toNat = n by omega]
  refine Loop.inv (lwp_mono _) (fun m t h => ∃ (k : Nat), k ≤ x.pend.length ∧ m = x.pend.length - k ∧ t = [.ptr ⟨0, [], 0⟩, .int .i64 n, .any, .any, .ptr ⟨3, [], 0⟩, .ptr ⟨4, [], 0⟩, .int .i64 k, .any, .any, .any, .any, .any, .any, .any, .any, .any, .any, .any, .any, .any, .any, .any, .any, .any, .any, .any, .any, .any, .any, .any, .any, .any, .any, .any, .any, .any, .any, .any, .any, .any, .any, .any] ∧ h = [refO 1 2 x, rsO x.last, rpO x.pend, some ⟨sec nought, 115, false, false⟩, some ⟨sec ((wrote x.last (x.pend.take k)).getD n nought), 115, false, false⟩]) ?_ ?_
  · refine ⟨_, _, _, ⟨[], trivial, [0, 1, 2, 3, 4], rfl, rfl, ?_, ?_⟩, 0, Nat.zero_le _, rfl, rfl, rfl⟩
    · (repeat' first | exact trivial | exact rfl | exact sh0 rfl | exact Nat.le_refl _ | exact .inl shA | exact .inr ⟨rfl, rfl, rfl, rfl, rfl⟩ | exact .inl shB | exact fun h => h | refine ⟨?_, ?_, ?_, .inl ?_⟩ | refine ⟨?_, ?_⟩ | refine fun ii hii => ?_ | omega | fail)
    · (repeat' first | exact trivial | exact rfl | exact sh0 rfl | exact Nat.le_refl _ | exact .inl shA | exact .inr ⟨rfl, rfl, rfl, rfl, rfl⟩ | exact .inl shB | exact fun h => h | refine ⟨?_, ?_, ?_, .inl ?_⟩ | refine ⟨?_, ?_⟩ | refine fun ii hii => ?_ | omega | fail)
  · rintro m _ _ ⟨k, hk, rfl, rfl, rfl⟩
    conv => whnf
    refine iteP_intro (fun hb => ?_) (fun hb => ?_)
    · rewrite [hb]
      have hb3 := of_decide_eq_true hb
      have hk2 : k < x.pend.length := by omega
      have hat := hw2 k hk2
      have hsucc := wrote_at x.last x.pend k n hk2 (by omega)
      (conv => whnf); (repeat (refine And.intro (by first | omega | (dsimp only; omega)) ?_; conv => whnf))
      rewrite [show 0 + (k : Int).toNat = k by omega]
      refine iteP_intro (fun hc => ?_) (fun hc => ?_)
      · rewrite [hc]
        have hc3 : (x.pend.getD k (0, nought)).1 = n := by simpa using hc
        rw [if_pos (by omega)] at hsucc
        (conv => whnf); (repeat (refine And.intro (by first | omega | (dsimp only; omega)) ?_; conv => whnf))
        rewrite [show 0 + (k : Int).toNat = k by omega]
        rewrite [show IntKind.i64.wrap ((k : Int) + 1) = ((k + 1 : Nat) : Int) from wrap_nat (n := k + 1) (by omega)]
        refine ⟨_, _, _, ?_, ⟨[], trivial, [0, 1, 2, 3, 4], rfl, rfl, ?_, ?_⟩, k + 1, by omega, rfl, rfl, rfl⟩
        · omega
        · (repeat' first | exact trivial | exact rfl | exact sh0 rfl | exact Nat.le_refl _ | exact .inl shA | exact .inr ⟨rfl, rfl, rfl, rfl, rfl⟩ | exact .inl shB | exact fun h => h | refine ⟨?_, ?_, ?_, .inl ?_⟩ | refine ⟨?_, ?_⟩ | refine fun ii hii => ?_ | omega | fail)
        · rw [hsucc]
          (repeat' first | exact trivial | exact rfl | exact sh0 rfl | exact Nat.le_refl _ | exact .inl shA | exact .inr ⟨rfl, rfl, rfl, rfl, rfl⟩ | exact .inl shB | exact fun h => h | refine ⟨?_, ?_, ?_, .inl ?_⟩ | refine ⟨?_, ?_⟩ | refine fun ii hii => ?_ | omega | fail)
      · rewrite [hc]
        have hc3 : ¬ (x.pend.getD k (0, nought)).1 = n := by simpa using hc
        rw [if_neg (by omega)] at hsucc
        conv => whnf
        rewrite [show IntKind.i64.wrap ((k : Int) + 1) = ((k + 1 : Nat) : Int) from wrap_nat (n := k + 1) (by omega)]
        refine ⟨_, _, _, ?_, ⟨[], trivial, [0, 1, 2, 3, 4], rfl, rfl, ?_, ?_⟩, k + 1, by omega, rfl, rfl, rfl⟩
        · omega
        · (repeat' first | exact trivial | exact rfl | exact sh0 rfl | exact Nat.le_refl _ | exact .inl shA | exact .inr ⟨rfl, rfl, rfl, rfl, rfl⟩ | exact .inl shB | exact fun h => h | refine ⟨?_, ?_, ?_, .inl ?_⟩ | refine ⟨?_, ?_⟩ | refine fun ii hii => ?_ | omega | fail)
        · rw [hsucc]
          (repeat' first | exact trivial | exact rfl | exact sh0 rfl | exact Nat.le_refl _ | exact .inl shA | exact .inr ⟨rfl, rfl, rfl, rfl, rfl⟩ | exact .inl shB | exact fun h => h | refine ⟨?_, ?_, ?_, .inl ?_⟩ | refine ⟨?_, ?_⟩ | refine fun ii hii => ?_ | omega | fail)
    · rewrite [hb]
      have hb3 := of_decide_eq_false hb
      have hk2 : k = x.pend.length := by omega
      subst hk2
      rewrite [List.take_length]
      conv => whnf
      refine ⟨[0, 1, 2], _, _, rfl, rfl, ?_, ?_, rfl, rfl⟩
      · (repeat' first | exact trivial | exact rfl | exact sh0 rfl | exact Nat.le_refl _ | exact .inl shA | exact .inr ⟨rfl, rfl, rfl, rfl, rfl⟩ | exact .inl shB | exact fun h => h | refine ⟨?_, ?_, ?_, .inl ?_⟩ | refine ⟨?_, ?_⟩ | refine fun ii hii => ?_ | omega | fail)
      · (repeat' first | exact trivial | exact rfl | exact sh0 rfl | exact Nat.le_refl _ | exact .inl shA | exact .inr ⟨rfl, rfl, rfl, rfl, rfl⟩ | exact .inl shB | exact fun h => h | refine ⟨?_, ?_, ?_, .inl ?_⟩ | refine ⟨?_, ?_⟩ | refine fun ii hii => ?_ | omega | fail)
theorem rRead_x (x : Disk) (hi : Inv x) (n : Int) : LCalls Try.prog 66 (.cons (.ptr ⟨0, [], 0⟩) (.cons (.int .i64 n) .nil)) (refH x) (fun e h' => e = .ret (.tup (.cons (secV (rdE x n) (x.now.getD n.toNat nought)) (.cons (.int .i64 (rdE x n)) .nil))) ∧ h' = refH x) := by
  have hlen := hi.len
  cases hd : x.down
  · cases hh : hasB x n
    · rw [show rdE x n = 11 by simp [rdE, hd, hh]]
      refine LCalls.tell ?_; refine enter66 rfl ?_; conv => whnf
      rewrite [hd]
      conv => whnf
      refine iteP_intro (fun hb => ?_) (fun hb => ?_)
      · rewrite [hb]
        conv => whnf
        refine ⟨[0, 1, 2], _, _, rfl, rfl, ?_, ?_, rfl, rfl⟩
        · exact ⟨.inl ⟨rfl, rfl⟩, ⟨rfl, rfl⟩, trivial⟩
        · (repeat' first | exact trivial | exact rfl | exact sh0 rfl | exact Nat.le_refl _ | exact .inl shA | exact .inr ⟨rfl, rfl, rfl, rfl, rfl⟩ | exact .inl shB | exact fun h => h | refine ⟨?_, ?_, ?_, .inl ?_⟩ | refine ⟨?_, ?_⟩ | refine fun ii hii => ?_ | omega | fail)
      · rewrite [hb]
        have hb2 := of_decide_eq_false hb
        have hge : decide (n ≥ (x.last.length : Int)) = true := by
          simp only [hasB, Bool.and_eq_false_iff, decide_eq_false_iff_not] at hh
          rw [decide_eq_true_eq]
          omega
        conv => whnf
        rewrite [hge]
        conv => whnf
        refine ⟨[0, 1, 2], _, _, rfl, rfl, ?_, ?_, rfl, rfl⟩
        · exact ⟨.inl ⟨rfl, rfl⟩, ⟨rfl, rfl⟩, trivial⟩
        · (repeat' first | exact trivial | exact rfl | exact sh0 rfl | exact Nat.le_refl _ | exact .inl shA | exact .inr ⟨rfl, rfl, rfl, rfl, rfl⟩ | exact .inl shB | exact fun h => h | refine ⟨?_, ?_, ?_, .inl ?_⟩ | refine ⟨?_, ?_⟩ | refine fun ii hii => ?_ | omega | fail)
    · rw [show rdE x n = 0 by simp [rdE, hd, hh]]
      obtain ⟨k, rfl, h5⟩ := hasB_nat hh
      rw [Int.toNat_natCast]
      refine LCalls.tell ?_; refine enter66 rfl ?_; conv => whnf
      rewrite [hd]
      conv => whnf
      rewrite [show decide ((k : Int) < 0) = false from decide_eq_false (by omega)]
      conv => whnf
      rewrite [show decide ((k : Int) ≥ (x.last.length : Int)) = false from decide_eq_false (by omega)]
      conv => whnf
      refine LCalls.use (Now x hi.toWf k h5) [0, 1, 2] rfl rfl ⟨rfl, rfl, rfl, trivial⟩ ?_; rintro _ _ ⟨rfl, rfl⟩; conv => whnf
      refine LCalls.use (Bytes _) [] rfl rfl trivial ?_; rintro _ _ ⟨rfl, rfl⟩; conv => whnf
      rewrite [← hi.eq]
      refine ⟨[0, 1, 2], _, _, rfl, rfl, ?_, ?_, rfl, rfl⟩
      · (repeat' first | exact trivial | exact rfl | exact sh0 rfl | exact Nat.le_refl _ | exact .inl shA | exact .inr ⟨rfl, rfl, rfl, rfl, rfl⟩ | exact .inl shB | exact fun h => h | refine ⟨?_, ?_, ?_, .inl ?_⟩ | refine ⟨?_, ?_⟩ | refine fun ii hii => ?_ | omega | fail)
      · (repeat' first | exact trivial | exact rfl | exact sh0 rfl | exact Nat.le_refl _ | exact .inl shA | exact .inr ⟨rfl, rfl, rfl, rfl, rfl⟩ | exact .inl shB | exact fun h => h | refine ⟨?_, ?_, ?_, .inl ?_⟩ | refine ⟨?_, ?_⟩ | refine fun ii hii => ?_ | omega | fail)
  · rw [show rdE x n = 10 by simp [rdE, hd]]
    refine LCalls.tell ?_; refine enter66 rfl ?_; conv => whnf
    rewrite [hd]
    conv => whnf
    refine ⟨[0, 1, 2], _, _, rfl, rfl, ?_, ?_, rfl, rfl⟩
    · exact ⟨.inl ⟨rfl, rfl⟩, ⟨rfl, rfl⟩, trivial⟩
    · (repeat' first | exact trivial | exact rfl | exact sh0 rfl | exact Nat.le_refl _ | exact .inl shA | exact .inr ⟨rfl, rfl, rfl, rfl, rfl⟩ | exact .inl shB | exact fun h => h | refine ⟨?_, ?_, ?_, .inl ?_⟩ | refine ⟨?_, ?_⟩ | refine fun ii hii => ?_ | omega | fail)
theorem rRead (τ : Nat) (x : Disk) (hi : Inv x) (n : Int) : LCalls Try.prog 66 (.cons (.tok τ) (.cons (.int .i64 n) .nil)) [refR τ x] (fun e h' => e = .ret (.tup (.cons (secV (rdE x n) (x.now.getD n.toNat nought)) (.cons (.int .i64 (rdE x n)) .nil))) ∧ h' = [refR τ x]) := by
  refine LCalls.packed (ext := []) (rRead_x x hi n) (fun _ => rfl) ⟨.inl ⟨rfl, rfl⟩, .inr rfl, trivial⟩ ?_
  rintro _ _ ⟨rfl, rfl⟩
  refine ⟨[0, 1, 2], refH x, rfl, rfl, ⟨rfl, rfl, rfl, trivial⟩, ⟨trivial, trivial, trivial, trivial⟩, [], _, _, rfl, rfl, ?_, ?_, rfl, rfl⟩
  · exact ⟨⟨rfl, rfl, fun i hi => ⟨⟨rfl, rfl⟩, trivial⟩⟩, ⟨rfl, rfl⟩, trivial⟩
  · (repeat' first | exact trivial | exact rfl | exact sh0 rfl | exact Nat.le_refl _ | exact .inl shA | exact .inr ⟨rfl, rfl, rfl, rfl, rfl⟩ | exact .inl shB | exact fun h => h | refine ⟨?_, ?_, ?_, .inl ?_⟩ | refine ⟨?_, ?_⟩ | refine fun ii hii => ?_ | omega | fail)
theorem rLasting_x (x : Disk) (hi : Inv x) (n : Int) : LCalls Try.prog 67 (.cons (.ptr ⟨0, [], 0⟩) (.cons (.int .i64 n) .nil)) (refH x) (fun e h' => e = .ret (.tup (.cons (secV (laE x n) (x.last.getD n.toNat nought)) (.cons (.int .i64 (laE x n)) .nil))) ∧ h' = refH x) := by
  have hlen := hi.len
  cases hh : hasB x n
  · rw [show laE x n = 11 by simp [laE, hh]]
    refine LCalls.tell ?_; refine enter67 rfl ?_; conv => whnf
    refine iteP_intro (fun hb => ?_) (fun hb => ?_)
    · rewrite [hb]
      conv => whnf
      refine ⟨[0, 1, 2], _, _, rfl, rfl, ?_, ?_, rfl, rfl⟩
      · exact ⟨.inl ⟨rfl, rfl⟩, ⟨rfl, rfl⟩, trivial⟩
      · (repeat' first | exact trivial | exact rfl | exact sh0 rfl | exact Nat.le_refl _ | exact .inl shA | exact .inr ⟨rfl, rfl, rfl, rfl, rfl⟩ | exact .inl shB | exact fun h => h | refine ⟨?_, ?_, ?_, .inl ?_⟩ | refine ⟨?_, ?_⟩ | refine fun ii hii => ?_ | omega | fail)
    · rewrite [hb]
      have hb2 := of_decide_eq_false hb
      have hge : decide (n ≥ (x.last.length : Int)) = true := by
        simp only [hasB, Bool.and_eq_false_iff, decide_eq_false_iff_not] at hh
        rw [decide_eq_true_eq]
        omega
      conv => whnf
      rewrite [hge]
      conv => whnf
      refine ⟨[0, 1, 2], _, _, rfl, rfl, ?_, ?_, rfl, rfl⟩
      · exact ⟨.inl ⟨rfl, rfl⟩, ⟨rfl, rfl⟩, trivial⟩
      · (repeat' first | exact trivial | exact rfl | exact sh0 rfl | exact Nat.le_refl _ | exact .inl shA | exact .inr ⟨rfl, rfl, rfl, rfl, rfl⟩ | exact .inl shB | exact fun h => h | refine ⟨?_, ?_, ?_, .inl ?_⟩ | refine ⟨?_, ?_⟩ | refine fun ii hii => ?_ | omega | fail)
  · rw [show laE x n = 0 by simp [laE, hh]]
    obtain ⟨k, rfl, h5⟩ := hasB_nat hh
    rw [Int.toNat_natCast]
    refine LCalls.tell ?_; refine enter67 rfl ?_; conv => whnf
    rewrite [show decide ((k : Int) < 0) = false from decide_eq_false (by omega)]
    conv => whnf
    rewrite [show decide ((k : Int) ≥ (x.last.length : Int)) = false from decide_eq_false (by omega)]
    (conv => whnf); (repeat (refine And.intro (by first | omega | (dsimp only; omega)) ?_; conv => whnf))
    rewrite [show 0 + (k : Int).toNat = k by omega]
    refine LCalls.use (Bytes (x.last.getD k nought)) [] rfl rfl trivial ?_
    rintro _ _ ⟨rfl, rfl⟩
    conv => whnf
    refine ⟨[0, 1, 2], _, _, rfl, rfl, ?_, ?_, rfl, rfl⟩
    · (repeat' first | exact trivial | exact rfl | exact sh0 rfl | exact Nat.le_refl _ | exact .inl shA | exact .inr ⟨rfl, rfl, rfl, rfl, rfl⟩ | exact .inl shB | exact fun h => h | refine ⟨?_, ?_, ?_, .inl ?_⟩ | refine ⟨?_, ?_⟩ | refine fun ii hii => ?_ | omega | fail)
    · (repeat' first | exact trivial | exact rfl | exact sh0 rfl | exact Nat.le_refl _ | exact .inl shA | exact .inr ⟨rfl, rfl, rfl, rfl, rfl⟩ | exact .inl shB | exact fun h => h | refine ⟨?_, ?_, ?_, .inl ?_⟩ | refine ⟨?_, ?_⟩ | refine fun ii hii => ?_ | omega | fail)
theorem rLasting (τ : Nat) (x : Disk) (hi : Inv x) (n : Int) : LCalls Try.prog 67 (.cons (.tok τ) (.cons (.int .i64 n) .nil)) [refR τ x] (fun e h' => e = .ret (.tup (.cons (secV (laE x n) (x.last.getD n.toNat nought)) (.cons (.int .i64 (laE x n)) .nil))) ∧ h' = [refR τ x]) := by
  refine LCalls.packed (ext := []) (rLasting_x x hi n) (fun _ => rfl) ⟨.inl ⟨rfl, rfl⟩, .inr rfl, trivial⟩ ?_
  rintro _ _ ⟨rfl, rfl⟩
  refine ⟨[0, 1, 2], refH x, rfl, rfl, ⟨rfl, rfl, rfl, trivial⟩, ⟨trivial, trivial, trivial, trivial⟩, [], _, _, rfl, rfl, ?_, ?_, rfl, rfl⟩
  · exact ⟨⟨rfl, rfl, fun i hi => ⟨⟨rfl, rfl⟩, trivial⟩⟩, ⟨rfl, rfl⟩, trivial⟩
  · (repeat' first | exact trivial | exact rfl | exact sh0 rfl | exact Nat.le_refl _ | exact .inl shA | exact .inr ⟨rfl, rfl, rfl, rfl, rfl⟩ | exact .inl shB | exact fun h => h | refine ⟨?_, ?_, ?_, .inl ?_⟩ | refine ⟨?_, ?_⟩ | refine fun ii hii => ?_ | omega | fail)
theorem rGoes (x : Disk) : LCalls Try.prog 99 (.cons (.ptr ⟨0, [], 0⟩) .nil) (refH x) (fun e h' => e = .ret (.bool (goesB x)) ∧ h' = [refO 1 2 (went x), rsO (went x).last, rpO (went x).pend]) := by
  refine LCalls.tell ?_; refine enter99 rfl ?_; conv => whnf
  refine iteP_intro (fun hb => ?_) (fun hb => ?_)
  · rewrite [hb]
    have h2 : x.left = 0 := by simpa using hb
    have e1 : went x = { x with down := true } := by simp [went, h2]
    have e2 : goesB x = false := by simp [goesB, h2]
    rw [e1, e2]
    conv => whnf
    refine ⟨[0, 1, 2], _, _, rfl, rfl, ?_, ?_, rfl, rfl⟩
    · (repeat' first | exact trivial | exact rfl | exact sh0 rfl | exact Nat.le_refl _ | exact .inl shA | exact .inr ⟨rfl, rfl, rfl, rfl, rfl⟩ | exact .inl shB | exact fun h => h | refine ⟨?_, ?_, ?_, .inl ?_⟩ | refine ⟨?_, ?_⟩ | refine fun ii hii => ?_ | omega | fail)
    · (repeat' first | exact trivial | exact rfl | exact sh0 rfl | exact Nat.le_refl _ | exact .inl shA | exact .inr ⟨rfl, rfl, rfl, rfl, rfl⟩ | exact .inl shB | exact fun h => h | refine ⟨?_, ?_, ?_, .inl ?_⟩ | refine ⟨?_, ?_⟩ | refine fun ii hii => ?_ | omega | fail)
  · rewrite [hb]
    have h2 : ¬ x.left = 0 := by simpa using hb
    have e2 : goesB x = true := by simp [goesB, h2]
    conv => whnf
    refine iteP_intro (fun hc => ?_) (fun hc => ?_)
    · rewrite [hc]
      have h3 := of_decide_eq_true hc
      have e1 : went x = { x with left := IntKind.i64.wrap (x.left + -1) } := by
        unfold went; rw [if_neg (by omega), if_neg h2]
      rw [e1, e2]
      conv => whnf
      refine ⟨[0, 1, 2], _, _, rfl, rfl, ?_, ?_, rfl, rfl⟩
      · (repeat' first | exact trivial | exact rfl | exact sh0 rfl | exact Nat.le_refl _ | exact .inl shA | exact .inr ⟨rfl, rfl, rfl, rfl, rfl⟩ | exact .inl shB | exact fun h => h | refine ⟨?_, ?_, ?_, .inl ?_⟩ | refine ⟨?_, ?_⟩ | refine fun ii hii => ?_ | omega | fail)
      · (repeat' first | exact trivial | exact rfl | exact sh0 rfl | exact Nat.le_refl _ | exact .inl shA | exact .inr ⟨rfl, rfl, rfl, rfl, rfl⟩ | exact .inl shB | exact fun h => h | refine ⟨?_, ?_, ?_, .inl ?_⟩ | refine ⟨?_, ?_⟩ | refine fun ii hii => ?_ | omega | fail)
    · rewrite [hc]
      have h3 := of_decide_eq_false hc
      have e1 : went x = x := by
        unfold went; rw [if_pos (by omega)]
      rw [e1, e2]
      conv => whnf
      refine ⟨[0, 1, 2], _, _, rfl, rfl, ?_, ?_, rfl, rfl⟩
      · (repeat' first | exact trivial | exact rfl | exact sh0 rfl | exact Nat.le_refl _ | exact .inl shA | exact .inr ⟨rfl, rfl, rfl, rfl, rfl⟩ | exact .inl shB | exact fun h => h | refine ⟨?_, ?_, ?_, .inl ?_⟩ | refine ⟨?_, ?_⟩ | refine fun ii hii => ?_ | omega | fail)
      · (repeat' first | exact trivial | exact rfl | exact sh0 rfl | exact Nat.le_refl _ | exact .inl shA | exact .inr ⟨rfl, rfl, rfl, rfl, rfl⟩ | exact .inl shB | exact fun h => h | refine ⟨?_, ?_, ?_, .inl ?_⟩ | refine ⟨?_, ?_⟩ | refine fun ii hii => ?_ | omega | fail)
theorem rArm_x (x : Disk) (n : Int) : LCalls Try.prog 70 (.cons (.ptr ⟨0, [], 0⟩) (.cons (.int .i64 n) .nil)) (refH x) (fun e h' => e = .ret (.int .i64 (armE x n)) ∧ h' = refH (armed x n)) := by
  refine LCalls.tell ?_; refine enter70 rfl ?_; conv => whnf
  refine iteP_intro (fun hb => ?_) (fun hb => ?_)
  · rewrite [hb]
    have h1 := of_decide_eq_true hb
    have e1 : armE x n = 1 := by simp [armE, h1]
    have e2 : armed x n = x := by simp [armed, e1]
    rw [e1, e2]
    conv => whnf
    refine ⟨[0, 1, 2], _, _, rfl, rfl, ?_, ?_, rfl, rfl⟩
    · (repeat' first | exact trivial | exact rfl | exact sh0 rfl | exact Nat.le_refl _ | exact .inl shA | exact .inr ⟨rfl, rfl, rfl, rfl, rfl⟩ | exact .inl shB | exact fun h => h | refine ⟨?_, ?_, ?_, .inl ?_⟩ | refine ⟨?_, ?_⟩ | refine fun ii hii => ?_ | omega | fail)
    · (repeat' first | exact trivial | exact rfl | exact sh0 rfl | exact Nat.le_refl _ | exact .inl shA | exact .inr ⟨rfl, rfl, rfl, rfl, rfl⟩ | exact .inl shB | exact fun h => h | refine ⟨?_, ?_, ?_, .inl ?_⟩ | refine ⟨?_, ?_⟩ | refine fun ii hii => ?_ | omega | fail)
  rewrite [hb]
  have h1 := of_decide_eq_false hb
  cases hd : x.down
  · have e1 : armE x n = 0 := by simp [armE, h1, hd]
    have e2 : armed x n = { x with left := n } := by simp [armed, e1]
    rw [e1, e2]
    obtain ⟨no, la, pe, dn, le⟩ := x
    have hd : dn = false := hd
    subst hd
    conv => whnf
    refine ⟨[0, 1, 2], _, _, rfl, rfl, ?_, ?_, rfl, rfl⟩
    · (repeat' first | exact trivial | exact rfl | exact sh0 rfl | exact Nat.le_refl _ | exact .inl shA | exact .inr ⟨rfl, rfl, rfl, rfl, rfl⟩ | exact .inl shB | exact fun h => h | refine ⟨?_, ?_, ?_, .inl ?_⟩ | refine ⟨?_, ?_⟩ | refine fun ii hii => ?_ | omega | fail)
    · (repeat' first | exact trivial | exact rfl | exact sh0 rfl | exact Nat.le_refl _ | exact .inl shA | exact .inr ⟨rfl, rfl, rfl, rfl, rfl⟩ | exact .inl shB | exact fun h => h | refine ⟨?_, ?_, ?_, .inl ?_⟩ | refine ⟨?_, ?_⟩ | refine fun ii hii => ?_ | omega | fail)
  · have e1 : armE x n = 10 := by simp [armE, h1, hd]
    have e2 : armed x n = x := by simp [armed, e1]
    rw [e1, e2]
    obtain ⟨no, la, pe, dn, le⟩ := x
    have hd : dn = true := hd
    subst hd
    conv => whnf
    refine ⟨[0, 1, 2], _, _, rfl, rfl, ?_, ?_, rfl, rfl⟩
    · (repeat' first | exact trivial | exact rfl | exact sh0 rfl | exact Nat.le_refl _ | exact .inl shA | exact .inr ⟨rfl, rfl, rfl, rfl, rfl⟩ | exact .inl shB | exact fun h => h | refine ⟨?_, ?_, ?_, .inl ?_⟩ | refine ⟨?_, ?_⟩ | refine fun ii hii => ?_ | omega | fail)
    · (repeat' first | exact trivial | exact rfl | exact sh0 rfl | exact Nat.le_refl _ | exact .inl shA | exact .inr ⟨rfl, rfl, rfl, rfl, rfl⟩ | exact .inl shB | exact fun h => h | refine ⟨?_, ?_, ?_, .inl ?_⟩ | refine ⟨?_, ?_⟩ | refine fun ii hii => ?_ | omega | fail)
theorem rArm (τ : Nat) (x : Disk) (n : Int) : LCalls Try.prog 70 (.cons (.tok τ) (.cons (.int .i64 n) .nil)) [refR τ x] (fun e h' => e = .ret (.int .i64 (armE x n)) ∧ h' = [refR τ (armed x n)]) := by
  have p : LCalls Try.prog 70 (.cons (.ptr ⟨0, [], 0⟩) (.cons (.int .i64 n) .nil)) (refH x) (fun e h' => e = .ret (.int .i64 (armE x n)) ∧ h' = refH (armed x n)) := rArm_x x n
  refine LCalls.packed (ext := []) p (fun _ => rfl) ⟨.inl ⟨rfl, rfl⟩, .inr rfl, trivial⟩ ?_
  rintro _ _ ⟨rfl, rfl⟩
  refine ⟨[0, 1, 2], refH (armed x n), rfl, rfl, ⟨rfl, rfl, rfl, trivial⟩, ⟨trivial, trivial, trivial, trivial⟩, [], _, _, rfl, rfl, ?_, ?_, rfl, rfl⟩
  · (repeat' first | exact trivial | exact rfl | exact sh0 rfl | exact Nat.le_refl _ | exact .inl shA | exact .inr ⟨rfl, rfl, rfl, rfl, rfl⟩ | exact .inl shB | exact fun h => h | refine ⟨?_, ?_, ?_, .inl ?_⟩ | refine ⟨?_, ?_⟩ | refine fun ii hii => ?_ | omega | fail)
  · (repeat' first | exact trivial | exact rfl | exact sh0 rfl | exact Nat.le_refl _ | exact .inl shA | exact .inr ⟨rfl, rfl, rfl, rfl, rfl⟩ | exact .inl shB | exact fun h => h | refine ⟨?_, ?_, ?_, .inl ?_⟩ | refine ⟨?_, ?_⟩ | refine fun ii hii => ?_ | omega | fail)
end Go.Proofs.Ytilmfhpoiejmfaa.Dk
