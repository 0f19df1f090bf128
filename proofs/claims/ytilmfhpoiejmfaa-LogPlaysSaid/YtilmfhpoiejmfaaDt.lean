/- The laws of the disk: an act by both. By this session. -/
import Derived.Test.YtilmfhpoiejmfaaDs
namespace Go.Proofs.Ytilmfhpoiejmfaa.Dk
open Go.Proofs.Ytilmfhpoiejmfaa.Lh
set_option maxRecDepth 100000
set_option linter.unusedSimpArgs false
set_option linter.unusedSectionVars false
set_option linter.unusedVariables false
variable [Fz]
theorem wrapN {n : Nat} (h : n < 4611686018427387904) : IntKind.i64.wrap (n : Int) = (n : Int) := by
  have h1 : (n : Int) % 18446744073709551616 = n := Int.emod_eq_of_lt (by omega) (by omega)
  have h2 : ¬ (9223372036854775808 : Int) ≤ n := by omega
  simp [IntKind.wrap, IntKind.bits, IntKind.signed, h1, h2]
theorem wrapS {k : Nat} (h : k < 4611686018427387903) : IntKind.i64.wrap ((k : Int) + 1) = ((k + 1 : Nat) : Int) := wrapN (n := k + 1) (by omega)
theorem rWrite_ok (x : Disk) (n : Nat) (b : Nat → Int) (m : Nat) (h0 : x.down = false) (h1 : n < x.last.length) (h2 : m ≤ 64) (hg : goesB x = true) (hp : x.pend.length < 1000000) : LCalls Try.prog 68 (.cons (.ptr ⟨0, [], 0⟩) (.cons (.int .i64 n) (.cons (bytesV m b) .nil))) (refH x) (fun e h' => e = .ret (.int .i64 0) ∧ h' = [refO 1 3 (wrS (went x) n b m), rsO (wrS (went x) n b m).last, none, rpO (wrS (went x) n b m).pend]) := by
  have hwd := went_same x
  refine LCalls.tell ?_; refine enter68 rfl ?_; conv => whnf
  rewrite [h0]
  conv => whnf
  rewrite [show decide ((n : Int) < 0) = false from decide_eq_false (by omega)]
  conv => whnf
  rewrite [show decide ((n : Int) ≥ (x.last.length : Int)) = false from decide_eq_false (by omega)]
  conv => whnf
  rewrite [show decide ((m : Int) > 64) = false from decide_eq_false (by omega)]
  conv => whnf
  refine LCalls.use (rGoes x) [0, 1, 2] rfl rfl ⟨rfl, rfl, rfl, trivial⟩ ?_
  rintro _ _ ⟨rfl, rfl⟩
  rewrite [hg]
  have hl2 : (went x).pend.length = x.pend.length := by rw [hwd.2.2]
  generalize went x = y at *
  conv => whnf
  refine Loop.inv (lwp_mono _) (fun j t h => ∃ (k : Nat), k ≤ m ∧ j = m - k ∧ t = [.ptr ⟨0, [], 0⟩, .any, bytesV m b, .any, .any, .any, .any, .any, .ptr ⟨3, [], 0⟩, .int .i64 k, .any, .any, .any, .any, .any, .any, .any, .any, .any, .any, .any, .any, .any, .any, .any, .any, .any, .any, .any, .any, .any, .any, .any, .any, .any, .any, .any, .any, .any, .any, .any, .any, .any, .any, .any, .any, .any, .any, .any, .any, .any, .any, .any, .any, .any, .any, .any] ∧ h = [refO 1 2 y, rsO y.last, rpO y.pend, some ⟨.one (.int .i64 n) (sec (cut b k)), 171, false, false⟩]) ?_ ?_
  · refine ⟨_, _, _, ⟨[], trivial, [0, 1, 2, 3], rfl, rfl, ?_, ?_⟩, 0, Nat.zero_le _, rfl, rfl, rfl⟩
    · (repeat' first | exact trivial | exact rfl | exact sh0 rfl | exact Nat.le_refl _ | exact .inl shA | exact .inr ⟨rfl, rfl, rfl, rfl, rfl⟩ | exact .inl shB | exact fun h => h | refine ⟨?_, ?_, ?_, .inl ?_⟩ | refine ⟨?_, ?_⟩ | refine fun ii hii => ?_ | omega | fail)
    · (repeat' first | exact trivial | exact rfl | exact sh0 rfl | exact Nat.le_refl _ | exact .inl shA | exact .inr ⟨rfl, rfl, rfl, rfl, rfl⟩ | exact .inl shB | exact fun h => h | refine ⟨?_, ?_, ?_, .inl ?_⟩ | refine ⟨?_, ?_⟩ | refine fun ii hii => ?_ | omega | fail)
  · rintro j _ _ ⟨k, hk, rfl, rfl, rfl⟩
    conv => whnf
    refine iteP_intro (fun hb => ?_) (fun hb => ?_)
    · rewrite [hb]
      have hb3 := of_decide_eq_true hb
      (conv => whnf); (repeat (refine And.intro (by first | omega | (dsimp only; omega)) ?_; conv => whnf))
      rewrite [show (k : Int).toNat = k by omega, wrapS (by omega)]
      refine ⟨_, _, _, ?_, ⟨[], trivial, [0, 1, 2, 3], rfl, rfl, ?_, ?_⟩, k + 1, by omega, rfl, rfl, rfl⟩
      · omega
      · (repeat' first | exact trivial | exact rfl | exact sh0 rfl | exact Nat.le_refl _ | exact .inl shA | exact .inr ⟨rfl, rfl, rfl, rfl, rfl⟩ | exact .inl shB | exact fun h => h | refine ⟨?_, ?_, ?_, .inl ?_⟩ | refine ⟨?_, ?_⟩ | refine fun ii hii => ?_ | omega | fail)
      · (repeat' first | exact trivial | exact rfl | exact sh0 rfl | exact Nat.le_refl _ | exact .inl shA | exact .inr ⟨rfl, rfl, rfl, rfl, rfl⟩ | exact .inl shB | exact fun h => h | refine ⟨?_, ?_, ?_, .inl ?_⟩ | refine ⟨?_, ?_⟩ | refine fun ii hii => ?_ | omega | fail)
        refine shS_ite (fun c => ⟨⟨rfl, ?_⟩, trivial⟩) (fun c => ⟨⟨rfl, ?_⟩, trivial⟩)
        · simp only [cut, c, Nat.lt_succ_self, if_true]
        · simp only [cut]
          by_cases d : ii < k
          · rw [if_pos d, if_pos (by omega)]
          · rw [if_neg d, if_neg (by omega)]
    · rewrite [hb]
      have hb3 := of_decide_eq_false hb
      have hk2 : k = m := by omega
      subst hk2
      (conv => whnf); (repeat (refine And.intro (by first | omega | (dsimp only; omega)) ?_; conv => whnf))
      refine ⟨[0, 1, 2, 11], _, _, rfl, rfl, ?_, ?_, rfl, rfl⟩
      · (repeat' first | exact trivial | exact rfl | exact sh0 rfl | exact Nat.le_refl _ | exact .inl shA | exact .inr ⟨rfl, rfl, rfl, rfl, rfl⟩ | exact .inl shB | exact fun h => h | refine ⟨?_, ?_, ?_, .inl ?_⟩ | refine ⟨?_, ?_⟩ | refine fun ii hii => ?_ | omega | fail)
      · simp only [wrS]
        (repeat' first | exact trivial | exact rfl | exact sh0 rfl | exact Nat.le_refl _ | exact .inl shA | exact .inr ⟨rfl, rfl, rfl, rfl, rfl⟩ | exact .inl shB | exact fun h => h | refine ⟨?_, ?_, ?_, .inl ?_⟩ | refine ⟨?_, ?_⟩ | refine fun ii hii => ?_ | omega | fail)
        · simp
        · refine shS_ite (fun c => ?_) (fun c => ?_)
          · refine shPen (y.pend.getD (0 + ii) (0, nought)) ((y.pend ++ [((n : Int), cut b k)]).getD ii (0, nought)) rfl rfl ?_
            rw [Nat.zero_add, List.getD_eq_getElem?_getD, List.getD_eq_getElem?_getD, List.getElem?_append_left c]
          · have e : (y.pend ++ [((n : Int), cut b k)]).getD ii (0, nought) = ((n : Int), cut b k) := by
              have : ii = y.pend.length := by omega
              subst this
              simp
            have hz : ii - y.pend.length = 0 := by omega
            refine shS_eq (e := congrArg pen e) ?_
            rw [hz]
            exact ⟨⟨rfl, rfl⟩, rfl, rfl, fun i hi => ⟨⟨rfl, rfl⟩, trivial⟩, trivial⟩
theorem rWrite_no (x : Disk) (hl : x.last.length = x.now.length) (n : Int) (b : Nat → Int) (m : Nat) (h : wrE x n m ≠ 0) : LCalls Try.prog 68 (.cons (.ptr ⟨0, [], 0⟩) (.cons (.int .i64 n) (.cons (bytesV m b) .nil))) (refH x) (fun e h' => e = .ret (.int .i64 (wrE x n m)) ∧ h' = refH (wrN x n m)) := by
  cases hd : x.down
  rotate_left
  · rw [show wrE x n m = 10 by simp [wrE, hd], show wrN x n m = x by simp [wrN, hd]]
    refine LCalls.tell ?_; refine enter68 rfl ?_; conv => whnf
    rewrite [hd]
    conv => whnf
    refine ⟨[0, 1, 2], _, _, rfl, rfl, ?_, ?_, rfl, rfl⟩
    · (repeat' first | exact trivial | exact rfl | exact sh0 rfl | exact Nat.le_refl _ | exact .inl shA | exact .inr ⟨rfl, rfl, rfl, rfl, rfl⟩ | exact .inl shB | exact fun h => h | refine ⟨?_, ?_, ?_, .inl ?_⟩ | refine ⟨?_, ?_⟩ | refine fun ii hii => ?_ | omega | fail)
    · (repeat' first | exact trivial | exact rfl | exact sh0 rfl | exact Nat.le_refl _ | exact .inl shA | exact .inr ⟨rfl, rfl, rfl, rfl, rfl⟩ | exact .inl shB | exact fun h => h | refine ⟨?_, ?_, ?_, .inl ?_⟩ | refine ⟨?_, ?_⟩ | refine fun ii hii => ?_ | omega | fail)
  cases hh : hasB x n
  · rw [show wrE x n m = 11 by simp [wrE, hd, hh], show wrN x n m = x by simp [wrN, hh]]
    refine LCalls.tell ?_; refine enter68 rfl ?_; conv => whnf
    rewrite [hd]
    conv => whnf
    refine iteP_intro (fun hb => ?_) (fun hb => ?_)
    · rewrite [hb]
      conv => whnf
      refine ⟨[0, 1, 2], _, _, rfl, rfl, ?_, ?_, rfl, rfl⟩
      · (repeat' first | exact trivial | exact rfl | exact sh0 rfl | exact Nat.le_refl _ | exact .inl shA | exact .inr ⟨rfl, rfl, rfl, rfl, rfl⟩ | exact .inl shB | exact fun h => h | refine ⟨?_, ?_, ?_, .inl ?_⟩ | refine ⟨?_, ?_⟩ | refine fun ii hii => ?_ | omega | fail)
      · (repeat' first | exact trivial | exact rfl | exact sh0 rfl | exact Nat.le_refl _ | exact .inl shA | exact .inr ⟨rfl, rfl, rfl, rfl, rfl⟩ | exact .inl shB | exact fun h => h | refine ⟨?_, ?_, ?_, .inl ?_⟩ | refine ⟨?_, ?_⟩ | refine fun ii hii => ?_ | omega | fail)
    · rewrite [hb]
      have hb2 := of_decide_eq_false hb
      have hge : decide (n ≥ (x.last.length : Int)) = true := by
        simp only [hasB, Bool.and_eq_false_iff, decide_eq_false_iff_not] at hh
        rw [decide_eq_true_eq]
        omega
      conv => whnf
      rewrite [hge]
      conv => whnf
      refine ⟨[0, 1, 2], _, _, rfl, rfl, ?_, ?_, rfl, rfl⟩
      · (repeat' first | exact trivial | exact rfl | exact sh0 rfl | exact Nat.le_refl _ | exact .inl shA | exact .inr ⟨rfl, rfl, rfl, rfl, rfl⟩ | exact .inl shB | exact fun h => h | refine ⟨?_, ?_, ?_, .inl ?_⟩ | refine ⟨?_, ?_⟩ | refine fun ii hii => ?_ | omega | fail)
      · (repeat' first | exact trivial | exact rfl | exact sh0 rfl | exact Nat.le_refl _ | exact .inl shA | exact .inr ⟨rfl, rfl, rfl, rfl, rfl⟩ | exact .inl shB | exact fun h => h | refine ⟨?_, ?_, ?_, .inl ?_⟩ | refine ⟨?_, ?_⟩ | refine fun ii hii => ?_ | omega | fail)
  obtain ⟨q, rfl, h5⟩ := hasB_nat hh
  by_cases hm : 64 < m
  · rw [show wrE x q m = 2 by simp [wrE, hd, hh, hm], show wrN x q m = x by simp [wrN, Nat.not_le.2 hm]]
    refine LCalls.tell ?_; refine enter68 rfl ?_; conv => whnf
    rewrite [hd]
    conv => whnf
    rewrite [show decide ((q : Int) < 0) = false from decide_eq_false (by omega)]
    conv => whnf
    rewrite [show decide ((q : Int) ≥ (x.last.length : Int)) = false from decide_eq_false (by omega)]
    conv => whnf
    rewrite [show decide ((m : Int) > 64) = true from decide_eq_true (by omega)]
    conv => whnf
    refine ⟨[0, 1, 2], _, _, rfl, rfl, ?_, ?_, rfl, rfl⟩
    · (repeat' first | exact trivial | exact rfl | exact sh0 rfl | exact Nat.le_refl _ | exact .inl shA | exact .inr ⟨rfl, rfl, rfl, rfl, rfl⟩ | exact .inl shB | exact fun h => h | refine ⟨?_, ?_, ?_, .inl ?_⟩ | refine ⟨?_, ?_⟩ | refine fun ii hii => ?_ | omega | fail)
    · (repeat' first | exact trivial | exact rfl | exact sh0 rfl | exact Nat.le_refl _ | exact .inl shA | exact .inr ⟨rfl, rfl, rfl, rfl, rfl⟩ | exact .inl shB | exact fun h => h | refine ⟨?_, ?_, ?_, .inl ?_⟩ | refine ⟨?_, ?_⟩ | refine fun ii hii => ?_ | omega | fail)
  cases hg : goesB x
  · rw [show wrE x q m = 10 by simp [wrE, hd, hh, hm, hg], show wrN x q m = went x by simp [wrN, hd, hh, Nat.not_lt.1 hm]]
    refine LCalls.tell ?_; refine enter68 rfl ?_; conv => whnf
    rewrite [hd]
    conv => whnf
    rewrite [show decide ((q : Int) < 0) = false from decide_eq_false (by omega)]
    conv => whnf
    rewrite [show decide ((q : Int) ≥ (x.last.length : Int)) = false from decide_eq_false (by omega)]
    conv => whnf
    rewrite [show decide ((m : Int) > 64) = false from decide_eq_false (by omega)]
    conv => whnf
    refine LCalls.use (rGoes x) [0, 1, 2] rfl rfl ⟨rfl, rfl, rfl, trivial⟩ ?_
    rintro _ _ ⟨rfl, rfl⟩
    rewrite [hg]
    conv => whnf
    refine ⟨[0, 1, 2], _, _, rfl, rfl, ?_, ?_, rfl, rfl⟩
    · (repeat' first | exact trivial | exact rfl | exact sh0 rfl | exact Nat.le_refl _ | exact .inl shA | exact .inr ⟨rfl, rfl, rfl, rfl, rfl⟩ | exact .inl shB | exact fun h => h | refine ⟨?_, ?_, ?_, .inl ?_⟩ | refine ⟨?_, ?_⟩ | refine fun ii hii => ?_ | omega | fail)
    · (repeat' first | exact trivial | exact rfl | exact sh0 rfl | exact Nat.le_refl _ | exact .inl shA | exact .inr ⟨rfl, rfl, rfl, rfl, rfl⟩ | exact .inl shB | exact fun h => h | refine ⟨?_, ?_, ?_, .inl ?_⟩ | refine ⟨?_, ?_⟩ | refine fun ii hii => ?_ | omega | fail)
  · exact absurd (by simp [wrE, hd, hh, hm, hg]) h
theorem rWrite (τ : Nat) (x : Disk) (hw : Wf x) (n : Int) (b : Nat → Int) (m : Nat) (hp : x.pend.length < 1000000) : LCalls Try.prog 68 (.cons (.tok τ) (.cons (.int .i64 n) (.cons (bytesV m b) .nil))) [refR τ x] (fun e h' => e = .ret (.int .i64 (wrE x n m)) ∧ h' = [refR τ (wrD x n b m)]) := by
  by_cases h : wrE x n m = 0
  · obtain ⟨h1, h2, h3, h4⟩ := wrE_ok h
    obtain ⟨k, rfl, h5⟩ := hasB_nat h2
    rw [show wrD x k b m = wrS (went x) k b m by unfold wrD; rw [if_pos h, Int.toNat_natCast], h]
    refine LCalls.packed (ext := []) (rWrite_ok x k b m h1 (by rw [hw.len]; exact h5) h3 h4 hp) (fun _ => rfl) ⟨.inl ⟨rfl, rfl⟩, .inr rfl, .inr rfl, trivial⟩ ?_
    rintro _ _ ⟨rfl, rfl⟩
    refine ⟨[0, 1, 3], refH (wrS (went x) k b m), rfl, rfl, ⟨rfl, rfl, rfl, trivial⟩, ⟨trivial, trivial, trivial, trivial⟩, [], _, _, rfl, rfl, ?_, ?_, rfl, rfl⟩
    · (repeat' first | exact trivial | exact rfl | exact sh0 rfl | exact Nat.le_refl _ | exact .inl shA | exact .inr ⟨rfl, rfl, rfl, rfl, rfl⟩ | exact .inl shB | exact fun h => h | refine ⟨?_, ?_, ?_, .inl ?_⟩ | refine ⟨?_, ?_⟩ | refine fun ii hii => ?_ | omega | fail)
    · (repeat' first | exact trivial | exact rfl | exact sh0 rfl | exact Nat.le_refl _ | exact .inl shA | exact .inr ⟨rfl, rfl, rfl, rfl, rfl⟩ | exact .inl shB | exact fun h => h | refine ⟨?_, ?_, ?_, .inl ?_⟩ | refine ⟨?_, ?_⟩ | refine fun ii hii => ?_ | omega | fail)
  · rw [show wrD x n b m = wrN x n m by unfold wrD; rw [if_neg h]]
    refine LCalls.packed (ext := []) (rWrite_no x hw.len n b m h) (fun _ => rfl) ⟨.inl ⟨rfl, rfl⟩, .inr rfl, .inr rfl, trivial⟩ ?_
    rintro _ _ ⟨rfl, rfl⟩
    refine ⟨[0, 1, 2], refH (wrN x n m), rfl, rfl, ⟨rfl, rfl, rfl, trivial⟩, ⟨trivial, trivial, trivial, trivial⟩, [], _, _, rfl, rfl, ?_, ?_, rfl, rfl⟩
    · (repeat' first | exact trivial | exact rfl | exact sh0 rfl | exact Nat.le_refl _ | exact .inl shA | exact .inr ⟨rfl, rfl, rfl, rfl, rfl⟩ | exact .inl shB | exact fun h => h | refine ⟨?_, ?_, ?_, .inl ?_⟩ | refine ⟨?_, ?_⟩ | refine fun ii hii => ?_ | omega | fail)
    · (repeat' first | exact trivial | exact rfl | exact sh0 rfl | exact Nat.le_refl _ | exact .inl shA | exact .inr ⟨rfl, rfl, rfl, rfl, rfl⟩ | exact .inl shB | exact fun h => h | refine ⟨?_, ?_, ?_, .inl ?_⟩ | refine ⟨?_, ?_⟩ | refine fun ii hii => ?_ | omega | fail)
end Go.Proofs.Ytilmfhpoiejmfaa.Dk
