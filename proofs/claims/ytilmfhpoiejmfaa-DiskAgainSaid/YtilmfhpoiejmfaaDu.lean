/- The laws of the disk: both stand alike; acts; the chapter's examples. By this session. -/
import Derived.Test.YtilmfhpoiejmfaaDt
namespace Go.Proofs.Ytilmfhpoiejmfaa.Dk
open Go.Proofs.Ytilmfhpoiejmfaa.Lh
set_option maxRecDepth 100000
set_option linter.unusedSimpArgs false
set_option linter.unusedSectionVars false
set_option linter.unusedVariables false
variable [Fz]
theorem Inv_fresh (n : Nat) : Inv (fresh n) := ⟨⟨by simp [fresh], fun k hk => absurd hk (Nat.not_lt_zero _), Nat.zero_le _⟩, rfl⟩
theorem Inv_went {x : Disk} (h : Inv x) : Inv (went x) := by
  obtain ⟨h1, h2, h3⟩ := went_same x
  exact ⟨⟨by rw [h2, h1]; exact h.len, by rw [h3, h1]; exact h.at_, by rw [h3]; exact h.few⟩, by rw [h1, h2, h3]; exact h.eq⟩
theorem Inv_wrS {x : Disk} (h : Inv x) (n : Nat) (b : Nat → Int) (m : Nat) (hn : n < x.now.length) (hp : x.pend.length < 1000000) : Inv (wrS x n b m) := by
  refine ⟨⟨by simp [wrS, h.len], fun k hk => ?_, by simp [wrS]; omega⟩, ?_⟩
  · simp only [wrS, List.length_append, List.length_cons, List.length_nil, List.length_set] at hk ⊢
    by_cases c : k < x.pend.length
    · rw [List.getD_eq_getElem?_getD, List.getElem?_append_left c, ← List.getD_eq_getElem?_getD]
      exact h.at_ k c
    · have : k = x.pend.length := by omega
      subst this
      simp
      exact hn
  · show x.now.set n (cut b m) = wrote x.last (x.pend ++ [((n : Int), cut b m)])
    rw [wrote_app, ← h.eq]
    rfl
theorem Inv_wrD {x : Disk} (h : Inv x) (n : Int) (b : Nat → Int) (m : Nat) (hp : x.pend.length < 1000000) : Inv (wrD x n b m) := by
  unfold wrD
  split
  · rename_i hw
    obtain ⟨h1, h2, h3, h4⟩ := wrE_ok hw
    obtain ⟨k, rfl, h5⟩ := hasB_nat h2
    obtain ⟨w1, w2, w3⟩ := went_same x
    exact Inv_wrS (Inv_went h) _ b m (by rw [w1]; exact h5) (by rw [w3]; exact hp)
  · unfold wrN
    split
    · exact Inv_went h
    · exact h
theorem Inv_flD {x : Disk} (h : Inv x) : Inv (flD x) := by
  unfold flD
  split
  · exact h
  · split
    · have := Inv_went h
      exact ⟨⟨by show (wrote _ _).length = _; rw [wrote_len]; exact this.len, fun k hk => absurd hk (Nat.not_lt_zero _), Nat.zero_le _⟩, this.eq⟩
    · exact Inv_went h
theorem Inv_armed {x : Disk} (h : Inv x) (n : Int) : Inv (armed x n) := by
  unfold armed
  split
  · exact ⟨⟨h.len, h.at_, h.few⟩, h.eq⟩
  · exact h
theorem Inv_crashed {x : Disk} (h : Inv x) (q : Nat → Bool) : Inv (crashed x q) := ⟨⟨rfl, fun k hk => absurd hk (Nat.not_lt_zero _), Nat.zero_le _⟩, rfl⟩
theorem Inv_step {x : Disk} (h : Inv x) (a : Act) (hp : x.pend.length < 1000000) : Inv (step x a) := by
  unfold step
  repeat' split
  · exact Inv_wrD h _ _ _ hp
  · exact Inv_flD h
  · exact Inv_armed h _
  · exact Inv_crashed h _
  · exact h
theorem went_pend (x : Disk) : (went x).pend.length = x.pend.length := by rw [(went_same x).2.2]
theorem wrD_pend (x : Disk) (n : Int) (b : Nat → Int) (m : Nat) : (wrD x n b m).pend.length ≤ x.pend.length + 1 := by
  unfold wrD
  split
  · simp [wrS, went_pend]
  · unfold wrN
    split
    · rw [went_pend]; omega
    · omega
theorem step_pend (x : Disk) (a : Act) : (step x a).pend.length ≤ x.pend.length + 1 := by
  unfold step
  repeat' split
  · exact wrD_pend _ _ _ _
  · unfold flD
    repeat' split
    · omega
    · simp [flushed]
    · rw [went_pend]; omega
  · unfold armed
    split
    · exact Nat.le_succ _
    · exact Nat.le_succ _
  · simp [crashed]
  · exact Nat.le_succ _
theorem wrD_len (x : Disk) (n : Int) (b : Nat → Int) (m : Nat) : (wrD x n b m).now.length = x.now.length := by
  unfold wrD
  split
  · simp [wrS, (went_same x).1]
  · unfold wrN
    split
    · rw [(went_same x).1]
    · rfl
theorem step_len {x : Disk} (h : Inv x) (a : Act) : (step x a).now.length = x.now.length := by
  unfold step
  repeat' split
  · exact wrD_len _ _ _ _
  · unfold flD
    repeat' split
    · rfl
    · show (went x).now.length = _; rw [(went_same x).1]
    · rw [(went_same x).1]
  · unfold armed
    split <;> rfl
  · show (wrote _ _).length = _
    rw [wrote_len, h.len]
  · rfl
theorem same_x (τ : Nat) (x : Disk) (hi : Inv x) (hn : x.now.length ≤ 4096) : LCalls Try.prog 35 (.cons (.tok τ) (.cons (.ptr ⟨0, [], 0⟩) .nil)) (refH x ++ [diskR τ x]) (fun e h' => e = .ret (.bool true) ∧ h' = refH x ++ [diskR τ x]) := by
  have hl := hi.len
  refine LCalls.tell ?_; refine enter35 rfl ?_; conv => whnf
  refine LCalls.use (pending' τ x) [3] rfl rfl ⟨rfl, trivial⟩ ?_; rintro _ _ ⟨rfl, rfl⟩; conv => whnf
  refine LCalls.use (sectors' τ x) [3] rfl rfl ⟨rfl, trivial⟩ ?_; rintro _ _ ⟨rfl, rfl⟩; conv => whnf
  refine LCalls.use (up' τ x) [3] rfl rfl ⟨rfl, trivial⟩ ?_; rintro _ _ ⟨rfl, rfl⟩; conv => whnf
  rewrite [show ((x.pend.length : Int) != (x.pend.length : Int)) = false from by simp]
  conv => whnf
  rewrite [show ((x.now.length : Int) != (x.last.length : Int)) = false from by simp [hl]]
  conv => whnf
  rewrite [show ((!x.down) == x.down) = false from by cases x.down <;> rfl]
  conv => whnf
  refine Loop.inv (lwp_mono _) (fun j t h => ∃ (k : Nat), k ≤ 8 ∧ k ≤ x.now.length ∧ j = x.now.length - k ∧ t = [.tok τ, .ptr ⟨0, [], 0⟩, .any, .any, .any, .any, .int .i64 x.now.length, .any, .int .i64 k, .any, .any, .any, .any, .any, .any, .any, .any, .any, .any, .any, .any, .any, .any, .any, .any, .any, .any, .any, .any, .any, .any, .any, .any, .any, .any, .any, .any, .any, .any, .any, .any, .any, .any, .any, .any, .any, .any, .any, .any, .any, .any, .any, .any, .any, .any, .any, .any, .any, .any, .any, .any, .any, .any, .any, .any, .any, .any, .any, .any, .any, .any, .any, .any, .any, .any, .any, .any, .any, .any, .any, .any, .any, .any, .any, .any, .any, .any, .any, .any, .any, .any, .any, .any, .any, .any, .any, .any, .any, .any, .any, .any, .any, .any, .any] ∧ h = refH x ++ [diskR τ x]) ?_ ?_
  · refine ⟨_, _, _, ⟨[], trivial, [0, 1, 2, 3], rfl, rfl, ?_, ?_⟩, 0, by omega, Nat.zero_le _, rfl, rfl, rfl⟩
    · (repeat' first | exact trivial | exact rfl | exact Nat.le_of_ble_eq_true rfl | exact Nat.le_refl _ | exact .inl ⟨rfl, rfl, rfl, rfl, Nat.le_refl _, Nat.le_refl _, .inr rfl, Nat.le_of_ble_eq_true rfl⟩ | exact .inl ⟨rfl, rfl, rfl, rfl, Nat.le_refl _, Nat.le_refl _, .inl rfl, Nat.le_of_ble_eq_true rfl⟩ | exact .inr ⟨rfl, rfl, rfl, rfl, rfl⟩ | exact .inl ⟨rfl, rfl, rfl, (by first | omega | (simp; done) | (simp; omega)), (by first | omega | (simp; done) | (simp; omega)), (by first | omega | (simp; done) | (simp; omega)), .inr rfl, Nat.le_of_ble_eq_true rfl⟩ | exact .inl ⟨rfl, rfl, rfl, (by first | omega | (simp; done) | (simp; omega)), (by first | omega | (simp; done) | (simp; omega)), (by first | omega | (simp; done) | (simp; omega)), .inl rfl, Nat.le_of_ble_eq_true rfl⟩ | exact fun h => h | refine ⟨?_, ?_, ?_, .inl ?_⟩ | refine ⟨?_, ?_⟩ | refine fun ii hii => ?_ | omega | fail)
    · (repeat' first | exact trivial | exact rfl | exact Nat.le_of_ble_eq_true rfl | exact Nat.le_refl _ | exact .inl ⟨rfl, rfl, rfl, rfl, Nat.le_refl _, Nat.le_refl _, .inr rfl, Nat.le_of_ble_eq_true rfl⟩ | exact .inl ⟨rfl, rfl, rfl, rfl, Nat.le_refl _, Nat.le_refl _, .inl rfl, Nat.le_of_ble_eq_true rfl⟩ | exact .inr ⟨rfl, rfl, rfl, rfl, rfl⟩ | exact .inl ⟨rfl, rfl, rfl, (by first | omega | (simp; done) | (simp; omega)), (by first | omega | (simp; done) | (simp; omega)), (by first | omega | (simp; done) | (simp; omega)), .inr rfl, Nat.le_of_ble_eq_true rfl⟩ | exact .inl ⟨rfl, rfl, rfl, (by first | omega | (simp; done) | (simp; omega)), (by first | omega | (simp; done) | (simp; omega)), (by first | omega | (simp; done) | (simp; omega)), .inl rfl, Nat.le_of_ble_eq_true rfl⟩ | exact fun h => h | refine ⟨?_, ?_, ?_, .inl ?_⟩ | refine ⟨?_, ?_⟩ | refine fun ii hii => ?_ | omega | fail)
  · rintro j _ _ ⟨k, hk8, hk, rfl, rfl, rfl⟩
    conv => whnf
    refine iteP_intro (fun hb => ?_) (fun hb => ?_)
    · rewrite [hb]
      have hb3 := of_decide_eq_true hb
      conv => whnf
      refine iteP_intro (fun hc => ?_) (fun hc => ?_)
      · rewrite [hc]
        have hc3 := of_decide_eq_true hc
        conv => whnf
        refine LCalls.use (read' τ x k) [3] rfl rfl ⟨rfl, trivial⟩ ?_; rintro _ _ ⟨rfl, rfl⟩; conv => whnf
        refine LCalls.use (rRead_x x hi k) [0, 1, 2] rfl rfl ⟨rfl, rfl, rfl, trivial⟩ ?_; rintro _ _ ⟨rfl, rfl⟩; conv => whnf
        refine LCalls.use (Same _ _ _ _ (by split <;> omega)) [] rfl rfl trivial ?_; rintro _ _ ⟨rfl, rfl⟩; conv => whnf
        rewrite [sameB_refl]
        conv => whnf
        refine LCalls.use (lasting' τ x hl k) [3] rfl rfl ⟨rfl, trivial⟩ ?_; rintro _ _ ⟨rfl, rfl⟩; conv => whnf
        refine LCalls.use (rLasting_x x hi k) [0, 1, 2] rfl rfl ⟨rfl, rfl, rfl, trivial⟩ ?_; rintro _ _ ⟨rfl, rfl⟩; conv => whnf
        refine LCalls.use (Same _ _ _ _ (by split <;> omega)) [] rfl rfl trivial ?_; rintro _ _ ⟨rfl, rfl⟩; conv => whnf
        rewrite [sameB_refl]
        conv => whnf
        rewrite [show (rdE x k != rdE x k) = false from by simp]
        conv => whnf
        rewrite [show (laE x k != laE x k) = false from by simp]
        conv => whnf
        rewrite [wrapS (by omega)]
        refine ⟨_, _, _, ?_, ⟨[], trivial, [0, 1, 2, 3], rfl, rfl, ?_, ?_⟩, k + 1, by omega, by omega, rfl, rfl, rfl⟩
        · omega
        · (repeat' first | exact trivial | exact rfl | exact Nat.le_of_ble_eq_true rfl | exact Nat.le_refl _ | exact .inl ⟨rfl, rfl, rfl, rfl, Nat.le_refl _, Nat.le_refl _, .inr rfl, Nat.le_of_ble_eq_true rfl⟩ | exact .inl ⟨rfl, rfl, rfl, rfl, Nat.le_refl _, Nat.le_refl _, .inl rfl, Nat.le_of_ble_eq_true rfl⟩ | exact .inr ⟨rfl, rfl, rfl, rfl, rfl⟩ | exact .inl ⟨rfl, rfl, rfl, (by first | omega | (simp; done) | (simp; omega)), (by first | omega | (simp; done) | (simp; omega)), (by first | omega | (simp; done) | (simp; omega)), .inr rfl, Nat.le_of_ble_eq_true rfl⟩ | exact .inl ⟨rfl, rfl, rfl, (by first | omega | (simp; done) | (simp; omega)), (by first | omega | (simp; done) | (simp; omega)), (by first | omega | (simp; done) | (simp; omega)), .inl rfl, Nat.le_of_ble_eq_true rfl⟩ | exact fun h => h | refine ⟨?_, ?_, ?_, .inl ?_⟩ | refine ⟨?_, ?_⟩ | refine fun ii hii => ?_ | omega | fail)
        · (repeat' first | exact trivial | exact rfl | exact Nat.le_of_ble_eq_true rfl | exact Nat.le_refl _ | exact .inl ⟨rfl, rfl, rfl, rfl, Nat.le_refl _, Nat.le_refl _, .inr rfl, Nat.le_of_ble_eq_true rfl⟩ | exact .inl ⟨rfl, rfl, rfl, rfl, Nat.le_refl _, Nat.le_refl _, .inl rfl, Nat.le_of_ble_eq_true rfl⟩ | exact .inr ⟨rfl, rfl, rfl, rfl, rfl⟩ | exact .inl ⟨rfl, rfl, rfl, (by first | omega | (simp; done) | (simp; omega)), (by first | omega | (simp; done) | (simp; omega)), (by first | omega | (simp; done) | (simp; omega)), .inr rfl, Nat.le_of_ble_eq_true rfl⟩ | exact .inl ⟨rfl, rfl, rfl, (by first | omega | (simp; done) | (simp; omega)), (by first | omega | (simp; done) | (simp; omega)), (by first | omega | (simp; done) | (simp; omega)), .inl rfl, Nat.le_of_ble_eq_true rfl⟩ | exact fun h => h | refine ⟨?_, ?_, ?_, .inl ?_⟩ | refine ⟨?_, ?_⟩ | refine fun ii hii => ?_ | omega | fail)
      · rewrite [hc]
        conv => whnf
        refine ⟨[0, 1, 2, 3], _, _, rfl, rfl, ?_, ?_, rfl, rfl⟩
        · (repeat' first | exact trivial | exact rfl | exact Nat.le_of_ble_eq_true rfl | exact Nat.le_refl _ | exact .inl ⟨rfl, rfl, rfl, rfl, Nat.le_refl _, Nat.le_refl _, .inr rfl, Nat.le_of_ble_eq_true rfl⟩ | exact .inl ⟨rfl, rfl, rfl, rfl, Nat.le_refl _, Nat.le_refl _, .inl rfl, Nat.le_of_ble_eq_true rfl⟩ | exact .inr ⟨rfl, rfl, rfl, rfl, rfl⟩ | exact .inl ⟨rfl, rfl, rfl, (by first | omega | (simp; done) | (simp; omega)), (by first | omega | (simp; done) | (simp; omega)), (by first | omega | (simp; done) | (simp; omega)), .inr rfl, Nat.le_of_ble_eq_true rfl⟩ | exact .inl ⟨rfl, rfl, rfl, (by first | omega | (simp; done) | (simp; omega)), (by first | omega | (simp; done) | (simp; omega)), (by first | omega | (simp; done) | (simp; omega)), .inl rfl, Nat.le_of_ble_eq_true rfl⟩ | exact fun h => h | refine ⟨?_, ?_, ?_, .inl ?_⟩ | refine ⟨?_, ?_⟩ | refine fun ii hii => ?_ | omega | fail)
        · (repeat' first | exact trivial | exact rfl | exact Nat.le_of_ble_eq_true rfl | exact Nat.le_refl _ | exact .inl ⟨rfl, rfl, rfl, rfl, Nat.le_refl _, Nat.le_refl _, .inr rfl, Nat.le_of_ble_eq_true rfl⟩ | exact .inl ⟨rfl, rfl, rfl, rfl, Nat.le_refl _, Nat.le_refl _, .inl rfl, Nat.le_of_ble_eq_true rfl⟩ | exact .inr ⟨rfl, rfl, rfl, rfl, rfl⟩ | exact .inl ⟨rfl, rfl, rfl, (by first | omega | (simp; done) | (simp; omega)), (by first | omega | (simp; done) | (simp; omega)), (by first | omega | (simp; done) | (simp; omega)), .inr rfl, Nat.le_of_ble_eq_true rfl⟩ | exact .inl ⟨rfl, rfl, rfl, (by first | omega | (simp; done) | (simp; omega)), (by first | omega | (simp; done) | (simp; omega)), (by first | omega | (simp; done) | (simp; omega)), .inl rfl, Nat.le_of_ble_eq_true rfl⟩ | exact fun h => h | refine ⟨?_, ?_, ?_, .inl ?_⟩ | refine ⟨?_, ?_⟩ | refine fun ii hii => ?_ | omega | fail)
    · rewrite [hb]
      conv => whnf
      refine ⟨[0, 1, 2, 3], _, _, rfl, rfl, ?_, ?_, rfl, rfl⟩
      · (repeat' first | exact trivial | exact rfl | exact Nat.le_of_ble_eq_true rfl | exact Nat.le_refl _ | exact .inl ⟨rfl, rfl, rfl, rfl, Nat.le_refl _, Nat.le_refl _, .inr rfl, Nat.le_of_ble_eq_true rfl⟩ | exact .inl ⟨rfl, rfl, rfl, rfl, Nat.le_refl _, Nat.le_refl _, .inl rfl, Nat.le_of_ble_eq_true rfl⟩ | exact .inr ⟨rfl, rfl, rfl, rfl, rfl⟩ | exact .inl ⟨rfl, rfl, rfl, (by first | omega | (simp; done) | (simp; omega)), (by first | omega | (simp; done) | (simp; omega)), (by first | omega | (simp; done) | (simp; omega)), .inr rfl, Nat.le_of_ble_eq_true rfl⟩ | exact .inl ⟨rfl, rfl, rfl, (by first | omega | (simp; done) | (simp; omega)), (by first | omega | (simp; done) | (simp; omega)), (by first | omega | (simp; done) | (simp; omega)), .inl rfl, Nat.le_of_ble_eq_true rfl⟩ | exact fun h => h | refine ⟨?_, ?_, ?_, .inl ?_⟩ | refine ⟨?_, ?_⟩ | refine fun ii hii => ?_ | omega | fail)
      · (repeat' first | exact trivial | exact rfl | exact Nat.le_of_ble_eq_true rfl | exact Nat.le_refl _ | exact .inl ⟨rfl, rfl, rfl, rfl, Nat.le_refl _, Nat.le_refl _, .inr rfl, Nat.le_of_ble_eq_true rfl⟩ | exact .inl ⟨rfl, rfl, rfl, rfl, Nat.le_refl _, Nat.le_refl _, .inl rfl, Nat.le_of_ble_eq_true rfl⟩ | exact .inr ⟨rfl, rfl, rfl, rfl, rfl⟩ | exact .inl ⟨rfl, rfl, rfl, (by first | omega | (simp; done) | (simp; omega)), (by first | omega | (simp; done) | (simp; omega)), (by first | omega | (simp; done) | (simp; omega)), .inr rfl, Nat.le_of_ble_eq_true rfl⟩ | exact .inl ⟨rfl, rfl, rfl, (by first | omega | (simp; done) | (simp; omega)), (by first | omega | (simp; done) | (simp; omega)), (by first | omega | (simp; done) | (simp; omega)), .inl rfl, Nat.le_of_ble_eq_true rfl⟩ | exact fun h => h | refine ⟨?_, ?_, ?_, .inl ?_⟩ | refine ⟨?_, ?_⟩ | refine fun ii hii => ?_ | omega | fail)
theorem same' (τ σ : Nat) (x : Disk) (hi : Inv x) (hn : x.now.length ≤ 4096) : LCalls Try.prog 35 (.cons (.tok τ) (.cons (.tok σ) .nil)) [refR σ x, diskR τ x] (fun e h' => e = .ret (.bool true) ∧ h' = [refR σ x, diskR τ x]) := by
  refine LCalls.packed (h := refH x) (ext := [diskR τ x]) (same_x τ x hi hn) (fun _ => rfl) ⟨.inr rfl, .inl ⟨rfl, rfl⟩, trivial⟩ ?_
  rintro _ _ ⟨rfl, rfl⟩
  refine ⟨[0, 1, 2], refH x, rfl, rfl, ⟨rfl, rfl, rfl, trivial⟩, ⟨trivial, trivial, trivial, trivial⟩, [3], _, _, rfl, rfl, ?_, ?_, rfl, rfl⟩
  · (repeat' first | exact trivial | exact rfl | exact Nat.le_of_ble_eq_true rfl | exact Nat.le_refl _ | exact .inl ⟨rfl, rfl, rfl, rfl, Nat.le_refl _, Nat.le_refl _, .inr rfl, Nat.le_of_ble_eq_true rfl⟩ | exact .inl ⟨rfl, rfl, rfl, rfl, Nat.le_refl _, Nat.le_refl _, .inl rfl, Nat.le_of_ble_eq_true rfl⟩ | exact .inr ⟨rfl, rfl, rfl, rfl, rfl⟩ | exact .inl ⟨rfl, rfl, rfl, (by first | omega | (simp; done) | (simp; omega)), (by first | omega | (simp; done) | (simp; omega)), (by first | omega | (simp; done) | (simp; omega)), .inr rfl, Nat.le_of_ble_eq_true rfl⟩ | exact .inl ⟨rfl, rfl, rfl, (by first | omega | (simp; done) | (simp; omega)), (by first | omega | (simp; done) | (simp; omega)), (by first | omega | (simp; done) | (simp; omega)), .inl rfl, Nat.le_of_ble_eq_true rfl⟩ | exact fun h => h | refine ⟨?_, ?_, ?_, .inl ?_⟩ | refine ⟨?_, ?_⟩ | refine fun ii hii => ?_ | omega | fail)
  · (repeat' first | exact trivial | exact rfl | exact Nat.le_of_ble_eq_true rfl | exact Nat.le_refl _ | exact .inl ⟨rfl, rfl, rfl, rfl, Nat.le_refl _, Nat.le_refl _, .inr rfl, Nat.le_of_ble_eq_true rfl⟩ | exact .inl ⟨rfl, rfl, rfl, rfl, Nat.le_refl _, Nat.le_refl _, .inl rfl, Nat.le_of_ble_eq_true rfl⟩ | exact .inr ⟨rfl, rfl, rfl, rfl, rfl⟩ | exact .inl ⟨rfl, rfl, rfl, (by first | omega | (simp; done) | (simp; omega)), (by first | omega | (simp; done) | (simp; omega)), (by first | omega | (simp; done) | (simp; omega)), .inr rfl, Nat.le_of_ble_eq_true rfl⟩ | exact .inl ⟨rfl, rfl, rfl, (by first | omega | (simp; done) | (simp; omega)), (by first | omega | (simp; done) | (simp; omega)), (by first | omega | (simp; done) | (simp; omega)), .inl rfl, Nat.le_of_ble_eq_true rfl⟩ | exact fun h => h | refine ⟨?_, ?_, ?_, .inl ?_⟩ | refine ⟨?_, ?_⟩ | refine fun ii hii => ?_ | omega | fail)
end Go.Proofs.Ytilmfhpoiejmfaa.Dk
