/- The laws of the disk: DiskArms. By this session. -/
import Derived.Test.YtilmfhpoiejmfaaDw
namespace Go.Proofs.Ytilmfhpoiejmfaa.Dk
open Go.Proofs.Ytilmfhpoiejmfaa.Lh
set_option maxRecDepth 100000
set_option linter.unusedSimpArgs false
set_option linter.unusedSectionVars false
set_option linter.unusedVariables false
variable [Fz]
theorem crash0 (τ : Nat) (x : Disk) (hw : Wf x) : LCalls Try.prog 27 (.cons (.tok τ) (.cons (.slice ⟨0, [], 0⟩ 0 0 0 0 (some 0)) .nil)) [diskR τ x] (fun e h' => e = .ret (.int .i64 (picked (keepQ 0 fun _ => false) x.pend).length) ∧ h' = [diskR τ (crashed x (keepQ 0 fun _ => false))]) := by
  refine LCalls.pre [0] (.cons (.tok τ) (.cons (boolS 0 (fun _ => false)) .nil)) [diskR τ x] rfl rfl ?_ ?_ (crash' τ x hw 0 _)
  · exact ⟨rfl, .inl ⟨rfl, rfl⟩, trivial⟩
  · (repeat' first | exact trivial | exact rfl | exact Nat.le_of_ble_eq_true rfl | exact Nat.le_refl _ | exact .inl ⟨rfl, rfl, rfl, rfl, Nat.le_refl _, Nat.le_refl _, .inr rfl, Nat.le_of_ble_eq_true rfl⟩ | exact .inl ⟨rfl, rfl, rfl, rfl, Nat.le_refl _, Nat.le_refl _, .inl rfl, Nat.le_of_ble_eq_true rfl⟩ | exact .inr ⟨rfl, rfl, rfl, rfl, rfl⟩ | exact .inl ⟨rfl, rfl, rfl, (by first | omega | (simp; done) | (simp; omega)), (by first | omega | (simp; done) | (simp; omega)), (by first | omega | (simp; done) | (simp; omega)), .inr rfl, Nat.le_of_ble_eq_true rfl⟩ | exact .inl ⟨rfl, rfl, rfl, (by first | omega | (simp; done) | (simp; omega)), (by first | omega | (simp; done) | (simp; omega)), (by first | omega | (simp; done) | (simp; omega)), .inl rfl, Nat.le_of_ble_eq_true rfl⟩ | exact fun h => h | refine ⟨?_, ?_, ?_, .inl ?_⟩ | refine ⟨?_, ?_⟩ | refine fun ii hii => ?_ | omega | fail)
structure armJ (M i : Nat) (x : Disk) : Prop where
  inv : Inv x
  len : x.now.length = 1
  few : x.pend.length ≤ i
  up : i ≤ M → x.down = false ∧ x.left = (M : Int) - i
  off : M < i → x.down = true
theorem went_pos {x : Disk} {L : Int} (h : x.left = L) (h1 : 0 < L) (h2 : L < 9223372036854775808) : went x = { x with left := L - 1 } ∧ goesB x = true := by
  refine ⟨?_, ?_⟩
  · unfold went
    rw [if_neg (by omega), if_neg (by omega), h, show IntKind.i64.wrap (L + -1) = L - 1 by simp [IntKind.wrap, IntKind.bits, IntKind.signed]; omega]
  · unfold goesB
    rw [h]
    simp
    omega
theorem went_zero {x : Disk} (h : x.left = 0) : went x = { x with down := true } ∧ goesB x = false := by
  refine ⟨?_, ?_⟩
  · unfold went
    rw [if_neg (by omega), if_pos h]
  · unfold goesB
    rw [h]
    rfl
theorem armJ.fl {M i : Nat} {x : Disk} (h : armJ M i x) (hM : M < 9223372036854775808) : armJ M (i + 1) (flD x) ∧ flE x = if i < M then 0 else 10 := by
  have hI := Inv_flD h.inv
  rcases Nat.lt_trichotomy i M with c | c | c
  · obtain ⟨h1, h2⟩ := h.up (by omega)
    obtain ⟨g1, g2⟩ := went_pos h2 (by omega) (by omega)
    have e : flD x = flushed { x with left := (M : Int) - i - 1 } := by unfold flD; rw [if_neg (by rw [h1]; decide), if_pos g2, g1]
    refine ⟨⟨hI, by rw [e]; exact h.len, by rw [e]; exact Nat.zero_le _, fun _ => by rw [e]; exact ⟨h1, by show (M : Int) - i - 1 = _; omega⟩, fun _ => by omega⟩, ?_⟩
    unfold flE; rw [if_neg (by rw [h1]; decide), if_pos g2, if_pos c]
  · obtain ⟨h1, h2⟩ := h.up (by omega)
    obtain ⟨g1, g2⟩ := went_zero (x := x) (by omega)
    have e : flD x = { x with down := true } := by unfold flD; rw [if_neg (by rw [h1]; decide), if_neg (by rw [g2]; decide), g1]
    refine ⟨⟨hI, by rw [e]; exact h.len, by rw [e]; exact Nat.le_succ_of_le h.few, fun _ => by omega, fun _ => by rw [e]⟩, ?_⟩
    unfold flE; rw [if_neg (by rw [h1]; decide), if_neg (by rw [g2]; decide), if_neg (by omega)]
  · have h1 := h.off c
    have e : flD x = x := by unfold flD; rw [if_pos h1]
    rw [e]
    refine ⟨⟨h.inv, h.len, Nat.le_succ_of_le h.few, fun _ => by omega, fun _ => h1⟩, ?_⟩
    unfold flE; rw [if_pos h1, if_neg (by omega)]
theorem armJ.wr {M i : Nat} {x : Disk} (h : armJ M i x) (hM : M < 9223372036854775808) (hi : i < 1000000) (v : Int) : armJ M (i + 1) (wrD x 0 (fun _ => v) 1) ∧ wrE x 0 1 = if i < M then 0 else 10 := by
  have hI := Inv_wrD h.inv 0 (fun _ => v) 1 (by have := h.few; omega)
  have hB : hasB x 0 = true := by unfold hasB; rw [h.len]; rfl
  rcases Nat.lt_trichotomy i M with c | c | c
  · obtain ⟨h1, h2⟩ := h.up (by omega)
    obtain ⟨g1, g2⟩ := went_pos h2 (by omega) (by omega)
    have e0 : wrE x 0 1 = 0 := by unfold wrE; rw [h1, hB, g2]; rfl
    have e : wrD x 0 (fun _ => v) 1 = wrS { x with left := (M : Int) - i - 1 } 0 (fun _ => v) 1 := by unfold wrD; rw [if_pos e0, g1]; rfl
    refine ⟨⟨hI, ?_, ?_, fun _ => ?_, fun _ => by omega⟩, by rw [e0, if_pos c]⟩
    · rw [e]; show (x.now.set _ _).length = 1; rw [List.length_set]; exact h.len
    · rw [e]; show (x.pend ++ _).length ≤ _; rw [List.length_append]; exact Nat.succ_le_succ h.few
    · rw [e]; exact ⟨h1, by show (M : Int) - i - 1 = _; omega⟩
  · obtain ⟨h1, h2⟩ := h.up (by omega)
    obtain ⟨g1, g2⟩ := went_zero (x := x) (by omega)
    have e0 : wrE x 0 1 = 10 := by unfold wrE; rw [h1, hB, g2]; rfl
    have e : wrD x 0 (fun _ => v) 1 = { x with down := true } := by unfold wrD; rw [e0, if_neg (by decide)]; unfold wrN; rw [if_pos ⟨h1, hB, by omega⟩, g1]
    refine ⟨⟨hI, by rw [e]; exact h.len, by rw [e]; exact Nat.le_succ_of_le h.few, fun _ => by omega, fun _ => by rw [e]⟩, by rw [e0, if_neg (by omega)]⟩
  · have h1 := h.off c
    have e0 : wrE x 0 1 = 10 := by unfold wrE; rw [if_pos h1]
    have e : wrD x 0 (fun _ => v) 1 = x := by unfold wrD; rw [e0, if_neg (by decide)]; unfold wrN; rw [if_neg (by rw [h1]; simp)]
    rw [e]
    exact ⟨⟨h.inv, h.len, Nat.le_succ_of_le h.few, fun _ => by omega, fun _ => h1⟩, by rw [e0, if_neg (by omega)]⟩
theorem armJ.rd {M i : Nat} {x : Disk} (h : armJ M i x) : rdE x 0 = if i ≤ M then 0 else 10 := by
  have hB : hasB x 0 = true := by unfold hasB; rw [h.len]; rfl
  unfold rdE
  by_cases c : i ≤ M
  · rw [(h.up c).1, hB, if_pos c]; rfl
  · rw [h.off (by omega), if_neg c]; rfl
theorem wf_lt {n : Int} (h : (Lit.int .i64 n).wf = true) : n < 9223372036854775808 := by
  simp [Lit.wf, IntKind.wrap, IntKind.bits, IntKind.signed] at h
  omega
theorem after {x : Disk} (h : x.now.length = 1) (hi : Inv x) : wrE (crashed x (keepQ 0 fun _ => false)) 0 1 = 0 := by
  have hB : hasB (crashed x (keepQ 0 fun _ => false)) 0 = true := by
    unfold hasB
    rw [show (crashed x (keepQ 0 fun _ => false)).now.length = 1 by show (wrote x.last _).length = 1; rw [wrote_len, hi.len, h]]
    rfl
  unfold wrE
  rw [hB]
  rfl
theorem diskArms (many : Int) (m : Nat) (b : Nat → Bool) (hw : (Lit.int .i64 many).wf = true) : LCalls Try.prog 3 (.cons (.int .i64 many) (.cons (boolS m b) .nil)) [] (fun e _ => e = .ret (.bool true)) := by
  suffices h : LCalls Try.prog 3 (.cons (.int .i64 many) (.cons (boolS m b) .nil)) [] (fun e h' => e = .ret (.bool true) ∧ h' = []) from h.mono fun e h' q => q.1
  refine LCalls.tell ?_; refine enter3 rfl ?_; conv => whnf
  refine LCalls.use (awake) [] rfl rfl trivial ?_; rintro _ _ ⟨rfl, rfl⟩; conv => whnf
  refine LCalls.use (new_ok' 1 (by omega) (by omega)) [] rfl rfl trivial ?_
  rintro _ _ ⟨τ, rfl, rfl⟩
  conv => whnf
  refine LCalls.use (arm' τ (fresh 1) many) [0] rfl rfl ⟨rfl, trivial⟩ ?_; rintro _ _ ⟨rfl, rfl⟩; conv => whnf
  by_cases hn : many < 0
  · rewrite [show armE (fresh 1) many = 1 from if_pos hn, show decide (many < 0) = true from decide_eq_true hn]
    conv => whnf
    refine ⟨[], _, _, rfl, rfl, ?_, ?_, rfl, rfl⟩
    · (repeat' first | exact trivial | exact rfl | exact Nat.le_of_ble_eq_true rfl | exact Nat.le_refl _ | exact .inl ⟨rfl, rfl, rfl, rfl, Nat.le_refl _, Nat.le_refl _, .inr rfl, Nat.le_of_ble_eq_true rfl⟩ | exact .inl ⟨rfl, rfl, rfl, rfl, Nat.le_refl _, Nat.le_refl _, .inl rfl, Nat.le_of_ble_eq_true rfl⟩ | exact .inr ⟨rfl, rfl, rfl, rfl, rfl⟩ | exact .inl ⟨rfl, rfl, rfl, (by first | omega | (simp; done) | (simp; omega)), (by first | omega | (simp; done) | (simp; omega)), (by first | omega | (simp; done) | (simp; omega)), .inr rfl, Nat.le_of_ble_eq_true rfl⟩ | exact .inl ⟨rfl, rfl, rfl, (by first | omega | (simp; done) | (simp; omega)), (by first | omega | (simp; done) | (simp; omega)), (by first | omega | (simp; done) | (simp; omega)), .inl rfl, Nat.le_of_ble_eq_true rfl⟩ | exact fun h => h | refine ⟨?_, ?_, ?_, .inl ?_⟩ | refine ⟨?_, ?_⟩ | refine fun ii hii => ?_ | omega | fail)
    · (repeat' first | exact trivial | exact rfl | exact Nat.le_of_ble_eq_true rfl | exact Nat.le_refl _ | exact .inl ⟨rfl, rfl, rfl, rfl, Nat.le_refl _, Nat.le_refl _, .inr rfl, Nat.le_of_ble_eq_true rfl⟩ | exact .inl ⟨rfl, rfl, rfl, rfl, Nat.le_refl _, Nat.le_refl _, .inl rfl, Nat.le_of_ble_eq_true rfl⟩ | exact .inr ⟨rfl, rfl, rfl, rfl, rfl⟩ | exact .inl ⟨rfl, rfl, rfl, (by first | omega | (simp; done) | (simp; omega)), (by first | omega | (simp; done) | (simp; omega)), (by first | omega | (simp; done) | (simp; omega)), .inr rfl, Nat.le_of_ble_eq_true rfl⟩ | exact .inl ⟨rfl, rfl, rfl, (by first | omega | (simp; done) | (simp; omega)), (by first | omega | (simp; done) | (simp; omega)), (by first | omega | (simp; done) | (simp; omega)), .inl rfl, Nat.le_of_ble_eq_true rfl⟩ | exact fun h => h | refine ⟨?_, ?_, ?_, .inl ?_⟩ | refine ⟨?_, ?_⟩ | refine fun ii hii => ?_ | omega | fail)
  rewrite [show armE (fresh 1) many = 0 from (if_neg hn).trans (if_neg (by decide)), show decide (many < 0) = false from decide_eq_false hn]
  conv => whnf
  have hw2 : many < 9223372036854775808 := by
    exact wf_lt hw
  obtain ⟨M, rfl⟩ : ∃ M : Nat, many = M := ⟨many.toNat, by omega⟩
  have hJ : armJ M 0 (armed (fresh 1) M) := by
    have e : armed (fresh 1) M = { fresh 1 with left := (M : Int) } := if_pos ((if_neg hn).trans (if_neg (by decide)))
    exact ⟨Inv_armed (Inv_fresh 1) _, by rw [e]; rfl, by rw [e]; exact Nat.le_refl _, fun _ => by rw [e]; exact ⟨rfl, by show (M : Int) = _; omega⟩, fun h => by omega⟩
  generalize armed (fresh 1) M = y at *
  refine Loop.inv (lwp_mono _) (fun j t h => ∃ (k : Nat) (x : Disk), armJ M k x ∧ k ≤ 100 ∧ k ≤ m ∧ j = 100 - k ∧ t = [.int .i64 M, boolS m b, .any, .any, .any, .bool true, .tok τ, .any, .int .i64 0, .int .i64 k, .any, .any, .any, .any, .any, .any, .any, .any, .any, .any, .any, .any, .any, .any, .any, .any, .any, .any, .any, .any, .any, .any, .any, .any, .any, .any, .any, .any, .any, .any, .any, .any, .any, .any, .any, .any, .any, .any, .any, .any, .any, .any, .any, .any, .any, .any, .any, .any, .any, .any, .any, .any, .any, .any, .any, .any, .any, .any, .any, .any, .any, .any, .any, .any, .any, .any, .any, .any, .any, .any, .any, .any, .any, .any, .any, .any, .any, .any, .any, .any, .any, .any, .any, .any, .any, .any, .any, .any, .any, .any, .any, .any, .any, .any] ∧ h = [diskR τ x]) ?_ ?_
  · refine ⟨_, _, _, ⟨[], trivial, [0], rfl, rfl, ?_, ?_⟩, 0, y, hJ, by omega, Nat.zero_le _, rfl, rfl, rfl⟩
    · (repeat' first | exact trivial | exact rfl | exact Nat.le_of_ble_eq_true rfl | exact Nat.le_refl _ | exact .inl ⟨rfl, rfl, rfl, rfl, Nat.le_refl _, Nat.le_refl _, .inr rfl, Nat.le_of_ble_eq_true rfl⟩ | exact .inl ⟨rfl, rfl, rfl, rfl, Nat.le_refl _, Nat.le_refl _, .inl rfl, Nat.le_of_ble_eq_true rfl⟩ | exact .inr ⟨rfl, rfl, rfl, rfl, rfl⟩ | exact .inl ⟨rfl, rfl, rfl, (by first | omega | (simp; done) | (simp; omega)), (by first | omega | (simp; done) | (simp; omega)), (by first | omega | (simp; done) | (simp; omega)), .inr rfl, Nat.le_of_ble_eq_true rfl⟩ | exact .inl ⟨rfl, rfl, rfl, (by first | omega | (simp; done) | (simp; omega)), (by first | omega | (simp; done) | (simp; omega)), (by first | omega | (simp; done) | (simp; omega)), .inl rfl, Nat.le_of_ble_eq_true rfl⟩ | exact fun h => h | refine ⟨?_, ?_, ?_, .inl ?_⟩ | refine ⟨?_, ?_⟩ | refine fun ii hii => ?_ | omega | fail)
    · (repeat' first | exact trivial | exact rfl | exact Nat.le_of_ble_eq_true rfl | exact Nat.le_refl _ | exact .inl ⟨rfl, rfl, rfl, rfl, Nat.le_refl _, Nat.le_refl _, .inr rfl, Nat.le_of_ble_eq_true rfl⟩ | exact .inl ⟨rfl, rfl, rfl, rfl, Nat.le_refl _, Nat.le_refl _, .inl rfl, Nat.le_of_ble_eq_true rfl⟩ | exact .inr ⟨rfl, rfl, rfl, rfl, rfl⟩ | exact .inl ⟨rfl, rfl, rfl, (by first | omega | (simp; done) | (simp; omega)), (by first | omega | (simp; done) | (simp; omega)), (by first | omega | (simp; done) | (simp; omega)), .inr rfl, Nat.le_of_ble_eq_true rfl⟩ | exact .inl ⟨rfl, rfl, rfl, (by first | omega | (simp; done) | (simp; omega)), (by first | omega | (simp; done) | (simp; omega)), (by first | omega | (simp; done) | (simp; omega)), .inl rfl, Nat.le_of_ble_eq_true rfl⟩ | exact fun h => h | refine ⟨?_, ?_, ?_, .inl ?_⟩ | refine ⟨?_, ?_⟩ | refine fun ii hii => ?_ | omega | fail)
  · rintro j _ _ ⟨k, x, hJ, hk, hk2, rfl, rfl, rfl⟩
    conv => whnf
    by_cases c : k < m ∧ k < 100
    · rewrite [show decide ((k : Int) < (m : Int)) = true from decide_eq_true (by omega)]
      (conv => whnf); (repeat (refine And.intro (by first | omega | (dsimp only; omega)) ?_; conv => whnf))
      rewrite [show decide ((k : Int) < 100) = true from decide_eq_true (by omega)]
      (conv => whnf); (repeat (refine And.intro (by first | omega | (dsimp only; omega)) ?_; conv => whnf))
      have d1 : decide ((k : Int) ≥ (M : Int)) = decide (M ≤ k) := by congr 1; simp
      have d2 : decide ((k : Int) > (M : Int)) = decide (M < k) := by congr 1; simp
      have d3 : decide ((k : Int) ≤ (M : Int)) = decide (k ≤ M) := by congr 1; simp
      have hM : M < 9223372036854775808 := by omega
      have hk3 : k < 1000000 := by omega
      have hk4 : x.pend.length < 1000000 := Nat.lt_of_le_of_lt hJ.few hk3
      have hrd := hJ.rd
      obtain ⟨hfJ, hfE⟩ := hJ.fl hM
      obtain ⟨hwJ, hwE⟩ := hJ.wr hM hk3 (IntKind.u8.wrap k)
      clear hw2
      refine LCalls.use (read' τ x 0) [0] rfl rfl ⟨rfl, trivial⟩ ?_; rintro _ _ ⟨rfl, rfl⟩; conv => whnf
      rcases Nat.lt_trichotomy k M with c2 | c2 | c2
      · rewrite [hrd, if_pos (show k ≤ M by omega)]
        conv => whnf
        rewrite [d1, show decide (M ≤ k) = false from decide_eq_false (by omega)]
        (conv => whnf); (repeat (refine And.intro (by first | omega | (dsimp only; omega)) ?_; conv => whnf))
        rewrite [d2, show decide (M < k) = false from decide_eq_false (by omega)]
        (conv => whnf); (repeat (refine And.intro (by first | omega | (dsimp only; omega)) ?_; conv => whnf))
        try (rewrite [d3, show decide (k ≤ M) = true from decide_eq_true (by omega)]; (conv => whnf); (repeat (refine And.intro (by first | omega | (dsimp only; omega)) ?_; conv => whnf)))
        rewrite [Int.toNat_natCast]
        cases hb : b k with
        | true =>
          conv => whnf
          refine LCalls.use (flush' τ x hJ.inv.toWf) [0] rfl rfl ⟨rfl, trivial⟩ ?_; rintro _ _ ⟨rfl, rfl⟩; conv => whnf
          rewrite [hfE, if_pos (by omega)]
          (conv => whnf); (repeat (refine And.intro (by first | omega | (dsimp only; omega)) ?_; conv => whnf))
          rewrite [wrapS (by omega)]
          refine ⟨_, _, _, ?_, ⟨[], trivial, [0], rfl, rfl, ?_, ?_⟩, k + 1, _, hfJ, by omega, by omega, rfl, rfl, rfl⟩
          · omega
          · (repeat' first | exact trivial | exact rfl | exact Nat.le_of_ble_eq_true rfl | exact Nat.le_refl _ | exact .inl ⟨rfl, rfl, rfl, rfl, Nat.le_refl _, Nat.le_refl _, .inr rfl, Nat.le_of_ble_eq_true rfl⟩ | exact .inl ⟨rfl, rfl, rfl, rfl, Nat.le_refl _, Nat.le_refl _, .inl rfl, Nat.le_of_ble_eq_true rfl⟩ | exact .inr ⟨rfl, rfl, rfl, rfl, rfl⟩ | exact .inl ⟨rfl, rfl, rfl, (by first | omega | (simp; done) | (simp; omega)), (by first | omega | (simp; done) | (simp; omega)), (by first | omega | (simp; done) | (simp; omega)), .inr rfl, Nat.le_of_ble_eq_true rfl⟩ | exact .inl ⟨rfl, rfl, rfl, (by first | omega | (simp; done) | (simp; omega)), (by first | omega | (simp; done) | (simp; omega)), (by first | omega | (simp; done) | (simp; omega)), .inl rfl, Nat.le_of_ble_eq_true rfl⟩ | exact fun h => h | refine ⟨?_, ?_, ?_, .inl ?_⟩ | refine ⟨?_, ?_⟩ | refine fun ii hii => ?_ | omega | fail)
          · (repeat' first | exact trivial | exact rfl | exact Nat.le_of_ble_eq_true rfl | exact Nat.le_refl _ | exact .inl ⟨rfl, rfl, rfl, rfl, Nat.le_refl _, Nat.le_refl _, .inr rfl, Nat.le_of_ble_eq_true rfl⟩ | exact .inl ⟨rfl, rfl, rfl, rfl, Nat.le_refl _, Nat.le_refl _, .inl rfl, Nat.le_of_ble_eq_true rfl⟩ | exact .inr ⟨rfl, rfl, rfl, rfl, rfl⟩ | exact .inl ⟨rfl, rfl, rfl, (by first | omega | (simp; done) | (simp; omega)), (by first | omega | (simp; done) | (simp; omega)), (by first | omega | (simp; done) | (simp; omega)), .inr rfl, Nat.le_of_ble_eq_true rfl⟩ | exact .inl ⟨rfl, rfl, rfl, (by first | omega | (simp; done) | (simp; omega)), (by first | omega | (simp; done) | (simp; omega)), (by first | omega | (simp; done) | (simp; omega)), .inl rfl, Nat.le_of_ble_eq_true rfl⟩ | exact fun h => h | refine ⟨?_, ?_, ?_, .inl ?_⟩ | refine ⟨?_, ?_⟩ | refine fun ii hii => ?_ | omega | fail)
        | false =>
          conv => whnf
          refine LCalls.use (wlit τ x 0 (IntKind.u8.wrap k) hk4) [0, 1] rfl rfl ⟨rfl, (congrArg some (o1_ren _ _)).symm, trivial⟩ ?_; rintro _ _ ⟨rfl, rfl⟩; conv => whnf
          rewrite [hwE, if_pos (by omega)]
          (conv => whnf); (repeat (refine And.intro (by first | omega | (dsimp only; omega)) ?_; conv => whnf))
          rewrite [wrapS (by omega)]
          refine ⟨_, _, _, ?_, ⟨[], trivial, [0], rfl, rfl, ?_, ?_⟩, k + 1, _, hwJ, by omega, by omega, rfl, rfl, rfl⟩
          · omega
          · (repeat' first | exact trivial | exact rfl | exact Nat.le_of_ble_eq_true rfl | exact Nat.le_refl _ | exact .inl ⟨rfl, rfl, rfl, rfl, Nat.le_refl _, Nat.le_refl _, .inr rfl, Nat.le_of_ble_eq_true rfl⟩ | exact .inl ⟨rfl, rfl, rfl, rfl, Nat.le_refl _, Nat.le_refl _, .inl rfl, Nat.le_of_ble_eq_true rfl⟩ | exact .inr ⟨rfl, rfl, rfl, rfl, rfl⟩ | exact .inl ⟨rfl, rfl, rfl, (by first | omega | (simp; done) | (simp; omega)), (by first | omega | (simp; done) | (simp; omega)), (by first | omega | (simp; done) | (simp; omega)), .inr rfl, Nat.le_of_ble_eq_true rfl⟩ | exact .inl ⟨rfl, rfl, rfl, (by first | omega | (simp; done) | (simp; omega)), (by first | omega | (simp; done) | (simp; omega)), (by first | omega | (simp; done) | (simp; omega)), .inl rfl, Nat.le_of_ble_eq_true rfl⟩ | exact fun h => h | refine ⟨?_, ?_, ?_, .inl ?_⟩ | refine ⟨?_, ?_⟩ | refine fun ii hii => ?_ | omega | fail)
          · (repeat' first | exact trivial | exact rfl | exact Nat.le_of_ble_eq_true rfl | exact Nat.le_refl _ | exact .inl ⟨rfl, rfl, rfl, rfl, Nat.le_refl _, Nat.le_refl _, .inr rfl, Nat.le_of_ble_eq_true rfl⟩ | exact .inl ⟨rfl, rfl, rfl, rfl, Nat.le_refl _, Nat.le_refl _, .inl rfl, Nat.le_of_ble_eq_true rfl⟩ | exact .inr ⟨rfl, rfl, rfl, rfl, rfl⟩ | exact .inl ⟨rfl, rfl, rfl, (by first | omega | (simp; done) | (simp; omega)), (by first | omega | (simp; done) | (simp; omega)), (by first | omega | (simp; done) | (simp; omega)), .inr rfl, Nat.le_of_ble_eq_true rfl⟩ | exact .inl ⟨rfl, rfl, rfl, (by first | omega | (simp; done) | (simp; omega)), (by first | omega | (simp; done) | (simp; omega)), (by first | omega | (simp; done) | (simp; omega)), .inl rfl, Nat.le_of_ble_eq_true rfl⟩ | exact fun h => h | refine ⟨?_, ?_, ?_, .inl ?_⟩ | refine ⟨?_, ?_⟩ | refine fun ii hii => ?_ | omega | fail)
      · rewrite [hrd, if_pos (show k ≤ M by omega)]
        conv => whnf
        rewrite [d1, show decide (M ≤ k) = true from decide_eq_true (by omega)]
        (conv => whnf); (repeat (refine And.intro (by first | omega | (dsimp only; omega)) ?_; conv => whnf))
        rewrite [d2, show decide (M < k) = false from decide_eq_false (by omega)]
        (conv => whnf); (repeat (refine And.intro (by first | omega | (dsimp only; omega)) ?_; conv => whnf))
        try (rewrite [d3, show decide (k ≤ M) = true from decide_eq_true (by omega)]; (conv => whnf); (repeat (refine And.intro (by first | omega | (dsimp only; omega)) ?_; conv => whnf)))
        rewrite [Int.toNat_natCast]
        cases hb : b k with
        | true =>
          conv => whnf
          refine LCalls.use (flush' τ x hJ.inv.toWf) [0] rfl rfl ⟨rfl, trivial⟩ ?_; rintro _ _ ⟨rfl, rfl⟩; conv => whnf
          rewrite [hfE, if_neg (by omega)]
          (conv => whnf); (repeat (refine And.intro (by first | omega | (dsimp only; omega)) ?_; conv => whnf))
          rewrite [wrapS (by omega)]
          refine ⟨_, _, _, ?_, ⟨[], trivial, [0], rfl, rfl, ?_, ?_⟩, k + 1, _, hfJ, by omega, by omega, rfl, rfl, rfl⟩
          · omega
          · (repeat' first | exact trivial | exact rfl | exact Nat.le_of_ble_eq_true rfl | exact Nat.le_refl _ | exact .inl ⟨rfl, rfl, rfl, rfl, Nat.le_refl _, Nat.le_refl _, .inr rfl, Nat.le_of_ble_eq_true rfl⟩ | exact .inl ⟨rfl, rfl, rfl, rfl, Nat.le_refl _, Nat.le_refl _, .inl rfl, Nat.le_of_ble_eq_true rfl⟩ | exact .inr ⟨rfl, rfl, rfl, rfl, rfl⟩ | exact .inl ⟨rfl, rfl, rfl, (by first | omega | (simp; done) | (simp; omega)), (by first | omega | (simp; done) | (simp; omega)), (by first | omega | (simp; done) | (simp; omega)), .inr rfl, Nat.le_of_ble_eq_true rfl⟩ | exact .inl ⟨rfl, rfl, rfl, (by first | omega | (simp; done) | (simp; omega)), (by first | omega | (simp; done) | (simp; omega)), (by first | omega | (simp; done) | (simp; omega)), .inl rfl, Nat.le_of_ble_eq_true rfl⟩ | exact fun h => h | refine ⟨?_, ?_, ?_, .inl ?_⟩ | refine ⟨?_, ?_⟩ | refine fun ii hii => ?_ | omega | fail)
          · (repeat' first | exact trivial | exact rfl | exact Nat.le_of_ble_eq_true rfl | exact Nat.le_refl _ | exact .inl ⟨rfl, rfl, rfl, rfl, Nat.le_refl _, Nat.le_refl _, .inr rfl, Nat.le_of_ble_eq_true rfl⟩ | exact .inl ⟨rfl, rfl, rfl, rfl, Nat.le_refl _, Nat.le_refl _, .inl rfl, Nat.le_of_ble_eq_true rfl⟩ | exact .inr ⟨rfl, rfl, rfl, rfl, rfl⟩ | exact .inl ⟨rfl, rfl, rfl, (by first | omega | (simp; done) | (simp; omega)), (by first | omega | (simp; done) | (simp; omega)), (by first | omega | (simp; done) | (simp; omega)), .inr rfl, Nat.le_of_ble_eq_true rfl⟩ | exact .inl ⟨rfl, rfl, rfl, (by first | omega | (simp; done) | (simp; omega)), (by first | omega | (simp; done) | (simp; omega)), (by first | omega | (simp; done) | (simp; omega)), .inl rfl, Nat.le_of_ble_eq_true rfl⟩ | exact fun h => h | refine ⟨?_, ?_, ?_, .inl ?_⟩ | refine ⟨?_, ?_⟩ | refine fun ii hii => ?_ | omega | fail)
        | false =>
          conv => whnf
          refine LCalls.use (wlit τ x 0 (IntKind.u8.wrap k) hk4) [0, 1] rfl rfl ⟨rfl, (congrArg some (o1_ren _ _)).symm, trivial⟩ ?_; rintro _ _ ⟨rfl, rfl⟩; conv => whnf
          rewrite [hwE, if_neg (by omega)]
          (conv => whnf); (repeat (refine And.intro (by first | omega | (dsimp only; omega)) ?_; conv => whnf))
          rewrite [wrapS (by omega)]
          refine ⟨_, _, _, ?_, ⟨[], trivial, [0], rfl, rfl, ?_, ?_⟩, k + 1, _, hwJ, by omega, by omega, rfl, rfl, rfl⟩
          · omega
          · (repeat' first | exact trivial | exact rfl | exact Nat.le_of_ble_eq_true rfl | exact Nat.le_refl _ | exact .inl ⟨rfl, rfl, rfl, rfl, Nat.le_refl _, Nat.le_refl _, .inr rfl, Nat.le_of_ble_eq_true rfl⟩ | exact .inl ⟨rfl, rfl, rfl, rfl, Nat.le_refl _, Nat.le_refl _, .inl rfl, Nat.le_of_ble_eq_true rfl⟩ | exact .inr ⟨rfl, rfl, rfl, rfl, rfl⟩ | exact .inl ⟨rfl, rfl, rfl, (by first | omega | (simp; done) | (simp; omega)), (by first | omega | (simp; done) | (simp; omega)), (by first | omega | (simp; done) | (simp; omega)), .inr rfl, Nat.le_of_ble_eq_true rfl⟩ | exact .inl ⟨rfl, rfl, rfl, (by first | omega | (simp; done) | (simp; omega)), (by first | omega | (simp; done) | (simp; omega)), (by first | omega | (simp; done) | (simp; omega)), .inl rfl, Nat.le_of_ble_eq_true rfl⟩ | exact fun h => h | refine ⟨?_, ?_, ?_, .inl ?_⟩ | refine ⟨?_, ?_⟩ | refine fun ii hii => ?_ | omega | fail)
          · (repeat' first | exact trivial | exact rfl | exact Nat.le_of_ble_eq_true rfl | exact Nat.le_refl _ | exact .inl ⟨rfl, rfl, rfl, rfl, Nat.le_refl _, Nat.le_refl _, .inr rfl, Nat.le_of_ble_eq_true rfl⟩ | exact .inl ⟨rfl, rfl, rfl, rfl, Nat.le_refl _, Nat.le_refl _, .inl rfl, Nat.le_of_ble_eq_true rfl⟩ | exact .inr ⟨rfl, rfl, rfl, rfl, rfl⟩ | exact .inl ⟨rfl, rfl, rfl, (by first | omega | (simp; done) | (simp; omega)), (by first | omega | (simp; done) | (simp; omega)), (by first | omega | (simp; done) | (simp; omega)), .inr rfl, Nat.le_of_ble_eq_true rfl⟩ | exact .inl ⟨rfl, rfl, rfl, (by first | omega | (simp; done) | (simp; omega)), (by first | omega | (simp; done) | (simp; omega)), (by first | omega | (simp; done) | (simp; omega)), .inl rfl, Nat.le_of_ble_eq_true rfl⟩ | exact fun h => h | refine ⟨?_, ?_, ?_, .inl ?_⟩ | refine ⟨?_, ?_⟩ | refine fun ii hii => ?_ | omega | fail)
      · rewrite [hrd, if_neg (show ¬ k ≤ M by omega)]
        conv => whnf
        rewrite [d1, show decide (M ≤ k) = true from decide_eq_true (by omega)]
        (conv => whnf); (repeat (refine And.intro (by first | omega | (dsimp only; omega)) ?_; conv => whnf))
        rewrite [d2, show decide (M < k) = true from decide_eq_true (by omega)]
        (conv => whnf); (repeat (refine And.intro (by first | omega | (dsimp only; omega)) ?_; conv => whnf))
        try (rewrite [d3, show decide (k ≤ M) = false from decide_eq_false (by omega)]; (conv => whnf); (repeat (refine And.intro (by first | omega | (dsimp only; omega)) ?_; conv => whnf)))
        rewrite [Int.toNat_natCast]
        cases hb : b k with
        | true =>
          conv => whnf
          refine LCalls.use (flush' τ x hJ.inv.toWf) [0] rfl rfl ⟨rfl, trivial⟩ ?_; rintro _ _ ⟨rfl, rfl⟩; conv => whnf
          rewrite [hfE, if_neg (by omega)]
          (conv => whnf); (repeat (refine And.intro (by first | omega | (dsimp only; omega)) ?_; conv => whnf))
          rewrite [wrapS (by omega)]
          refine ⟨_, _, _, ?_, ⟨[], trivial, [0], rfl, rfl, ?_, ?_⟩, k + 1, _, hfJ, by omega, by omega, rfl, rfl, rfl⟩
          · omega
          · (repeat' first | exact trivial | exact rfl | exact Nat.le_of_ble_eq_true rfl | exact Nat.le_refl _ | exact .inl ⟨rfl, rfl, rfl, rfl, Nat.le_refl _, Nat.le_refl _, .inr rfl, Nat.le_of_ble_eq_true rfl⟩ | exact .inl ⟨rfl, rfl, rfl, rfl, Nat.le_refl _, Nat.le_refl _, .inl rfl, Nat.le_of_ble_eq_true rfl⟩ | exact .inr ⟨rfl, rfl, rfl, rfl, rfl⟩ | exact .inl ⟨rfl, rfl, rfl, (by first | omega | (simp; done) | (simp; omega)), (by first | omega | (simp; done) | (simp; omega)), (by first | omega | (simp; done) | (simp; omega)), .inr rfl, Nat.le_of_ble_eq_true rfl⟩ | exact .inl ⟨rfl, rfl, rfl, (by first | omega | (simp; done) | (simp; omega)), (by first | omega | (simp; done) | (simp; omega)), (by first | omega | (simp; done) | (simp; omega)), .inl rfl, Nat.le_of_ble_eq_true rfl⟩ | exact fun h => h | refine ⟨?_, ?_, ?_, .inl ?_⟩ | refine ⟨?_, ?_⟩ | refine fun ii hii => ?_ | omega | fail)
          · (repeat' first | exact trivial | exact rfl | exact Nat.le_of_ble_eq_true rfl | exact Nat.le_refl _ | exact .inl ⟨rfl, rfl, rfl, rfl, Nat.le_refl _, Nat.le_refl _, .inr rfl, Nat.le_of_ble_eq_true rfl⟩ | exact .inl ⟨rfl, rfl, rfl, rfl, Nat.le_refl _, Nat.le_refl _, .inl rfl, Nat.le_of_ble_eq_true rfl⟩ | exact .inr ⟨rfl, rfl, rfl, rfl, rfl⟩ | exact .inl ⟨rfl, rfl, rfl, (by first | omega | (simp; done) | (simp; omega)), (by first | omega | (simp; done) | (simp; omega)), (by first | omega | (simp; done) | (simp; omega)), .inr rfl, Nat.le_of_ble_eq_true rfl⟩ | exact .inl ⟨rfl, rfl, rfl, (by first | omega | (simp; done) | (simp; omega)), (by first | omega | (simp; done) | (simp; omega)), (by first | omega | (simp; done) | (simp; omega)), .inl rfl, Nat.le_of_ble_eq_true rfl⟩ | exact fun h => h | refine ⟨?_, ?_, ?_, .inl ?_⟩ | refine ⟨?_, ?_⟩ | refine fun ii hii => ?_ | omega | fail)
        | false =>
          conv => whnf
          refine LCalls.use (wlit τ x 0 (IntKind.u8.wrap k) hk4) [0, 1] rfl rfl ⟨rfl, (congrArg some (o1_ren _ _)).symm, trivial⟩ ?_; rintro _ _ ⟨rfl, rfl⟩; conv => whnf
          rewrite [hwE, if_neg (by omega)]
          (conv => whnf); (repeat (refine And.intro (by first | omega | (dsimp only; omega)) ?_; conv => whnf))
          rewrite [wrapS (by omega)]
          refine ⟨_, _, _, ?_, ⟨[], trivial, [0], rfl, rfl, ?_, ?_⟩, k + 1, _, hwJ, by omega, by omega, rfl, rfl, rfl⟩
          · omega
          · (repeat' first | exact trivial | exact rfl | exact Nat.le_of_ble_eq_true rfl | exact Nat.le_refl _ | exact .inl ⟨rfl, rfl, rfl, rfl, Nat.le_refl _, Nat.le_refl _, .inr rfl, Nat.le_of_ble_eq_true rfl⟩ | exact .inl ⟨rfl, rfl, rfl, rfl, Nat.le_refl _, Nat.le_refl _, .inl rfl, Nat.le_of_ble_eq_true rfl⟩ | exact .inr ⟨rfl, rfl, rfl, rfl, rfl⟩ | exact .inl ⟨rfl, rfl, rfl, (by first | omega | (simp; done) | (simp; omega)), (by first | omega | (simp; done) | (simp; omega)), (by first | omega | (simp; done) | (simp; omega)), .inr rfl, Nat.le_of_ble_eq_true rfl⟩ | exact .inl ⟨rfl, rfl, rfl, (by first | omega | (simp; done) | (simp; omega)), (by first | omega | (simp; done) | (simp; omega)), (by first | omega | (simp; done) | (simp; omega)), .inl rfl, Nat.le_of_ble_eq_true rfl⟩ | exact fun h => h | refine ⟨?_, ?_, ?_, .inl ?_⟩ | refine ⟨?_, ?_⟩ | refine fun ii hii => ?_ | omega | fail)
          · (repeat' first | exact trivial | exact rfl | exact Nat.le_of_ble_eq_true rfl | exact Nat.le_refl _ | exact .inl ⟨rfl, rfl, rfl, rfl, Nat.le_refl _, Nat.le_refl _, .inr rfl, Nat.le_of_ble_eq_true rfl⟩ | exact .inl ⟨rfl, rfl, rfl, rfl, Nat.le_refl _, Nat.le_refl _, .inl rfl, Nat.le_of_ble_eq_true rfl⟩ | exact .inr ⟨rfl, rfl, rfl, rfl, rfl⟩ | exact .inl ⟨rfl, rfl, rfl, (by first | omega | (simp; done) | (simp; omega)), (by first | omega | (simp; done) | (simp; omega)), (by first | omega | (simp; done) | (simp; omega)), .inr rfl, Nat.le_of_ble_eq_true rfl⟩ | exact .inl ⟨rfl, rfl, rfl, (by first | omega | (simp; done) | (simp; omega)), (by first | omega | (simp; done) | (simp; omega)), (by first | omega | (simp; done) | (simp; omega)), .inl rfl, Nat.le_of_ble_eq_true rfl⟩ | exact fun h => h | refine ⟨?_, ?_, ?_, .inl ?_⟩ | refine ⟨?_, ?_⟩ | refine fun ii hii => ?_ | omega | fail)
    · have hz := after hJ.len hJ.inv
      have hg : ∀ Q : Prop, Q → Q := fun _ q => q
      by_cases c1 : k < m
      · rewrite [show decide ((k : Int) < (m : Int)) = true from decide_eq_true (by omega)]
        (conv => whnf); (repeat (refine And.intro (by first | omega | (dsimp only; omega)) ?_; conv => whnf))
        rewrite [show decide ((k : Int) < 100) = false from decide_eq_false (by omega)]
        (conv => whnf); (repeat (refine And.intro (by first | omega | (dsimp only; omega)) ?_; conv => whnf))
        refine LCalls.use (crash0 τ x hJ.inv.toWf) [0] rfl rfl ⟨rfl, trivial⟩ ?_; rintro _ _ ⟨rfl, rfl⟩; conv => whnf
        refine LCalls.use (up' τ (crashed x (keepQ 0 fun _ => false))) [0] rfl rfl ⟨rfl, trivial⟩ ?_; rintro _ _ ⟨rfl, rfl⟩; conv => whnf
        refine LCalls.use (wlit τ (crashed x (keepQ 0 fun _ => false)) 0 1 (by show 0 < 1000000; omega)) [0, 1] rfl rfl ⟨rfl, (congrArg some (o1_ren _ _)).symm, trivial⟩ ?_; rintro _ _ ⟨rfl, rfl⟩; conv => whnf
        rewrite [hz]
        conv => whnf
        refine ⟨[], _, _, rfl, rfl, ?_, ?_, rfl, rfl⟩
        · (repeat' first | exact trivial | exact rfl | exact Nat.le_of_ble_eq_true rfl | exact Nat.le_refl _ | exact .inl ⟨rfl, rfl, rfl, rfl, Nat.le_refl _, Nat.le_refl _, .inr rfl, Nat.le_of_ble_eq_true rfl⟩ | exact .inl ⟨rfl, rfl, rfl, rfl, Nat.le_refl _, Nat.le_refl _, .inl rfl, Nat.le_of_ble_eq_true rfl⟩ | exact .inr ⟨rfl, rfl, rfl, rfl, rfl⟩ | exact .inl ⟨rfl, rfl, rfl, (by first | omega | (simp; done) | (simp; omega)), (by first | omega | (simp; done) | (simp; omega)), (by first | omega | (simp; done) | (simp; omega)), .inr rfl, Nat.le_of_ble_eq_true rfl⟩ | exact .inl ⟨rfl, rfl, rfl, (by first | omega | (simp; done) | (simp; omega)), (by first | omega | (simp; done) | (simp; omega)), (by first | omega | (simp; done) | (simp; omega)), .inl rfl, Nat.le_of_ble_eq_true rfl⟩ | exact fun h => h | refine ⟨?_, ?_, ?_, .inl ?_⟩ | refine ⟨?_, ?_⟩ | refine fun ii hii => ?_ | omega | fail)
        · (repeat' first | exact trivial | exact rfl | exact Nat.le_of_ble_eq_true rfl | exact Nat.le_refl _ | exact .inl ⟨rfl, rfl, rfl, rfl, Nat.le_refl _, Nat.le_refl _, .inr rfl, Nat.le_of_ble_eq_true rfl⟩ | exact .inl ⟨rfl, rfl, rfl, rfl, Nat.le_refl _, Nat.le_refl _, .inl rfl, Nat.le_of_ble_eq_true rfl⟩ | exact .inr ⟨rfl, rfl, rfl, rfl, rfl⟩ | exact .inl ⟨rfl, rfl, rfl, (by first | omega | (simp; done) | (simp; omega)), (by first | omega | (simp; done) | (simp; omega)), (by first | omega | (simp; done) | (simp; omega)), .inr rfl, Nat.le_of_ble_eq_true rfl⟩ | exact .inl ⟨rfl, rfl, rfl, (by first | omega | (simp; done) | (simp; omega)), (by first | omega | (simp; done) | (simp; omega)), (by first | omega | (simp; done) | (simp; omega)), .inl rfl, Nat.le_of_ble_eq_true rfl⟩ | exact fun h => h | refine ⟨?_, ?_, ?_, .inl ?_⟩ | refine ⟨?_, ?_⟩ | refine fun ii hii => ?_ | omega | fail)
      · rewrite [show decide ((k : Int) < (m : Int)) = false from decide_eq_false (by omega)]
        (conv => whnf); (repeat (refine And.intro (by first | omega | (dsimp only; omega)) ?_; conv => whnf))
        refine LCalls.use (crash0 τ x hJ.inv.toWf) [0] rfl rfl ⟨rfl, trivial⟩ ?_; rintro _ _ ⟨rfl, rfl⟩; conv => whnf
        refine LCalls.use (up' τ (crashed x (keepQ 0 fun _ => false))) [0] rfl rfl ⟨rfl, trivial⟩ ?_; rintro _ _ ⟨rfl, rfl⟩; conv => whnf
        refine LCalls.use (wlit τ (crashed x (keepQ 0 fun _ => false)) 0 1 (by show 0 < 1000000; omega)) [0, 1] rfl rfl ⟨rfl, (congrArg some (o1_ren _ _)).symm, trivial⟩ ?_; rintro _ _ ⟨rfl, rfl⟩; conv => whnf
        rewrite [hz]
        conv => whnf
        refine ⟨[], _, _, rfl, rfl, ?_, ?_, rfl, rfl⟩
        · (repeat' first | exact trivial | exact rfl | exact Nat.le_of_ble_eq_true rfl | exact Nat.le_refl _ | exact .inl ⟨rfl, rfl, rfl, rfl, Nat.le_refl _, Nat.le_refl _, .inr rfl, Nat.le_of_ble_eq_true rfl⟩ | exact .inl ⟨rfl, rfl, rfl, rfl, Nat.le_refl _, Nat.le_refl _, .inl rfl, Nat.le_of_ble_eq_true rfl⟩ | exact .inr ⟨rfl, rfl, rfl, rfl, rfl⟩ | exact .inl ⟨rfl, rfl, rfl, (by first | omega | (simp; done) | (simp; omega)), (by first | omega | (simp; done) | (simp; omega)), (by first | omega | (simp; done) | (simp; omega)), .inr rfl, Nat.le_of_ble_eq_true rfl⟩ | exact .inl ⟨rfl, rfl, rfl, (by first | omega | (simp; done) | (simp; omega)), (by first | omega | (simp; done) | (simp; omega)), (by first | omega | (simp; done) | (simp; omega)), .inl rfl, Nat.le_of_ble_eq_true rfl⟩ | exact fun h => h | refine ⟨?_, ?_, ?_, .inl ?_⟩ | refine ⟨?_, ?_⟩ | refine fun ii hii => ?_ | omega | fail)
        · (repeat' first | exact trivial | exact rfl | exact Nat.le_of_ble_eq_true rfl | exact Nat.le_refl _ | exact .inl ⟨rfl, rfl, rfl, rfl, Nat.le_refl _, Nat.le_refl _, .inr rfl, Nat.le_of_ble_eq_true rfl⟩ | exact .inl ⟨rfl, rfl, rfl, rfl, Nat.le_refl _, Nat.le_refl _, .inl rfl, Nat.le_of_ble_eq_true rfl⟩ | exact .inr ⟨rfl, rfl, rfl, rfl, rfl⟩ | exact .inl ⟨rfl, rfl, rfl, (by first | omega | (simp; done) | (simp; omega)), (by first | omega | (simp; done) | (simp; omega)), (by first | omega | (simp; done) | (simp; omega)), .inr rfl, Nat.le_of_ble_eq_true rfl⟩ | exact .inl ⟨rfl, rfl, rfl, (by first | omega | (simp; done) | (simp; omega)), (by first | omega | (simp; done) | (simp; omega)), (by first | omega | (simp; done) | (simp; omega)), .inl rfl, Nat.le_of_ble_eq_true rfl⟩ | exact fun h => h | refine ⟨?_, ?_, ?_, .inl ?_⟩ | refine ⟨?_, ?_⟩ | refine fun ii hii => ?_ | omega | fail)
end Go.Proofs.Ytilmfhpoiejmfaa.Dk
