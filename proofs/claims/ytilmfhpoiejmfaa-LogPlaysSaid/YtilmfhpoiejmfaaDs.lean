/- The document's disk, the rest of it. By this session. -/
import Derived.Test.YtilmfhpoiejmfaaDr
namespace Go.Proofs.Ytilmfhpoiejmfaa.Dk
open Go.Proofs.Ytilmfhpoiejmfaa.Lh
set_option maxRecDepth 100000
set_option linter.unusedSimpArgs false
set_option linter.unusedSectionVars false
set_option linter.unusedVariables false
variable [Fz]
theorem rFlush_x (x : Disk) (hw : Wf x) : LCalls Try.prog 69 (.cons (.ptr ⟨0, [], 0⟩) .nil) (refH x) (fun e h' => e = .ret (.int .i64 (flE x)) ∧ h' = refH (flD x)) := by
  have hwd := went_same x
  cases hd : x.down
  rotate_left
  · rw [show flE x = 10 by simp [flE, hd], show flD x = x by simp [flD, hd]]
    refine LCalls.tell ?_; refine enter69 rfl ?_; conv => whnf
    rewrite [hd]
    conv => whnf
    refine ⟨[0, 1, 2], _, _, rfl, rfl, ?_, ?_, rfl, rfl⟩
    · (repeat' first | exact trivial | exact rfl | exact sh0 rfl | exact Nat.le_refl _ | exact .inl shA | exact .inr ⟨rfl, rfl, rfl, rfl, rfl⟩ | exact .inl shB | exact fun h => h | refine ⟨?_, ?_, ?_, .inl ?_⟩ | refine ⟨?_, ?_⟩ | refine fun ii hii => ?_ | omega | fail)
    · (repeat' first | exact trivial | exact rfl | exact sh0 rfl | exact Nat.le_refl _ | exact .inl shA | exact .inr ⟨rfl, rfl, rfl, rfl, rfl⟩ | exact .inl shB | exact fun h => h | refine ⟨?_, ?_, ?_, .inl ?_⟩ | refine ⟨?_, ?_⟩ | refine fun ii hii => ?_ | omega | fail)
  cases hg : goesB x
  · rw [show flE x = 10 by simp [flE, hd, hg], show flD x = went x by simp [flD, hd, hg]]
    refine LCalls.tell ?_; refine enter69 rfl ?_; conv => whnf
    rewrite [hd]
    conv => whnf
    refine LCalls.use (rGoes x) [0, 1, 2] rfl rfl ⟨rfl, rfl, rfl, trivial⟩ ?_
    rintro _ _ ⟨rfl, rfl⟩
    rewrite [hg]
    conv => whnf
    refine ⟨[0, 1, 2], _, _, rfl, rfl, ?_, ?_, rfl, rfl⟩
    · (repeat' first | exact trivial | exact rfl | exact sh0 rfl | exact Nat.le_refl _ | exact .inl shA | exact .inr ⟨rfl, rfl, rfl, rfl, rfl⟩ | exact .inl shB | exact fun h => h | refine ⟨?_, ?_, ?_, .inl ?_⟩ | refine ⟨?_, ?_⟩ | refine fun ii hii => ?_ | omega | fail)
    · (repeat' first | exact trivial | exact rfl | exact sh0 rfl | exact Nat.le_refl _ | exact .inl shA | exact .inr ⟨rfl, rfl, rfl, rfl, rfl⟩ | exact .inl shB | exact fun h => h | refine ⟨?_, ?_, ?_, .inl ?_⟩ | refine ⟨?_, ?_⟩ | refine fun ii hii => ?_ | omega | fail)
  · rw [show flE x = 0 by simp [flE, hd, hg], show flD x = flushed (went x) by simp [flD, hd, hg]]
    refine LCalls.tell ?_; refine enter69 rfl ?_; conv => whnf
    rewrite [hd]
    conv => whnf
    refine LCalls.use (rGoes x) [0, 1, 2] rfl rfl ⟨rfl, rfl, rfl, trivial⟩ ?_
    rintro _ _ ⟨rfl, rfl⟩
    rewrite [hg]
    generalize went x = y at *
    have wf2 : Wf y := ⟨by rw [hwd.2.1, hwd.1]; exact hw.len, by rw [hwd.2.2, hwd.1]; exact hw.at_, by rw [hwd.2.2]; exact hw.few⟩
    conv => whnf
    refine Loop.inv (lwp_mono _) (fun n t h => ∃ (k : Nat), k ≤ y.pend.length ∧ n = y.pend.length - k ∧ t = [.ptr ⟨0, [], 0⟩, .any, .any, .any, .int .i64 k, .any, .any, .any, .any, .any, .any, .any, .any, .any, .any, .any, .any, .any, .any, .any, .any, .any, .any, .any, .any, .any, .any, .any, .any, .any, .any, .any, .any, .any, .any, .any, .any, .any, .any, .any, .any, .any, .any, .any, .any, .any] ∧ h = [refO 1 2 { y with last := wrote y.last (y.pend.take k) }, rsO (wrote y.last (y.pend.take k)), rpO y.pend]) ?_ ?_
    · refine ⟨_, _, _, ⟨[], trivial, [0, 1, 2], rfl, rfl, ?_, ?_⟩, 0, Nat.zero_le _, rfl, rfl, rfl⟩
      · (repeat' first | exact trivial | exact rfl | exact sh0 rfl | exact Nat.le_refl _ | exact .inl shA | exact .inr ⟨rfl, rfl, rfl, rfl, rfl⟩ | exact .inl shB | exact fun h => h | refine ⟨?_, ?_, ?_, .inl ?_⟩ | refine ⟨?_, ?_⟩ | refine fun ii hii => ?_ | omega | fail)
      · (repeat' first | exact trivial | exact rfl | exact sh0 rfl | exact Nat.le_refl _ | exact .inl shA | exact .inr ⟨rfl, rfl, rfl, rfl, rfl⟩ | exact .inl shB | exact fun h => h | refine ⟨?_, ?_, ?_, .inl ?_⟩ | refine ⟨?_, ?_⟩ | refine fun ii hii => ?_ | omega | fail)
    · rintro n _ _ ⟨k, hk, rfl, rfl, rfl⟩
      have hlen := wrote_len (y.pend.take k) y.last
      have hl2 := wf2.len
      conv => whnf
      refine iteP_intro (fun hb => ?_) (fun hb => ?_)
      · rewrite [hb]
        have hb3 := of_decide_eq_true hb
        dsimp only at hb3
        have hat := wf2.at_ k (by omega)
        (conv => whnf); (repeat (refine And.intro (by first | omega | (dsimp only; omega)) ?_; conv => whnf))
        rewrite [show 0 + (k : Int).toNat = k by omega]
        (conv => whnf); (repeat (refine And.intro (by first | omega | (dsimp only; omega)) ?_; conv => whnf))
        have hfew := wf2.few
        rewrite [show IntKind.i64.wrap ((k : Int) + 1) = ((k + 1 : Nat) : Int) from wrap_nat (n := k + 1) (by omega)]
        refine ⟨_, _, _, ?_, ⟨[], trivial, [0, 1, 2], rfl, rfl, ?_, ?_⟩, k + 1, by omega, rfl, rfl, rfl⟩
        · omega
        · (repeat' first | exact trivial | exact rfl | exact sh0 rfl | exact Nat.le_refl _ | exact .inl shA | exact .inr ⟨rfl, rfl, rfl, rfl, rfl⟩ | exact .inl shB | exact fun h => h | refine ⟨?_, ?_, ?_, .inl ?_⟩ | refine ⟨?_, ?_⟩ | refine fun ii hii => ?_ | omega | fail)
        · have e5 : (wrote y.last (y.pend.take (k + 1))).length = (wrote y.last (y.pend.take k)).length := by rw [wrote_len, wrote_len]
          (repeat' first | exact trivial | exact rfl | exact sh0 rfl | exact Nat.le_refl _ | exact .inl shA | exact .inr ⟨rfl, rfl, rfl, rfl, rfl⟩ | exact .inl shB | exact fun h => h | refine ⟨?_, ?_, ?_, .inl ?_⟩ | refine ⟨?_, ?_⟩ | refine fun ii hii => ?_ | omega | fail)
          · refine shS_ite (fun c => ?_) (fun c => ?_)
            · refine shSec (y.pend.getD k (0, nought)).2 ((wrote y.last (y.pend.take (k + 1))).getD ii nought) rfl rfl ?_
              rw [wrote_succ _ _ _ (by omega), c, Nat.zero_add, List.getD_eq_getElem?_getD (l := List.set _ _ _), List.getElem?_set_self (by omega)]
              rfl
            · refine shSec ((wrote y.last (y.pend.take k)).getD ii nought) ((wrote y.last (y.pend.take (k + 1))).getD ii nought) rfl rfl ?_
              rw [wrote_succ _ _ _ (by omega), List.getD_eq_getElem?_getD, List.getD_eq_getElem?_getD, List.getElem?_set_ne (by omega)]
      · rewrite [hb]
        have hb3 := of_decide_eq_false hb
        dsimp only at hb3
        have hk2 : k = y.pend.length := by omega
        subst hk2
        rewrite [List.take_length]
        conv => whnf
        refine ⟨[0, 1, 2], _, _, rfl, rfl, ?_, ?_, rfl, rfl⟩
        · (repeat' first | exact trivial | exact rfl | exact sh0 rfl | exact Nat.le_refl _ | exact .inl shA | exact .inr ⟨rfl, rfl, rfl, rfl, rfl⟩ | exact .inl shB | exact fun h => h | refine ⟨?_, ?_, ?_, .inl ?_⟩ | refine ⟨?_, ?_⟩ | refine fun ii hii => ?_ | omega | fail)
        · refine ⟨?_, ?_, ⟨rfl, id, rfl, .inr ⟨rfl, Nat.zero_le _, rfl, fun i hi => absurd hi (Nat.not_lt_zero _)⟩⟩, trivial⟩
          · (repeat' first | exact trivial | exact rfl | exact sh0 rfl | exact Nat.le_refl _ | exact .inl shA | exact .inr ⟨rfl, rfl, rfl, rfl, rfl⟩ | exact .inl shB | exact fun h => h | refine ⟨?_, ?_, ?_, .inl ?_⟩ | refine ⟨?_, ?_⟩ | refine fun ii hii => ?_ | omega | fail)
          · (repeat' first | exact trivial | exact rfl | exact sh0 rfl | exact Nat.le_refl _ | exact .inl shA | exact .inr ⟨rfl, rfl, rfl, rfl, rfl⟩ | exact .inl shB | exact fun h => h | refine ⟨?_, ?_, ?_, .inl ?_⟩ | refine ⟨?_, ?_⟩ | refine fun ii hii => ?_ | omega | fail)
theorem rFlush (τ : Nat) (x : Disk) (hw : Wf x) : LCalls Try.prog 69 (.cons (.tok τ) .nil) [refR τ x] (fun e h' => e = .ret (.int .i64 (flE x)) ∧ h' = [refR τ (flD x)]) := by
  have p : LCalls Try.prog 69 (.cons (.ptr ⟨0, [], 0⟩) .nil) (refH x) (fun e h' => e = .ret (.int .i64 (flE x)) ∧ h' = refH (flD x)) := rFlush_x x hw
  refine LCalls.packed (ext := []) p (fun _ => rfl) ⟨.inl ⟨rfl, rfl⟩, trivial⟩ ?_
  rintro _ _ ⟨rfl, rfl⟩
  refine ⟨[0, 1, 2], refH (flD x), rfl, rfl, ⟨rfl, rfl, rfl, trivial⟩, ⟨trivial, trivial, trivial, trivial⟩, [], _, _, rfl, rfl, ?_, ?_, rfl, rfl⟩
  · (repeat' first | exact trivial | exact rfl | exact sh0 rfl | exact Nat.le_refl _ | exact .inl shA | exact .inr ⟨rfl, rfl, rfl, rfl, rfl⟩ | exact .inl shB | exact fun h => h | refine ⟨?_, ?_, ?_, .inl ?_⟩ | refine ⟨?_, ?_⟩ | refine fun ii hii => ?_ | omega | fail)
  · (repeat' first | exact trivial | exact rfl | exact sh0 rfl | exact Nat.le_refl _ | exact .inl shA | exact .inr ⟨rfl, rfl, rfl, rfl, rfl⟩ | exact .inl shB | exact fun h => h | refine ⟨?_, ?_, ?_, .inl ?_⟩ | refine ⟨?_, ?_⟩ | refine fun ii hii => ?_ | omega | fail)
theorem rCrash_x (x : Disk) (hw : Wf x) (m : Nat) (b : Nat → Bool) : LCalls Try.prog 71 (.cons (.ptr ⟨0, [], 0⟩) (.cons (boolS m b) .nil)) (refH x) (fun e h' => e = .ret (.int .i64 (picked (keepQ m b) x.pend).length) ∧ h' = refH (crashed x (keepQ m b))) := by
  obtain ⟨hw1, hw2, hw3⟩ := hw
  have hl : ∀ k, (wrote x.last (picked (keepQ m b) (x.pend.take k))).length = x.now.length := fun k => (wrote_len _ _).trans hw1
  have hc : ∀ k, (picked (keepQ m b) (x.pend.take k)).length ≤ k := fun k => by
    unfold picked
    rw [List.length_map]
    refine Nat.le_trans (List.length_filter_le _ _) ?_
    rw [List.length_zipIdx, List.length_take]; omega
  refine LCalls.tell ?_; refine enter71 rfl ?_; conv => whnf
  refine Loop.inv (lwp_mono _) (fun n t h => ∃ (k : Nat), k ≤ x.pend.length ∧ n = x.pend.length - k ∧ t = [.ptr ⟨0, [], 0⟩, boolS m b, .any, .any, .any, .int .i64 (picked (keepQ m b) (x.pend.take k)).length, .int .i64 k, .any, .any, .any, .any, .any, .any, .any, .any, .any, .any, .any, .any, .any, .any, .any, .any, .any, .any, .any, .any, .any, .any, .any, .any, .any, .any, .any, .any, .any, .any, .any, .any, .any, .any, .any, .any, .any, .any, .any, .any, .any, .any, .any, .any, .any, .any, .any, .any, .any, .any, .any, .any] ∧ h = [refO 1 2 { x with last := wrote x.last (picked (keepQ m b) (x.pend.take k)) }, rsO (wrote x.last (picked (keepQ m b) (x.pend.take k))), rpO x.pend]) ?_ ?_
  · refine ⟨_, _, _, ⟨[], trivial, [0, 1, 2], rfl, rfl, ?_, ?_⟩, 0, Nat.zero_le _, rfl, rfl, rfl⟩
    · (repeat' first | exact trivial | exact rfl | exact sh0 rfl | exact Nat.le_refl _ | exact .inl shA | exact .inr ⟨rfl, rfl, rfl, rfl, rfl⟩ | exact .inl shB | exact fun h => h | refine ⟨?_, ?_, ?_, .inl ?_⟩ | refine ⟨?_, ?_⟩ | refine fun ii hii => ?_ | omega | fail)
    · (repeat' first | exact trivial | exact rfl | exact sh0 rfl | exact Nat.le_refl _ | exact .inl shA | exact .inr ⟨rfl, rfl, rfl, rfl, rfl⟩ | exact .inl shB | exact fun h => h | refine ⟨?_, ?_, ?_, .inl ?_⟩ | refine ⟨?_, ?_⟩ | refine fun ii hii => ?_ | omega | fail)
  · rintro n _ _ ⟨k, hk, rfl, rfl, rfl⟩
    have hlk := hl k
    conv => whnf
    refine iteP_intro (fun hb => ?_) (fun hb => ?_)
    · rewrite [hb]
      have hb3 := of_decide_eq_true hb
      dsimp only at hb3
      have hk2 : k < x.pend.length := by omega
      have hat := hw2 k hk2
      have hsucc := picked_succ (keepQ m b) x.pend k hk2
      have hck := hc k
      conv => whnf
      have kept : keepQ m b k = true → picked (keepQ m b) (x.pend.take (k + 1)) = picked (keepQ m b) (x.pend.take k) ++ [x.pend.getD k (0, nought)] := fun h => by rw [hsucc, h]; rfl
      have lost : keepQ m b k = false → picked (keepQ m b) (x.pend.take (k + 1)) = picked (keepQ m b) (x.pend.take k) := fun h => by rw [hsucc, h]; simp
      refine iteP_intro (fun hm => ?_) (fun hm => ?_)
      · have hm3 := of_decide_eq_true hm
        rewrite [hm]
        (conv => whnf); (repeat (refine And.intro (by first | omega | (dsimp only; omega)) ?_; conv => whnf))
        rewrite [show (k : Int).toNat = k by omega]
        refine iteP_intro (fun hq => ?_) (fun hq => ?_)
        · rewrite [hq]
          have e1 := kept (by simp [keepQ, hq]; omega)
          (conv => whnf); (repeat (refine And.intro (by first | omega | (dsimp only; omega)) ?_; conv => whnf))
          rewrite [show 0 + (k : Int).toNat = k by omega]
          (conv => whnf); (repeat (refine And.intro (by first | omega | (dsimp only; omega)) ?_; conv => whnf))
          rewrite [show IntKind.i64.wrap ((k : Int) + 1) = ((k + 1 : Nat) : Int) from wrap_nat (n := k + 1) (by omega)]
          have e2 : ((picked (keepQ m b) (x.pend.take (k + 1))).length : Nat) = (picked (keepQ m b) (x.pend.take k)).length + 1 := by rw [e1]; simp
          rewrite [show IntKind.i64.wrap (((picked (keepQ m b) (x.pend.take k)).length : Int) + 1) = ((picked (keepQ m b) (x.pend.take (k + 1))).length : Int) from by rw [e2]; exact wrap_nat (n := (picked (keepQ m b) (x.pend.take k)).length + 1) (by omega)]
          refine ⟨_, _, _, ?_, ⟨[], trivial, [0, 1, 2], rfl, rfl, ?_, ?_⟩, k + 1, by omega, rfl, rfl, rfl⟩
          · omega
          · (repeat' first | exact trivial | exact rfl | exact sh0 rfl | exact Nat.le_refl _ | exact .inl shA | exact .inr ⟨rfl, rfl, rfl, rfl, rfl⟩ | exact .inl shB | exact fun h => h | refine ⟨?_, ?_, ?_, .inl ?_⟩ | refine ⟨?_, ?_⟩ | refine fun ii hii => ?_ | omega | fail)
          · have e5 : (wrote x.last (picked (keepQ m b) (x.pend.take (k + 1)))).length = (wrote x.last (picked (keepQ m b) (x.pend.take k))).length := by rw [hl, hl]
            have e6 : wrote x.last (picked (keepQ m b) (x.pend.take (k + 1))) = (wrote x.last (picked (keepQ m b) (x.pend.take k))).set (x.pend.getD k (0, nought)).1.toNat (x.pend.getD k (0, nought)).2 := by rw [e1, wrote_app]; rfl
            (repeat' first | exact trivial | exact rfl | exact sh0 rfl | exact Nat.le_refl _ | exact .inl shA | exact .inr ⟨rfl, rfl, rfl, rfl, rfl⟩ | exact .inl shB | exact fun h => h | refine ⟨?_, ?_, ?_, .inl ?_⟩ | refine ⟨?_, ?_⟩ | refine fun ii hii => ?_ | omega | fail)
            · refine shS_ite (fun c => ?_) (fun c => ?_)
              · refine shSec (x.pend.getD k (0, nought)).2 ((wrote x.last (picked (keepQ m b) (x.pend.take (k + 1)))).getD ii nought) rfl rfl ?_
                rw [e6, c, Nat.zero_add, List.getD_eq_getElem?_getD (l := List.set _ _ _), List.getElem?_set_self (by omega)]
                rfl
              · refine shSec ((wrote x.last (picked (keepQ m b) (x.pend.take k))).getD ii nought) ((wrote x.last (picked (keepQ m b) (x.pend.take (k + 1)))).getD ii nought) rfl rfl ?_
                rw [e6, List.getD_eq_getElem?_getD, List.getD_eq_getElem?_getD, List.getElem?_set_ne (by omega)]
        · rewrite [hq]
          have e1 := lost (by simp [keepQ, hq])
          conv => whnf
          rewrite [show IntKind.i64.wrap ((k : Int) + 1) = ((k + 1 : Nat) : Int) from wrap_nat (n := k + 1) (by omega)]
          refine ⟨_, _, _, ?_, ⟨[], trivial, [0, 1, 2], rfl, rfl, ?_, ?_⟩, k + 1, by omega, rfl, rfl, rfl⟩
          · omega
          · rw [e1]
            (repeat' first | exact trivial | exact rfl | exact sh0 rfl | exact Nat.le_refl _ | exact .inl shA | exact .inr ⟨rfl, rfl, rfl, rfl, rfl⟩ | exact .inl shB | exact fun h => h | refine ⟨?_, ?_, ?_, .inl ?_⟩ | refine ⟨?_, ?_⟩ | refine fun ii hii => ?_ | omega | fail)
          · rw [e1]
            (repeat' first | exact trivial | exact rfl | exact sh0 rfl | exact Nat.le_refl _ | exact .inl shA | exact .inr ⟨rfl, rfl, rfl, rfl, rfl⟩ | exact .inl shB | exact fun h => h | refine ⟨?_, ?_, ?_, .inl ?_⟩ | refine ⟨?_, ?_⟩ | refine fun ii hii => ?_ | omega | fail)
      · have hm3 := of_decide_eq_false hm
        rewrite [hm]
        have e1 := lost (by simp [keepQ]; omega)
        conv => whnf
        rewrite [show IntKind.i64.wrap ((k : Int) + 1) = ((k + 1 : Nat) : Int) from wrap_nat (n := k + 1) (by omega)]
        refine ⟨_, _, _, ?_, ⟨[], trivial, [0, 1, 2], rfl, rfl, ?_, ?_⟩, k + 1, by omega, rfl, rfl, rfl⟩
        · omega
        · rw [e1]
          (repeat' first | exact trivial | exact rfl | exact sh0 rfl | exact Nat.le_refl _ | exact .inl shA | exact .inr ⟨rfl, rfl, rfl, rfl, rfl⟩ | exact .inl shB | exact fun h => h | refine ⟨?_, ?_, ?_, .inl ?_⟩ | refine ⟨?_, ?_⟩ | refine fun ii hii => ?_ | omega | fail)
        · rw [e1]
          (repeat' first | exact trivial | exact rfl | exact sh0 rfl | exact Nat.le_refl _ | exact .inl shA | exact .inr ⟨rfl, rfl, rfl, rfl, rfl⟩ | exact .inl shB | exact fun h => h | refine ⟨?_, ?_, ?_, .inl ?_⟩ | refine ⟨?_, ?_⟩ | refine fun ii hii => ?_ | omega | fail)
    · rewrite [hb]
      have hb3 := of_decide_eq_false hb
      dsimp only at hb3
      have hk2 : k = x.pend.length := by omega
      subst hk2
      rewrite [List.take_length]
      conv => whnf
      refine ⟨[0, 1, 2], _, _, rfl, rfl, ?_, ?_, rfl, rfl⟩
      · (repeat' first | exact trivial | exact rfl | exact sh0 rfl | exact Nat.le_refl _ | exact .inl shA | exact .inr ⟨rfl, rfl, rfl, rfl, rfl⟩ | exact .inl shB | exact fun h => h | refine ⟨?_, ?_, ?_, .inl ?_⟩ | refine ⟨?_, ?_⟩ | refine fun ii hii => ?_ | omega | fail)
      · refine ⟨?_, ?_, ⟨rfl, id, rfl, .inr ⟨rfl, Nat.zero_le _, rfl, fun i hi => absurd hi (Nat.not_lt_zero _)⟩⟩, trivial⟩
        · (repeat' first | exact trivial | exact rfl | exact sh0 rfl | exact Nat.le_refl _ | exact .inl shA | exact .inr ⟨rfl, rfl, rfl, rfl, rfl⟩ | exact .inl shB | exact fun h => h | refine ⟨?_, ?_, ?_, .inl ?_⟩ | refine ⟨?_, ?_⟩ | refine fun ii hii => ?_ | omega | fail)
        · (repeat' first | exact trivial | exact rfl | exact sh0 rfl | exact Nat.le_refl _ | exact .inl shA | exact .inr ⟨rfl, rfl, rfl, rfl, rfl⟩ | exact .inl shB | exact fun h => h | refine ⟨?_, ?_, ?_, .inl ?_⟩ | refine ⟨?_, ?_⟩ | refine fun ii hii => ?_ | omega | fail)
theorem rCrash (τ : Nat) (x : Disk) (hw : Wf x) (m : Nat) (b : Nat → Bool) : LCalls Try.prog 71 (.cons (.tok τ) (.cons (boolS m b) .nil)) [refR τ x] (fun e h' => e = .ret (.int .i64 (picked (keepQ m b) x.pend).length) ∧ h' = [refR τ (crashed x (keepQ m b))]) := by
  have p : LCalls Try.prog 71 (.cons (.ptr ⟨0, [], 0⟩) (.cons (boolS m b) .nil)) (refH x) (fun e h' => e = .ret (.int .i64 (picked (keepQ m b) x.pend).length) ∧ h' = refH (crashed x (keepQ m b))) := rCrash_x x hw m b
  refine LCalls.packed (ext := []) p (fun _ => rfl) ⟨.inl ⟨rfl, rfl⟩, .inr rfl, trivial⟩ ?_
  rintro _ _ ⟨rfl, rfl⟩
  refine ⟨[0, 1, 2], refH (crashed x (keepQ m b)), rfl, rfl, ⟨rfl, rfl, rfl, trivial⟩, ⟨trivial, trivial, trivial, trivial⟩, [], _, _, rfl, rfl, ?_, ?_, rfl, rfl⟩
  · (repeat' first | exact trivial | exact rfl | exact sh0 rfl | exact Nat.le_refl _ | exact .inl shA | exact .inr ⟨rfl, rfl, rfl, rfl, rfl⟩ | exact .inl shB | exact fun h => h | refine ⟨?_, ?_, ?_, .inl ?_⟩ | refine ⟨?_, ?_⟩ | refine fun ii hii => ?_ | omega | fail)
  · (repeat' first | exact trivial | exact rfl | exact sh0 rfl | exact Nat.le_refl _ | exact .inl shA | exact .inr ⟨rfl, rfl, rfl, rfl, rfl⟩ | exact .inl shB | exact fun h => h | refine ⟨?_, ?_, ?_, .inl ?_⟩ | refine ⟨?_, ?_⟩ | refine fun ii hii => ?_ | omega | fail)
/-- Are two lists of bytes one? -/
def sameB (n : Nat) (f : Nat → Int) (m : Nat) (g : Nat → Int) : Bool := decide (n = m) && (List.range n).all fun i => f i == g i
theorem sameB_no {n : Nat} {f g : Nat → Int} {i : Nat} (hi : i < n) (h : f i ≠ g i) : sameB n f n g = false := by
  simp only [sameB, decide_true, Bool.true_and, List.all_eq_false, List.mem_range]
  exact ⟨i, hi, by simpa using h⟩
theorem Same (n m : Nat) (f g : Nat → Int) (hn : n ≤ 1000000) : LCalls Try.prog 30 (.cons (bytesV n f) (.cons (bytesV m g) .nil)) [] (fun e h' => e = .ret (.bool (sameB n f m g)) ∧ h' = []) := by
  refine LCalls.tell ?_; refine enter30 rfl ?_; conv => whnf
  refine iteP_intro (fun hb => ?_) (fun hb => ?_)
  · rewrite [hb]
    have h0 : ¬ ((n : Int) = m) := by simpa using hb
    have h1 : ¬ n = m := by omega
    rw [show sameB n f m g = false by simp [sameB, h1]]
    conv => whnf
    refine ⟨[], _, _, rfl, rfl, ?_, ?_, rfl, rfl⟩
    · (repeat' first | exact trivial | exact rfl | exact sh0 rfl | exact Nat.le_refl _ | exact .inl shA | exact .inr ⟨rfl, rfl, rfl, rfl, rfl⟩ | exact .inl shB | exact fun h => h | refine ⟨?_, ?_, ?_, .inl ?_⟩ | refine ⟨?_, ?_⟩ | refine fun ii hii => ?_ | omega | fail)
    · (repeat' first | exact trivial | exact rfl | exact sh0 rfl | exact Nat.le_refl _ | exact .inl shA | exact .inr ⟨rfl, rfl, rfl, rfl, rfl⟩ | exact .inl shB | exact fun h => h | refine ⟨?_, ?_, ?_, .inl ?_⟩ | refine ⟨?_, ?_⟩ | refine fun ii hii => ?_ | omega | fail)
  rewrite [hb]
  have h1 : n = m := by
    have h1 : ((n : Int) != (m : Int)) = false := hb
    have : (n : Int) = m := by simpa using h1
    omega
  subst h1
  conv => whnf
  refine Loop.inv (lwp_mono _) (fun j t h => ∃ (k : Nat), k ≤ n ∧ j = n - k ∧ (∀ i, i < k → f i = g i) ∧ t = [bytesV n f, bytesV n g, .any, .any, .any, .int .i64 k, .any, .any, .any, .any, .any, .any, .any, .any, .any, .any, .any, .any, .any, .any, .any, .any, .any, .any, .any, .any] ∧ h = []) ?_ ?_
  · refine ⟨_, _, _, ⟨[], trivial, [], rfl, rfl, ?_, ?_⟩, 0, Nat.zero_le _, rfl, fun i hi => absurd hi (Nat.not_lt_zero _), rfl, rfl⟩
    · (repeat' first | exact trivial | exact rfl | exact sh0 rfl | exact Nat.le_refl _ | exact .inl shA | exact .inr ⟨rfl, rfl, rfl, rfl, rfl⟩ | exact .inl shB | exact fun h => h | refine ⟨?_, ?_, ?_, .inl ?_⟩ | refine ⟨?_, ?_⟩ | refine fun ii hii => ?_ | omega | fail)
    · (repeat' first | exact trivial | exact rfl | exact sh0 rfl | exact Nat.le_refl _ | exact .inl shA | exact .inr ⟨rfl, rfl, rfl, rfl, rfl⟩ | exact .inl shB | exact fun h => h | refine ⟨?_, ?_, ?_, .inl ?_⟩ | refine ⟨?_, ?_⟩ | refine fun ii hii => ?_ | omega | fail)
  · rintro j _ _ ⟨k, hk, rfl, hall, rfl, rfl⟩
    conv => whnf
    refine iteP_intro (fun hb => ?_) (fun hb => ?_)
    · rewrite [hb]
      have hb3 := of_decide_eq_true hb
      (conv => whnf); (repeat (refine And.intro (by first | omega | (dsimp only; omega)) ?_; conv => whnf))
      rewrite [show (k : Int).toNat = k by omega]
      refine iteP_intro (fun hc => ?_) (fun hc => ?_)
      · rewrite [hc]
        have hc3 : f k ≠ g k := by simpa using hc
        rw [sameB_no (by omega) hc3]
        conv => whnf
        refine ⟨[], _, _, rfl, rfl, ?_, ?_, rfl, rfl⟩
        · (repeat' first | exact trivial | exact rfl | exact sh0 rfl | exact Nat.le_refl _ | exact .inl shA | exact .inr ⟨rfl, rfl, rfl, rfl, rfl⟩ | exact .inl shB | exact fun h => h | refine ⟨?_, ?_, ?_, .inl ?_⟩ | refine ⟨?_, ?_⟩ | refine fun ii hii => ?_ | omega | fail)
        · (repeat' first | exact trivial | exact rfl | exact sh0 rfl | exact Nat.le_refl _ | exact .inl shA | exact .inr ⟨rfl, rfl, rfl, rfl, rfl⟩ | exact .inl shB | exact fun h => h | refine ⟨?_, ?_, ?_, .inl ?_⟩ | refine ⟨?_, ?_⟩ | refine fun ii hii => ?_ | omega | fail)
      · rewrite [hc]
        have hc3 : f k = g k := by simpa using hc
        conv => whnf
        rewrite [show IntKind.i64.wrap ((k : Int) + 1) = ((k + 1 : Nat) : Int) from wrap_nat (n := k + 1) (by omega)]
        refine ⟨_, _, _, ?_, ⟨[], trivial, [], rfl, rfl, ?_, ?_⟩, k + 1, by omega, rfl, fun i hi => ?_, rfl, rfl⟩
        · omega
        · (repeat' first | exact trivial | exact rfl | exact sh0 rfl | exact Nat.le_refl _ | exact .inl shA | exact .inr ⟨rfl, rfl, rfl, rfl, rfl⟩ | exact .inl shB | exact fun h => h | refine ⟨?_, ?_, ?_, .inl ?_⟩ | refine ⟨?_, ?_⟩ | refine fun ii hii => ?_ | omega | fail)
        · (repeat' first | exact trivial | exact rfl | exact sh0 rfl | exact Nat.le_refl _ | exact .inl shA | exact .inr ⟨rfl, rfl, rfl, rfl, rfl⟩ | exact .inl shB | exact fun h => h | refine ⟨?_, ?_, ?_, .inl ?_⟩ | refine ⟨?_, ?_⟩ | refine fun ii hii => ?_ | omega | fail)
        · rcases Nat.lt_or_ge i k with c | c
          · exact hall i c
          · rw [show i = k by omega]; exact hc3
    · rewrite [hb]
      have hb3 := of_decide_eq_false hb
      have hk2 : k = n := by omega
      subst hk2
      rw [show sameB k f k g = true by simp only [sameB, decide_true, Bool.true_and, List.all_eq_true, List.mem_range]; exact fun i hi => by simpa using hall i hi]
      conv => whnf
      refine ⟨[], _, _, rfl, rfl, ?_, ?_, rfl, rfl⟩
      · (repeat' first | exact trivial | exact rfl | exact sh0 rfl | exact Nat.le_refl _ | exact .inl shA | exact .inr ⟨rfl, rfl, rfl, rfl, rfl⟩ | exact .inl shB | exact fun h => h | refine ⟨?_, ?_, ?_, .inl ?_⟩ | refine ⟨?_, ?_⟩ | refine fun ii hii => ?_ | omega | fail)
      · (repeat' first | exact trivial | exact rfl | exact sh0 rfl | exact Nat.le_refl _ | exact .inl shA | exact .inr ⟨rfl, rfl, rfl, rfl, rfl⟩ | exact .inl shB | exact fun h => h | refine ⟨?_, ?_, ?_, .inl ?_⟩ | refine ⟨?_, ?_⟩ | refine fun ii hii => ?_ | omega | fail)
end Go.Proofs.Ytilmfhpoiejmfaa.Dk
