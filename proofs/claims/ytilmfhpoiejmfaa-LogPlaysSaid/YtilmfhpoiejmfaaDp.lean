/- The disk: the crash, refusals; what the document's functions do. By this session. -/
import Derived.Test.YtilmfhpoiejmfaaDn
namespace Go.Proofs.Ytilmfhpoiejmfaa.Dk
open Go.Proofs.Ytilmfhpoiejmfaa.Lh
set_option maxRecDepth 100000
set_option linter.unusedSimpArgs false
set_option linter.unusedSectionVars false
set_option linter.unusedVariables false
variable [Fz]
def picked (q : Nat → Bool) (p : List (Int × Sec)) : List (Int × Sec) := (p.zipIdx.filter fun y => q y.2).map (·.1)
theorem picked_succ (q : Nat → Bool) (p : List (Int × Sec)) (k : Nat) (hk : k < p.length) : picked q (p.take (k + 1)) = picked q (p.take k) ++ (if q k then [p.getD k (0, nought)] else []) := by
  unfold picked
  rw [List.take_add_one, List.zipIdx_append, List.filter_append, List.map_append, List.getD_eq_getElem?_getD, List.getElem?_eq_getElem hk, List.length_take, Nat.min_eq_left (by omega)]
  cases h : q k <;> simp [h]
def keepQ (m : Nat) (b : Nat → Bool) : Nat → Bool := fun i => decide (i < m) && b i
theorem wrote_app (l : List Sec) (p r : List (Int × Sec)) : wrote l (p ++ r) = wrote (wrote l p) r := List.foldl_append ..
theorem picked_mem (q : Nat → Bool) (p : List (Int × Sec)) : ∀ y ∈ picked q p, y ∈ p := by
  intro y hy
  obtain ⟨z, hz, rfl⟩ := List.mem_map.1 hy
  have := (List.mem_filter.1 hz).1
  obtain ⟨v, i⟩ := z
  exact List.mem_iff_getElem?.2 ⟨_, (List.mem_zipIdx_iff_getElem?.1 this)⟩
def crashed (x : Disk) (q : Nat → Bool) : Disk := ⟨wrote x.last (picked q x.pend), wrote x.last (picked q x.pend), [], false, -1⟩
def boolS (m : Nat) (b : Nat → Bool) : LVal := .rsl m 1 (fun i => .one (.bool (b i)) .nil)
theorem wrap_nat {n : Nat} (h : n < 1000000000000) : IntKind.i64.wrap (n : Int) = (n : Int) := by simp [IntKind.wrap, IntKind.bits, IntKind.signed]; omega
theorem Crash_ok (x : Disk) (hw : Wf x) (m : Nat) (b : Nat → Bool) : LCalls Try.prog 27 (.cons (.ptr ⟨0, [], 0⟩) (.cons (boolS m b) .nil)) (diskH x) (fun e h' => e = .ret (.int .i64 (picked (keepQ m b) x.pend).length) ∧ h' = diskH (crashed x (keepQ m b))) := by
  have hw' := hw
  obtain ⟨hw1, hw2, hw3⟩ := hw
  have hl : ∀ k, (wrote x.last (picked (keepQ m b) (x.pend.take k))).length = x.now.length := fun k => (wrote_len _ _).trans hw1
  have hc : ∀ k, (picked (keepQ m b) (x.pend.take k)).length ≤ k := fun k => by
    unfold picked
    rw [List.length_map]
    refine Nat.le_trans (List.length_filter_le _ _) ?_
    rw [List.length_zipIdx, List.length_take]; omega
  refine LCalls.tell ?_; refine enter27 rfl ?_; conv => whnf
  refine Loop.inv (lwp_mono _) (fun n t h => ∃ (k : Nat), k ≤ x.pend.length ∧ n = x.pend.length - k ∧ t = [.ptr ⟨0, [], 0⟩, boolS m b, .any, .any, .any, .int .i64 (picked (keepQ m b) (x.pend.take k)).length, .any, .any, .any, .any, .any, psl 3 x.pend.length, .int .i64 x.pend.length, .int .i64 k, .any, .any, .any, .any, .any, .any, .any, .any, .any, .any, .any, .any, .any, .any, .any, .any, .any, .any, .any, .any, .any, .any, .any, .any, .any, .any, .any, .any, .any, .any, .any, .any, .any, .any, .any, .any, .any, .any, .any, .any, .any, .any, .any, .any, .any, .any] ∧ h = [diskO 1 2 3 { x with last := wrote x.last (picked (keepQ m b) (x.pend.take k)) }, secO x.now, secO (wrote x.last (picked (keepQ m b) (x.pend.take k))), penO x.pend]) ?_ ?_
  · refine ⟨_, _, _, ⟨[], trivial, [0, 1, 2, 3], rfl, rfl, ?_, ?_⟩, 0, Nat.zero_le _, rfl, rfl, rfl⟩
    · (repeat' first | exact trivial | exact rfl | exact sh0 rfl | exact Nat.le_refl _ | exact .inl shA | exact .inr ⟨rfl, rfl, rfl, rfl, rfl⟩ | exact .inl shB | exact fun h => h | refine ⟨?_, ?_, ?_, .inl ?_⟩ | refine ⟨?_, ?_⟩ | refine fun ii hii => ?_ | omega | fail)
    · (repeat' first | exact trivial | exact rfl | exact sh0 rfl | exact Nat.le_refl _ | exact .inl shA | exact .inr ⟨rfl, rfl, rfl, rfl, rfl⟩ | exact .inl shB | exact fun h => h | refine ⟨?_, ?_, ?_, .inl ?_⟩ | refine ⟨?_, ?_⟩ | refine fun ii hii => ?_ | omega | fail)
  · rintro n _ _ ⟨k, hk, rfl, rfl, rfl⟩
    conv => whnf
    refine iteP_intro (fun hb => ?_) (fun hb => ?_)
    · rewrite [hb]
      have hb3 := of_decide_eq_true hb
      have hk2 : k < x.pend.length := by omega
      have hat := hw2 k hk2
      have hsucc := picked_succ (keepQ m b) x.pend k hk2
      have hck := hc k
      (conv => whnf); (repeat (refine And.intro (by first | omega | (dsimp only; omega)) ?_; conv => whnf))
      rewrite [show 0 + (k : Int).toNat = k by omega]
      -- kept or not
      have kept : keepQ m b k = true → picked (keepQ m b) (x.pend.take (k + 1)) = picked (keepQ m b) (x.pend.take k) ++ [x.pend.getD k (0, nought)] := fun h => by rw [hsucc, h]; rfl
      have lost : keepQ m b k = false → picked (keepQ m b) (x.pend.take (k + 1)) = picked (keepQ m b) (x.pend.take k) := fun h => by rw [hsucc, h]; simp
      refine iteP_intro (fun hm => ?_) (fun hm => ?_)
      · have hm3 := of_decide_eq_true hm
        rewrite [hm]
        (conv => whnf); (repeat (refine And.intro (by first | omega | (dsimp only; omega)) ?_; conv => whnf))
        rewrite [show (k : Int).toNat = k by omega]
        refine iteP_intro (fun hq => ?_) (fun hq => ?_)
        · rewrite [hq]
          have e1 := kept (by simp [keepQ, hq]; omega)
          have hlk := hl k
          (conv => whnf); (repeat (refine And.intro (by first | omega | (dsimp only; omega)) ?_; conv => whnf))
          rewrite [show IntKind.i64.wrap ((k : Int) + 1) = ((k + 1 : Nat) : Int) from wrap_nat (n := k + 1) (by omega)]
          have e2 : ((picked (keepQ m b) (x.pend.take (k + 1))).length : Nat) = (picked (keepQ m b) (x.pend.take k)).length + 1 := by rw [e1]; simp
          rewrite [show IntKind.i64.wrap (((picked (keepQ m b) (x.pend.take k)).length : Int) + 1) = ((picked (keepQ m b) (x.pend.take (k + 1))).length : Int) from by rw [e2]; exact wrap_nat (n := (picked (keepQ m b) (x.pend.take k)).length + 1) (by omega)]
          refine ⟨_, _, _, ?_, ⟨[], trivial, [0, 1, 2, 3], rfl, rfl, ?_, ?_⟩, k + 1, by omega, rfl, rfl, rfl⟩
          · omega
          · (repeat' first | exact trivial | exact rfl | exact sh0 rfl | exact Nat.le_refl _ | exact .inl shA | exact .inr ⟨rfl, rfl, rfl, rfl, rfl⟩ | exact .inl shB | exact fun h => h | refine ⟨?_, ?_, ?_, .inl ?_⟩ | refine ⟨?_, ?_⟩ | refine fun ii hii => ?_ | omega | fail)
          · have e5 : (wrote x.last (picked (keepQ m b) (x.pend.take (k + 1)))).length = (wrote x.last (picked (keepQ m b) (x.pend.take k))).length := by rw [hl, hl]
            have e6 : wrote x.last (picked (keepQ m b) (x.pend.take (k + 1))) = (wrote x.last (picked (keepQ m b) (x.pend.take k))).set (x.pend.getD k (0, nought)).1.toNat (x.pend.getD k (0, nought)).2 := by rw [e1, wrote_app]; rfl
            (repeat' first | exact trivial | exact rfl | exact sh0 rfl | exact Nat.le_refl _ | exact .inl shA | exact .inr ⟨rfl, rfl, rfl, rfl, rfl⟩ | exact .inl shB | exact fun h => h | refine ⟨?_, ?_, ?_, .inl ?_⟩ | refine ⟨?_, ?_⟩ | refine fun ii hii => ?_ | omega | fail)
            · refine shS_ite (fun c => ?_) (fun c => ?_)
              · refine shSec (x.pend.getD k (0, nought)).2 ((wrote x.last (picked (keepQ m b) (x.pend.take (k + 1)))).getD ii nought) rfl rfl ?_
                rw [e6, c, Nat.zero_add, List.getD_eq_getElem?_getD (l := List.set _ _ _), List.getElem?_set_self (by omega)]
                rfl
              · refine shSec ((wrote x.last (picked (keepQ m b) (x.pend.take k))).getD ii nought) ((wrote x.last (picked (keepQ m b) (x.pend.take (k + 1)))).getD ii nought) rfl rfl ?_
                rw [e6, List.getD_eq_getElem?_getD, List.getD_eq_getElem?_getD, List.getElem?_set_ne (by omega)]
        · rewrite [hq]
          have e1 := lost (by simp [keepQ, hq])
          conv => whnf
          rewrite [show IntKind.i64.wrap ((k : Int) + 1) = ((k + 1 : Nat) : Int) from wrap_nat (n := k + 1) (by omega)]
          refine ⟨_, _, _, ?_, ⟨[], trivial, [0, 1, 2, 3], rfl, rfl, ?_, ?_⟩, k + 1, by omega, rfl, rfl, rfl⟩
          · omega
          · rw [e1]
            (repeat' first | exact trivial | exact rfl | exact sh0 rfl | exact Nat.le_refl _ | exact .inl shA | exact .inr ⟨rfl, rfl, rfl, rfl, rfl⟩ | exact .inl shB | exact fun h => h | refine ⟨?_, ?_, ?_, .inl ?_⟩ | refine ⟨?_, ?_⟩ | refine fun ii hii => ?_ | omega | fail)
          · rw [e1]
            (repeat' first | exact trivial | exact rfl | exact sh0 rfl | exact Nat.le_refl _ | exact .inl shA | exact .inr ⟨rfl, rfl, rfl, rfl, rfl⟩ | exact .inl shB | exact fun h => h | refine ⟨?_, ?_, ?_, .inl ?_⟩ | refine ⟨?_, ?_⟩ | refine fun ii hii => ?_ | omega | fail)
      · have hm3 := of_decide_eq_false hm
        rewrite [hm]
        have e1 := lost (by simp [keepQ]; omega)
        conv => whnf
        rewrite [show IntKind.i64.wrap ((k : Int) + 1) = ((k + 1 : Nat) : Int) from wrap_nat (n := k + 1) (by omega)]
        refine ⟨_, _, _, ?_, ⟨[], trivial, [0, 1, 2, 3], rfl, rfl, ?_, ?_⟩, k + 1, by omega, rfl, rfl, rfl⟩
        · omega
        · rw [e1]
          (repeat' first | exact trivial | exact rfl | exact sh0 rfl | exact Nat.le_refl _ | exact .inl shA | exact .inr ⟨rfl, rfl, rfl, rfl, rfl⟩ | exact .inl shB | exact fun h => h | refine ⟨?_, ?_, ?_, .inl ?_⟩ | refine ⟨?_, ?_⟩ | refine fun ii hii => ?_ | omega | fail)
        · rw [e1]
          (repeat' first | exact trivial | exact rfl | exact sh0 rfl | exact Nat.le_refl _ | exact .inl shA | exact .inr ⟨rfl, rfl, rfl, rfl, rfl⟩ | exact .inl shB | exact fun h => h | refine ⟨?_, ?_, ?_, .inl ?_⟩ | refine ⟨?_, ?_⟩ | refine fun ii hii => ?_ | omega | fail)
    · rewrite [hb]
      have hb3 := of_decide_eq_false hb
      have hk2 : k = x.pend.length := by omega
      subst hk2
      rewrite [List.take_length]
      have hlk := hl x.pend.length
      rw [List.take_length] at hlk
      (conv => whnf); (repeat (refine And.intro (by first | omega | (dsimp only; omega)) ?_; conv => whnf))
      refine LCalls.pre [0, 1, 2, 3] (.cons (.ptr ⟨0, [], 4⟩) (.cons (.int .i64 (-1)) .nil)) [diskO 1 2 3 { crashed x (keepQ m b) with left := x.left }, secO (crashed x (keepQ m b)).now, secO (crashed x (keepQ m b)).last, penO []] rfl rfl ?_ ?_ ?_
      · (repeat' first | exact trivial | exact rfl | exact sh0 rfl | exact Nat.le_refl _ | exact .inl shA | exact .inr ⟨rfl, rfl, rfl, rfl, rfl⟩ | exact .inl shB | exact fun h => h | refine ⟨?_, ?_, ?_, .inl ?_⟩ | refine ⟨?_, ?_⟩ | refine fun ii hii => ?_ | omega | fail)
      · refine ⟨⟨rfl, id, rfl, .inl ⟨?_, ?_, .inr ⟨rfl, rfl, rfl, rfl, rfl⟩, ⟨rfl, ⟨rfl, rfl⟩, trivial⟩⟩⟩, ?_, ?_, ⟨rfl, id, rfl, .inr ⟨rfl, Nat.zero_le _, rfl, fun i hi => absurd hi (Nat.not_lt_zero _)⟩⟩, trivial⟩
        · exact .inl ⟨rfl, rfl, rfl, by simp [crashed, hlk], by simp [crashed, hlk], by simp [crashed, hlk], .inl rfl, Nat.le_of_ble_eq_true rfl⟩
        · exact .inl ⟨rfl, rfl, rfl, rfl, Nat.le_refl _, Nat.le_refl _, .inl rfl, Nat.le_of_ble_eq_true rfl⟩
        · refine ⟨rfl, id, rfl, .inl ⟨hlk.symm, rfl, fun i hi => shS_ite (fun c => ?_) (fun c => ?_), trivial⟩⟩
          · exact shSec ((wrote x.last (picked (keepQ m b) x.pend)).getD (0 + (i - 0)) nought) ((crashed x (keepQ m b)).now.getD i nought) rfl rfl (by rw [Nat.zero_add]; rfl)
          · exact absurd ⟨Nat.zero_le _, (by dsimp only; omega)⟩ c
        · (repeat' first | exact trivial | exact rfl | exact sh0 rfl | exact Nat.le_refl _ | exact .inl shA | exact .inr ⟨rfl, rfl, rfl, rfl, rfl⟩ | exact .inl shB | exact fun h => h | refine ⟨?_, ?_, ?_, .inl ?_⟩ | refine ⟨?_, ?_⟩ | refine fun ii hii => ?_ | omega | fail)
      refine LCalls.use (Store { crashed x (keepQ m b) with left := x.left } (-1)) [0, 1, 2, 3] rfl rfl ⟨rfl, rfl, rfl, rfl, trivial⟩ ?_; rintro _ _ ⟨rfl, rfl⟩; conv => whnf
      refine ⟨[0, 1, 2, 3], _, _, rfl, rfl, ?_, ?_, rfl, rfl⟩
      · (repeat' first | exact trivial | exact rfl | exact sh0 rfl | exact Nat.le_refl _ | exact .inl shA | exact .inr ⟨rfl, rfl, rfl, rfl, rfl⟩ | exact .inl shB | exact fun h => h | refine ⟨?_, ?_, ?_, .inl ?_⟩ | refine ⟨?_, ?_⟩ | refine fun ii hii => ?_ | omega | fail)
      · (repeat' first | exact trivial | exact rfl | exact sh0 rfl | exact Nat.le_refl _ | exact .inl shA | exact .inr ⟨rfl, rfl, rfl, rfl, rfl⟩ | exact .inl shB | exact fun h => h | refine ⟨?_, ?_, ?_, .inl ?_⟩ | refine ⟨?_, ?_⟩ | refine fun ii hii => ?_ | omega | fail)
end Go.Proofs.Ytilmfhpoiejmfaa.Dk
