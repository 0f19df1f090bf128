/- Digests on the heap of the mind: the laws. By this session. -/
import Derived.Test.YtaikhgmhocllfaaDoorSl
import Derived.Test.YtaikhgmhocllfaaDoorSm
import Derived.Test.YtaikhgmhocllfaaDoorLr
namespace Go.Proofs.YtaikhgmhocllfaaDoor.Lh
set_option linter.unusedSimpArgs false
set_option linter.unusedSectionVars false
set_option linter.unusedVariables false
section
open Go.RowKit Go.ChangeShapes Go.WideShapes Go.ChangeAt
variable [Fz]
/-- The same, of any thing that means the same wherever blocks lie: rows that are the caller's own, lent: the callee reads them alone, and gives a thing back that names no block. -/
theorem LCalls.lendC {P : Program} {f : FuncId} {args args' : LVals} {h : LHeap} {R : LVal → Prop} (F : Fzl) (hF : frzOK h [] F) (hv : shVs 0 (frzAll [] F) args args') (hcl : ∀ v, R v → ∀ (ρ ρ' : Pl) (x : Value), PV ρ v x → PV ρ' v x) (c : LCalls P f args' [] (fun e _ => ∃ v, e = .ret v ∧ R v)) :
    LCalls P f args h (fun e h' => ∃ v, e = .ret v ∧ R v ∧ h' = h) := by
  refine ⟨c.has, fun T w0 ρ w l hs hf hp => ?_⟩
  obtain ⟨ρ1, s1, e1, a1, f1, _⟩ := Sim.frz F [] h ρ hF (fun _ _ => rfl) (FzOK.nil ρ) hs rfl
  have hp1 := shVs_spec f1 args args' l hv (PVs.ext e1 _ _ hp)
  have e0 : ExtR ρ1 ⟨fun _ => none, fun k => w.heap[k]?, ρ1.tk⟩ := ⟨fun g o hg => s1.fz g o hg, fun _ _ h => h⟩
  have e2 : Ext (cutP ρ1 0) ⟨fun _ => none, fun k => w.heap[k]?, ρ1.tk⟩ := ⟨fun b x hb => (by rw [cutP_at, if_neg (Nat.not_lt_zero b)] at hb; cases hb), e0⟩
  have s2 : Sim (TW w) w ⟨fun _ => none, fun k => w.heap[k]?, ρ1.tk⟩ [] w := by
    refine ⟨fun i o h => (by simp [hget] at h), fun i j oi oj g b n b' m h => (by simp [hget] at h), fun i g b n h => (by cases h), rfl, rfl, rfl, Nat.le_refl _, fun _ _ => rfl, fun _ h => h, fun k h1 h2 => ?_, fun k o h => h, fun k o h => .inl (Array.getElem?_eq_some_iff.1 h).1, fun i o g b n h => (by simp [hget] at h), fun g s hg => PV.ext (Ext.clo e0) _ _ (s1.glob g s hg), s1.tks, fun _ _ => False, ⟨fun i o A h => (by simp [hget] at h), fun i o A k h => (by simp [hget] at h), fun i j oi oj A B k h => (by simp [hget] at h), fun i j oi oj A g b n h => (by simp [hget] at h)⟩⟩
    have h1 : k < w.heap.size := h1
    have h2 : w.heap.size ≤ k := h2
    omega
  refine (c.run (TW w) w _ w l s2 (fun _ _ => rfl) (PVs.ext e2 _ _ hp1)).mono ?_
  rintro e w' ⟨_, h', ρ', ⟨v, rfl, hR⟩, h2, _, _, h5, _, _⟩
  have hb : Below w.heap.size w w' := ⟨h5.os, h5.tape, h5.output, h5.size, fun k hk => h5.kept k (fun hT => by
    have hT : w.heap.size ≤ k := hT
    omega)⟩
  refine ⟨.ret v, h, ρ, ⟨v, rfl, hR, rfl⟩, ?_, Ext.refl ρ, fun _ _ => rfl, hs.below hb, hf, Nat.le_refl _⟩
  cases e with
  | returned x => exact hcl v hR ρ' ρ x h2
  | panicked c => exact h2.elim
  | outgrown => exact h2.elim
end
end Go.Proofs.YtaikhgmhocllfaaDoor.Lh
namespace Go.Proofs.YtaikhgmhocllfaaDoor.Sk
open Go.Proofs.YtaikhgmhocllfaaDoor.Lh Go.RowKit Go.Proofs.YtaikhgmhocllfaaDoor.Sp
set_option maxRecDepth 100000
set_option linter.unusedSimpArgs false
set_option linter.unusedSectionVars false
set_option linter.unusedVariables false
def HoldsE : LEnd → LHeap → Prop := fun e _ => e = .ret (.bool true)
theorem dV_closed (D : Sp.Bs) (ρ ρ' : Pl) (x : Value) (h : PV ρ (dV D) x) : PV ρ' (dV D) x := by
  obtain ⟨l, ⟨ls, l', rfl, h2, h3, h4⟩, rfl⟩ := h
  exact ⟨_, ⟨ls, l', rfl, h2, fun i hi => (h3 i hi).elim fun y hy => ⟨y, hy.1, hy.2.1, hy.2.2⟩, h4⟩, rfl⟩
theorem sumLend (l : Sp.Bs) (hb : l.length ≤ 1152921504606846976) : LCalls Tryd.prog 13 (.cons (.slice ⟨0, [], 0⟩ 0 1 l.length l.length none) .nil) [arrB l] (fun e h' => e = .ret (dV (digest l)) ∧ h' = [arrB l]) := by
  have h1 : frzOK [arrB l] [] [(0, l.length, 1, bySeg l)] := ⟨⟨rfl, Nat.le_refl _, rfl, fun i hi => ⟨⟨rfl, rfl⟩, trivial⟩⟩, rfl, trivial⟩
  have h2 : shVs 0 (frzAll [] [(0, l.length, 1, bySeg l)]) (.cons (.slice ⟨0, [], 0⟩ 0 1 l.length l.length none) .nil) (.cons (bysV l) .nil) := ⟨.inr ⟨rfl, rfl, rfl, rfl, rfl, by simp, fun i hi => by show bySeg l (offs 0 i) = bySeg l i; rfl⟩, trivial⟩
  have h3 : LCalls Tryd.prog 13 (.cons (bysV l) .nil) [] (fun e _ => ∃ v, e = .ret v ∧ v = dV (digest l)) := (sum l hb).mono fun _ _ h => ⟨_, h.1, rfl⟩
  refine (LCalls.lendC _ h1 h2 (fun v hv ρ ρ' x h => by subst hv; exact dV_closed _ ρ ρ' x h) h3).mono ?_
  rintro _ _ ⟨_, rfl, rfl, rfl⟩
  exact ⟨rfl, rfl⟩
theorem arEq_same {m : Nat} {f g : Nat → Segs} (h : ∀ i, f i = g i) : arEq m f g = true := by
  rw [show f = g from funext h]
  simp [arEq]
theorem ShaSum (b : Sp.Bs) (hb : b.length ≤ 1048576) : LCalls Tryd.prog 3 (.cons (bysV b) .nil) [] HoldsE := by
  refine LCalls.mono (R := fun e h' => e = .ret (.bool true) ∧ h' = []) ?_ fun _ _ h => h.1
  refine LCalls.tell ?_; refine enter3 rfl ?_; conv => whnf
  refine LCalls.use awake [] rfl rfl trivial ?_
  rintro _ _ ⟨rfl, rfl⟩
  conv => whnf
  refine LCalls.use (sum b (by omega)) [] rfl rfl trivial ?_
  rintro _ _ ⟨rfl, rfl⟩
  (conv => whnf); (repeat (refine And.intro (by first | omega | (dsimp only; omega)) ?_; conv => whnf))
  refine ⟨dV (digest b), [], ⟨⟨_, _, _, refSum b (by omega), fun _ => rfl, fun _ => rfl, rfl, fun _ => trivial, rfl⟩⟩, ?_⟩
  conv => whnf
  refine ⟨⟨fun i hi => rfl, fun i hi => rfl⟩, ?_⟩
  conv => whnf
  refine ⟨[], .ret (.bool true), [], rfl, rfl, arEq_same fun i => rfl, ?_, rfl, rfl⟩
  (repeat' first | exact trivial | exact rfl | exact Nat.le_of_ble_eq_true rfl | exact Nat.le_refl _ | exact .inl ⟨rfl, rfl, rfl, rfl, Nat.le_refl _, Nat.le_refl _, .inr rfl, Nat.le_of_ble_eq_true rfl⟩ | exact .inl ⟨rfl, rfl, rfl, rfl, Nat.le_refl _, Nat.le_refl _, .inl rfl, Nat.le_of_ble_eq_true rfl⟩ | exact .inr ⟨rfl, rfl, rfl, rfl, rfl⟩ | exact .inl ⟨rfl, rfl, rfl, (by first | omega | (simp; done) | (simp; omega)), (by first | omega | (simp; done) | (simp; omega)), (by first | omega | (simp; done) | (simp; omega)), .inr rfl, Nat.le_of_ble_eq_true rfl⟩ | exact .inl ⟨rfl, rfl, rfl, (by first | omega | (simp; done) | (simp; omega)), (by first | omega | (simp; done) | (simp; omega)), (by first | omega | (simp; done) | (simp; omega)), .inl rfl, Nat.le_of_ble_eq_true rfl⟩ | exact fun h => h | refine ⟨?_, ?_, ?_, .inl ?_⟩ | refine ⟨?_, ?_⟩ | refine fun ii hii => ?_ | omega | fail)
theorem ShaMac (key b : Sp.Bs) (hk : key.length ≤ 1048576) (hb : b.length ≤ 1048576) : LCalls Tryd.prog 4 (.cons (bysV key) (.cons (bysV b) .nil)) [] HoldsE := by
  refine LCalls.mono (R := fun e h' => e = .ret (.bool true) ∧ h' = []) ?_ fun _ _ h => h.1
  refine LCalls.tell ?_; refine enter4 rfl ?_; conv => whnf
  refine LCalls.use awake [] rfl rfl trivial ?_
  rintro _ _ ⟨rfl, rfl⟩
  conv => whnf
  refine LCalls.use (Mac key b (by omega) (by omega)) [] rfl rfl trivial ?_
  rintro _ _ ⟨rfl, rfl⟩
  (conv => whnf); (repeat (refine And.intro (by first | omega | (dsimp only; omega)) ?_; conv => whnf))
  refine ⟨dV (mac key b), [], ⟨⟨_, _, _, refMac key b (by omega) (by omega), fun _ => rfl, fun _ => rfl, rfl, fun _ => trivial, rfl⟩⟩, ?_⟩
  conv => whnf
  refine ⟨⟨fun i hi => rfl, fun i hi => rfl⟩, ?_⟩
  conv => whnf
  refine ⟨[], .ret (.bool true), [], rfl, rfl, arEq_same fun i => rfl, ?_, rfl, rfl⟩
  (repeat' first | exact trivial | exact rfl | exact Nat.le_of_ble_eq_true rfl | exact Nat.le_refl _ | exact .inl ⟨rfl, rfl, rfl, rfl, Nat.le_refl _, Nat.le_refl _, .inr rfl, Nat.le_of_ble_eq_true rfl⟩ | exact .inl ⟨rfl, rfl, rfl, rfl, Nat.le_refl _, Nat.le_refl _, .inl rfl, Nat.le_of_ble_eq_true rfl⟩ | exact .inr ⟨rfl, rfl, rfl, rfl, rfl⟩ | exact .inl ⟨rfl, rfl, rfl, (by first | omega | (simp; done) | (simp; omega)), (by first | omega | (simp; done) | (simp; omega)), (by first | omega | (simp; done) | (simp; omega)), .inr rfl, Nat.le_of_ble_eq_true rfl⟩ | exact .inl ⟨rfl, rfl, rfl, (by first | omega | (simp; done) | (simp; omega)), (by first | omega | (simp; done) | (simp; omega)), (by first | omega | (simp; done) | (simp; omega)), .inl rfl, Nat.le_of_ble_eq_true rfl⟩ | exact fun h => h | refine ⟨?_, ?_, ?_, .inl ?_⟩ | refine ⟨?_, ?_⟩ | refine fun ii hii => ?_ | omega | fail)
def partsV (l : List Sp.Bs) : LVal := .rsl l.length 1 (fun i => .one (bysV (l.getD i [])) .nil)
def allOf (l : List Sp.Bs) (k : Nat) : Sp.Bs := (l.take k).flatten
theorem allOf_succ {l : List Sp.Bs} {k : Nat} (hk : k < l.length) : allOf l (k + 1) = allOf l k ++ l.getD k [] := by
  unfold allOf
  rw [List.take_add_one, List.flatten_append, List.getD_eq_getElem?_getD, List.getElem?_eq_getElem hk]
  simp
theorem ShaParts (l : List Sp.Bs) (hl : ∀ k, k ≤ 41 → (allOf l k).length ≤ 42991616) : LCalls Tryd.prog 5 (.cons (partsV l) .nil) [] HoldsE := by
  refine LCalls.mono (R := fun e h' => e = .ret (.bool true) ∧ h' = []) ?_ fun _ _ h => h.1
  refine LCalls.tell ?_; refine enter5 rfl ?_; conv => whnf
  refine LCalls.use awake [] rfl rfl trivial ?_
  rintro _ _ ⟨rfl, rfl⟩
  conv => whnf
  refine LCalls.use (New rfl) [] rfl rfl trivial ?_
  rintro _ _ ⟨rfl, rfl⟩
  conv => whnf
  refine Loop.inv (lwp_mono _) (fun n t1 h => ∃ (k : Nat) (ob : Sp.Bs), k ≤ l.length ∧ k ≤ 40 ∧ HashOk (allOf l k) ob ∧ n = l.length - k ∧ t1 = [partsV l, .any, .any, .bool true, .ptr ⟨0, [], 0⟩, .slice ⟨1, [], 0⟩ 0 1 (allOf l k).length (allOf l k).length none, .int .i64 (k : Int), .any, .any, .any, .any, .any, .any, .any, .any, .any, .any, .any, .any, .any, .any, .any, .any, .any, .any, .any, .any, .any, .any, .any, .any, .any, .any, .any, .any, .any, .any, .any, .any, .any, .any, .any, .any, .any, .any, .any, .any, .any, .any, .any, .any, .any, .any, .any] ∧ h = [hashO (allOf l k) ob, arrB (allOf l k)]) ?_ ?_
  · refine ⟨_, _, _, ⟨[], trivial, [0, 99], rfl, rfl, ?_, ?_⟩, 0, _, Nat.zero_le _, Nat.zero_le _, ok_nil, rfl, rfl, rfl⟩
    · rewrite [show allOf l 0 = [] from rfl]
      (repeat' first | exact trivial | exact rfl | exact Nat.le_of_ble_eq_true rfl | exact Nat.le_refl _ | exact .inl ⟨rfl, rfl, rfl, rfl, Nat.le_refl _, Nat.le_refl _, .inr rfl, Nat.le_of_ble_eq_true rfl⟩ | exact .inl ⟨rfl, rfl, rfl, rfl, Nat.le_refl _, Nat.le_refl _, .inl rfl, Nat.le_of_ble_eq_true rfl⟩ | exact .inr ⟨rfl, rfl, rfl, rfl, rfl⟩ | exact .inl ⟨rfl, rfl, rfl, (by first | omega | (simp; done) | (simp; omega)), (by first | omega | (simp; done) | (simp; omega)), (by first | omega | (simp; done) | (simp; omega)), .inr rfl, Nat.le_of_ble_eq_true rfl⟩ | exact .inl ⟨rfl, rfl, rfl, (by first | omega | (simp; done) | (simp; omega)), (by first | omega | (simp; done) | (simp; omega)), (by first | omega | (simp; done) | (simp; omega)), .inl rfl, Nat.le_of_ble_eq_true rfl⟩ | exact fun h => h | refine ⟨?_, ?_, ?_, .inl ?_⟩ | refine ⟨?_, ?_⟩ | refine fun ii hii => ?_ | omega | fail)
    · rewrite [show allOf l 0 = [] from rfl]
      unfold arrB
      (repeat' first | exact trivial | exact rfl | exact Nat.le_of_ble_eq_true rfl | exact Nat.le_refl _ | exact .inl ⟨rfl, rfl, rfl, rfl, Nat.le_refl _, Nat.le_refl _, .inr rfl, Nat.le_of_ble_eq_true rfl⟩ | exact .inl ⟨rfl, rfl, rfl, rfl, Nat.le_refl _, Nat.le_refl _, .inl rfl, Nat.le_of_ble_eq_true rfl⟩ | exact .inr ⟨rfl, rfl, rfl, rfl, rfl⟩ | exact .inl ⟨rfl, rfl, rfl, (by first | omega | (simp; done) | (simp; omega)), (by first | omega | (simp; done) | (simp; omega)), (by first | omega | (simp; done) | (simp; omega)), .inr rfl, Nat.le_of_ble_eq_true rfl⟩ | exact .inl ⟨rfl, rfl, rfl, (by first | omega | (simp; done) | (simp; omega)), (by first | omega | (simp; done) | (simp; omega)), (by first | omega | (simp; done) | (simp; omega)), .inl rfl, Nat.le_of_ble_eq_true rfl⟩ | exact fun h => h | refine ⟨?_, ?_, ?_, .inl ?_⟩ | refine ⟨?_, ?_⟩ | refine fun ii hii => ?_ | omega | fail)
      all_goals exact ⟨rfl, trivial⟩
  · rintro n _ _ ⟨k, ob, hk, hk40, hok, rfl, rfl, rfl⟩
    have hA := hl k (by omega)
    have hA2 := hl (k + 1) (by omega)
    have hst : k < l.length → allOf l (k + 1) = allOf l k ++ l.getD k [] := allOf_succ
    generalize allOf l k = A at hok hA hst
    conv => whnf
    cases hlt : decide ((k : Int) < (l.length : Int)) with
    | false =>
      have hlt := of_decide_eq_false hlt
      conv => whnf
      refine LCalls.use (Sum A ob hok (by omega)) [0] rfl rfl ⟨rfl, trivial⟩ ?_
      rintro _ _ ⟨rfl, rfl⟩
      conv => whnf
      refine LCalls.use (sumLend A (by omega)) [1] rfl rfl ⟨rfl, trivial⟩ ?_
      rintro _ _ ⟨rfl, rfl⟩
      (conv => whnf); (repeat (refine And.intro (by first | omega | (dsimp only; omega)) ?_; conv => whnf))
      refine ⟨⟨fun i hi => rfl, fun i hi => rfl⟩, ?_⟩
      conv => whnf
      refine ⟨[], .ret (.bool true), [], rfl, rfl, arEq_same fun i => rfl, ?_, rfl, rfl⟩
      (repeat' first | exact trivial | exact rfl | exact Nat.le_of_ble_eq_true rfl | exact Nat.le_refl _ | exact .inl ⟨rfl, rfl, rfl, rfl, Nat.le_refl _, Nat.le_refl _, .inr rfl, Nat.le_of_ble_eq_true rfl⟩ | exact .inl ⟨rfl, rfl, rfl, rfl, Nat.le_refl _, Nat.le_refl _, .inl rfl, Nat.le_of_ble_eq_true rfl⟩ | exact .inr ⟨rfl, rfl, rfl, rfl, rfl⟩ | exact .inl ⟨rfl, rfl, rfl, (by first | omega | (simp; done) | (simp; omega)), (by first | omega | (simp; done) | (simp; omega)), (by first | omega | (simp; done) | (simp; omega)), .inr rfl, Nat.le_of_ble_eq_true rfl⟩ | exact .inl ⟨rfl, rfl, rfl, (by first | omega | (simp; done) | (simp; omega)), (by first | omega | (simp; done) | (simp; omega)), (by first | omega | (simp; done) | (simp; omega)), .inl rfl, Nat.le_of_ble_eq_true rfl⟩ | exact fun h => h | refine ⟨?_, ?_, ?_, .inl ?_⟩ | refine ⟨?_, ?_⟩ | refine fun ii hii => ?_ | omega | fail)
    | true =>
      have hlt := of_decide_eq_true hlt
      conv => whnf
      cases hlt4 : decide ((k : Int) < 40) with
      | false =>
        have hlt4 := of_decide_eq_false hlt4
        conv => whnf
        refine LCalls.use (Sum A ob hok (by omega)) [0] rfl rfl ⟨rfl, trivial⟩ ?_
        rintro _ _ ⟨rfl, rfl⟩
        conv => whnf
        refine LCalls.use (sumLend A (by omega)) [1] rfl rfl ⟨rfl, trivial⟩ ?_
        rintro _ _ ⟨rfl, rfl⟩
        (conv => whnf); (repeat (refine And.intro (by first | omega | (dsimp only; omega)) ?_; conv => whnf))
        refine ⟨⟨fun i hi => rfl, fun i hi => rfl⟩, ?_⟩
        conv => whnf
        refine ⟨[], .ret (.bool true), [], rfl, rfl, arEq_same fun i => rfl, ?_, rfl, rfl⟩
        (repeat' first | exact trivial | exact rfl | exact Nat.le_of_ble_eq_true rfl | exact Nat.le_refl _ | exact .inl ⟨rfl, rfl, rfl, rfl, Nat.le_refl _, Nat.le_refl _, .inr rfl, Nat.le_of_ble_eq_true rfl⟩ | exact .inl ⟨rfl, rfl, rfl, rfl, Nat.le_refl _, Nat.le_refl _, .inl rfl, Nat.le_of_ble_eq_true rfl⟩ | exact .inr ⟨rfl, rfl, rfl, rfl, rfl⟩ | exact .inl ⟨rfl, rfl, rfl, (by first | omega | (simp; done) | (simp; omega)), (by first | omega | (simp; done) | (simp; omega)), (by first | omega | (simp; done) | (simp; omega)), .inr rfl, Nat.le_of_ble_eq_true rfl⟩ | exact .inl ⟨rfl, rfl, rfl, (by first | omega | (simp; done) | (simp; omega)), (by first | omega | (simp; done) | (simp; omega)), (by first | omega | (simp; done) | (simp; omega)), .inl rfl, Nat.le_of_ble_eq_true rfl⟩ | exact fun h => h | refine ⟨?_, ?_, ?_, .inl ?_⟩ | refine ⟨?_, ?_⟩ | refine fun ii hii => ?_ | omega | fail)
      | true =>
        have hlt4 := of_decide_eq_true hlt4
        conv => whnf
        refine ⟨⟨by omega, by omega⟩, ?_⟩
        rewrite [Int.toNat_natCast]
        conv => whnf
        generalize hp : l.getD k [] = p at hst
        have hst := hst (by omega)
        rewrite [hst, List.length_append] at hA2
        refine LCalls.use (Write A ob p hok (by omega)) [0] rfl rfl ⟨rfl, trivial⟩ ?_
        rintro _ _ ⟨ob2, hok2, rfl, rfl⟩
        conv => whnf
        refine ⟨⟨by omega, by omega⟩, ?_⟩
        rewrite [Int.toNat_natCast]
        conv => whnf
        rewrite [hp]
        refine ⟨⟨by omega, by omega, by omega⟩, ?_⟩
        rewrite [app_rows A p rfl, ← List.length_append]
        conv => whnf
        refine LCalls.use (Sum (A ++ p) ob2 hok2 (by rw [List.length_append]; omega)) [0] rfl rfl ⟨rfl, trivial⟩ ?_
        rintro _ _ ⟨rfl, rfl⟩
        conv => whnf
        refine LCalls.use (sumLend (A ++ p) (by rw [List.length_append]; omega)) [2] rfl rfl ⟨rfl, trivial⟩ ?_
        rintro _ _ ⟨rfl, rfl⟩
        (conv => whnf); (repeat (refine And.intro (by first | omega | (dsimp only; omega)) ?_; conv => whnf))
        refine ⟨⟨fun i hi => rfl, fun i hi => rfl⟩, ?_⟩
        conv => whnf
        rewrite [arEq_same]
        · conv => whnf
          refine ⟨_, _, _, ?_, ⟨[], trivial, [0, 2], rfl, rfl, ?_, ?_⟩, k + 1, ob2, by omega, by omega, (by rw [hst]; exact hok2), rfl, rfl, rfl⟩
          · omega
          · rewrite [hst]
            (repeat' first | exact trivial | exact rfl | exact Nat.le_of_ble_eq_true rfl | exact Nat.le_refl _ | exact .inl ⟨rfl, rfl, rfl, rfl, Nat.le_refl _, Nat.le_refl _, .inr rfl, Nat.le_of_ble_eq_true rfl⟩ | exact .inl ⟨rfl, rfl, rfl, rfl, Nat.le_refl _, Nat.le_refl _, .inl rfl, Nat.le_of_ble_eq_true rfl⟩ | exact .inr ⟨rfl, rfl, rfl, rfl, rfl⟩ | exact .inl ⟨rfl, rfl, rfl, (by first | omega | (simp; done) | (simp; omega)), (by first | omega | (simp; done) | (simp; omega)), (by first | omega | (simp; done) | (simp; omega)), .inr rfl, Nat.le_of_ble_eq_true rfl⟩ | exact .inl ⟨rfl, rfl, rfl, (by first | omega | (simp; done) | (simp; omega)), (by first | omega | (simp; done) | (simp; omega)), (by first | omega | (simp; done) | (simp; omega)), .inl rfl, Nat.le_of_ble_eq_true rfl⟩ | exact fun h => h | refine ⟨?_, ?_, ?_, .inl ?_⟩ | refine ⟨?_, ?_⟩ | refine fun ii hii => ?_ | omega | fail)
            all_goals exact wrapI (by omega)
          · rewrite [hst]
            (repeat' first | exact trivial | exact rfl | exact Nat.le_of_ble_eq_true rfl | exact Nat.le_refl _ | exact .inl ⟨rfl, rfl, rfl, rfl, Nat.le_refl _, Nat.le_refl _, .inr rfl, Nat.le_of_ble_eq_true rfl⟩ | exact .inl ⟨rfl, rfl, rfl, rfl, Nat.le_refl _, Nat.le_refl _, .inl rfl, Nat.le_of_ble_eq_true rfl⟩ | exact .inr ⟨rfl, rfl, rfl, rfl, rfl⟩ | exact .inl ⟨rfl, rfl, rfl, (by first | omega | (simp; done) | (simp; omega)), (by first | omega | (simp; done) | (simp; omega)), (by first | omega | (simp; done) | (simp; omega)), .inr rfl, Nat.le_of_ble_eq_true rfl⟩ | exact .inl ⟨rfl, rfl, rfl, (by first | omega | (simp; done) | (simp; omega)), (by first | omega | (simp; done) | (simp; omega)), (by first | omega | (simp; done) | (simp; omega)), .inl rfl, Nat.le_of_ble_eq_true rfl⟩ | exact fun h => h | refine ⟨?_, ?_, ?_, .inl ?_⟩ | refine ⟨?_, ?_⟩ | refine fun ii hii => ?_ | omega | fail)
        · exact fun i => rfl
end Go.Proofs.YtaikhgmhocllfaaDoor.Sk
