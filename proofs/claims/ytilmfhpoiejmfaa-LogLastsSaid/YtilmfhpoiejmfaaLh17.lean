/- Ranges over functions, in a block behind what makes the function. Over any program. -/
import Derived.Test.YtilmfhpoiejmfaaLh16
namespace Go.Proofs.Ytilmfhpoiejmfaa.Lh
set_option linter.unusedSimpArgs false
set_option linter.unusedVariables false
set_option linter.unusedSectionVars false
open Go.RowKit
variable [Fz]
def compileBR2 (P : Program) : Code → Option LBodyR
  | .seq x y => match x with
    | .seq x1 (.block _ (.rangeFunc g ps asg body)) => withO (compileC P x1) fun lx => withO (compileOpd g) fun g => withO (compileC P asg) fun la => withO (compileC P body) fun lb => withO (compileBR2 P y) fun b => some (.seq lx (.range g ps.toList la lb b))
    | x => withO (compileC P x) fun c => withO (compileBR2 P y) fun b => some (.seq c b)
  | .block _ (.rangeFunc g ps asg body) => withO (compileOpd g) fun g => withO (compileC P asg) fun la => withO (compileC P body) fun lb => some (.range g ps.toList la lb (.code .skip))
  | c => withO (compileC P c) fun c => some (.code c)
section
variable {T : Nat → Nat → Prop} {w0 : World} {P : Program}
theorem bodyR_wp2 : ∀ (c : Code) (b : LBodyR), compileBR2 P c = some b → ∀ {L : Nat} {M : LMarks} {Q : LMarks → LExit → List LVal → LHeap → Prop} {ρ : Pl} {t : List LVal} {h : LHeap} {a : Act} {w : World}, L ≤ h.length → Sim T w0 ρ h w → (∀ i, h.length ≤ i → ρ i = none) → TSim ρ t a → MarksPV M a.defers → bwpR P L M b Q t h → c.wpIn (FW none) 0 P (PQM T w0 ρ L Q) a w := by
  intro c
  induction c with
  | seq x y ihx ihy =>
    clear ihx
    intro b hb L M Q ρ t h a w hL hs hf ht hD hw
    simp only [compileBR2] at hb
    split at hb
    · rename_i x1 id g ps asg body
      obtain ⟨x1', hx1, hb⟩ := withO_some hb
      obtain ⟨g', h1, hb⟩ := withO_some hb
      obtain ⟨la, h2, hb⟩ := withO_some hb
      obtain ⟨lb, h3, hb⟩ := withO_some hb
      obtain ⟨b', h4, hb⟩ := withO_some hb
      cases hb
      refine wpIn_seq (wpIn_seq (wpIn_mono (code_wp (κ := none) (D := a.defers) x1 x1' hx1 hL hs hf ht rfl hw) ?_))
      rintro e a' w' ⟨le, t', h', ρ', q1, q2, q3, q4, q5⟩
      have hD' : MarksPV M a'.defers := by rw [q5]; exact hD
      cases le <;> cases e <;> try exact q2.elim
      · refine wpIn_block (range_wp h1 h2 h3 q4.len q4.sim q4.fresh q3 hD' q1 (fun M' a'' w'' ρ'' h'' k1 k2 k3 k4 => ?_))
        have k3' := q4.trans k3
        exact wpIn_mono (ihy b' h4 k3'.len k3'.sim k3'.fresh k2 k1 k4) (fun e a w q => PQM.step k3' q)
      · exact ⟨M, _, t', h', ρ', q1, q2, q3, q4, hD'⟩
      · exact ⟨M, _, t', h', ρ', q1, q2, q3, q4, hD'⟩
      · exact ⟨M, _, t', h', ρ', q1, q2, q3, q4, hD'⟩
    · obtain ⟨x', hx, hb⟩ := withO_some hb
      obtain ⟨b', hb', hb⟩ := withO_some hb
      cases hb
      refine wpIn_seq (wpIn_mono (code_wp (κ := none) (D := a.defers) x x' hx hL hs hf ht rfl hw) ?_)
      rintro e a' w' ⟨le, t', h', ρ', q1, q2, q3, q4, q5⟩
      have hD' : MarksPV M a'.defers := by rw [q5]; exact hD
      cases le <;> cases e <;> try exact q2.elim
      · exact wpIn_mono (ihy b' hb' q4.len q4.sim q4.fresh q3 hD' q1) (fun e a w q => PQM.step q4 q)
      · exact ⟨M, _, t', h', ρ', q1, q2, q3, q4, hD'⟩
      · exact ⟨M, _, t', h', ρ', q1, q2, q3, q4, hD'⟩
      · exact ⟨M, _, t', h', ρ', q1, q2, q3, q4, hD'⟩
  | block id x _ =>
    intro b hb L M Q ρ t h a w hL hs hf ht hD hw
    cases x with
    | rangeFunc g ps asg body =>
      obtain ⟨g', h1, hb⟩ := withO_some hb
      obtain ⟨la, h2, hb⟩ := withO_some hb
      obtain ⟨lb, h3, hb⟩ := withO_some hb
      cases hb
      refine wpIn_block (range_wp h1 h2 h3 hL hs hf ht hD hw (fun M' a' w' ρ' h' k1 k2 k3 k4 => ?_))
      exact ⟨M', .normal, t, h', ρ', k4, trivial, k2, k3, k1⟩
    | _ =>
      obtain ⟨c', hc, hb⟩ := withO_some hb
      cases hb
      exact plain_codeR hc hL hs hf ht hD hw
  | _ =>
    intro b hb L M Q ρ t h a w hL hs hf ht hD hw
    obtain ⟨c', hc, hb⟩ := withO_some hb
    cases hb
    exact plain_codeR hc hL hs hf ht hD hw
/-- A function whose body ranges over functions. -/
theorem LCalls.of_bodyR2 {f : FuncId} {fn : Func} {c : Code} {lb : LBodyR} {lr : List LRes} {args : LVals} {h : LHeap} {R : LEnd → LHeap → Prop} (hfn : P.funcs[f]? = some fn) (hb : fn.body = some c) (hhas : hasBody P f = true) (hc : compileBR2 P c = some lb) (hr : compileRes P fn.results.toList = some lr) (k : Nat) (hk : fn.ntmps - lvsLen args = k)
    (hw : initK args k fun t => bwpR P h.length [] lb (endQR lr R) t h) : LCalls P f args h R := by
  refine ⟨hhas, fun T w0 ρ w l hs hf hv => ?_⟩
  rw [initK_eq] at hw
  suffices hq : CallsIn (FW none) 0 P f l.toArray w _ from callsIn_wide.1 hq
  refine callsIn_of_wp_marks hfn hb trivial (wpIn_mono (bodyR_wp2 (T := T) (w0 := w0) (M := []) c lb hc (Nat.le_refl _) hs hf (init_TSim hv hk []) .nil hw) ?_)
  rintro e a w' ⟨D, le, t', h', ρ', q1, q2, q3, q4, q5⟩
  have hext := q4.ext hf
  have out : ∀ e' w'', (∃ r h'' ρ'', R r h'' ∧ EndPV ρ'' r e' ∧ Ext ρ' ρ'' ∧ (∀ i, i < h'.length → ρ'' i = ρ' i) ∧ Sim T w0 ρ'' h'' w'' ∧ (∀ i, h''.length ≤ i → ρ'' i = none) ∧ h'.length ≤ h''.length) →
      ∃ r h'' ρ'', R r h'' ∧ EndPV ρ'' r e' ∧ Ext ρ ρ'' ∧ (∀ i, i < h.length → ρ'' i = ρ i) ∧ Sim T w0 ρ'' h'' w'' ∧ (∀ i, h''.length ≤ i → ρ'' i = none) ∧ h.length ≤ h''.length := by
    rintro e' w'' ⟨r, h'', ρ'', s1, s2, s3, s4, s5, s6, s7⟩
    have := q4.len
    exact ⟨r, h'', ρ'', s1, s2, hext.trans s3, fun i hi => (s4 i (by omega)).trans (q4.keep i hi), s5, s6, by omega⟩
  cases le <;> cases e <;> try exact q2.elim
  · exact bodyPostM_mono out _ _ _ q5.mem (endR_leaves hr D a.defers q1 q5 rfl q4.sim q4.fresh q3)
  · exact q1.elim
  · exact bodyPostM_mono out _ _ _ q5.mem (endR_leaves hr D a.defers q1 q5 rfl q4.sim q4.fresh q3)
  · obtain ⟨x, rfl, hx⟩ := q2
    exact bodyPostM_mono out _ _ _ q5.mem (endR_leaves hr D a.defers q1 q5 ⟨x, rfl, hx⟩ q4.sim q4.fresh q3)
theorem LCalls.enterRg2 {f : FuncId} {fn : Func} {lb : LBodyR} {lr : List LRes} {args : LVals} {h : LHeap} {R : LEnd → LHeap → Prop} (hfn : P.funcs[f]? = some fn) (hb : fn.body.bind (compileBR2 P) = some lb) (hhas : hasBody P f = true) (hr : compileRes P fn.results.toList = some lr) (k : Nat) (hk : fn.ntmps - lvsLen args = k)
    (hw : initK args k fun t => bwpR P h.length [] lb (endQR lr R) t h) : LCalls P f args h R := by
  cases hc : fn.body with
  | none => rw [hc] at hb; cases hb
  | some c =>
    rw [hc] at hb
    exact LCalls.of_bodyR2 hfn hc hhas hb hr k hk hw
/-- What a round leaves, told. -/
theorem LRound.tell {l n : Nat} {tm : List Value} {args : LVals} {h : LHeap} {R : LEnd → LHeap → Prop} (c : LRound P l n tm args h (Told h.length R)) : LRound P l n tm args h R := by
  refine ⟨fun T w0 ρ w L h1 h2 h3 => yieldG_mono _ _ _ _ ?_ (c.run T w0 ρ w L h1 h2 h3)⟩
  rintro e w' ⟨r, h', ρ', ⟨gl, e', h'', q0, q1, q2, q3, q4⟩, h5, h6, h7, h8, h9, h10⟩
  have hgl := (shH_spec _ _ q3).1
  obtain ⟨ρ3, g1, g5, g6, g7⟩ := h8.tell (F := []) h9 trivial q0 q3
  refine ⟨e', h'', newP ρ3 gl, q4, ?_, ⟨fun b x hb => ?_, h6.r.trans g5.r⟩, fun i hi => (newP_id q1 i hi).trans ((congrFun g6 i).trans (h7 i hi)), g1, fun i hi => by rw [newP_at, if_neg (by omega)], by rw [← hgl]; exact idl_len q1⟩
  · cases r <;> cases e' <;> try exact q2.elim
    · cases e <;> try exact h5.elim
      exact PV.unren newP_cut _ _ (shV_spec g7 _ _ _ q2 (PV.ext g5 _ _ h5))
    · cases e <;> try exact h5.elim
      obtain ⟨x, e1, e2⟩ := h5
      exact ⟨x, e1, PV.unren newP_cut _ _ (shV_spec g7 _ _ _ q2 (PV.ext g5 _ _ e2))⟩
  · have hbl : b < h.length := by
      rcases Nat.lt_or_ge b h.length with c | c
      · exact c
      · rw [h2 b c] at hb; cases hb
    rw [newP_id q1 b hbl]
    exact (congrFun g6 b).trans (h6.at_ b x hb)
end
end Go.Proofs.Ytilmfhpoiejmfaa.Lh
