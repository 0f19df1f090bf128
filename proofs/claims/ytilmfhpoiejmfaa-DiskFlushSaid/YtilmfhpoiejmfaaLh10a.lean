/- The world's code does what the code on the heap of the mind does. Over any program. -/
import Derived.Test.YtilmfhpoiejmfaaLh9
namespace Go.Proofs.Ytilmfhpoiejmfaa.Lh
set_option linter.unusedSimpArgs false
set_option linter.unusedVariables false
set_option linter.unusedSectionVars false
open Go.RowKit
variable [Fz]
theorem least_ex {p : Nat → Prop} : ∀ n, p n → ∃ m, p m ∧ ∀ k, p k → m ≤ k := by
  intro n
  induction n using Nat.strongRecOn with
  | _ n ih =>
    intro hn
    by_cases c : ∃ m, m < n ∧ p m
    · obtain ⟨m, hm, hp⟩ := c
      exact ih m hm hp
    · exact ⟨n, hn, fun k hk => by
        rcases Nat.lt_or_ge k n with h | h
        · exact absurd ⟨k, h, hk⟩ c
        · exact h⟩
open Classical in
/-- The least number of a kind. -/
noncomputable def sInf' (p : Nat → Prop) : Nat := if h : ∃ m, p m ∧ ∀ k, p k → m ≤ k then Classical.choose h else 0
theorem sInf'_spec {p : Nat → Prop} (h : ∃ n, p n) : p (sInf' p) := by
  obtain ⟨n, hn⟩ := h
  have h := least_ex n hn
  unfold sInf'
  rw [dif_pos h]
  exact (Classical.choose_spec h).1
theorem sInf'_le {p : Nat → Prop} {n : Nat} (hn : p n) : sInf' p ≤ n := by
  have h := least_ex n hn
  unfold sInf'
  rw [dif_pos h]
  exact (Classical.choose_spec h).2 n hn
def compileAct (P : Program) (o : Oper) : Option LAct :=
  match o.op with
  | .call c => match c.callee with
    | .value f => match f with
      | .func g => match atomicOf P g with
        | some k => withO (compileAt k c.args.toList) fun x => some (.op x)
        | none => withO (compileOpds c.args.toList) fun xs => some (.call g xs)
      | .tmp i => withO (compileOpds c.args.toList) fun xs => some (.callv (.tmp i) xs)
      | _ => none
    | .builtin b => withO (compileB P b c.args.toList c.argTypes.toList) fun x => some (.op x)
    | _ => none
  | .panic x => withO (compileOpd x) fun x => some (.panic x)
  | _ => withO (compileOp P o) fun x => some (.op x)
def compileOper (P : Program) (ops : Array Oper) (o : Oper) : Option LOper :=
  withO (compileAct P o) fun x => match o.guard with
    | none => some ⟨o.dst, none, x⟩
    | some (j, want) => withO ((ops[j]?).bind (·.dst)) fun d => some ⟨o.dst, some (d, want), x⟩
def compileR (P : Program) (ops : Array Oper) : List Nat → Option (List LOper)
  | [] => some []
  | i :: r => withO ops[i]? fun o => withO (compileOper P ops o) fun x => withO (compileR P ops r) fun y => some (x :: y)
section
variable {T : Nat → Nat → Prop} {w0 : World} {P : Program}
theorem run_callFunc {f : FuncId} (h : hasBody P f = true) (args : Array Value) (w : World) : (callFunc f args).run P w = .ok (.enter f args) w := by
  unfold hasBody at h
  split at h
  · rename_i fn hf
    simp only [Bool.and_eq_true, Bool.not_eq_true'] at h
    have h1 : fn.body.isNone = false := by
      cases hb : fn.body with
      | none => rw [hb] at h; cases h.1
      | some x => rfl
    have h2 : ¬ fn.name = "runtime.NumGoroutine" := by simpa using h.2
    obtain ⟨c, hc⟩ := Option.isSome_iff_exists.1 h.1
    simp [callFunc, hf, h2, hc]
  · cases h
theorem TSim.ext {ρ ρ' : Pl} {t : List LVal} {a : Act} (h : TSim ρ t a) (e : Ext ρ ρ') : TSim ρ' t a := ⟨h.1, fun i => PV.ext e _ _ (h.2 i)⟩
theorem lset_length (t : List LVal) (d : Nat) (v : LVal) : (lset t d v).length = t.length := by
  induction t generalizing d with
  | nil => rfl
  | cons x r ih => cases d <;> simp [lset, ih]
theorem lget_lset (t : List LVal) (d : Nat) (v : LVal) (i : Nat) : lget (lset t d v) i = if i = d ∧ d < t.length then v else lget t i := by
  induction t generalizing d i with
  | nil => simp [lset, lget]
  | cons x r ih =>
    cases d with
    | zero => cases i <;> simp [lset, lget]
    | succ d => cases i <;> simp [lset, lget, ih]
theorem TSim.set {ρ : Pl} {t : List LVal} {a : Act} (h : TSim ρ t a) (d : Nat) {v : LVal} {x : Value} (hv : PV ρ v x) : TSim ρ (lset t d v) (a.put (some d) x) := by
  refine ⟨by rw [lset_length, h.1]; simp [Act.put], fun i => ?_⟩
  rw [lget_lset]
  by_cases c : i = d ∧ d < t.length
  · rw [if_pos c]
    obtain ⟨rfl, c⟩ := c
    have : i < a.tmps.size := by rw [← h.1]; exact c
    simp only [Act.put, Array.getD_eq_getD_getElem?]
    rw [Array.getElem?_setIfInBounds_self_of_lt this]
    exact hv
  · rw [if_neg c]
    have : (a.put (some d) x).tmps.getD i undef = a.tmps.getD i undef := by
      simp only [Act.put, Array.getD_eq_getD_getElem?]
      by_cases e : d = i
      · subst e
        have : ¬ d < a.tmps.size := by rw [← h.1]; exact fun hd => c ⟨rfl, hd⟩
        rw [Array.getElem?_eq_none (by simpa using this), Array.getElem?_eq_none (by omega)]
      · rw [Array.getElem?_setIfInBounds_ne e]
    rw [this]
    exact h.2 i
theorem setDst_put {ρ : Pl} {t : List LVal} {a : Act} (h : TSim ρ t a) (d : Option Nat) {v : LVal} {x : Value} (hv : PV ρ v x) {K : List LVal → Prop} (hK : setDst t d v K) : ∃ t', K t' ∧ TSim ρ t' (a.put d x) := by
  cases d with
  | none => exact ⟨t, hK, h⟩
  | some d =>
    simp only [setDst, setK_eq] at hK
    exact ⟨_, hK, h.set d hv⟩
theorem opdK_wp {ρ : Pl} {t : List LVal} {a : Act} (ht : TSim ρ t a) {X : Operand} {x : LOpd} (hx : compileOpd X = some x) {K : LVal → Prop} (hw : opdK t x K) : ∃ v, PV ρ v (a.eval X) ∧ K v := by
  have e : ∀ K' : LVal → Prop, opdK t x K' = (x.rd one).wp t [] (fun v _ _ => K' v) := by
    intro K'
    cases x <;> simp [opdK, LOpd.rd, Rd.wp, one]
  rw [e] at hw
  obtain ⟨v, h1, h2⟩ := opd_wp (h := []) hx ht hw
  exact ⟨v, h1, h2⟩
theorem argsK_wp {ρ : Pl} {t : List LVal} {a : Act} (ht : TSim ρ t a) : ∀ {X : List Operand} {x : List LOpd} (_ : compileOpds X = some x) {K : LVals → Prop} (_ : argsK t x K), ∃ vs, PVs ρ vs (X.map a.eval) ∧ K vs
  | [], x, hx, K, hw => by
    simp [compileOpds] at hx
    subst hx
    exact ⟨.nil, rfl, hw⟩
  | X :: R, x, hx, K, hw => by
    unfold compileOpds at hx
    split at hx
    · rename_i y s h1 h2
      simp at hx
      subst hx
      obtain ⟨v, hv, h3⟩ := opdK_wp ht h1 hw
      obtain ⟨vs, hvs, h4⟩ := argsK_wp ht h2 h3
      exact ⟨.cons v vs, ⟨_, _, rfl, hv, hvs⟩, h4⟩
    · cases hx
theorem appVs_PVs {ρ : Pl} : ∀ (a b : LVals) (l m : List Value), PVs ρ a l → PVs ρ b m → PVs ρ (appVs a b) (l ++ m)
  | .nil, b, l, m, h1, h2 => by
    have : l = [] := h1
    subst this; exact h2
  | .cons v r, b, l, m, h1, h2 => by
    obtain ⟨x, l', rfl, h3, h4⟩ := h1
    exact ⟨x, l' ++ m, rfl, h3, appVs_PVs r b l' m h4 h2⟩
theorem updU_length (h : LHeap) (u : List (Nat × Option LObj)) : h.length ≤ (updU h u).length := by
  induction u generalizing h with
  | nil => exact Nat.le_refl _
  | cons x r ih => obtain ⟨i, o⟩ := x; exact Nat.le_trans (hset_length h i o).1 (ih _)
theorem applyU_length (h : LHeap) (u : List (Nat × Option LObj)) (n : Nat) (nw : Option LObj) : h.length ≤ (applyU h u n nw).length ∧ (nw ≠ none → n < (applyU h u n nw).length) := by
  unfold applyU
  cases nw with
  | none => exact ⟨updU_length h u, fun e => absurd rfl e⟩
  | some o => exact ⟨Nat.le_trans (updU_length h u) (hset_length _ _ _).1, fun _ => (hset_length _ _ _).2⟩
/-- A step further: more is placed, what stood stands. -/
structure Stp (T : Nat → Nat → Prop) (w0 : World) (ρ : Pl) (h : LHeap) (ρ' : Pl) (h' : LHeap) (w' : World) : Prop where
  ext : Ext ρ ρ'
  keep : ∀ i, i < h.length → ρ' i = ρ i
  sim : Sim T w0 ρ' h' w'
  fresh : ∀ i, h'.length ≤ i → ρ' i = none
  len : h.length ≤ h'.length
theorem Stp.refl {ρ : Pl} {h : LHeap} {w : World} (hs : Sim T w0 ρ h w) (hf : ∀ i, h.length ≤ i → ρ i = none) : Stp T w0 ρ h ρ h w := ⟨Ext.refl ρ, fun _ _ => rfl, hs, hf, Nat.le_refl _⟩
theorem Stp.trans {ρ ρ1 ρ2 : Pl} {h h1 h2 : LHeap} {w1 w2 : World} (a : Stp T w0 ρ h ρ1 h1 w1) (b : Stp T w0 ρ1 h1 ρ2 h2 w2) : Stp T w0 ρ h ρ2 h2 w2 :=
  ⟨a.ext.trans b.ext, fun i hi => (b.keep i (by have := a.len; omega)).trans (a.keep i hi), b.sim, b.fresh, Nat.le_trans a.len b.len⟩
theorem call_wp {o : Oper} {a : Act} {w : World} {next : Act → World → Prop} {Q : Exit → Act → World → Prop} {ρ : Pl} {h : LHeap} {f : FuncId} {vs : LVals} {l : List Value} {K X : LVal → LHeap → Prop} (hs : Sim T w0 ρ h w) (hf : ∀ i, h.length ≤ i → ρ i = none) (hv : PVs ρ vs l) (hw : callK P f vs h K X)
    (hr : (execOp a.eval o).run P w = (callFunc f l.toArray).run P w)
    (hK : ∀ v h' ρ' x w', K v h' → PV ρ' v x → Stp T w0 ρ h ρ' h' w' → next (a.put o.dst x) w') (hX : ∀ v h' ρ' x w', X v h' → PV ρ' v x → Stp T w0 ρ h ρ' h' w' → Q (.panic [{ v := x, recovered := false }]) a w') : o.wp P a w next Q := by
  unfold Oper.wp
  rw [hr, run_callFunc hw.has]
  refine (hw.run T w0 ρ w l hs hf hv).mono ?_
  rintro e w' ⟨r, h', ρ', h1, h2, h3, h4, h5, h6, h7⟩
  cases r with
  | ret v =>
    cases e with
    | returned x => exact hK v h' ρ' x w' h1 h2 ⟨h3, h4, h5, h6, h7⟩
    | panicked c => exact h2.elim
    | outgrown => exact h2.elim
  | panic v =>
    cases e with
    | returned x => exact h2.elim
    | panicked c =>
      obtain ⟨x, rfl, h2⟩ := h2
      exact hX v h' ρ' x w' h1 h2 ⟨h3, h4, h5, h6, h7⟩
    | outgrown => exact h2.elim
theorem act_wp {o : Oper} {a : Act} {w : World} {next : Act → World → Prop} {Q : Exit → Act → World → Prop} {ρ : Pl} {t : List LVal} {h : LHeap} {act : LAct} {K X : LVal → LHeap → Prop} (hc : compileAct P o = some act) (hs : Sim T w0 ρ h w) (hf : ∀ i, h.length ≤ i → ρ i = none) (ht : TSim ρ t a) (hw : act.wp P t h K X)
    (hK : ∀ v h' ρ' x w', K v h' → PV ρ' v x → Stp T w0 ρ h ρ' h' w' → next (a.put o.dst x) w') (hX : ∀ v h' ρ' x w', X v h' → PV ρ' v x → Stp T w0 ρ h ρ' h' w' → Q (.panic [{ v := x, recovered := false }]) a w') : o.wp P a w next Q := by
  have fin : ∀ lo, (LAct.op lo).wp P t h K X → Res P o a w T w0 ρ h h.length (fun v u nw => K v (applyU h u h.length nw)) → o.wp P a w next Q := by
    intro lo _ hr
    obtain ⟨v, u, nw, x, ρ', w', h1, h2, h3, h4, h5, h6⟩ := hr
    have hl := applyU_length h u h.length nw
    have hstp : Stp T w0 ρ h ρ' (applyU h u h.length nw) w' := by
      refine ⟨h3, fun i hi => h4 i (.inl (by omega)), h6, fun i hi => ?_, hl.1⟩
      rw [h4 i ?_]
      · exact hf i (Nat.le_trans hl.1 hi)
      · by_cases c : nw = none
        · exact .inr c
        · have := hl.2 c; exact .inl (by omega)
    have := hK v _ ρ' x w' h1 h5 hstp
    unfold Oper.wp
    rcases h2 with h2 | ⟨h2, rfl⟩
    · rw [h2]; exact this
    · rw [h2]; exact this
  have opw : ∀ lo, (LAct.op lo).wp P t h K X → (opRd h.length lo).wp t h (fun v u nw => K v (applyU h u h.length nw)) := by
    intro lo hlo
    simp only [LAct.wp, lenK_eq, Nat.zero_add, applyK_eq] at hlo
    exact hlo
  unfold compileAct at hc
  split at hc
  · rename_i c ho
    split at hc
    · rename_i f hcal
      split at hc
      · rename_i g
        split at hc
        · rename_i k hk
          obtain ⟨lo, h1, hc⟩ := withO_some hc
          cases hc
          exact fin lo hw (at_sound ho hcal hk h1 hs ht (opw lo hw))
        obtain ⟨xs, h1, hc⟩ := withO_some hc
        cases hc
        obtain ⟨vs, hv, hw⟩ := argsK_wp ht h1 hw
        refine call_wp (l := c.args.toList.map a.eval) hs hf hv hw ?_ hK hX
        obtain ⟨callee, ⟨args⟩, ts⟩ := c
        simp only at hcal
        subst hcal
        unfold execOp
        simp [ho, resolve, Deferred.ofValue, Act.eval, invoke]
      · rename_i i
        obtain ⟨xs, h1, hc⟩ := withO_some hc
        cases hc
        simp only [LAct.wp] at hw
        obtain ⟨v, hv, hw⟩ := opdK_wp ht (X := .tmp i) rfl hw
        cases v <;> try exact hw.elim
        rename_i g cap
        obtain ⟨cl, hcl, hx⟩ := hv
        obtain ⟨vs, hvs, hw⟩ := argsK_wp ht h1 hw
        rw [appVsK_eq] at hw
        refine call_wp (l := c.args.toList.map a.eval ++ cl) hs hf (appVs_PVs _ _ _ _ hvs hcl) hw ?_ hK hX
        obtain ⟨callee, ⟨args⟩, ts⟩ := c
        simp only at hcal
        subst hcal
        unfold execOp
        simp [ho, resolve, hx, Deferred.ofValue, invoke]
      · cases hc
    · rename_i b hcal
      obtain ⟨lo, h1, hc⟩ := withO_some hc
      cases hc
      exact fin lo hw (builtin_sound ho hcal h1 hs (hf _ (Nat.le_refl _)) (hget_out _ _ (Nat.le_refl _)) ht (opw lo hw))
    · cases hc
  · rename_i X' ho
    obtain ⟨x, h1, hc⟩ := withO_some hc
    cases hc
    simp only [LAct.wp] at hw
    obtain ⟨v, hv, hw⟩ := opdK_wp ht h1 hw
    cases v <;> try exact hw.elim
    obtain ⟨y, hy, hx⟩ := hv
    have := hX _ h ρ _ w hw ⟨y, hy, hx⟩ (Stp.refl hs hf)
    unfold Oper.wp execOp
    simp only [ho, hx, Instr.panic, Sem.run_bind, run_goPanic, Result.andThen_halt]
    rw [hx] at this
    exact this
  · obtain ⟨lo, h1, hc⟩ := withO_some hc
    cases hc
    exact fin lo hw (op_sound h1 hs (hf _ (Nat.le_refl _)) (hget_out _ _ (Nat.le_refl _)) ht (opw lo hw))
def ExitPV (ρ : Pl) : LExit → Exit → Prop
  | .normal, .normal => True
  | .exit i, .exit j => i = j
  | .ret, .ret => True
  | .panic v, .panic c => ∃ x, c = [{ v := x, recovered := false }] ∧ PV ρ v x
  | _, _ => False
/-- The world's post, of a post on the heap of the mind. -/
def PQ (T : Nat → Nat → Prop) (w0 : World) (ρ : Pl) (h : LHeap) (Q : LExit → List LVal → LHeap → Prop) (e : Exit) (a : Act) (w : World) : Prop :=
  ∃ le t' h' ρ', Q le t' h' ∧ ExitPV ρ' le e ∧ TSim ρ' t' a ∧ Stp T w0 ρ h ρ' h' w ∧ a.defers = []
theorem PQ.step {ρ ρ1 : Pl} {h h1 : LHeap} {w1 : World} {Q : LExit → List LVal → LHeap → Prop} (s : Stp T w0 ρ h ρ1 h1 w1) {e : Exit} {a : Act} {w : World} (q : PQ T w0 ρ1 h1 Q e a w) : PQ T w0 ρ h Q e a w :=
  let ⟨le, t', h', ρ', q1, q2, q3, q4, q5⟩ := q
  ⟨le, t', h', ρ', q1, q2, q3, s.trans q4, q5⟩
theorem put_defers' (a : Act) (d : Option Nat) (x : Value) : (a.put d x).defers = a.defers := by cases d <;> rfl
theorem upon_mono {o : Oper} {a : Act} {K K' : Act → World → Prop} {Q Q' : Exit → Act → World → Prop} (h : ∀ a w, K a w → K' a w) (hQ : ∀ e a w, Q e a w → Q' e a w) {r : Result Next} (hh : o.upon P a K Q r) : o.upon P a K' Q' r := by
  cases r with
  | ok n w' =>
    cases n <;> simp only [Oper.upon] at hh ⊢ <;>
      first
        | exact h _ _ hh
        | exact Calls.mono hh (fun e w'' he => by
            cases e with
            | returned v => exact h _ _ he
            | panicked c => exact hQ _ _ _ he
            | outgrown =>
              obtain ⟨a', w1, q⟩ := he
              exact ⟨a', w1, hQ _ _ _ q⟩)
        | exact Rows.mono hh (fun _ _ he => h _ _ he)
  | halt x w' => cases x <;> simp only [Oper.upon] at hh ⊢ <;> exact hQ _ _ _ hh
theorem wpOps_mono {ops : Array Oper} {Q Q' : Exit → Act → World → Prop} (hQ : ∀ e a w, Q e a w → Q' e a w) : ∀ (l : List Nat) (a : Act) (w : World), wpOps P ops Q l a w → wpOps P ops Q' l a w
  | [], a, w, h => hQ _ _ _ h
  | i :: r, a, w, h => by
    rw [wpOps_cons] at h ⊢
    unfold wpOp at h ⊢
    split
    · rename_i ho
      rw [ho] at h
      exact wpOps_mono hQ r a w h
    · rename_i o ho
      rw [ho] at h
      simp only at h
      split
      · rename_i hw
        rw [if_pos hw] at h
        rcases h with h | ⟨h1, a', w1, q⟩
        · exact .inl (upon_mono (wpOps_mono hQ r) hQ h)
        · exact .inr ⟨h1, a', w1, hQ _ _ _ q⟩
      · rename_i hw
        rw [if_neg hw] at h
        exact wpOps_mono hQ r _ w h
theorem ops_wp {ops : Array Oper} {Q : LExit → List LVal → LHeap → Prop} : ∀ (l : List Nat) (los : List LOper), compileR P ops l = some los → ∀ {ρ : Pl} {t : List LVal} {h : LHeap} {a : Act} {w : World}, Sim T w0 ρ h w → (∀ i, h.length ≤ i → ρ i = none) → TSim ρ t a → a.defers = [] → ropsK P Q los t h → wpOps P ops (PQ T w0 ρ h Q) l a w
  | [], los, hc, ρ, t, h, a, w, hs, hf, ht, hd, hw => by
    simp [compileR] at hc
    subst hc
    exact ⟨.normal, t, h, ρ, hw, trivial, ht, Stp.refl hs hf, hd⟩
  | i :: r, los, hc, ρ, t, h, a, w, hs, hf, ht, hd, hw => by
    obtain ⟨o, ho, hc⟩ := withO_some hc
    obtain ⟨x, hx, hc⟩ := withO_some hc
    obtain ⟨y, hy, hc⟩ := withO_some hc
    cases hc
    obtain ⟨act, hact, hx⟩ := withO_some hx
    have cont : ∀ {ρ' : Pl} {t' : List LVal} {h' : LHeap} {a' : Act} {w' : World}, Stp T w0 ρ h ρ' h' w' → TSim ρ' t' a' → a'.defers = [] → ropsK P Q y t' h' → wpOps P ops (PQ T w0 ρ h Q) r a' w' := by
      intro ρ' t' h' a' w' hst ht' hd' hw'
      have := ops_wp r y hy hst.sim hst.fresh ht' hd' hw'
      exact wpOps_mono (fun e a w q => PQ.step hst q) r a' w' this
    have run : ∀ {dst : Option Nat}, dst = o.dst → act.wp P t h (fun v h' => setDst t dst v fun t' => ropsK P Q y t' h') (fun v h' => Q (.panic v) t h') → o.wp P a w (wpOps P ops (PQ T w0 ρ h Q) r) (PQ T w0 ρ h Q) := by
      intro dst hdst hact'
      subst hdst
      refine act_wp hact hs hf ht hact' (fun v h' ρ' x w' h1 h2 h3 => ?_) (fun v h' ρ' x w' h1 h2 h3 => ?_)
      · obtain ⟨t', h4, h5⟩ := setDst_put (ht.ext h3.ext) o.dst h2 h1
        exact cont h3 h5 (by rw [put_defers']; exact hd) h4
      · exact ⟨.panic v, t, h', ρ', h1, ⟨x, rfl, h2⟩, ht.ext h3.ext, h3, hd⟩
    have skip : ∀ {dst : Option Nat}, dst = o.dst → (setDst t dst .undef fun t' => ropsK P Q y t' h) → wpOps P ops (PQ T w0 ρ h Q) r (a.put o.dst undef) w := by
      intro dst hdst hsk
      subst hdst
      obtain ⟨t', h4, h5⟩ := setDst_put ht o.dst (v := .undef) (x := undef) rfl hsk
      exact cont (Stp.refl hs hf) h5 (by rw [put_defers']; exact hd) h4
    rw [wpOps_cons]
    unfold wpOp
    simp only [ho]
    cases hg : o.guard with
    | none =>
      simp only [hg] at hx
      cases hx
      rw [if_pos (by simp [Region.wanted, hg])]
      exact .inl (run rfl hw)
    | some gw =>
      obtain ⟨j, want⟩ := gw
      simp only [hg] at hx
      obtain ⟨d, hd1, hx⟩ := withO_some hx
      cases hx
      simp only [ropsK, LOper.wp, guardK, getK_eq] at hw
      have hv := ht.2 d
      have hyield : ∀ b : Bool, a.tmps.getD d undef = .bool b → yielded ops a.tmps j = some b := by
        intro b hb
        unfold yielded
        have hlt : a.tmps[d]? = some (.bool b) := by
          rw [Array.getD_eq_getD_getElem?] at hb
          cases hq : a.tmps[d]? with
          | none => rw [hq] at hb; cases hb
          | some z => rw [hq] at hb; simpa using hb
        rw [hd1]
        simp [hlt]
      cases hl : lget t d <;> rw [hl] at hw hv <;> try exact hw.elim
      · -- nothing
        have e : a.tmps.getD d undef = undef := hv
        have hy' : yielded ops a.tmps j = none := by
          unfold yielded
          rw [hd1]
          rw [Array.getD_eq_getD_getElem?] at e
          simp only [Option.bind_some]
          cases hq : a.tmps[d]? with
          | none => rfl
          | some z =>
            rw [hq] at e
            have : z = undef := by simpa using e
            subst this; rfl
        rw [if_neg (by simp [Region.wanted, hg, hy'])]
        exact skip rfl hw
      · rename_i b
        have e : a.tmps.getD d undef = .bool b := hv
        have hy' := hyield b e
        cases want
        · rcases iteP_elim hw with ⟨hb, h1⟩ | ⟨hb, h1⟩
          · subst hb
            rw [if_neg (by simp [Region.wanted, hg, hy'])]
            exact skip rfl h1
          · subst hb
            rw [if_pos (by simp [Region.wanted, hg, hy'])]
            exact .inl (run rfl h1)
        · rcases iteP_elim hw with ⟨hb, h1⟩ | ⟨hb, h1⟩
          · subst hb
            rw [if_pos (by simp [Region.wanted, hg, hy'])]
            exact .inl (run rfl h1)
          · subst hb
            rw [if_neg (by simp [Region.wanted, hg, hy'])]
            exact skip rfl h1
end
end Go.Proofs.Ytilmfhpoiejmfaa.Lh
