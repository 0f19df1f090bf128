/- Texts of this session, merged. -/
import Derived.Test.YtilmfhpoiejmfaaLh9
import Derived.OrdersIn
import Derived.OwnWalkIn
import Derived.RangeFuncCalls
import Derived.Orders
/- The world's code does what the code on the heap of the mind does. Over any program. -/
namespace Go.Proofs.Ytilmfhpoiejmfaa.Lh
set_option linter.unusedSimpArgs false
set_option linter.unusedVariables false
set_option linter.unusedSectionVars false
open Go.RowKit
variable [Fz]
theorem least_ex {p : Nat → Prop} : ∀ n, p n → ∃ m, p m ∧ ∀ k, p k → m ≤ k := by
  intro n
  induction n using Nat.strongRecOn with
  | _ n ih =>
    intro hn
    by_cases c : ∃ m, m < n ∧ p m
    · obtain ⟨m, hm, hp⟩ := c
      exact ih m hm hp
    · exact ⟨n, hn, fun k hk => by
        rcases Nat.lt_or_ge k n with h | h
        · exact absurd ⟨k, h, hk⟩ c
        · exact h⟩
open Classical in
/-- The least number of a kind. -/
noncomputable def sInf' (p : Nat → Prop) : Nat := if h : ∃ m, p m ∧ ∀ k, p k → m ≤ k then Classical.choose h else 0
theorem sInf'_spec {p : Nat → Prop} (h : ∃ n, p n) : p (sInf' p) := by
  obtain ⟨n, hn⟩ := h
  have h := least_ex n hn
  unfold sInf'
  rw [dif_pos h]
  exact (Classical.choose_spec h).1
theorem sInf'_le {p : Nat → Prop} {n : Nat} (hn : p n) : sInf' p ≤ n := by
  have h := least_ex n hn
  unfold sInf'
  rw [dif_pos h]
  exact (Classical.choose_spec h).2 n hn
def compileAct (P : Program) (o : Oper) : Option LAct :=
  match o.op with
  | .call c => match c.callee with
    | .value f => match f with
      | .func g => match atomicOf P g with
        | some k => withO (compileAt k c.args.toList) fun x => some (.op x)
        | none => withO (compileOpds c.args.toList) fun xs => some (.call g xs)
      | .tmp i => withO (compileOpds c.args.toList) fun xs => some (.callv (.tmp i) xs)
      | _ => none
    | .builtin b => withO (compileB P b c.args.toList c.argTypes.toList) fun x => some (.op x)
    | _ => none
  | .panic x => withO (compileOpd x) fun x => some (.panic x)
  | _ => withO (compileOp P o) fun x => some (.op x)
def compileOper (P : Program) (ops : Array Oper) (o : Oper) : Option LOper :=
  withO (compileAct P o) fun x => match o.guard with
    | none => some ⟨o.dst, none, x⟩
    | some (j, want) => withO ((ops[j]?).bind (·.dst)) fun d => some ⟨o.dst, some (d, want), x⟩
def compileR (P : Program) (ops : Array Oper) : List Nat → Option (List LOper)
  | [] => some []
  | i :: r => withO ops[i]? fun o => withO (compileOper P ops o) fun x => withO (compileR P ops r) fun y => some (x :: y)
theorem callsFW {P : Program} {f : FuncId} {args : Array Value} {w : World} {R : Ending → World → Prop} (r : Option Nat) (n : Nat) (h : Calls P f args w R) : CallsIn (FW r) n P f args w R := by
  have h1 : CallsIn Fence.wide n P f args w R := callsIn_wide.2 h
  cases r with
  | none => exact h1
  | some l => exact CallsIn.inRound l h1
theorem semFW (r : Option Nat) {o : Oper} (ρ : Operand → Value) (h : ∀ c, o.op ≠ .defer c) : o.semAt (FW r).round ρ = execOp ρ o := Oper.semAt_plain (FW r) ρ o h
theorem compileAct_nd {P : Program} {o : Oper} {act : LAct} (h : compileAct P o = some act) (c : Call) : o.op ≠ .defer c := by
  intro e
  unfold compileAct at h
  rw [e] at h
  obtain ⟨x, h1, h⟩ := withO_some h
  unfold compileOp at h1
  rw [e] at h1
  cases h1
theorem wp_plain {P : Program} {κ : Option Nat} {o : Oper} {a : Act} {w : World} {next : Act → World → Prop} {Q : Exit → Act → World → Prop} (hnd : ∀ c, o.op ≠ .defer c) (h : o.uponIn (FW κ) 0 P a next Q ((execOp a.eval o).run P w)) : o.wpIn (FW κ) 0 P a w next Q :=
  ⟨fun _ _ => trivial, by rw [semFW κ _ hnd]; exact h⟩
section
variable {T : Nat → Nat → Prop} {w0 : World} {P : Program} {κ : Option Nat} {D : List Deferred}
theorem run_callFunc {f : FuncId} (h : hasBody P f = true) (args : Array Value) (w : World) : (callFunc f args).run P w = .ok (.enter f args) w := by
  unfold hasBody at h
  split at h
  · rename_i fn hf
    simp only [Bool.and_eq_true, Bool.not_eq_true'] at h
    have h1 : fn.body.isNone = false := by
      cases hb : fn.body with
      | none => rw [hb] at h; cases h.1
      | some x => rfl
    have h2 : ¬ fn.name = "runtime.NumGoroutine" := by simpa using h.2
    obtain ⟨c, hc⟩ := Option.isSome_iff_exists.1 h.1
    simp [callFunc, hf, h2, hc]
  · cases h
theorem TSim.ext {ρ ρ' : Pl} {t : List LVal} {a : Act} (h : TSim ρ t a) (e : Ext ρ ρ') : TSim ρ' t a := ⟨h.1, fun i => PV.ext e _ _ (h.2 i)⟩
theorem lset_length (t : List LVal) (d : Nat) (v : LVal) : (lset t d v).length = t.length := by
  induction t generalizing d with
  | nil => rfl
  | cons x r ih => cases d <;> simp [lset, ih]
theorem lget_lset (t : List LVal) (d : Nat) (v : LVal) (i : Nat) : lget (lset t d v) i = if i = d ∧ d < t.length then v else lget t i := by
  induction t generalizing d i with
  | nil => simp [lset, lget]
  | cons x r ih =>
    cases d with
    | zero => cases i <;> simp [lset, lget]
    | succ d => cases i <;> simp [lset, lget, ih]
theorem TSim.set {ρ : Pl} {t : List LVal} {a : Act} (h : TSim ρ t a) (d : Nat) {v : LVal} {x : Value} (hv : PV ρ v x) : TSim ρ (lset t d v) (a.put (some d) x) := by
  refine ⟨by rw [lset_length, h.1]; simp [Act.put], fun i => ?_⟩
  rw [lget_lset]
  by_cases c : i = d ∧ d < t.length
  · rw [if_pos c]
    obtain ⟨rfl, c⟩ := c
    have : i < a.tmps.size := by rw [← h.1]; exact c
    simp only [Act.put, Array.getD_eq_getD_getElem?]
    rw [Array.getElem?_setIfInBounds_self_of_lt this]
    exact hv
  · rw [if_neg c]
    have : (a.put (some d) x).tmps.getD i undef = a.tmps.getD i undef := by
      simp only [Act.put, Array.getD_eq_getD_getElem?]
      by_cases e : d = i
      · subst e
        have : ¬ d < a.tmps.size := by rw [← h.1]; exact fun hd => c ⟨rfl, hd⟩
        rw [Array.getElem?_eq_none (by simpa using this), Array.getElem?_eq_none (by omega)]
      · rw [Array.getElem?_setIfInBounds_ne e]
    rw [this]
    exact h.2 i
theorem setDst_put {ρ : Pl} {t : List LVal} {a : Act} (h : TSim ρ t a) (d : Option Nat) {v : LVal} {x : Value} (hv : PV ρ v x) {K : List LVal → Prop} (hK : setDst t d v K) : ∃ t', K t' ∧ TSim ρ t' (a.put d x) := by
  cases d with
  | none => exact ⟨t, hK, h⟩
  | some d =>
    simp only [setDst, setK_eq] at hK
    exact ⟨_, hK, h.set d hv⟩
theorem opdK_wp {ρ : Pl} {t : List LVal} {a : Act} (ht : TSim ρ t a) {X : Operand} {x : LOpd} (hx : compileOpd X = some x) {K : LVal → Prop} (hw : opdK t x K) : ∃ v, PV ρ v (a.eval X) ∧ K v := by
  have e : ∀ K' : LVal → Prop, opdK t x K' = (x.rd one).wp t [] (fun v _ _ => K' v) := by
    intro K'
    cases x <;> simp [opdK, LOpd.rd, Rd.wp, one]
  rw [e] at hw
  obtain ⟨v, h1, h2⟩ := opd_wp (h := []) hx ht hw
  exact ⟨v, h1, h2⟩
theorem argsK_wp {ρ : Pl} {t : List LVal} {a : Act} (ht : TSim ρ t a) : ∀ {X : List Operand} {x : List LOpd} (_ : compileOpds X = some x) {K : LVals → Prop} (_ : argsK t x K), ∃ vs, PVs ρ vs (X.map a.eval) ∧ K vs
  | [], x, hx, K, hw => by
    simp [compileOpds] at hx
    subst hx
    exact ⟨.nil, rfl, hw⟩
  | X :: R, x, hx, K, hw => by
    unfold compileOpds at hx
    split at hx
    · rename_i y s h1 h2
      simp at hx
      subst hx
      obtain ⟨v, hv, h3⟩ := opdK_wp ht h1 hw
      obtain ⟨vs, hvs, h4⟩ := argsK_wp ht h2 h3
      exact ⟨.cons v vs, ⟨_, _, rfl, hv, hvs⟩, h4⟩
    · cases hx
theorem appVs_PVs {ρ : Pl} : ∀ (a b : LVals) (l m : List Value), PVs ρ a l → PVs ρ b m → PVs ρ (appVs a b) (l ++ m)
  | .nil, b, l, m, h1, h2 => by
    have : l = [] := h1
    subst this; exact h2
  | .cons v r, b, l, m, h1, h2 => by
    obtain ⟨x, l', rfl, h3, h4⟩ := h1
    exact ⟨x, l' ++ m, rfl, h3, appVs_PVs r b l' m h4 h2⟩
theorem updU_length (h : LHeap) (u : List (Nat × Option LObj)) : h.length ≤ (updU h u).length := by
  induction u generalizing h with
  | nil => exact Nat.le_refl _
  | cons x r ih => obtain ⟨i, o⟩ := x; exact Nat.le_trans (hset_length h i o).1 (ih _)
theorem applyU_length (h : LHeap) (u : List (Nat × Option LObj)) (n : Nat) (nw : Option LObj) : h.length ≤ (applyU h u n nw).length ∧ (nw ≠ none → n < (applyU h u n nw).length) := by
  unfold applyU
  cases nw with
  | none => exact ⟨updU_length h u, fun e => absurd rfl e⟩
  | some o => exact ⟨Nat.le_trans (updU_length h u) (hset_length _ _ _).1, fun _ => (hset_length _ _ _).2⟩
/-- A step further: more is placed, what stood stands. -/
structure Stp (T : Nat → Nat → Prop) (w0 : World) (ρ : Pl) (h : LHeap) (ρ' : Pl) (h' : LHeap) (w' : World) : Prop where
  ext : Ext ρ ρ'
  keep : ∀ i, i < h.length → ρ' i = ρ i
  sim : Sim T w0 ρ' h' w'
  fresh : ∀ i, h'.length ≤ i → ρ' i = none
  len : h.length ≤ h'.length
theorem Stp.refl {ρ : Pl} {h : LHeap} {w : World} (hs : Sim T w0 ρ h w) (hf : ∀ i, h.length ≤ i → ρ i = none) : Stp T w0 ρ h ρ h w := ⟨Ext.refl ρ, fun _ _ => rfl, hs, hf, Nat.le_refl _⟩
theorem Stp.trans {ρ ρ1 ρ2 : Pl} {h h1 h2 : LHeap} {w1 w2 : World} (a : Stp T w0 ρ h ρ1 h1 w1) (b : Stp T w0 ρ1 h1 ρ2 h2 w2) : Stp T w0 ρ h ρ2 h2 w2 :=
  ⟨a.ext.trans b.ext, fun i hi => (b.keep i (by have := a.len; omega)).trans (a.keep i hi), b.sim, b.fresh, Nat.le_trans a.len b.len⟩
theorem call_wp {o : Oper} (hnd : ∀ c, o.op ≠ .defer c) {a : Act} {w : World} {next : Act → World → Prop} {Q : Exit → Act → World → Prop} {ρ : Pl} {h : LHeap} {f : FuncId} {vs : LVals} {l : List Value} {K X : LVal → LHeap → Prop} (hs : Sim T w0 ρ h w) (hf : ∀ i, h.length ≤ i → ρ i = none) (hv : PVs ρ vs l) (hw : callK P f vs h K X)
    (hr : (execOp a.eval o).run P w = (callFunc f l.toArray).run P w)
    (hK : ∀ v h' ρ' x w', K v h' → PV ρ' v x → Stp T w0 ρ h ρ' h' w' → next (a.put o.dst x) w') (hX : ∀ v h' ρ' x w', X v h' → PV ρ' v x → Stp T w0 ρ h ρ' h' w' → Q (.panic [{ v := x, recovered := false }]) a w') : o.wpIn (FW κ) 0 P a w next Q := by
  refine wp_plain hnd ?_
  rw [hr, run_callFunc hw.has]
  refine ⟨fun h => (by cases h), callsFW κ _ ((hw.run T w0 ρ w l hs hf hv).mono ?_)⟩
  rintro e w' ⟨r, h', ρ', h1, h2, h3, h4, h5, h6, h7⟩
  cases r with
  | ret v =>
    cases e with
    | returned x => exact hK v h' ρ' x w' h1 h2 ⟨h3, h4, h5, h6, h7⟩
    | panicked c => exact h2.elim
    | outgrown => exact h2.elim
  | panic v =>
    cases e with
    | returned x => exact h2.elim
    | panicked c =>
      obtain ⟨x, rfl, h2⟩ := h2
      exact hX v h' ρ' x w' h1 h2 ⟨h3, h4, h5, h6, h7⟩
    | outgrown => exact h2.elim
theorem PVs.len {ρ : Pl} : ∀ (vs : LVals) (l : List Value), PVs ρ vs l → l.length = lvsLen vs
  | .nil, l, h => by
    have : l = [] := h
    subst this; rfl
  | .cons v r, l, h => by
    obtain ⟨x, l', rfl, _, h2⟩ := h
    simp [lvsLen, PVs.len r l' h2]
theorem roundFW (κ : Option Nat) {l : Nat} {f : FuncId} {tmps : Array Value} {asg body : Code} {w : World} {R : Ending → World → Prop} (h : RoundIn (FW none) 0 P l f tmps asg body w R) : RoundIn (FW κ) 0 P l f tmps asg body w R := by
  cases κ with
  | none => exact h
  | some k => exact h
theorem round_wp {o : Oper} (hnd : ∀ c, o.op ≠ .defer c) {a : Act} {w : World} {next : Act → World → Prop} {Q : Exit → Act → World → Prop} {ρ : Pl} {h : LHeap} {y n : Nat} {tm : List Value} {us : LVals} {l : List Value} {K X : LVal → LHeap → Prop} (hs : Sim T w0 ρ h w) (hf : ∀ i, h.length ≤ i → ρ i = none) (hn : l.length = n) (hv : PVs ρ us (l ++ tm)) (hw : roundK P y n tm us h K X)
    (hr : (execOp a.eval o).run P w = (Instr.yield y l.toArray).run P w)
    (hK : ∀ v h' ρ' x w', K v h' → PV ρ' v x → Stp T w0 ρ h ρ' h' w' → next (a.put o.dst x) w') (hX : ∀ v h' ρ' x w', X v h' → PV ρ' v x → Stp T w0 ρ h ρ' h' w' → Q (.panic [{ v := x, recovered := false }]) a w') : o.wpIn (FW κ) 0 P a w next Q := by
  refine wp_plain hnd ?_
  obtain ⟨f, tmps, asg, body, h1, h2⟩ := hw.run T w0 ρ w (l ++ tm) hs hf hv (by rw [← hn, List.drop_left])
  rw [← hn, List.take_left] at h1
  rw [hr, h1]
  refine ⟨fun h => (by cases κ <;> cases h), ?_⟩
  refine (roundFW κ h2).mono ?_
  rintro e w' ⟨r, h', ρ', h1, h2, h3, h4, h5, h6, h7⟩
  cases r with
  | ret v =>
    cases e with
    | returned x => exact hK v h' ρ' x w' h1 h2 ⟨h3, h4, h5, h6, h7⟩
    | panicked c => exact h2.elim
    | outgrown => exact h2.elim
  | panic v =>
    cases e with
    | returned x => exact h2.elim
    | panicked c =>
      obtain ⟨x, rfl, h2⟩ := h2
      exact hX v h' ρ' x w' h1 h2 ⟨h3, h4, h5, h6, h7⟩
    | outgrown => exact h2.elim
theorem act_wp {o : Oper} {a : Act} {w : World} {next : Act → World → Prop} {Q : Exit → Act → World → Prop} {ρ : Pl} {t : List LVal} {h : LHeap} {act : LAct} {K X : LVal → LHeap → Prop} (hc : compileAct P o = some act) (hs : Sim T w0 ρ h w) (hf : ∀ i, h.length ≤ i → ρ i = none) (ht : TSim ρ t a) (hw : act.wp P t h K X)
    (hK : ∀ v h' ρ' x w', K v h' → PV ρ' v x → Stp T w0 ρ h ρ' h' w' → next (a.put o.dst x) w') (hX : ∀ v h' ρ' x w', X v h' → PV ρ' v x → Stp T w0 ρ h ρ' h' w' → Q (.panic [{ v := x, recovered := false }]) a w') : o.wpIn (FW κ) 0 P a w next Q := by
  have fin : ∀ lo, (LAct.op lo).wp P t h K X → Res P o a w T w0 ρ h h.length (fun v u nw => K v (applyU h u h.length nw)) → o.wpIn (FW κ) 0 P a w next Q := by
    intro lo _ hr
    obtain ⟨v, u, nw, x, ρ', w', h1, h2, h3, h4, h5, h6⟩ := hr
    have hl := applyU_length h u h.length nw
    have hstp : Stp T w0 ρ h ρ' (applyU h u h.length nw) w' := by
      refine ⟨h3, fun i hi => h4 i (.inl (by omega)), h6, fun i hi => ?_, hl.1⟩
      rw [h4 i ?_]
      · exact hf i (Nat.le_trans hl.1 hi)
      · by_cases c : nw = none
        · exact .inr c
        · have := hl.2 c; exact .inl (by omega)
    have := hK v _ ρ' x w' h1 h5 hstp
    refine wp_plain (compileAct_nd hc) ?_
    rcases h2 with h2 | ⟨h2, rfl⟩
    · rw [h2]; exact this
    · rw [h2]; exact this
  have opw : ∀ lo, (LAct.op lo).wp P t h K X → (opRd h.length lo).wp t h (fun v u nw => K v (applyU h u h.length nw)) := by
    intro lo hlo
    simp only [LAct.wp, lenK_eq, Nat.zero_add, applyK_eq] at hlo
    exact hlo
  have hc0 := hc
  unfold compileAct at hc
  split at hc
  · rename_i c ho
    split at hc
    · rename_i f hcal
      split at hc
      · rename_i g
        split at hc
        · rename_i k hk
          obtain ⟨lo, h1, hc⟩ := withO_some hc
          cases hc
          exact fin lo hw (at_sound ho hcal hk h1 hs ht (opw lo hw))
        obtain ⟨xs, h1, hc⟩ := withO_some hc
        cases hc
        obtain ⟨vs, hv, hw⟩ := argsK_wp ht h1 hw
        refine call_wp (compileAct_nd hc0) (l := c.args.toList.map a.eval) hs hf hv hw ?_ hK hX
        obtain ⟨callee, ⟨args⟩, ts⟩ := c
        simp only at hcal
        subst hcal
        unfold execOp
        simp [ho, resolve, Deferred.ofValue, Act.eval, invoke]
      · rename_i i
        obtain ⟨xs, h1, hc⟩ := withO_some hc
        cases hc
        simp only [LAct.wp] at hw
        obtain ⟨v, hv, hw⟩ := opdK_wp ht (X := .tmp i) rfl hw
        cases v <;> try exact hw.elim
        · rename_i g cap
          obtain ⟨cl, hcl, hx⟩ := hv
          obtain ⟨vs, hvs, hw⟩ := argsK_wp ht h1 hw
          rw [appVsK_eq] at hw
          refine call_wp (compileAct_nd hc0) (l := c.args.toList.map a.eval ++ cl) hs hf (appVs_PVs _ _ _ _ hvs hcl) hw ?_ hK hX
          obtain ⟨callee, ⟨args⟩, ts⟩ := c
          simp only at hcal
          subst hcal
          unfold execOp
          simp [ho, resolve, hx, Deferred.ofValue, invoke]
        · rename_i y tm ts
          obtain ⟨hx, hts⟩ := hv
          obtain ⟨vs, hvs, hw⟩ := argsK_wp ht h1 hw
          rw [appVsK_eq] at hw
          refine round_wp (compileAct_nd hc0) (l := c.args.toList.map a.eval) hs hf (PVs.len _ _ hvs) (appVs_PVs _ _ _ _ hvs hts) hw ?_ hK hX
          obtain ⟨callee, ⟨args⟩, ts'⟩ := c
          simp only at hcal
          subst hcal
          unfold execOp
          simp [ho, resolve, hx, Deferred.ofValue, invoke]
      · cases hc
    · rename_i b hcal
      obtain ⟨lo, h1, hc⟩ := withO_some hc
      cases hc
      exact fin lo hw (builtin_sound ho hcal h1 hs (hf _ (Nat.le_refl _)) (hget_out _ _ (Nat.le_refl _)) ht (opw lo hw))
    · cases hc
  · rename_i X' ho
    obtain ⟨x, h1, hc⟩ := withO_some hc
    cases hc
    simp only [LAct.wp] at hw
    obtain ⟨v, hv, hw⟩ := opdK_wp ht h1 hw
    cases v <;> try exact hw.elim
    obtain ⟨y, hy, hx⟩ := hv
    have := hX _ h ρ _ w hw ⟨y, hy, hx⟩ (Stp.refl hs hf)
    refine wp_plain (fun c e => by rw [ho] at e; cases e) ?_
    unfold execOp
    simp only [ho, hx, Instr.panic, Sem.run_bind, run_goPanic, Result.andThen_halt]
    rw [hx] at this
    exact this
  · obtain ⟨lo, h1, hc⟩ := withO_some hc
    cases hc
    exact fin lo hw (op_sound h1 hs (hf _ (Nat.le_refl _)) (hget_out _ _ (Nat.le_refl _)) ht (opw lo hw))
def ExitPV (ρ : Pl) : LExit → Exit → Prop
  | .normal, .normal => True
  | .exit i, .exit j => i = j
  | .ret, .ret => True
  | .panic v, .panic c => ∃ x, c = [{ v := x, recovered := false }] ∧ PV ρ v x
  | _, _ => False
/-- The world's post, of a post on the heap of the mind. -/
def PQ (T : Nat → Nat → Prop) (w0 : World) (D : List Deferred) (ρ : Pl) (h : LHeap) (Q : LExit → List LVal → LHeap → Prop) (e : Exit) (a : Act) (w : World) : Prop :=
  ∃ le t' h' ρ', Q le t' h' ∧ ExitPV ρ' le e ∧ TSim ρ' t' a ∧ Stp T w0 ρ h ρ' h' w ∧ a.defers = D
theorem PQ.step {ρ ρ1 : Pl} {h h1 : LHeap} {w1 : World} {Q : LExit → List LVal → LHeap → Prop} (s : Stp T w0 ρ h ρ1 h1 w1) {e : Exit} {a : Act} {w : World} (q : PQ T w0 D ρ1 h1 Q e a w) : PQ T w0 D ρ h Q e a w :=
  let ⟨le, t', h', ρ', q1, q2, q3, q4, q5⟩ := q
  ⟨le, t', h', ρ', q1, q2, q3, s.trans q4, q5⟩
theorem put_defers' (a : Act) (d : Option Nat) (x : Value) : (a.put d x).defers = a.defers := by cases d <;> rfl
theorem upon_mono {o : Oper} {a : Act} {K K' : Act → World → Prop} {Q Q' : Exit → Act → World → Prop} (h : ∀ a w, K a w → K' a w) (hQ : ∀ e a w, Q e a w → Q' e a w) {F : Fence} {n : Nat} {r : Result Next} (hh : o.uponIn F n P a K Q r) : o.uponIn F n P a K' Q' r := by
  have out : LetsOut Q → LetsOut Q' := fun ⟨a', w1, q⟩ => ⟨a', w1, hQ _ _ _ q⟩
  cases r with
  | ok n w' =>
    cases n <;> simp only [Oper.uponIn] at hh ⊢ <;>
      first
        | exact h _ _ hh
        | exact ⟨hh.1, CallsIn.mono hh.2 (fun e w'' he => by cases e <;> first | exact h _ _ he | exact hQ _ _ _ he | exact out he)⟩
        | exact ⟨hh.1, RowsIn.mono hh.2 (fun _ _ he => h _ _ he)⟩
        | exact ⟨hh.1, RoundIn.mono hh.2 (fun e w'' he => by cases e <;> first | exact h _ _ he | exact hQ _ _ _ he | exact out he)⟩
  | halt x w' => cases x <;> simp only [Oper.uponIn] at hh ⊢ <;> exact hQ _ _ _ hh
theorem wpOps_mono {ops : Array Oper} {Q Q' : Exit → Act → World → Prop} (hQ : ∀ e a w, Q e a w → Q' e a w) : ∀ (l : List Nat) (a : Act) (w : World), wpOpsIn (FW κ) 0 P ops Q l a w → wpOpsIn (FW κ) 0 P ops Q' l a w
  | [], a, w, h => hQ _ _ _ h
  | i :: r, a, w, h => by
    rw [wpOpsIn_cons] at h ⊢
    unfold wpOpIn at h ⊢
    split
    · rename_i ho
      rw [ho] at h
      exact wpOps_mono hQ r a w h
    · rename_i o ho
      rw [ho] at h
      simp only at h
      split
      · rename_i hw
        rw [if_pos hw] at h
        exact ⟨h.1, upon_mono (wpOps_mono hQ r) hQ h.2⟩
      · rename_i hw
        rw [if_neg hw] at h
        exact ⟨h.1, wpOps_mono hQ r _ w h.2⟩
theorem ops_wp {ops : Array Oper} {Q : LExit → List LVal → LHeap → Prop} : ∀ (l : List Nat) (los : List LOper), compileR P ops l = some los → ∀ {ρ : Pl} {t : List LVal} {h : LHeap} {a : Act} {w : World}, Sim T w0 ρ h w → (∀ i, h.length ≤ i → ρ i = none) → TSim ρ t a → a.defers = D → ropsK P Q los t h → wpOpsIn (FW κ) 0 P ops (PQ T w0 D ρ h Q) l a w
  | [], los, hc, ρ, t, h, a, w, hs, hf, ht, hd, hw => by
    simp [compileR] at hc
    subst hc
    exact ⟨.normal, t, h, ρ, hw, trivial, ht, Stp.refl hs hf, hd⟩
  | i :: r, los, hc, ρ, t, h, a, w, hs, hf, ht, hd, hw => by
    obtain ⟨o, ho, hc⟩ := withO_some hc
    obtain ⟨x, hx, hc⟩ := withO_some hc
    obtain ⟨y, hy, hc⟩ := withO_some hc
    cases hc
    obtain ⟨act, hact, hx⟩ := withO_some hx
    have cont : ∀ {ρ' : Pl} {t' : List LVal} {h' : LHeap} {a' : Act} {w' : World}, Stp T w0 ρ h ρ' h' w' → TSim ρ' t' a' → a'.defers = D → ropsK P Q y t' h' → wpOpsIn (FW κ) 0 P ops (PQ T w0 D ρ h Q) r a' w' := by
      intro ρ' t' h' a' w' hst ht' hd' hw'
      have := ops_wp r y hy hst.sim hst.fresh ht' hd' hw'
      exact wpOps_mono (fun e a w q => PQ.step hst q) r a' w' this
    have run : ∀ {dst : Option Nat}, dst = o.dst → act.wp P t h (fun v h' => setDst t dst v fun t' => ropsK P Q y t' h') (fun v h' => Q (.panic v) t h') → o.wpIn (FW κ) 0 P a w (wpOpsIn (FW κ) 0 P ops (PQ T w0 D ρ h Q) r) (PQ T w0 D ρ h Q) := by
      intro dst hdst hact'
      subst hdst
      refine act_wp hact hs hf ht hact' (fun v h' ρ' x w' h1 h2 h3 => ?_) (fun v h' ρ' x w' h1 h2 h3 => ?_)
      · obtain ⟨t', h4, h5⟩ := setDst_put (ht.ext h3.ext) o.dst h2 h1
        exact cont h3 h5 (by rw [put_defers']; exact hd) h4
      · exact ⟨.panic v, t, h', ρ', h1, ⟨x, rfl, h2⟩, ht.ext h3.ext, h3, hd⟩
    have skip : ∀ {dst : Option Nat}, dst = o.dst → (setDst t dst .undef fun t' => ropsK P Q y t' h) → wpOpsIn (FW κ) 0 P ops (PQ T w0 D ρ h Q) r (a.put o.dst undef) w := by
      intro dst hdst hsk
      subst hdst
      obtain ⟨t', h4, h5⟩ := setDst_put ht o.dst (v := .undef) (x := undef) rfl hsk
      exact cont (Stp.refl hs hf) h5 (by rw [put_defers']; exact hd) h4
    rw [wpOpsIn_cons]
    unfold wpOpIn
    simp only [ho]
    cases hg : o.guard with
    | none =>
      simp only [hg] at hx
      cases hx
      rw [if_pos (by simp [Region.wanted, hg])]
      exact run rfl hw
    | some gw =>
      obtain ⟨j, want⟩ := gw
      simp only [hg] at hx
      obtain ⟨d, hd1, hx⟩ := withO_some hx
      cases hx
      simp only [ropsK_cons, LOper.wp, guardK, getK_eq] at hw
      have hv := ht.2 d
      have hyield : ∀ b : Bool, a.tmps.getD d undef = .bool b → yielded ops a.tmps j = some b := by
        intro b hb
        unfold yielded
        have hlt : a.tmps[d]? = some (.bool b) := by
          rw [Array.getD_eq_getD_getElem?] at hb
          cases hq : a.tmps[d]? with
          | none => rw [hq] at hb; cases hb
          | some z => rw [hq] at hb; simpa using hb
        rw [hd1]
        simp [hlt]
      cases hl : lget t d <;> rw [hl] at hw hv <;> try exact hw.elim
      · -- nothing
        have e : a.tmps.getD d undef = undef := hv
        have hy' : yielded ops a.tmps j = none := by
          unfold yielded
          rw [hd1]
          rw [Array.getD_eq_getD_getElem?] at e
          simp only [Option.bind_some]
          cases hq : a.tmps[d]? with
          | none => rfl
          | some z =>
            rw [hq] at e
            have : z = undef := by simpa using e
            subst this; rfl
        rw [if_neg (by simp [Region.wanted, hg, hy'])]
        exact ⟨fun _ _ => trivial, skip rfl hw⟩
      · rename_i b
        have e : a.tmps.getD d undef = .bool b := hv
        have hy' := hyield b e
        cases want
        · rcases iteP_elim hw with ⟨hb, h1⟩ | ⟨hb, h1⟩
          · subst hb
            rw [if_neg (by simp [Region.wanted, hg, hy'])]
            exact ⟨fun _ _ => trivial, skip rfl h1⟩
          · subst hb
            rw [if_pos (by simp [Region.wanted, hg, hy'])]
            exact run rfl h1
        · rcases iteP_elim hw with ⟨hb, h1⟩ | ⟨hb, h1⟩
          · subst hb
            rw [if_pos (by simp [Region.wanted, hg, hy'])]
            exact run rfl h1
          · subst hb
            rw [if_neg (by simp [Region.wanted, hg, hy'])]
            exact ⟨fun _ _ => trivial, skip rfl h1⟩
end
end Go.Proofs.Ytilmfhpoiejmfaa.Lh

/- A region that draws its order: any order does what the text's order does. Over any program. -/
namespace Go.Proofs.Ytilmfhpoiejmfaa.Lh
set_option linter.unusedSimpArgs false
set_option linter.unusedVariables false
set_option linter.unusedSectionVars false
open Go.RowKit
variable [Fz]
/-- Two heaps that tell the same. -/
def Eqv (h h' : LHeap) : Prop := ∀ i, hget h i = hget h' i
theorem Sim.eqv {T : Nat → Nat → Prop} {w0 : World} {ρ : Pl} {h h' : LHeap} {w : World} (s : Sim T w0 ρ h w) (e : Eqv h h') : Sim T w0 ρ h' w :=
  ⟨fun i o hi => s.obj i o (by rw [e i]; exact hi), fun i j oi oj g b n b' m hi hj => s.inj i j oi oj g b n b' m (by rw [e i]; exact hi) (by rw [e j]; exact hj), s.lt, s.os, s.tape, s.output, s.size, s.kept, s.new, s.apart, s.fz, s.fzT, fun i o g b n hi => s.nofz i o g b n (by rw [e i]; exact hi), s.glob, s.tks, s.res.imp fun Fs r => r.keep (.refl _) (Nat.le_refl _) (fun i o A hi _ => by rw [e i]; exact hi) (fun i o A k hi hA hk => ⟨rfl, (r.mine i o A k hi hA hk).2⟩) (fun i j oi oj A g b m hi hA hi0 hj h1 => r.off i j oi oj A g b m hi0 hA (by rw [e j]; exact hj) h1)⟩
theorem updU_out {i : Nat} : ∀ (u : List (Nat × Option LObj)) (h : LHeap), i ∉ fsts u → hget (updU h u) i = hget h i
  | [], h, _ => rfl
  | (j, o) :: r, h, hi => by
    simp only [fsts, List.mem_cons, not_or] at hi
    rw [updU, updU_out r _ hi.2, hget_hset, if_neg hi.1]
theorem updU_in {i : Nat} : ∀ (u : List (Nat × Option LObj)) (h h' : LHeap), i ∈ fsts u → hget (updU h u) i = hget (updU h' u) i
  | [], h, h', hi => by cases hi
  | (j, o) :: r, h, h', hi => by
    rw [updU, updU]
    by_cases c : i ∈ fsts r
    · exact updU_in r _ _ c
    · have : i = j := by
        rcases List.mem_cons.1 hi with e | e
        · exact e
        · exact absurd e c
      subst this
      rw [updU_out r _ c, updU_out r _ c, hget_hset, hget_hset, if_pos rfl, if_pos rfl]
theorem applyU_out {i : Nat} {u : List (Nat × Option LObj)} {n : Nat} {nw : Option LObj} {h : LHeap} (hi : i ∉ whOf u nw n) : hget (applyU h u n nw) i = hget h i := by
  unfold applyU
  cases nw with
  | none => exact updU_out u h hi
  | some o =>
    simp only [whOf, List.mem_cons, not_or] at hi
    simp only
    rw [hget_hset, if_neg hi.1]
    exact updU_out u h hi.2
theorem applyU_in {i : Nat} {u : List (Nat × Option LObj)} {n : Nat} {nw : Option LObj} (h h' : LHeap) (hi : i ∈ whOf u nw n) : hget (applyU h u n nw) i = hget (applyU h' u n nw) i := by
  unfold applyU
  cases nw with
  | none => exact updU_in u h h' hi
  | some o =>
    simp only
    rw [hget_hset, hget_hset]
    by_cases c : i = n
    · rw [if_pos c, if_pos c]
    · rw [if_neg c, if_neg c]
      simp only [whOf, List.mem_cons] at hi
      exact updU_in u h h' (hi.resolve_left c)
theorem applyU_eqv {u : List (Nat × Option LObj)} {n : Nat} {nw : Option LObj} {h h' : LHeap} (e : Eqv h h') : Eqv (applyU h u n nw) (applyU h' u n nw) := by
  intro i
  by_cases c : i ∈ whOf u nw n
  · exact applyU_in h h' c
  · rw [applyU_out c, applyU_out c]; exact e i
theorem applyU_comm {u u' : List (Nat × Option LObj)} {n n' : Nat} {nw nw' : Option LObj} {h : LHeap} (hd : ∀ i ∈ whOf u nw n, i ∉ whOf u' nw' n') : Eqv (applyU (applyU h u n nw) u' n' nw') (applyU (applyU h u' n' nw') u n nw) := by
  intro i
  by_cases c : i ∈ whOf u nw n
  · have c' := hd i c
    rw [applyU_out c']
    exact applyU_in _ _ c
  · rw [applyU_out c]
    by_cases c' : i ∈ whOf u' nw' n'
    · exact applyU_in _ _ c'
    · rw [applyU_out c', applyU_out c', applyU_out c]
theorem tset_get {t : List LVal} {d : Option Nat} {v : LVal} {i : Nat} (h : i ∉ dstL d) : lget (tset t d v) i = lget t i := by
  cases d with
  | none => rfl
  | some d =>
    have : i ≠ d := by simpa [dstL] using h
    rw [tset, lget_lset, if_neg (fun c => this c.1)]
theorem lset_comm {t : List LVal} {i j : Nat} {v u : LVal} (h : i ≠ j) : lset (lset t i v) j u = lset (lset t j u) i v := by
  induction t generalizing i j with
  | nil => rfl
  | cons x r ih =>
    cases i with
    | zero => cases j with
      | zero => exact absurd rfl h
      | succ j => rfl
    | succ i => cases j with
      | zero => rfl
      | succ j => simp only [lset]; rw [ih (fun e => h (by rw [e]))]
theorem tset_comm {t : List LVal} {d d' : Option Nat} {v u : LVal} (h : ∀ x ∈ dstL d, x ∉ dstL d') : tset (tset t d v) d' u = tset (tset t d' u) d v := by
  cases d with
  | none => rfl
  | some d => cases d' with
    | none => rfl
    | some d' => exact lset_comm (by simpa [dstL] using h)
section
variable {P : Program} {base : Nat}
theorem valid_eqv : ∀ (τ : List TRec) {t : List LVal} {h h2 : LHeap} {t' : List LVal} {h' : LHeap}, Valid P base τ t h t' h' → Eqv h h2 → ∃ h2', Valid P base τ t h2 t' h2' ∧ Eqv h' h2'
  | [], t, h, h2, t', h', hv, e => by
    obtain ⟨rfl, rfl⟩ := hv
    exact ⟨h2, ⟨rfl, rfl⟩, e⟩
  | r :: τ, t, h, h2, t', h', hv, e => by
    obtain ⟨h1, h3⟩ := hv
    obtain ⟨h2', h4, h5⟩ := valid_eqv τ h3 (applyU_eqv e)
    exact ⟨h2', ⟨oper_local h1 (fun _ _ => rfl) (fun b _ => (e b).symm), h4⟩, h5⟩
structure Apart (a b : DLog) : Prop where
  a1 : ∀ x ∈ dstL a.dst, x ∉ b.rt
  a2 : ∀ x ∈ dstL b.dst, x ∉ a.rt
  a3 : ∀ x ∈ dstL a.dst, x ∉ dstL b.dst
  a4 : ∀ x ∈ a.wh, x ∉ b.rh
  a5 : ∀ x ∈ b.wh, x ∉ a.rh
  a6 : ∀ x ∈ a.wh, x ∉ b.wh
theorem okPair_spec {a b : DLog} (h : okPair a b = true) : Apart a b := by
  simp only [okPair, Bool.and_eq_true, disj_iff] at h
  exact ⟨h.1.1.1.1.1, h.1.1.1.1.2, h.1.1.1.2, h.1.1.2, h.1.2, h.2⟩
/-- An operation that is apart from all ahead of it may be done first. -/
theorem bubble : ∀ (τ1 : List TRec) (r : TRec) (τ2 : List TRec) {t : List LVal} {h : LHeap} {t' : List LVal} {h' : LHeap}, Valid P base (τ1 ++ r :: τ2) t h t' h' → (∀ a ∈ τ1, okPair (a.log base) (r.log base) = true) →
    r.o.Run P (base + r.i) t h r.v r.u r.nw r.rt r.rh ∧ ∃ h2, Valid P base (τ1 ++ τ2) (tset t r.o.dst r.v) (applyU h r.u (base + r.i) r.nw) t' h2 ∧ Eqv h' h2
  | [], r, τ2, t, h, t', h', hv, _ => ⟨hv.1, h', hv.2, fun _ => rfl⟩
  | a :: τ1, r, τ2, t, h, t', h', hv, hok => by
    obtain ⟨h1, h2⟩ := hv
    obtain ⟨h3, h4, h5, h6⟩ := bubble τ1 r τ2 h2 (fun b hb => hok b (by simp [hb]))
    have ok := okPair_spec (hok a (by simp))
    have r1 : r.o.Run P (base + r.i) t h r.v r.u r.nw r.rt r.rh := by
      refine oper_local h3 (fun i hi => (tset_get (fun c => ok.a1 i c hi)).symm) (fun b hb => (applyU_out (fun c => ok.a4 b c hb)).symm)
    have r2 : a.o.Run P (base + a.i) (tset t r.o.dst r.v) (applyU h r.u (base + r.i) r.nw) a.v a.u a.nw a.rt a.rh :=
      oper_local h1 (fun i hi => tset_get (fun c => ok.a2 i c hi)) (fun b hb => applyU_out (fun c => ok.a5 b c hb))
    rw [tset_comm (d := a.o.dst) (d' := r.o.dst) ok.a3] at h5
    obtain ⟨h7, h8, h9⟩ := valid_eqv _ h5 (applyU_comm (h := h) ok.a6)
    exact ⟨r1, h7, ⟨r2, h8⟩, fun i => (h6 i).trans (h9 i)⟩
theorem valid_len : ∀ (τ : List TRec) {t : List LVal} {h : LHeap} {t' : List LVal} {h' : LHeap}, Valid P base τ t h t' h' → h.length ≤ h'.length ∧ ∀ r ∈ τ, r.nw ≠ none → base + r.i < h'.length
  | [], t, h, t', h', hv => by
    obtain ⟨rfl, rfl⟩ := hv
    exact ⟨Nat.le_refl _, fun r hr => by cases hr⟩
  | r :: τ, t, h, t', h', hv => by
    obtain ⟨h1, h2⟩ := valid_len τ hv.2
    have h3 := applyU_length h r.u (base + r.i) r.nw
    refine ⟨Nat.le_trans h3.1 h1, fun x hx hn => ?_⟩
    rcases List.mem_cons.1 hx with rfl | hx
    · exact Nat.lt_of_lt_of_le (h3.2 hn) h1
    · exact h2 x hx hn
end
def depsOf (ops : Array Oper) (j : Nat) : List Nat := match ops[j]? with
  | none => []
  | some o => (o.after.toList.filter (fun e => Region.binds .any e)).map fun e => e.on
/-- What must be waited for: each one once. -/
def ancsA (ops : Array Oper) : Nat → List Nat → List Nat → List Nat
  | 0, _, seen => seen
  | _ + 1, [], seen => seen
  | f + 1, j :: todo, seen => match memB j seen with
    | true => ancsA ops f todo seen
    | false => ancsA ops f (depsOf ops j ++ todo) (j :: seen)
/-- What an operation must wait for. -/
def ancs (ops : Array Oper) (f j : Nat) : List Nat := ancsA ops f (depsOf ops j) []
def unord (ops : Array Oper) (j : Nat) : List Nat := match ancs ops ((j + 2) * (j + 2)) j with
  | l => (List.range j).filter fun i => !(memB i l)
def compileD (P : Program) (ops : Array Oper) : List Nat → Option (List (Nat × List Nat × LOper))
  | [] => some []
  | i :: r => withO ops[i]? fun o => withO (compileOper P ops o) fun x => withO (compileD P ops r) fun y => some ((i, unord ops i, x) :: y)
def afterOk (ops : Array Oper) : Bool := (List.range ops.size).all fun j => match ops[j]? with
  | none => true
  | some o => o.after.toList.all fun e => !(Region.binds .any e) || Nat.blt e.on j
theorem afterOk_spec {ops : Array Oper} (h : afterOk ops = true) {j : Nat} {o : Oper} (ho : ops[j]? = some o) {e : Edge} (he : e ∈ o.after) (hb : Region.binds .any e = true) : e.on < j := by
  have hj : j < ops.size := (Array.getElem?_eq_some_iff.1 ho).1
  have := List.all_eq_true.1 h j (List.mem_range.2 hj)
  rw [ho] at this
  have := List.all_eq_true.1 this e (by simpa using he)
  rw [hb] at this
  simpa using this
theorem mem_deps {ops : Array Oper} {j x : Nat} (h : x ∈ depsOf ops j) : ∃ o, ops[j]? = some o ∧ ∃ e ∈ o.after, Region.binds .any e = true ∧ e.on = x := by
  unfold depsOf at h
  cases hq : ops[j]? with
  | none => rw [hq] at h; cases h
  | some o =>
    rw [hq] at h
    obtain ⟨e, he, rfl⟩ := List.mem_map.1 h
    obtain ⟨h1, h2⟩ := List.mem_filter.1 he
    exact ⟨o, rfl, e, by simpa using h1, h2, rfl⟩
theorem ancsA_listed {ops : Array Oper} {listed : Array Bool} (hdc : ∀ k o, ops[k]? = some o → listed.getD k false = true → ∀ e ∈ o.after, Region.binds .any e = true → listed.getD e.on false = true) : ∀ (f : Nat) (todo seen : List Nat), (∀ x ∈ todo, listed.getD x false = true) → (∀ x ∈ seen, listed.getD x false = true) → ∀ x ∈ ancsA ops f todo seen, listed.getD x false = true
  | 0, _, _, _, hs, x, hx => hs x hx
  | _ + 1, [], _, _, hs, x, hx => hs x hx
  | f + 1, j :: todo, seen, ht, hs, x, hx => by
    rw [ancsA] at hx
    split at hx
    · exact ancsA_listed hdc f todo seen (fun y hy => ht y (by simp [hy])) hs x hx
    · refine ancsA_listed hdc f _ _ (fun y hy => ?_) (fun y hy => ?_) x hx
      · rcases List.mem_append.1 hy with hy | hy
        · obtain ⟨o, ho, e, he, hb, rfl⟩ := mem_deps hy
          exact hdc j o ho (ht j (by simp)) e he hb
        · exact ht y (by simp [hy])
      · rcases List.mem_cons.1 hy with rfl | hy
        · exact ht y (by simp)
        · exact hs y hy
theorem ancs_listed {ops : Array Oper} {listed : Array Bool} (hdc : ∀ k o, ops[k]? = some o → listed.getD k false = true → ∀ e ∈ o.after, Region.binds .any e = true → listed.getD e.on false = true) (f j : Nat) (o : Oper) (ho : ops[j]? = some o) (hj : ∀ e ∈ o.after, Region.binds .any e = true → listed.getD e.on false = true) : ∀ x ∈ ancs ops f j, listed.getD x false = true :=
  ancsA_listed hdc f _ _ (fun x hx => by
    obtain ⟨o', ho', e, he, hb, rfl⟩ := mem_deps hx
    rw [ho] at ho'
    cases ho'
    exact hj e he hb) (fun x hx => by cases hx)
theorem compileD_spec {P : Program} {ops : Array Oper} : ∀ (l : List Nat) (los : List (Nat × List Nat × LOper)), compileD P ops l = some los → los.map (·.1) = l ∧ ∀ p ∈ los, p.2.1 = unord ops p.1 ∧ ∃ o, ops[p.1]? = some o ∧ compileOper P ops o = some p.2.2
  | [], los, h => by
    cases h
    exact ⟨rfl, fun p hp => by cases hp⟩
  | i :: r, los, h => by
    obtain ⟨o, h1, h⟩ := withO_some h
    obtain ⟨x, h2, h⟩ := withO_some h
    obtain ⟨y, h3, h⟩ := withO_some h
    cases h
    obtain ⟨e1, e2⟩ := compileD_spec r y h3
    refine ⟨by simp [e1], fun p hp => ?_⟩
    rcases List.mem_cons.1 hp with rfl | hp
    · exact ⟨rfl, o, h1, h2⟩
    · exact e2 p hp
end Go.Proofs.Ytilmfhpoiejmfaa.Lh

/- A region that draws its order, in the world. Over any program. -/
namespace Go.Proofs.Ytilmfhpoiejmfaa.Lh
set_option linter.unusedSimpArgs false
set_option linter.unusedVariables false
set_option linter.unusedSectionVars false
open Go.RowKit
variable [Fz]
section
variable {T : Nat → Nat → Prop} {w0 : World} {P : Program} {κ : Option Nat} {D : List Deferred}
theorem act_res {o : Oper} {lo : LOp} (hc : compileAct P o = some (.op lo)) {ρ : Pl} {t : List LVal} {h : LHeap} {a : Act} {w : World} {n : Nat} {Φ : LVal → List (Nat × Option LObj) → Option LObj → Prop} (hs : Sim T w0 ρ h w) (hn : ρ n = none) (hh : hget h n = none) (ht : TSim ρ t a) (hw : (opRd n lo).wp t h Φ) : Res P o a w T w0 ρ h n Φ := by
  unfold compileAct at hc
  split at hc
  · rename_i c ho
    split at hc
    · rename_i f hcal
      split at hc
      · rename_i g
        split at hc
        · rename_i k hk
          obtain ⟨lo', h1, hc⟩ := withO_some hc
          cases hc
          exact at_sound ho hcal hk h1 hs ht hw
        · obtain ⟨xs, _, hc⟩ := withO_some hc; cases hc
      · obtain ⟨xs, _, hc⟩ := withO_some hc; cases hc
      · cases hc
    · rename_i b hcal
      obtain ⟨x, h1, hc⟩ := withO_some hc
      cases hc
      exact builtin_sound ho hcal h1 hs hn hh ht hw
    · cases hc
  · obtain ⟨x, _, hc⟩ := withO_some hc; cases hc
  · obtain ⟨x, h1, hc⟩ := withO_some hc
    cases hc
    exact op_sound h1 hs hn hh ht hw
theorem run_live : ∀ (r : Rd) {t : List LVal} {h : LHeap} {v : LVal} {u : List (Nat × Option LObj)} {nw : Option LObj} {rt rh : List Nat}, r.Run t h v u nw rt rh → ∀ b ∈ rh, ∃ o, hget h b = some o
  | .ret v u nw, t, h, v', u', nw', rt, rh, hr, b, hb => by
    have := hr.2.2.2.2
    subst this
    cases hb
  | .tmp i k, t, h, v, u, nw, rt, rh, hr, b, hb => by
    obtain ⟨rt', _, h1⟩ := hr
    exact run_live _ h1 b hb
  | .obj c k, t, h, v, u, nw, rt, rh, hr, b, hb => by
    obtain ⟨rh', o, rfl, hg, h1⟩ := hr
    rcases List.mem_cons.1 hb with rfl | hb
    · exact ⟨o, hg⟩
    · exact run_live _ h1 b hb
  | .need p k, t, h, v, u, nw, rt, rh, hr, b, hb => run_live k hr.2 b hb
  | .ite c x y, t, h, v, u, nw, rt, rh, hr, b, hb => by
    cases c
    · exact run_live y hr b hb
    · exact run_live x hr b hb
  | .allB _ _, _, _, _, _, _, _, _, hr, _, _ => hr.elim
  | .fail, _, _, _, _, _, _, _, hr, _, _ => hr.elim
theorem emb_live {g : Nat → Nat} {H : LHeap} : ∀ (rh : List Nat) (h0 : LHeap), Emb g H rh h0 → h0.all (·.isSome) = true → ∀ b ∈ rh, ∃ o, hget H b = some o
  | [], [], _, _, b, hb => by cases hb
  | [], _ :: _, h, _, b, hb => by cases hb
  | _ :: _, [], h, _, b, hb => h.elim
  | e :: er, o :: r, h, ha, b, hb => by
    simp only [List.all_cons, Bool.and_eq_true] at ha
    rcases List.mem_cons.1 hb with rfl | hb
    · cases o with
      | none => exact absurd ha.1 (by decide)
      | some o => exact ⟨_, h.1⟩
    · exact emb_live er r h.2 ha.2 b hb
theorem act_live {n : Nat} {t : List LVal} {h : LHeap} {act : LAct} {v : LVal} {u : List (Nat × Option LObj)} {nw : Option LObj} {rt rh : List Nat} (hr : act.Run P n t h v u nw rt rh) : ∀ b ∈ rh, ∃ o, hget h b = some o := by
  cases act with
  | op o => exact run_live _ hr
  | call f xs =>
    obtain ⟨vs, _, ⟨⟨⟨a0, h0, v0, _, _, _, _, e5, e6⟩⟩, _⟩ | ⟨⟨a0, h0, v0, h1, _, _, _, _, e5, e6, _⟩⟩, _⟩ := hr
    · exact emb_live rh h0 (e5 0) e6
    · exact emb_live rh h0 (e5 0) e6
  | callv x xs =>
    cases x with
    | const _ => exact hr.elim
    | tmp i =>
      obtain ⟨f, c, vs, rt', _, _, _, ⟨⟨a0, h0, v0, _, _, _, _, e5, e6⟩⟩, _⟩ := hr
      exact emb_live rh h0 (e5 0) e6
  | panic x => exact hr.elim
theorem oper_live {n : Nat} {t : List LVal} {h : LHeap} {o : LOper} {v : LVal} {u : List (Nat × Option LObj)} {nw : Option LObj} {rt rh : List Nat} (hr : o.Run P n t h v u nw rt rh) : ∀ b ∈ rh, ∃ o, hget h b = some o := by
  unfold LOper.Run at hr
  split at hr
  · exact act_live hr
  · rcases hr with ⟨b, _, ⟨_, rt', _, e3⟩ | ⟨_, e3⟩⟩ | ⟨_, e3⟩
    · exact act_live e3
    · intro b hb; rw [e3.2.2.2.2] at hb; cases hb
    · intro b hb; rw [e3.2.2.2.2] at hb; cases hb
theorem apart_mono {n m : Nat} : ∀ (l : List Nat), apart n l = true → (∀ x ∈ l, x < m) → apart m l = true
  | [], _, _ => rfl
  | x :: r, h, hl => by
    simp only [apart, Bool.and_eq_true] at h ⊢
    refine ⟨⟨?_, h.1.2⟩, apart_mono r h.2 (fun y hy => hl y (by simp [hy]))⟩
    have := hl x (by simp)
    exact Nat.ble_eq ▸ this
theorem hset_len_eq (h : LHeap) (n : Nat) (o : Option LObj) (hn : n < h.length) : (hset h n o).length = h.length := by
  induction n generalizing h with
  | zero => cases h with
    | nil => simp at hn
    | cons x r => rfl
  | succ n ih => cases h with
    | nil => simp at hn
    | cons x r => simp [hset, ih r (by simpa using hn)]
theorem graft_len_eq {g : Nat → Nat} : ∀ (h : LHeap) (H : LHeap) (k : Nat), (∀ i, i < h.length → g (k + i) < H.length) → (graft g H k h).length = H.length
  | [], H, k, _ => rfl
  | o :: r, H, k, hg => by
    have h0 : g k < H.length := hg 0 (by simp)
    rw [graft, graft_len_eq r _ (k + 1) (fun i hi => by rw [hset_len_eq _ _ _ h0]; have := hg (i + 1) (by simpa using hi); rw [show k + 1 + i = k + (i + 1) by omega]; exact this), hset_len_eq _ _ _ h0]
/-- A pure call. -/
theorem pure_callK {h : LHeap} {f : FuncId} {vs : LVals} {rh : List Nat} {v : LVal} (c : CallPure P f vs h v rh) : callK P f vs h (fun v' h' => v' = v ∧ h'.length = h.length ∧ Eqv h h') (fun _ _ => False) := by
  have hlive : ∀ b ∈ rh, ∃ o, hget h b = some o := by
    obtain ⟨⟨a0, h0, v0, _, _, _, _, e5, e6⟩⟩ := c
    exact emb_live rh h0 (e5 0) e6
  have hlt : ∀ x ∈ rh, x < h.length := by
    intro x hx
    obtain ⟨ob, hob⟩ := hlive x hx
    rcases Nat.lt_or_ge x h.length with c | c
    · exact c
    · rw [hget_out h x c] at hob; cases hob
  obtain ⟨⟨args0, h0, v0, e1, e2, e3, e4, e5, e6⟩⟩ := c
  have hap := apart_mono rh e4 hlt
  have hfr := e1.frame rh hap (e5 h.length)
  obtain ⟨hel, hes⟩ := Emb.spec rh h0 (e5 h.length)
  unfold callK
  rw [← e2 h.length]
  refine hfr.mono ?_
  rintro e H' ⟨r, h', ⟨rfl, rfl⟩, rfl, rfl⟩
  refine ⟨e3 h.length, ?_, ?_⟩
  · refine graft_len_eq _ _ _ (fun i hi => ?_)
    rw [Nat.zero_add]
    obtain ⟨x, q1, q2⟩ := embF_lt rh h.length i (by rw [hel]; exact hi)
    rw [q2]
    exact hlt x (List.mem_of_getElem? q1)
  · intro i
    rw [graft_get h' h 0 (fun i j _ _ q => embF_inj hap i j q) i]
    cases hfnd : (List.range h'.length).find? (fun j => embF rh h.length (0 + j) == i) with
    | none => rfl
    | some j =>
      have hx := List.find?_some hfnd
      have hx := eq_of_beq hx
      rw [Nat.zero_add] at hx
      have hj : j < h'.length := by simpa using List.mem_of_find?_eq_some hfnd
      obtain ⟨x, q1, q2⟩ := embF_lt rh h.length j (by rw [hel]; exact hj)
      rw [q2] at hx
      subst hx
      simp only
      have hsome := List.all_eq_true.1 e6
      have hob : ∃ ob, hget h' j = some ob := by
        have : ∀ (l : LHeap) (j : Nat), l.all (·.isSome) = true → j < l.length → ∃ ob, hget l j = some ob := by
          intro l
          induction l with
          | nil => intro j _ hj; simp at hj
          | cons y r ih =>
            intro j hl hj
            simp only [List.all_cons, Bool.and_eq_true] at hl
            cases j with
            | zero => exact Option.isSome_iff_exists.1 hl.1
            | succ j => exact ih j hl.2 (by simpa using hj)
        exact this h' j e6 hj
      obtain ⟨ob, hob⟩ := hob
      obtain ⟨x', q3, q4⟩ := hes j ob hob
      rw [q1] at q3; cases q3
      rw [hob, q4]; rfl
theorem graft_updU {g : Nat → Nat} : ∀ (h1 : LHeap) (H : LHeap) (k : Nat) (rh : List Nat), rh.length = h1.length → (∀ i, i < h1.length → rh[i]? = some (g (k + i))) → graft g H k h1 = updU H (rh.zip (h1.map (Option.map (LObj.ren g))))
  | [], H, k, rh, hl, _ => by
    have : rh = [] := List.length_eq_zero_iff.1 hl
    subst this; rfl
  | o :: r, H, k, [], hl, _ => by simp at hl
  | o :: r, H, k, e :: er, hl, hg => by
    have h0 := hg 0 (by simp)
    simp at h0
    subst h0
    rw [graft, graft_updU r _ (k + 1) er (by simpa using hl) (fun i hi => by
      have := hg (i + 1) (by simpa using hi)
      rw [List.getElem?_cons_succ] at this
      rw [this, show k + (i + 1) = k + 1 + i by omega])]
    rfl
/-- A call that turns its blocks. -/
theorem eff_callK {h : LHeap} {f : FuncId} {vs : LVals} {rh : List Nat} {v : LVal} {u : List (Nat × Option LObj)} (c : CallEff P f vs h v u rh) : callK P f vs h (fun v' h' => v' = v ∧ h'.length = h.length ∧ Eqv (updU h u) h') (fun _ _ => False) := by
  obtain ⟨⟨args0, h0, v0, h1, e1, e2, e3, e4, e5, e6, e7, e8⟩⟩ := c
  have hlt : ∀ x ∈ rh, x < h.length := by
    intro x hx
    obtain ⟨ob, hob⟩ := emb_live rh h0 (e5 0) e6 x hx
    rcases Nat.lt_or_ge x h.length with c | c
    · exact c
    · rw [hget_out h x c] at hob; cases hob
  have hap := apart_mono rh e4 hlt
  have hfr := e1.frame rh hap (e5 h.length)
  obtain ⟨hel, hes⟩ := Emb.spec rh h0 (e5 h.length)
  unfold callK
  rw [← e2 h.length]
  refine hfr.mono ?_
  rintro e H' ⟨r, h', ⟨rfl, rfl⟩, rfl, rfl⟩
  have hg : ∀ i, i < h'.length → rh[i]? = some (embF rh h.length (0 + i)) := fun i hi => by
    obtain ⟨x, q1, q2⟩ := embF_lt rh h.length i (by rw [hel]; omega)
    rw [Nat.zero_add, q1, q2]
  refine ⟨e3 h.length, ?_, ?_⟩
  · refine graft_len_eq _ _ _ (fun i hi => ?_)
    have := hg i hi
    exact hlt _ (List.mem_of_getElem? this)
  · intro i
    rw [graft_updU h' h 0 rh (by omega) hg, ← e8 h.length]
/-- A pure call's run. -/
theorem pure_wp {o : Oper} {a : Act} {w : World} {next : Act → World → Prop} {Q : Exit → Act → World → Prop} {ρ : Pl} {t : List LVal} {h : LHeap} {act : LAct} {v : LVal} (hc : compileAct P o = some act) (hs : Sim T w0 ρ h w) (hf : ∀ i, h.length ≤ i → ρ i = none) (ht : TSim ρ t a) {h2 : LHeap} (hargs : act.wp P t h (fun v' h' => v' = v ∧ h'.length = h.length ∧ Eqv h2 h') (fun _ _ => False))
    (hK : ∀ ρ' x w', Ext ρ ρ' → ρ'.at_ = ρ.at_ → PV ρ' v x → Sim T w0 ρ' h2 w' → next (a.put o.dst x) w') : o.wpIn (FW κ) 0 P a w next Q := by
  refine act_wp (act := act) (K := fun v' h' => v' = v ∧ h'.length = h.length ∧ Eqv h2 h') (X := fun _ _ => False) hc hs hf ht hargs (fun v' h' ρ' x w' h1 h4 h3 => ?_) (fun v' h' ρ' x w' h1 h4 h3 => h1.elim)
  obtain ⟨rfl, q1, q2⟩ := h1
  have hρ : ρ'.at_ = ρ.at_ := by
    funext i
    rcases Nat.lt_or_ge i h.length with c | c
    · exact h3.keep i c
    · rw [hf i c, h3.fresh i (by omega)]
  exact hK ρ' x w' h3.ext hρ h4 (h3.sim.eqv (fun i => (q2 i).symm))
structure DInv (D : List Deferred) (P : Program) (ops : Array Oper) (T : Nat → Nat → Prop) (w0 : World) (ρ0 : Pl) (base : Nat) (tf : List LVal) (hf : LHeap) (τ : List TRec) (listed : Array Bool) (a : Act) (w : World) (t : List LVal) (h : LHeap) (ρ : Pl) : Prop where
  valid : ∃ h', Valid P base τ t h tf h' ∧ Eqv h' hf
  ts : TSim ρ t a
  sim : Sim T w0 ρ h w
  nodef : a.defers = D
  size : listed.size = ops.size
  open_ : ∀ k, k < ops.size → (listed.getD k true = false ↔ ∃ r ∈ τ, r.i = k)
  sorted : τ.Pairwise (fun a b => a.i < b.i)
  comp : ∀ r ∈ τ, r.un = unord ops r.i ∧ ∃ o, ops[r.i]? = some o ∧ compileOper P ops o = some r.o
  conf : τ.Pairwise (fun a b => a.i ∈ b.un → okPair (a.log base) (b.log base) = true)
  sub : ∀ r ∈ τ, ∀ x ∈ fsts r.u, x ∈ r.rh
  un : ∀ r ∈ τ, ρ (base + r.i) = none ∧ hget h (base + r.i) = none
  down : ∀ k o, ops[k]? = some o → listed.getD k false = true → ∀ e ∈ o.after, Region.binds .any e = true → listed.getD e.on false = true
  ext : Ext ρ0 ρ
  keep : ∀ i, i < base → ρ i = ρ0 i
  fresh : ∀ i, h.length ≤ i → ρ i = none
  freshf : ∀ i, hf.length ≤ i → ρ i = none
  newf : ∀ r ∈ τ, r.nw ≠ none → base + r.i < hf.length
  lenf : base ≤ hf.length
  len : base ≤ h.length
theorem DInv.step {ops : Array Oper} {ρ0 : Pl} {base : Nat} {tf : List LVal} {hf : LHeap} {τ1 τ2 : List TRec} {r : TRec} {listed : Array Bool} {a : Act} {w : World} {t : List LVal} {h : LHeap} {ρ : Pl} (I : DInv D P ops T w0 ρ0 base tf hf (τ1 ++ r :: τ2) listed a w t h ρ) (hrun : r.o.Run P (base + r.i) t h r.v r.u r.nw r.rt r.rh) {h2 : LHeap} (hv : Valid P base (τ1 ++ τ2) (tset t r.o.dst r.v) (applyU h r.u (base + r.i) r.nw) tf h2) (he : Eqv h2 hf)
    {o : Oper} (ho : ops[r.i]? = some o) (hdeps : ∀ e ∈ o.after, Region.binds .any e = true → listed.getD e.on false = true) {ρ' : Pl} {w' : World} {a' : Act} (hext : Ext ρ ρ') (hkeep : ∀ i, (i ≠ base + r.i ∨ r.nw = none) → ρ' i = ρ i) (hts : TSim ρ' (tset t r.o.dst r.v) a') (hsim : Sim T w0 ρ' (applyU h r.u (base + r.i) r.nw) w') (hd : a'.defers = D) :
    DInv D P ops T w0 ρ0 base tf hf (τ1 ++ τ2) (listed.setIfInBounds r.i true) a' w' (tset t r.o.dst r.v) (applyU h r.u (base + r.i) r.nw) ρ' := by
  have hri : r.i < ops.size := (Array.getElem?_eq_some_iff.1 ho).1
  have mem_old : ∀ x ∈ τ1 ++ τ2, x ∈ τ1 ++ r :: τ2 := by
    intro x hx
    rcases List.mem_append.1 hx with h | h
    · exact List.mem_append.2 (.inl h)
    · exact List.mem_append.2 (.inr (List.mem_cons_of_mem _ h))
  have hne : ∀ x ∈ τ1 ++ τ2, x.i ≠ r.i := by
    have hs := I.sorted
    rw [List.pairwise_append] at hs
    obtain ⟨_, s2, s3⟩ := hs
    rw [List.pairwise_cons] at s2
    intro x hx
    rcases List.mem_append.1 hx with h | h
    · have := s3 x h r (by simp); omega
    · have := s2.1 x h; omega
  have hlen := applyU_length h r.u (base + r.i) r.nw
  have rmem : r ∈ τ1 ++ r :: τ2 := by simp
  have sub : List.Sublist (τ1 ++ τ2) (τ1 ++ r :: τ2) := List.Sublist.append_left (List.sublist_cons_self r τ2) τ1
  refine ⟨⟨h2, hv, he⟩, hts, hsim, hd, by simp [I.size], ?_, I.sorted.sublist sub, fun x hx => I.comp x (mem_old x hx), I.conf.sublist sub, fun x hx => I.sub x (mem_old x hx), ?_, ?_, I.ext.trans hext, ?_, ?_, ?_, fun x hx => I.newf x (mem_old x hx), I.lenf, Nat.le_trans I.len hlen.1⟩
  · intro k hk
    by_cases c : r.i = k
    · subst c
      constructor
      · intro hx
        rw [Array.getD_eq_getD_getElem?, Array.getElem?_setIfInBounds_self_of_lt (by rw [I.size]; exact hk)] at hx
        cases hx
      · rintro ⟨x, hx, e⟩; exact absurd e (hne x hx)
    · rw [getD_set_ne true c, I.open_ k hk]
      constructor
      · rintro ⟨x, hx, rfl⟩
        rcases List.mem_append.1 hx with h | h
        · exact ⟨x, List.mem_append.2 (.inl h), rfl⟩
        · rcases List.mem_cons.1 h with rfl | h
          · exact absurd rfl c
          · exact ⟨x, List.mem_append.2 (.inr h), rfl⟩
      · rintro ⟨x, hx, rfl⟩; exact ⟨x, mem_old x hx, rfl⟩
  · intro x hx
    obtain ⟨u1, u2⟩ := I.un x (mem_old x hx)
    have hxi := hne x hx
    refine ⟨by rw [hkeep _ (.inl (by omega))]; exact u1, ?_⟩
    rw [applyU_out ?_]
    · exact u2
    · have hnu : base + x.i ∉ fsts r.u := by
        intro hm
        obtain ⟨ob, hob⟩ := oper_live hrun _ (I.sub r rmem _ hm)
        rw [u2] at hob; cases hob
      unfold whOf
      split
      · exact hnu
      · simp only [List.mem_cons, not_or]
        exact ⟨by omega, hnu⟩
  · intro k o' ho' hk e hee hb
    by_cases c : r.i = k
    · subst c
      rw [ho] at ho'
      cases ho'
      exact getD_set_true (hdeps e hee hb)
    · rw [getD_set_ne false c] at hk
      exact getD_set_true (I.down k o' ho' hk e hee hb)
  · intro i hi
    rw [hkeep i (.inl (by omega))]
    exact I.keep i hi
  · intro i hi
    rw [hkeep i ?_]
    · exact I.fresh i (Nat.le_trans hlen.1 hi)
    · by_cases c : r.nw = none
      · exact .inr c
      · have := hlen.2 c; exact .inl (by omega)
  · intro i hi
    rw [hkeep i ?_]
    · exact I.freshf i hi
    · by_cases c : r.nw = none
      · exact .inr c
      · have := I.newf r rmem c; exact .inl (by omega)
theorem yields_bool {ρ : Pl} {ops : Array Oper} {a : Act} {j d : Nat} {b : Bool} (hd : (ops[j]?).bind (·.dst) = some d) (hv : PV ρ (.bool b) (a.tmps.getD d undef)) : yielded ops a.tmps j = some b := by
  have hb : a.tmps.getD d undef = .bool b := hv
  unfold yielded
  have hlt : a.tmps[d]? = some (.bool b) := by
    rw [Array.getD_eq_getD_getElem?] at hb
    cases hq : a.tmps[d]? with
    | none => rw [hq] at hb; cases hb
    | some z => rw [hq] at hb; simpa using hb
  rw [hd]
  simp [hlt]
theorem yields_undef {ρ : Pl} {ops : Array Oper} {a : Act} {j d : Nat} (hd : (ops[j]?).bind (·.dst) = some d) (hv : PV ρ .undef (a.tmps.getD d undef)) : yielded ops a.tmps j = none := by
  have e : a.tmps.getD d undef = undef := hv
  unfold yielded
  rw [hd]
  rw [Array.getD_eq_getD_getElem?] at e
  simp only [Option.bind_some]
  cases hq : a.tmps[d]? with
  | none => rfl
  | some z =>
    rw [hq] at e
    have : z = undef := by simpa using e
    subst this; rfl
theorem draws_any {ops : Array Oper} {ρ0 : Pl} {h0 : LHeap} {base : Nat} (hbase : base = h0.length) {tf : List LVal} {hf : LHeap} {Q : LExit → List LVal → LHeap → Prop} (hq : Q .normal tf hf) (hao : afterOk ops = true) : ∀ (fuel : Nat) (τ : List TRec) (listed : Array Bool) (a : Act) (w : World) (t : List LVal) (h : LHeap) (ρ : Pl), τ.length = fuel → DInv D P ops T w0 ρ0 base tf hf τ listed a w t h ρ → wpAnyIn (FW κ) 0 P .any ops (PQ T w0 D ρ0 h0 Q) fuel listed a w := by
  intro fuel
  induction fuel with
  | zero =>
    intro τ listed a w t h ρ hlen I
    have : τ = [] := List.eq_nil_of_length_eq_zero hlen
    subst this
    obtain ⟨h', ⟨rfl, rfl⟩, he⟩ := I.valid
    refine ⟨?_, .normal, _, hf, ρ, hq, trivial, I.ts, ⟨I.ext, fun i hi => I.keep i (by omega), I.sim.eqv he, I.freshf, by rw [← hbase]; exact I.lenf⟩, I.nodef⟩
    cases hr : Region.ready .any ops listed with
    | nil => rfl
    | cons j rs =>
      have hj : j ∈ Region.ready .any ops listed := by rw [hr]; simp
      obtain ⟨h1, o, ho, _⟩ := mem_ready.1 hj
      obtain ⟨x, hx, _⟩ := (I.open_ j (Array.getElem?_eq_some_iff.1 ho).1).1 h1
      cases hx
  | succ fuel ih =>
    intro τ listed a w t h ρ hlen I
    refine ⟨fun hr => ?_, fun j hj => ?_⟩
    · -- the first one that is left may come up
      exfalso
      cases τ with
      | nil => simp at hlen
      | cons r τ =>
        obtain ⟨_, o, ho, _⟩ := I.comp r (by simp)
        have hri := (Array.getElem?_eq_some_iff.1 ho).1
        have hopen := (I.open_ r.i hri).2 ⟨r, by simp, rfl⟩
        have : r.i ∈ Region.ready .any ops listed := by
          refine mem_ready.2 ⟨hopen, o, ho, fun e he hb => ?_⟩
          have hlt := afterOk_spec hao ho he hb
          rcases Bool.eq_false_or_eq_true (listed.getD e.on false) with c | c
          · exact c
          · exfalso
            have hsz : e.on < listed.size := by rw [I.size]; omega
            have c' : listed.getD e.on true = false := by
              rw [Array.getD_eq_getD_getElem?, Array.getElem?_eq_getElem hsz] at c ⊢
              exact c
            obtain ⟨x, hx, hxi⟩ := (I.open_ e.on (by omega)).1 c'
            have hs := I.sorted
            rw [List.pairwise_cons] at hs
            rcases List.mem_cons.1 hx with rfl | hx
            · omega
            · have := hs.1 x hx; omega
        rw [hr] at this
        cases this
    · obtain ⟨h1, o, ho, hdeps⟩ := mem_ready.1 hj
      have hjs := (Array.getElem?_eq_some_iff.1 ho).1
      obtain ⟨r, hr, hri⟩ := (I.open_ j hjs).1 h1
      obtain ⟨τ1, τ2, rfl⟩ := List.append_of_mem hr
      subst hri
      obtain ⟨hun, o', ho', hco⟩ := I.comp r (by simp)
      rw [ho] at ho'
      cases ho'
      have hok : ∀ x ∈ τ1, okPair (x.log base) (r.log base) = true := by
        intro x hx
        have hs := I.sorted
        have hc := I.conf
        rw [List.pairwise_append] at hs hc
        have hlt := hs.2.2 x hx r (by simp)
        refine hc.2.2 x hx r (by simp) ?_
        rw [hun, unord, List.mem_filter, List.mem_range]
        refine ⟨hlt, ?_⟩
        rw [Bool.not_eq_true', ← Bool.not_eq_true, memB_iff]
        intro hm
        have hl := ancs_listed I.down _ _ o ho hdeps _ hm
        have hxo := (I.open_ x.i (by omega)).2 ⟨x, by simp [hx], rfl⟩
        have hsz : x.i < listed.size := by rw [I.size]; omega
        rw [Array.getD_eq_getD_getElem?, Array.getElem?_eq_getElem hsz] at hl hxo
        simp only [Option.getD_some] at hl hxo
        rw [hl] at hxo
        cases hxo
      obtain ⟨hf', hval, hee⟩ := I.valid
      obtain ⟨hrun, h2, hv2, he2⟩ := bubble τ1 r τ2 hval hok
      have he3 : Eqv h2 hf := fun i => (he2 i).symm.trans (hee i)
      have next : ∀ {ρ' : Pl} {w' : World} {a' : Act}, Ext ρ ρ' → (∀ i, (i ≠ base + r.i ∨ r.nw = none) → ρ' i = ρ i) → TSim ρ' (tset t r.o.dst r.v) a' → Sim T w0 ρ' (applyU h r.u (base + r.i) r.nw) w' → a'.defers = D → wpAnyIn (FW κ) 0 P .any ops (PQ T w0 D ρ0 h0 Q) fuel (listed.setIfInBounds r.i true) a' w' := by
        intro ρ' w' a' q1 q2 q3 q4 q5
        exact ih (τ1 ++ τ2) _ a' w' _ _ ρ' (by simp at hlen ⊢; omega) (I.step hrun hv2 he3 ho hdeps q1 q2 q3 q4 q5)
      obtain ⟨hun1, hun2⟩ := I.un r (by simp)
      obtain ⟨act, hact, hco⟩ := withO_some hco
      have tsput : ∀ {ρ' : Pl} {x : Value} {d : Option Nat}, d = o.dst → Ext ρ ρ' → PV ρ' r.v x → TSim ρ' (tset t d r.v) (a.put o.dst x) := by
        intro ρ' x d hd e hx
        subst hd
        have := I.ts.ext e
        cases hdst : o.dst with
        | none => exact this
        | some d => exact this.set d hx
      have runA : r.o.dst = o.dst → ∀ {rt : List Nat}, act.Run P (base + r.i) t h r.v r.u r.nw rt r.rh → o.wpIn (FW κ) 0 P a w (wpAnyIn (FW κ) 0 P .any ops (PQ T w0 D ρ0 h0 Q) fuel (listed.setIfInBounds r.i true)) (PQ T w0 D ρ0 h0 Q) := by
        intro hdst rt hA
        cases act with
        | op lo =>
          obtain ⟨v, u, nw, x, ρ', w', ⟨rfl, rfl, rfl⟩, g2, g3, g4, g5, g6⟩ := act_res hact I.sim hun1 hun2 I.ts (run_wp _ hA)
          have := next g3 g4 (tsput hdst g3 g5) g6 (by rw [put_defers']; exact I.nodef)
          refine wp_plain (compileAct_nd hact) ?_
          rcases g2 with g2 | ⟨g2, rfl⟩
          · rw [g2]; exact this
          · rw [g2]; exact this
        | call f xs =>
          obtain ⟨vs, q1, q2, q4⟩ := hA
          have hcall : callK P f vs h (fun v' h' => v' = r.v ∧ h'.length = h.length ∧ Eqv (updU h r.u) h') (fun _ _ => False) := by
            rcases q2 with ⟨c, q3⟩ | c
            · rw [q3]; exact pure_callK c
            · exact eff_callK c
          refine pure_wp (v := r.v) (h2 := updU h r.u) hact I.sim I.fresh I.ts (argsK_congr' (fun us e => by subst e; exact hcall) (args_K xs q1)) (fun ρ' x w' g3 g4 g1 g2 => ?_)
          refine next g3 (fun i _ => congrFun g4 i) (tsput hdst g3 g1) ?_ (by rw [put_defers']; exact I.nodef)
          rw [q4]
          exact g2
        | callv x xs =>
          cases x with
          | const _ => exact hA.elim
          | tmp i =>
            obtain ⟨f, c, vs, rt', q0, _, q1, q2, q3, q4⟩ := hA
            refine pure_wp (v := r.v) (h2 := h) hact I.sim I.fresh I.ts ?_ (fun ρ' x w' g3 g4 g1 g2 => ?_)
            · simp only [LAct.wp, opdK, getK_eq, q0]
              exact argsK_congr' (fun us e => by subst e; rw [appVsK_eq]; exact pure_callK q2) (args_K xs q1)
            · refine next g3 (fun i _ => congrFun g4 i) (tsput hdst g3 g1) ?_ (by rw [put_defers']; exact I.nodef)
              rw [q3, q4]
              exact g2
        | panic x => exact hA.elim
      have skipA : r.o.dst = o.dst → ∀ {d : Nat}, Skip d r.v r.u r.nw r.rt r.rh → wpAnyIn (FW κ) 0 P .any ops (PQ T w0 D ρ0 h0 Q) fuel (listed.setIfInBounds r.i true) (a.put o.dst undef) w := by
        intro hdst d hS
        obtain ⟨q1, q2, q3, _⟩ := hS
        refine next (Ext.refl ρ) (fun _ _ => rfl) (tsput hdst (Ext.refl ρ) (by rw [q1]; rfl)) ?_ (by rw [put_defers']; exact I.nodef)
        rw [q2, q3]
        exact I.sim
      unfold wpOpIn
      simp only [ho]
      cases hg : o.guard with
      | none =>
        rw [hg] at hco
        have hr0 : r.o = ⟨o.dst, none, act⟩ := (Option.some.inj hco).symm
        have hdst : r.o.dst = o.dst := by rw [hr0]
        have hA : act.Run P (base + r.i) t h r.v r.u r.nw r.rt r.rh := by
          unfold LOper.Run at hrun
          rw [hr0] at hrun
          exact hrun
        rw [if_pos (by simp [Region.wanted, hg])]
        exact runA hdst hA
      | some gw =>
        obtain ⟨j, want⟩ := gw
        rw [hg] at hco
        obtain ⟨d, hd1, hco⟩ := withO_some hco
        have hr0 : r.o = ⟨o.dst, some (d, want), act⟩ := (Option.some.inj hco).symm
        have hdst : r.o.dst = o.dst := by rw [hr0]
        have hrun' : (∃ b, lget t d = .bool b ∧ ((b = want ∧ ∃ rt', r.rt = d :: rt' ∧ act.Run P (base + r.i) t h r.v r.u r.nw rt' r.rh) ∨ (b ≠ want ∧ Skip d r.v r.u r.nw r.rt r.rh))) ∨ (lget t d = .undef ∧ Skip d r.v r.u r.nw r.rt r.rh) := by
          unfold LOper.Run at hrun
          rw [hr0] at hrun
          exact hrun
        have hvd := I.ts.2 d
        rcases hrun' with ⟨b, e1, ⟨e2, rt', _, e3⟩ | ⟨e2, e3⟩⟩ | ⟨e1, e3⟩
        · rw [e1] at hvd
          rw [if_pos (by simp [Region.wanted, hg, yields_bool hd1 hvd, e2])]
          exact runA hdst e3
        · rw [e1] at hvd
          rw [if_neg (by simp [Region.wanted, hg, yields_bool hd1 hvd, e2])]
          exact ⟨fun _ _ => trivial, skipA hdst e3⟩
        · rw [e1] at hvd
          rw [if_neg (by simp [Region.wanted, hg, yields_undef hd1 hvd])]
          exact ⟨fun _ _ => trivial, skipA hdst e3⟩
theorem draws_wp {id : Nat} {ops : Array Oper} {los : List (Nat × List Nat × LOper)} {Q : LExit → List LVal → LHeap → Prop} {ρ : Pl} {t : List LVal} {h : LHeap} {a : Act} {w : World} (hm : P.follows .mixedOrders = true) (hao : afterOk ops = true) (hc : compileD P ops (List.range ops.size) = some los) (hs : Sim T w0 ρ h w) (hf : ∀ i, h.length ≤ i → ρ i = none) (ht : TSim ρ t a) (hd : a.defers = D)
    (hw : lenK h 0 fun base => dropsK P base los t h [] fun t h => Q .normal t h) : (Code.region id ops true).wpIn (FW κ) 0 P (PQ T w0 D ρ h Q) a w := by
  rw [lenK_eq, Nat.zero_add] at hw
  obtain ⟨τ, t', h', e1, e2, e3, e4, _, e6⟩ := drops_trace los hw
  obtain ⟨c1, c2⟩ := compileD_spec _ _ hc
  have hidx : τ.map (·.i) = List.range ops.size := by
    rw [← c1, ← e1, List.map_map]
    rfl
  have hcomp : ∀ r ∈ τ, r.un = unord ops r.i ∧ ∃ o, ops[r.i]? = some o ∧ compileOper P ops o = some r.o := by
    intro r hr
    have : (r.i, r.un, r.o) ∈ los := by rw [← e1]; exact List.mem_map.2 ⟨r, hr, rfl⟩
    obtain ⟨q1, o, q2, q3⟩ := c2 _ this
    exact ⟨q1, o, q2, q3⟩
  have hsorted : τ.Pairwise (fun a b => a.i < b.i) := by
    have : (τ.map (·.i)).Pairwise (· < ·) := by rw [hidx]; exact List.pairwise_lt_range
    rw [List.pairwise_map] at this
    exact this
  obtain ⟨v1, v2⟩ := valid_len τ e2
  have hgetF : ∀ k : Nat, k < ops.size → (Array.replicate ops.size false).getD k true = false := by
    intro k hk
    rw [Array.getD_eq_getD_getElem?, Array.getElem?_replicate, if_pos hk]
    rfl
  have hgetF' : ∀ k : Nat, (Array.replicate ops.size false).getD k false = false := by
    intro k
    rw [Array.getD_eq_getD_getElem?, Array.getElem?_replicate]
    split <;> rfl
  refine wpIn_region_any hm (draws_any (ρ0 := ρ) (h0 := h) rfl e3 hao ops.size τ _ a w.drew t h ρ (by have := congrArg List.length hidx; simpa using this) ?_)
  refine ⟨⟨h', e2, fun _ => rfl⟩, ht, hs.drew, hd, by simp, ?_, hsorted, hcomp, e4, e6, ?_, ?_, Ext.refl ρ, fun _ _ => rfl, hf, fun i hi => hf i (Nat.le_trans v1 hi), v2, v1, Nat.le_refl _⟩
  · intro k hk
    refine ⟨fun _ => ?_, fun _ => hgetF k hk⟩
    have : k ∈ τ.map (·.i) := by rw [hidx]; exact List.mem_range.2 hk
    obtain ⟨r, hr, e⟩ := List.mem_map.1 this
    exact ⟨r, hr, e⟩
  · intro r hr
    exact ⟨hf _ (by omega), hget_out _ _ (by omega)⟩
  · intro k o ho hk
    rw [hgetF' k] at hk
    cases hk
end
end Go.Proofs.Ytilmfhpoiejmfaa.Lh

/- A region that draws its order and does nothing but read: the text's order stands for all, by its text alone. Over any program. -/
namespace Go.Proofs.Ytilmfhpoiejmfaa.Lh
set_option linter.unusedSimpArgs false
set_option linter.unusedVariables false
set_option linter.unusedSectionVars false
open Go.RowKit
variable [Fz]
/-- A reader that turns nothing and reads of the given temporaries alone. -/
def Rd.quiet (S : List Nat) : Rd → Prop
  | .ret _ u nw => u = [] ∧ nw = none
  | .tmp i k => i ∈ S ∧ ∀ v, (k v).quiet S
  | .obj _ k => ∀ o, (k o).quiet S
  | .need _ k => k.quiet S
  | .ite _ x y => x.quiet S ∧ y.quiet S
  | .allB _ _ => False
  | .fail => True
theorem quiet_wpL {S : List Nat} : ∀ (r : Rd) {t : List LVal} {h : LHeap} {Φ : LVal → List (Nat × Option LObj) → Option LObj → Prop} {K : LK}, r.quiet S → r.wp t h Φ → (∀ v rt rh, Φ v [] none → (∀ x ∈ rt, x ∈ S) → K v [] none rt rh) → r.wpL t h K
  | .ret v u nw, t, h, Φ, K, hq, hw, hk => by
    obtain ⟨rfl, rfl⟩ := hq
    exact hk v [] [] hw (fun x hx => by cases hx)
  | .tmp i k, t, h, Φ, K, hq, hw, hk => by
    simp only [Rd.wp, Rd.wpL, getK_eq] at hw ⊢
    refine quiet_wpL _ (hq.2 _) hw (fun v rt rh h1 h2 => hk v _ _ h1 (fun x hx => ?_))
    rcases List.mem_cons.1 hx with rfl | hx
    · exact hq.1
    · exact h2 x hx
  | .obj b k, t, h, Φ, K, hq, hw, hk => by
    simp only [Rd.wp, Rd.wpL, hgetK_eq] at hw ⊢
    cases hg : hget h b with
    | none => rw [hg] at hw; exact hw.elim
    | some o =>
      rw [hg] at hw
      exact quiet_wpL _ (hq o) hw (fun v rt rh h1 h2 => hk v _ _ h1 h2)
  | .need p k, t, h, Φ, K, hq, hw, hk => ⟨hw.1, quiet_wpL k hq hw.2 hk⟩
  | .ite b x y, t, h, Φ, K, hq, hw, hk => by
    cases b
    · exact quiet_wpL y hq.2 hw hk
    · exact quiet_wpL x hq.1 hw hk
  | .allB _ _, _, _, _, _, hq, _, _ => hq.elim
  | .fail, _, _, _, _, _, hw, _ => hw.elim
def opdT : LOpd → List Nat
  | .tmp i => [i]
  | .const _ => []
/-- Operations that turn nothing: what they read of the temporaries. -/
def quietOp : LOp → Option (List Nat)
  | .move x => some (opdT x)
  | .nilc x => some (opdT x)
  | .field _ x => some (opdT x)
  | .load _ x => some (opdT x)
  | .un _ x => some (opdT x)
  | .toInt _ x => some (opdT x)
  | .lenSl x => some (opdT x)
  | .lenStr x => some (opdT x)
  | .ext _ x => some (opdT x)
  | .bin _ x y => some (opdT x ++ opdT y)
  | .beq _ x y => some (opdT x ++ opdT y)
  | .pick c x y => some (opdT c ++ (opdT x ++ opdT y))
  | _ => none
theorem rd_quiet {S : List Nat} {x : LOpd} {K : LVal → Rd} (hx : ∀ i ∈ opdT x, i ∈ S) (hk : ∀ v, (K v).quiet S) : (x.rd K).quiet S := by
  cases x with
  | tmp i => exact ⟨hx i (by simp [opdT]), hk⟩
  | const v => exact hk v
theorem one_quiet {S : List Nat} (v : LVal) : (one v).quiet S := ⟨rfl, rfl⟩
theorem skip_quiet {S : List Nat} {K : Segs → Rd} (hk : ∀ s, (K s).quiet S) : ∀ (s : Segs) (o : Nat), (skipK s o K Rd.fail).quiet S
  | .nil, 0 => hk _
  | .one _ _, 0 => hk _
  | .rows _ _ _ _, 0 => hk _
  | .res _, 0 => hk _
  | .nil, o + 1 => trivial
  | .res _, o + 1 => trivial
  | .one v r, o + 1 => skip_quiet hk r o
  | .rows n w f r, o + 1 => by
    unfold skipK
    split
    · exact skip_quiet hk r _
    · trivial
theorem take_quiet {S : List Nat} : ∀ (s : Segs) (m : Nat) {K : Segs → Rd} (hk : ∀ s, (K s).quiet S), (takeK s m K Rd.fail).quiet S
  | .nil, 0, K, hk => hk _
  | .one _ _, 0, K, hk => hk _
  | .rows _ _ _ _, 0, K, hk => hk _
  | .res _, 0, K, hk => hk _
  | .nil, o + 1, K, hk => trivial
  | .res _, o + 1, K, hk => trivial
  | .one v r, o + 1, K, hk => take_quiet r o (fun s => hk _)
  | .rows n w f r, o + 1, K, hk => by
    unfold takeK
    split
    · exact take_quiet r _ (fun s => hk _)
    · trivial
theorem path_quiet {S : List Nat} {K : Segs → Rd} (hk : ∀ s, (K s).quiet S) : ∀ (p : List (Nat × Nat × Nat)) (s : Segs), (pathK p s K).quiet S
  | [], s => hk s
  | (o, i, w) :: r, s => by
    unfold pathK
    refine skip_quiet (fun s1 => ?_) s o
    split
    · split
      · exact path_quiet hk r _
      · trivial
    · trivial
theorem lvs_quiet {S : List Nat} : ∀ (vs : LVals) (i : Nat), (lvs vs i one).quiet S
  | .nil, i => by cases i <;> trivial
  | .cons v r, 0 => one_quiet v
  | .cons v r, i + 1 => lvs_quiet r i
theorem loadS_quiet {S : List Nat} (m : Option Nat) (s : Segs) : (loadS m s).quiet S := by
  unfold loadS
  split
  · split
    · exact ⟨rfl, rfl⟩
    · trivial
  · exact take_quiet s _ (fun x => ⟨rfl, rfl⟩)
theorem load_quiet {S : List Nat} (m : Option Nat) (v : LVal) : (loadRd m v).quiet S := by
  unfold loadRd
  split
  · exact fun o => path_quiet (fun s => skip_quiet (fun s => loadS_quiet m s) _ _) _ _
  · exact loadS_quiet m _
  · trivial
theorem bin_quiet {S : List Nat} (op : BinOp) (v u : LVal) : (binRd op v u).quiet S := by
  unfold binRd
  repeat' first | exact trivial | exact ⟨rfl, rfl⟩ | split
theorem op_quiet {n : Nat} {o : LOp} {S : List Nat} (hq : quietOp o = some S) : (opRd n o).quiet S := by
  cases o <;> simp only [quietOp, Option.some.injEq, reduceCtorEq] at hq <;> subst hq
  all_goals unfold opRd
  case move x => exact rd_quiet (fun i h => h) one_quiet
  case nilc x => exact rd_quiet (fun i h => h) (fun v => by cases v <;> first | exact trivial | exact ⟨rfl, rfl⟩)
  case field off x =>
    refine rd_quiet (fun i h => h) (fun v => ?_)
    unfold fieldRd
    split
    · exact ⟨rfl, rfl⟩
    · exact skip_quiet (K := fun s' => one (.rptr s')) (fun s => ⟨rfl, rfl⟩) _ _
    · trivial
  case load m x => exact rd_quiet (fun i h => h) (fun v => load_quiet m _)
  case un op x => exact rd_quiet (fun i h => h) (fun v => by unfold unRd; repeat' first | exact trivial | exact ⟨rfl, rfl⟩ | split)
  case toInt k x => exact rd_quiet (fun i h => h) (fun v => by cases v <;> first | exact trivial | exact ⟨rfl, rfl⟩)
  case lenSl x => exact rd_quiet (fun i h => h) (fun v => by cases v <;> first | exact trivial | exact ⟨rfl, rfl⟩)
  case lenStr x => exact rd_quiet (fun i h => h) (fun v => by cases v <;> first | exact trivial | exact ⟨rfl, rfl⟩)
  case ext i x => exact rd_quiet (fun i h => h) (fun v => by cases v <;> first | exact trivial | exact lvs_quiet _ _)
  case bin op x y => exact rd_quiet (fun i h => by simp [h]) (fun v => rd_quiet (fun i h => by simp [h]) (fun u => bin_quiet op v u))
  case beq neg x y => exact rd_quiet (fun i h => by simp [h]) (fun v => rd_quiet (fun i h => by simp [h]) (fun u => by cases v <;> cases u <;> cases neg <;> first | exact trivial | exact ⟨rfl, rfl⟩))
  case pick c x y => exact rd_quiet (fun i h => by simp [h]) (fun v => by cases v <;> first | exact trivial | exact ⟨rd_quiet (fun i h => by simp [h]) one_quiet, rd_quiet (fun i h => by simp [h]) one_quiet⟩)
theorem op_same {n m : Nat} {o : LOp} {S : List Nat} (hq : quietOp o = some S) : opRd n o = opRd m o := by
  cases o <;> first | rfl | (exact absurd hq (by simp [quietOp]))
def gT : Option (Nat × Bool) → List Nat
  | none => []
  | some (d, _) => [d]
/-- A region's operations turn nothing but their temporaries, and those that are not ordered are apart. -/
def quietL : List (Nat × List Nat × LOper) → List DLog → Bool
  | [], _ => true
  | (i, un, o) :: r, logs => match o.act with
    | .op x => match quietOp x with
      | some S => chkLogs un ⟨i, o.dst, gT o.guard ++ S, [], []⟩ logs && quietL r (⟨i, o.dst, gT o.guard ++ S, [], []⟩ :: logs)
      | none => false
    | _ => false
structure Cov1 (s l : DLog) : Prop where
  i : s.i = l.i
  dst : s.dst = l.dst
  rt : ∀ x ∈ l.rt, x ∈ s.rt
  wh : l.wh = []
inductive Cov : List DLog → List DLog → Prop where
  | nil : Cov [] []
  | cons {s l : DLog} {sl ll : List DLog} (h : Cov1 s l) (t : Cov sl ll) : Cov (s :: sl) (l :: ll)
theorem disj_less {a b c : List Nat} (h : disj a b = true) (hs : ∀ x ∈ c, x ∈ b) : disj a c = true := by
  rw [disj_iff] at h ⊢
  exact fun x hx hc => h x hx (hs x hc)
theorem okPair_less {a b a' b' : DLog} (h : okPair a b = true) (ha : Cov1 a a') (hb : Cov1 b b') : okPair a' b' = true := by
  simp only [okPair, Bool.and_eq_true] at h ⊢
  rw [ha.wh, hb.wh, ← ha.dst, ← hb.dst]
  exact ⟨⟨⟨⟨⟨disj_less h.1.1.1.1.1 hb.rt, disj_less h.1.1.1.1.2 ha.rt⟩, h.1.1.1.2⟩, rfl⟩, rfl⟩, rfl⟩
theorem chk_less {un : List Nat} {s l : DLog} (hl : Cov1 s l) : ∀ {sl ll : List DLog}, Cov sl ll → chkLogs un s sl = true → chkLogs un l ll = true
  | [], [], .nil, _ => rfl
  | a :: sl, b :: ll, .cons h t, hc => by
    simp only [chkLogs, Bool.and_eq_true, Bool.or_eq_true] at hc ⊢
    refine ⟨hc.1.imp (fun c => by rw [← h.i]; exact c) (fun c => okPair_less c h hl), chk_less hl t hc.2⟩
section
variable {P : Program}
theorem quiet_drops {base : Nat} {Q : LExit → List LVal → LHeap → Prop} : ∀ (ops : List (Nat × List Nat × LOper)) {sl logs : List DLog} {t : List LVal} {h : LHeap}, quietL ops sl = true → Cov sl logs → ropsK P Q (ops.map (·.2.2)) t h → dropsK P base ops t h logs (fun t h => Q .normal t h)
  | [], sl, logs, t, h, _, _, hw => hw
  | (i, un, o) :: r, sl, logs, t, h, hq, hc, hw => by
    unfold quietL at hq
    split at hq
    · rename_i x hx
      split at hq
      · rename_i S hS
        rw [Bool.and_eq_true] at hq
        simp only [dropsK_cons, natK_eq]
        simp only [List.map_cons, ropsK_cons] at hw
        have fin : ∀ (v : LVal) (rt rh : List Nat), (∀ y ∈ rt, y ∈ gT o.guard ++ S) → ropsK P Q (r.map (·.2.2)) (tset t o.dst v) h → (match chkLogs un ⟨i, o.dst, rt, rh, whOf [] none (base + i)⟩ logs && subB (fsts ([] : List (Nat × Option LObj))) rh with
            | true => applyK h [] (base + i) none fun h' => setDst t o.dst v fun t' => dropsK P base r t' h' (⟨i, o.dst, rt, rh, whOf [] none (base + i)⟩ :: logs) (fun t h => Q .normal t h)
            | false => False) := by
          intro v rt rh hrt hrest
          have hcov : Cov1 ⟨i, o.dst, gT o.guard ++ S, [], []⟩ ⟨i, o.dst, rt, rh, whOf [] none (base + i)⟩ := ⟨rfl, rfl, hrt, rfl⟩
          rw [chk_less hcov hc hq.1]
          show setDst t o.dst v fun t' => dropsK P base r t' h _ _
          rw [setDst_eq]
          exact quiet_drops r hq.2 (.cons hcov hc) hrest
        have act : ∀ {K : LK}, (o.act.wp P t h (fun v h' => setDst t o.dst v fun t' => ropsK P Q (r.map (·.2.2)) t' h') (fun v h' => Q (.panic v) t h')) → (∀ v rt rh, (∀ y ∈ rt, y ∈ S) → ropsK P Q (r.map (·.2.2)) (tset t o.dst v) h → K v [] none rt rh) → o.act.wpL P (base + i) t h K := by
          intro K ha hk
          rw [hx] at ha ⊢
          simp only [LAct.wp, lenK_eq] at ha
          show (opRd (base + i) x).wpL t h K
          rw [op_same (n := base + i) (m := 0 + h.length) hS]
          refine quiet_wpL _ (op_quiet hS) ha (fun v rt rh h1 h2 => hk v rt rh h2 ?_)
          have h1 : setDst t o.dst v fun t' => ropsK P Q (r.map (·.2.2)) t' h := h1
          rw [setDst_eq] at h1
          exact h1
        unfold LOper.wp guardK at hw
        unfold LOper.wpL
        cases hg : o.guard with
        | none =>
          simp only [hg] at hw fin ⊢
          exact act hw (fun v rt rh h1 h2 => fin v rt rh (fun y hy => by simp [gT, h1 y hy]) h2)
        | some dw =>
          obtain ⟨d, want⟩ := dw
          simp only [hg, getK_eq] at hw fin ⊢
          have pick : ∀ {rt : List Nat}, (∀ y ∈ rt, y ∈ S) → ∀ y ∈ d :: rt, y ∈ gT (some (d, want)) ++ S := fun h1 y hy => by
            rcases List.mem_cons.1 hy with rfl | hy
            · simp [gT]
            · simp [gT, h1 y hy]
          have sk : (setDst t o.dst .undef fun t' => ropsK P Q (r.map (·.2.2)) t' h) → _ := fun hh => by
            rw [setDst_eq] at hh
            exact fin .undef [d] [] (fun y hy => by simp at hy; simp [gT, hy]) hh
          cases hl : lget t d <;> rw [hl] at hw <;> try exact hw.elim
          · exact sk hw
          · rename_i b
            cases want <;> cases b
            · exact act hw (fun v rt rh h1 h2 => fin v (d :: rt) rh (pick h1) h2)
            · exact sk hw
            · exact sk hw
            · exact act hw (fun v rt rh h1 h2 => fin v (d :: rt) rh (pick h1) h2)
      · cases hq
    · cases hq
theorem quiet_lwp {L : Nat} {Q : LExit → List LVal → LHeap → Prop} {ops : List (Nat × List Nat × LOper)} {t : List LVal} {h : LHeap} (hq : quietL ops [] = true) (hw : lwp P L (.region (ops.map (·.2.2))) Q t h) : lwp P L (.draws ops) Q t h := by
  simp only [lwp_draws, lwp_region, lenK_eq] at hw ⊢
  exact quiet_drops ops hq .nil hw
/-- A region that draws its order, as code. -/
def drawC (x : List (Nat × List Nat × LOper)) : LCode :=
  match quietL x [] with
  | true => .region (x.map (·.2.2))
  | false => .draws x
theorem drawC_wp {L : Nat} {Q : LExit → List LVal → LHeap → Prop} {x : List (Nat × List Nat × LOper)} {t : List LVal} {h : LHeap} (hw : lwp P L (drawC x) Q t h) : lwp P L (.draws x) Q t h := by
  unfold drawC at hw
  split at hw
  · rename_i hq; exact quiet_lwp hq hw
  · exact hw
end
end Go.Proofs.Ytilmfhpoiejmfaa.Lh

/- The world's code does what the code on the heap of the mind does. Over any program. -/
namespace Go.Proofs.Ytilmfhpoiejmfaa.Lh
set_option linter.unusedSimpArgs false
set_option linter.unusedVariables false
set_option linter.unusedSectionVars false
open Go.RowKit
variable [Fz]
def compileC (P : Program) : Code → Option LCode
  | .skip => some .skip
  | .region _ ops draw => match draw with
    | true => when_ (P.follows .mixedOrders && afterOk ops) (withO (compileD P ops (List.range ops.size)) fun x => some (drawC x))
    | false => withO (compileR P ops (List.range ops.size)) fun x => some (.region x)
  | .seq a b => withO (compileC P a) fun x => withO (compileC P b) fun y => some (.seq x y)
  | .cond c a b => withO (compileOpd c) fun z => withO (compileC P a) fun x => withO (compileC P b) fun y => some (.cond z x y)
  | .block id b => withO (compileC P b) fun x => some (.block id x)
  | .loop b => withO (compileC P b) fun x => some (.loop x)
  | .exit id => some (.exit id)
  | .ret => some .ret
  | .scope b => compileC P b
  | .label _ => some .skip
  | _ => none
section
variable {T : Nat → Nat → Prop} {w0 : World} {P : Program} {κ : Option Nat} {D : List Deferred}
theorem stepR_scope {b : Frame} {a : Act} {k : List Item} {cs : List Frame} {w : World} {c : Code} : step P (lone (b.atR a (.code (.scope c) :: k)) cs w) = .next (lone (b.atR a (.code c :: .inScope c :: k)) cs w) :=
  step_lone_go (by simp [stepG, stepG.exec, Frame.atR])
theorem stepR_inScope {b : Frame} {a : Act} {k : List Item} {cs : List Frame} {w : World} {c : Code} : step P (lone (b.atR a (.inScope c :: k)) cs w) = .next (lone (b.atR a k) cs w) :=
  step_lone_go (by simp [stepG, stepG.exec, Frame.atR])
def noGoto (Q : Exit → Act → World → Prop) : Exit → Act → World → Prop
  | .goto _, _, _ => False
  | e, a, w => Q e a w
theorem wpIn_scope {F : Fence} {n : Nat} {Q : Exit → Act → World → Prop} {a : Act} {w : World} {c : Code} (h : c.wpIn F n P (noGoto Q) a w) : (Code.scope c).wpIn F n P Q a w := by
  intro b k cs hro hb hr
  have h0 : (lone (b.atR a (.code (.scope c) :: k)) cs w).fenced P F := fenced_calm hb hr rfl
  obtain ⟨e, a₁, w₁, hq, harr⟩ := h b (.inScope c :: k) cs hro hb hr
  cases e with
  | normal => exact ⟨.normal, a₁, w₁, hq, .head h0 stepR_scope (StepsIn.trans harr (.one (fenced_calm hb hr rfl) stepR_inScope))⟩
  | exit id' =>
    have hx : exitTo id' (.inScope c :: k) = exitTo id' k := by simp [exitTo]
    exact ⟨.exit id', a₁, w₁, hq, fun k' hk => .head h0 stepR_scope (harr.1 k' (by rw [hx]; exact hk)),
      fun hr' hk => let ⟨k₁, h1, h2⟩ := harr.2 hr' (by rw [hx]; exact hk); ⟨k₁, h1, .head h0 stepR_scope h2⟩⟩
  | goto l => exact hq.elim
  | ret => exact ⟨_, a₁, w₁, hq, .of_steps (.one h0 stepR_scope) harr⟩
  | panic ch => exact ⟨_, a₁, w₁, hq, .of_steps (.one h0 stepR_scope) harr⟩
  | outgrown => exact ⟨_, a₁, w₁, hq, .of_steps (.one h0 stepR_scope) harr⟩
/-- The world's post of a code: the first L blocks stand where they stood. -/
structure StpL (T : Nat → Nat → Prop) (w0 : World) (ρ : Pl) (L : Nat) (ρ' : Pl) (h' : LHeap) (w' : World) : Prop where
  keep : ∀ i, i < L → ρ' i = ρ i
  sim : Sim T w0 ρ' h' w'
  fresh : ∀ i, h'.length ≤ i → ρ' i = none
  len : L ≤ h'.length
  r : ExtR ρ ρ'
def PQL (T : Nat → Nat → Prop) (w0 : World) (D : List Deferred) (ρ : Pl) (L : Nat) (Q : LExit → List LVal → LHeap → Prop) (e : Exit) (a : Act) (w : World) : Prop :=
  ∃ le t' h' ρ', Q le t' h' ∧ ExitPV ρ' le e ∧ TSim ρ' t' a ∧ StpL T w0 ρ L ρ' h' w ∧ a.defers = D
theorem PQ.low {ρ : Pl} {h : LHeap} {L : Nat} (hL : L ≤ h.length) {Q : LExit → List LVal → LHeap → Prop} {e : Exit} {a : Act} {w : World} (q : PQ T w0 D ρ h Q e a w) : PQL T w0 D ρ L Q e a w :=
  let ⟨le, t', h', ρ', q1, q2, q3, q4, q5⟩ := q
  ⟨le, t', h', ρ', q1, q2, q3, ⟨fun i hi => q4.keep i (by omega), q4.sim, q4.fresh, Nat.le_trans hL q4.len, q4.ext.r⟩, q5⟩
theorem StpL.refl {ρ : Pl} {h : LHeap} {w : World} {L : Nat} (hL : L ≤ h.length) (hs : Sim T w0 ρ h w) (hf : ∀ i, h.length ≤ i → ρ i = none) : StpL T w0 ρ L ρ h w := ⟨fun _ _ => rfl, hs, hf, hL, .refl _⟩
theorem StpL.trans {ρ ρ1 ρ2 : Pl} {h1 h2 : LHeap} {w1 w2 : World} {L : Nat} (a : StpL T w0 ρ L ρ1 h1 w1) (b : StpL T w0 ρ1 L ρ2 h2 w2) : StpL T w0 ρ L ρ2 h2 w2 :=
  ⟨fun i hi => (b.keep i hi).trans (a.keep i hi), b.sim, b.fresh, b.len, a.r.trans b.r⟩
theorem PQL.step {ρ ρ1 : Pl} {h1 : LHeap} {w1 : World} {L : Nat} {Q : LExit → List LVal → LHeap → Prop} (s : StpL T w0 ρ L ρ1 h1 w1) {e : Exit} {a : Act} {w : World} (q : PQL T w0 D ρ1 L Q e a w) : PQL T w0 D ρ L Q e a w :=
  let ⟨le, t', h', ρ', q1, q2, q3, q4, q5⟩ := q
  ⟨le, t', h', ρ', q1, q2, q3, s.trans q4, q5⟩
theorem code_wp : ∀ (c : Code) (lc : LCode), compileC P c = some lc → ∀ {L : Nat} {Q : LExit → List LVal → LHeap → Prop} {ρ : Pl} {t : List LVal} {h : LHeap} {a : Act} {w : World}, L ≤ h.length → Sim T w0 ρ h w → (∀ i, h.length ≤ i → ρ i = none) → TSim ρ t a → a.defers = D → lwp P L lc Q t h → c.wpIn (FW κ) 0 P (PQL T w0 D ρ L Q) a w
  | .skip, lc, hc, L, Q, ρ, t, h, a, w, hL, hs, hf, ht, hd, hw => by
    cases hc
    exact wpIn_skip ⟨.normal, t, h, ρ, hw, trivial, ht, StpL.refl hL hs hf, hd⟩
  | .exit id, lc, hc, L, Q, ρ, t, h, a, w, hL, hs, hf, ht, hd, hw => by
    cases hc
    exact wpIn_exit ⟨.exit id, t, h, ρ, hw, rfl, ht, StpL.refl hL hs hf, hd⟩
  | .ret, lc, hc, L, Q, ρ, t, h, a, w, hL, hs, hf, ht, hd, hw => by
    cases hc
    exact wpIn_ret ⟨.ret, t, h, ρ, hw, trivial, ht, StpL.refl hL hs hf, hd⟩
  | .region id ops draw, lc, hc, L, Q, ρ, t, h, a, w, hL, hs, hf, ht, hd, hw => by
    cases draw with
    | true =>
      obtain ⟨h1, hc⟩ := when_some hc
      obtain ⟨x, hx, hc⟩ := withO_some hc
      cases hc
      simp only [Bool.and_eq_true] at h1
      exact wpIn_mono (draws_wp h1.1 h1.2 hx hs hf ht hd (drawC_wp hw)) (fun e a w q => q.low hL)
    | false =>
      obtain ⟨x, hx, hc⟩ := withO_some hc
      cases hc
      exact wpIn_mono (wpIn_region (ops_wp _ _ hx hs hf ht hd hw)) (fun e a w q => q.low hL)
  | .seq x y, lc, hc, L, Q, ρ, t, h, a, w, hL, hs, hf, ht, hd, hw => by
    obtain ⟨x', hx, hc⟩ := withO_some hc
    obtain ⟨y', hy, hc⟩ := withO_some hc
    cases hc
    refine wpIn_seq (wpIn_mono (code_wp x x' hx hL hs hf ht hd hw) ?_)
    rintro e a' w' ⟨le, t', h', ρ', q1, q2, q3, q4, q5⟩
    cases le <;> cases e <;> try exact q2.elim
    · exact wpIn_mono (code_wp y y' hy q4.len q4.sim q4.fresh q3 q5 q1) (fun e a w q => PQL.step q4 q)
    · exact ⟨_, t', h', ρ', q1, q2, q3, q4, q5⟩
    · exact ⟨_, t', h', ρ', q1, q2, q3, q4, q5⟩
    · exact ⟨_, t', h', ρ', q1, q2, q3, q4, q5⟩
  | .cond c x y, lc, hc, L, Q, ρ, t, h, a, w, hL, hs, hf, ht, hd, hw => by
    obtain ⟨c', h1, hc⟩ := withO_some hc
    obtain ⟨x', hx, hc⟩ := withO_some hc
    obtain ⟨y', hy, hc⟩ := withO_some hc
    cases hc
    obtain ⟨v, hv, hw⟩ := opdK_wp ht h1 hw
    cases v <;> try exact hw.elim
    rename_i b
    rcases iteP_elim hw with ⟨hb, h1⟩ | ⟨hb, h1⟩
    · subst hb
      exact wpIn_cond_true hv (code_wp x x' hx hL hs hf ht hd h1)
    · subst hb
      exact wpIn_cond_false hv (code_wp y y' hy hL hs hf ht hd h1)
  | .block id b, lc, hc, L, Q, ρ, t, h, a, w, hL, hs, hf, ht, hd, hw => by
    obtain ⟨b', hb, hc⟩ := withO_some hc
    cases hc
    refine wpIn_block (wpIn_mono (code_wp b b' hb hL hs hf ht hd hw) ?_)
    rintro e a' w' ⟨le, t', h', ρ', q1, q2, q3, q4, q5⟩
    cases le <;> cases e <;> try exact q2.elim
    · exact ⟨_, t', h', ρ', q1, q2, q3, q4, q5⟩
    · rename_i i j
      have q2 : i = j := q2
      subst q2
      simp only [Exit.inBlock]
      simp only at q1
      split at q1
      · rename_i hb
        have := Nat.eq_of_beq_eq_true hb
        rw [if_pos this]
        exact ⟨.normal, t', h', ρ', q1, trivial, q3, q4, q5⟩
      · rename_i hb
        rw [if_neg (by intro e; subst e; simp at hb)]
        exact ⟨.exit i, t', h', ρ', q1, rfl, q3, q4, q5⟩
    · exact ⟨_, t', h', ρ', q1, q2, q3, q4, q5⟩
    · exact ⟨_, t', h', ρ', q1, q2, q3, q4, q5⟩
  | .loop b, lc, hc, L, Q, ρ, t, h, a, w, hL, hs, hf, ht, hd, hw => by
    obtain ⟨b', hb, hc⟩ := withO_some hc
    cases hc
    obtain ⟨⟨⟨k, hk⟩⟩⟩ := hw
    -- a round's state: how many rounds are left
    refine wpIn_loop (fun a' w' => ∃ j t' h' ρ', iter (fun Q => lwp P L b' Q) Q L j t' h' ∧ TSim ρ' t' a' ∧ StpL T w0 ρ L ρ' h' w' ∧ a'.defers = D) (fun a' w' => sInf' fun j => ∃ t' h' ρ', iter (fun Q => lwp P L b' Q) Q L j t' h' ∧ TSim ρ' t' a' ∧ StpL T w0 ρ L ρ' h' w' ∧ a'.defers = D) ⟨k, t, h, ρ, hk, ht, StpL.refl hL hs hf, hd⟩ ?_
    intro a1 w1 hI
    have hmin := sInf'_spec hI
    generalize hj : sInf' (fun j => ∃ t' h' ρ', iter (fun Q => lwp P L b' Q) Q L j t' h' ∧ TSim ρ' t' a1 ∧ StpL T w0 ρ L ρ' h' w1 ∧ a1.defers = D) = j at hmin
    obtain ⟨t1, h1, ρ1, r1, r2, r3, r4⟩ := hmin
    cases j with
    | zero => exact r1.elim
    | succ j =>
      obtain ⟨t2, h2, hsh, r1⟩ := r1
      obtain ⟨ρ2, s1, s2, s3, r3'⟩ : ∃ ρ2, Sim T w0 ρ2 h2 w1 ∧ (∀ i, h2.length ≤ i → ρ2 i = none) ∧ TSim ρ2 t2 a1 ∧ StpL T w0 ρ L ρ2 h2 w1 := by
        rcases hsh with ⟨rfl, rfl⟩ | ⟨F, qF, gl, q0, q3, q1, q2⟩
        · exact ⟨ρ1, r3.sim, r3.fresh, r2, r3⟩
        · obtain ⟨ρ3, g1, g5, g6, g7⟩ := r3.sim.tell r3.fresh qF q0 q2
          have hgl := (shH_spec _ _ q2).1
          have g2 : ∀ i, h2.length ≤ i → newP ρ3 gl i = none := fun i hi => by rw [newP_at, if_neg (by omega)]
          obtain ⟨g3, g4⟩ := shT_spec (ρ := ρ3) (ρ' := newP ρ3 gl) g7 newP_cut _ _ q1
          exact ⟨_, g1, g2, ⟨by rw [← g3]; exact r2.1, fun i => g4 i _ (PV.ext g5 _ _ (r2.2 i))⟩, ⟨fun i hi => (newP_id q3 i hi).trans ((congrFun g6 i).trans (r3.keep i hi)), g1, g2, by rw [← hgl]; exact idl_len q3, r3.r.trans g5.r⟩⟩
      refine wpIn_mono (code_wp b b' hb r3'.len s1 s2 s3 r4 r1) ?_
      rintro e a' w' ⟨le, t', h', ρ', q1, q2, q3, q4, q5⟩
      cases le <;> cases e <;> try exact q2.elim
      · refine ⟨⟨j, t', h', ρ', q1, q3, r3'.trans q4, q5⟩, ?_⟩
        have := sInf'_le (p := fun j => ∃ t'' h'' ρ'', iter (fun Q => lwp P L b' Q) Q L j t'' h'' ∧ TSim ρ'' t'' a' ∧ StpL T w0 ρ L ρ'' h'' w' ∧ a'.defers = D) ⟨t', h', ρ', q1, q3, r3'.trans q4, q5⟩
        omega
      · exact ⟨_, t', h', ρ', q1, q2, q3, r3'.trans q4, q5⟩
      · exact ⟨_, t', h', ρ', q1, q2, q3, r3'.trans q4, q5⟩
      · exact ⟨_, t', h', ρ', q1, q2, q3, r3'.trans q4, q5⟩
  | .rangeFunc .., lc, hc, L, Q, ρ, t, h, a, w, hL, hs, hf, ht, hd, hw => by cases hc
  | .scope b, lc, hc, L, Q, ρ, t, h, a, w, hL, hs, hf, ht, hd, hw => by
    refine wpIn_scope (wpIn_mono (code_wp b lc hc hL hs hf ht hd hw) ?_)
    rintro e a' w' ⟨le, t', h', ρ', q1, q2, q3, q4, q5⟩
    cases e <;> try exact ⟨le, t', h', ρ', q1, q2, q3, q4, q5⟩
    cases le <;> exact q2.elim
  | .label _, lc, hc, L, Q, ρ, t, h, a, w, hL, hs, hf, ht, hd, hw => by
    cases hc
    exact wpIn_label ⟨.normal, t, h, ρ, hw, trivial, ht, StpL.refl hL hs hf, hd⟩
  | .goto _, lc, hc, L, Q, ρ, t, h, a, w, hL, hs, hf, ht, hd, hw => by cases hc
  | .refuse _, lc, hc, L, Q, ρ, t, h, a, w, hL, hs, hf, ht, hd, hw => by cases hc
end
end Go.Proofs.Ytilmfhpoiejmfaa.Lh
