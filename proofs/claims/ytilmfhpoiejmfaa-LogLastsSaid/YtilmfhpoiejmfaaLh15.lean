/- Functions with deferred calls; deferred calls that recover. Over any program. -/
import Derived.Test.YtilmfhpoiejmfaaLh14
import Derived.Defers
import Derived.Recover
namespace Go.Proofs.Ytilmfhpoiejmfaa.Lh
set_option linter.unusedSimpArgs false
set_option linter.unusedVariables false
set_option linter.unusedSectionVars false
open Go.RowKit
variable [Fz]
inductive LMode where
  | returning
  | panicking (v : LVal)
def ModePV (ρ : Pl) : LMode → FrameMode → Prop
  | .returning, u => u = .returning
  | .panicking v, u => ∃ x, u = .panicking [{ v := x, recovered := false }] ∧ PV ρ v x
theorem ModePV.ext {ρ ρ' : Pl} (e : Ext ρ ρ') {m : LMode} {u : FrameMode} (h : ModePV ρ m u) : ModePV ρ' m u := by
  cases m with
  | returning => exact h
  | panicking v => obtain ⟨x, h1, h2⟩ := h; exact ⟨x, h1, PV.ext e _ _ h2⟩
theorem ModePV.ne {ρ : Pl} {m : LMode} {u : FrameMode} (h : ModePV ρ m u) : u ≠ .run := by
  cases m with
  | returning => rw [show u = .returning from h]; exact fun h => by cases h
  | panicking v => obtain ⟨x, rfl, _⟩ := h; exact fun h => by cases h
theorem ModePV.settle {ρ : Pl} {m : LMode} {u : FrameMode} (h : ModePV ρ m u) : Go.settle u = u := by
  cases m with
  | returning => rw [show u = .returning from h]; rfl
  | panicking v => obtain ⟨x, rfl, _⟩ := h; rfl
/-- A deferred call's contract, in a mode of its frame. -/
structure LCallsD (P : Program) (f : FuncId) (args : LVals) (u : LMode) (h : LHeap) (K : LMode → LHeap → Prop) : Prop where
  has : hasBody P f = true
  run : ∀ T w0 ρ w l um, Sim T w0 ρ h w → (∀ i, h.length ≤ i → ρ i = none) → PVs ρ args l → ModePV ρ u um →
    CallsD P f l.toArray um w fun e u' w' => (∃ v, e = .returned v) ∧ ∃ m h' ρ', K m h' ∧ ModePV ρ' m (Go.settle u') ∧ Ext ρ ρ' ∧ (∀ i, i < h.length → ρ' i = ρ i) ∧ Sim T w0 ρ' h' w' ∧ (∀ i, h'.length ≤ i → ρ' i = none) ∧ h.length ≤ h'.length
abbrev LDefs := List (FuncId × LVals)
/-- What a function leaves when its deferred calls have run. -/
def endD (P : Program) (lr : List LRes) : LDefs → LMode → List LVal → LHeap → (LEnd → LHeap → Prop) → Prop
  | [], .returning, t, h, R => resK t h lr fun vs => retK vs fun v => R (.ret v) h
  | [], .panicking v, _, h, R => R (.panic v) h
  | (f, vs) :: ds, u, t, h, R => LCallsD P f vs u h fun u' h' => endD P lr ds u' t h' R
def DefsPV (P : Program) (ρ : Pl) : LDefs → List Deferred → Prop
  | [], [] => True
  | (f, vs) :: r, d :: ds => (∃ l, PVs ρ vs l ∧ (∃ fv cap, d.target = .fn fv cap) ∧ (hasBody P f = true → ∀ w, (invoke d.target d.args).run P w = .ok (.enter f l.toArray) w)) ∧ DefsPV P ρ r ds
  | _, _ => False
theorem DefsPV.ext {P : Program} {ρ ρ' : Pl} (e : Ext ρ ρ') : ∀ {D : LDefs} {ds : List Deferred}, DefsPV P ρ D ds → DefsPV P ρ' D ds
  | [], [], _ => trivial
  | (f, vs) :: r, d :: ds, ⟨⟨l, h1, h2⟩, h3⟩ => ⟨⟨l, PVs.ext e _ _ h1, h2⟩, DefsPV.ext e h3⟩
section
variable {P : Program}
theorem Leaves_mono {fn : Func} {tmps : Array Value} {R R' : Ending → World → Prop} (hR : ∀ e w, R e w → R' e w) : ∀ (ds : List Deferred) (u : FrameMode) (w : World), Leaves P fn tmps R ds u w → Leaves P fn tmps R' ds u w
  | [], .returning, w, ⟨v, h1, h2⟩ => ⟨v, h1, hR _ _ h2⟩
  | [], .panicking chain, w, h => hR _ _ h
  | [], .run, _, h => h
  | d :: ds, u, w, ⟨h1, fv, cap, f, args, h2, h3, h4⟩ => ⟨h1, fv, cap, f, args, h2, h3, h4.mono fun e u' w' he => by
      cases e with
      | returned v => exact Leaves_mono hR ds _ _ he
      | panicked c => exact Leaves_mono hR ds _ _ he
      | outgrown => exact hR _ _ he⟩
theorem endD_leaves {fn : Func} {lr : List LRes} (hr : compileRes P fn.results.toList = some lr) : ∀ (D : LDefs) (ds : List Deferred) {T : Nat → Nat → Prop} {w0 : World} {ρ : Pl} {h : LHeap} {w : World} {u : LMode} {um : FrameMode} {t : List LVal} {a : Act} {R : LEnd → LHeap → Prop}, endD P lr D u t h R → DefsPV P ρ D ds → ModePV ρ u um → Sim T w0 ρ h w → (∀ i, h.length ≤ i → ρ i = none) → TSim ρ t a →
    Leaves P fn a.tmps (fun e w' => ∃ r h' ρ', R r h' ∧ EndPV ρ' r e ∧ Ext ρ ρ' ∧ (∀ i, i < h.length → ρ' i = ρ i) ∧ Sim T w0 ρ' h' w' ∧ (∀ i, h'.length ≤ i → ρ' i = none) ∧ h.length ≤ h'.length) ds um w
  | [], ds, T, w0, ρ, h, w, u, um, t, a, R, hE, hD, hm, hs, hf, ht => by
    cases ds with
    | cons d ds => exact hD.elim
    | nil =>
      cases u with
      | returning =>
        have : um = .returning := hm
        subst this
        obtain ⟨vs, l', r1, r2, r3⟩ := res_run hs ht _ _ hr hE
        obtain ⟨v, r4, r5⟩ := retK_spec r2 r1
        exact ⟨_, results_run r3, .ret v, h, ρ, r4, r5, Ext.refl ρ, fun _ _ => rfl, hs, hf, Nat.le_refl _⟩
      | panicking v =>
        obtain ⟨x, rfl, hx⟩ := hm
        exact ⟨.panic v, h, ρ, hE, ⟨x, rfl, hx⟩, Ext.refl ρ, fun _ _ => rfl, hs, hf, Nat.le_refl _⟩
  | (f, vs) :: D, ds, T, w0, ρ, h, w, u, um, t, a, R, hE, hD, hm, hs, hf, ht => by
    cases ds with
    | nil => exact hD.elim
    | cons d ds =>
      obtain ⟨⟨l, h1, ⟨fv, cap, h2⟩, h3⟩, h4⟩ := hD
      refine ⟨hm.ne, fv, cap, f, l.toArray, h2, h3 hE.has w, ?_⟩
      refine (LCallsD.run hE T w0 ρ w l um hs hf h1 hm).mono ?_
      rintro e u' w' ⟨⟨v, rfl⟩, m, h', ρ', q1, q2, q3, q4, q5, q6, q7⟩
      have := endD_leaves hr D ds q1 (h4.ext q3) q2 q5 q6 (ht.ext q3)
      refine Leaves_mono ?_ ds _ _ this
      rintro e w'' ⟨r, h'', ρ'', s1, s2, s3, s4, s5, s6, s7⟩
      exact ⟨r, h'', ρ'', s1, s2, q3.trans s3, fun i hi => (s4 i (by omega)).trans (q4 i hi), s5, s6, by omega⟩
/-- A deferred call's function and arguments. -/
inductive LDefC where
  | fn (g : FuncId) (xs : List LOpd)
  | val (x : LOpd) (xs : List LOpd)
inductive LBody where
  | code (c : LCode)
  | seq (c : LCode) (b : LBody)
  | defer (ops : List LOper) (c : LDefC) (b : LBody)
def defK (t : List LVal) : LDefC → (FuncId → LVals → Prop) → Prop
  | .fn g xs, K => argsK t xs fun vs => K g vs
  | .val x xs, K => opdK t x fun v => match v with
    | .func g cap => argsK t xs fun vs => appVsK vs cap fun us => K g us
    | _ => False
def bwp (P : Program) (L : Nat) (D : LDefs) : LBody → (LDefs → LExit → List LVal → LHeap → Prop) → List LVal → LHeap → Prop
  | .code c, Q, t, h => lwp P L c (Q D) t h
  | .seq c b, Q, t, h => lwp P L c (fun e t h => match e with
    | .normal => bwp P L D b Q t h
    | e => Q D e t h) t h
  | .defer ops c b, Q, t, h => ropsK P (fun e t h => match e with
    | .normal => defK t c fun f vs => lenK h 0 fun n => bwp P n ((f, vs) :: D) b Q t h
    | e => Q D e t h) ops t h
def compileDef (P : Program) (o : Oper) : Option LDefC :=
  match o.op with
  | .defer c => match o.guard, o.dst, c.callee with
    | none, none, .value (.func g) => withO (compileOpds c.args.toList) fun xs => some (.fn g xs)
    | none, none, .value (.tmp i) => withO (compileOpds c.args.toList) fun xs => some (.val (.tmp i) xs)
    | _, _, _ => none
  | _ => none
def compileBd (P : Program) : Code → Option LBody
  | .seq x y => match x with
    | .region id ops false => match ops[ops.size - 1]? with
      | some o => match compileDef P o with
        | some d => when_ (Nat.blt 0 ops.size) (withO (compileR P ops (List.range (ops.size - 1))) fun l => withO (compileBd P y) fun b => some (.defer l d b))
        | none => withO (compileC P (.region id ops false)) fun c => withO (compileBd P y) fun b => some (.seq c b)
      | none => withO (compileC P (.region id ops false)) fun c => withO (compileBd P y) fun b => some (.seq c b)
    | x => withO (compileC P x) fun c => withO (compileBd P y) fun b => some (.seq c b)
  | c => withO (compileC P c) fun c => some (.code c)
def Pl.low (ρ : Pl) (L : Nat) : Pl := ⟨fun i => if i < L then ρ i else none, ρ.fz, ρ.tk⟩
theorem low_at (ρ : Pl) (L i : Nat) : (ρ.low L) i = if i < L then ρ i else none := rfl
theorem StpL.low {T : Nat → Nat → Prop} {w0 : World} {ρ : Pl} {L : Nat} {ρ' : Pl} {h' : LHeap} {w' : World} (s : StpL T w0 ρ L ρ' h' w') : Ext (ρ.low L) ρ' := by
  refine ⟨fun b x hb => ?_, s.r⟩
  rw [low_at] at hb
  split at hb
  · rename_i c; rw [s.keep b c]; exact hb
  · cases hb
theorem low_mono {ρ : Pl} {L L' : Nat} (h : L ≤ L') : Ext (ρ.low L) (ρ.low L') := by
  refine ⟨fun b x hb => ?_, .refl _⟩
  rw [low_at] at hb ⊢
  split at hb
  · rw [if_pos (by omega)]; exact hb
  · cases hb
theorem ext_low {ρ : Pl} {L : Nat} (hf : ∀ i, L ≤ i → ρ i = none) : Ext ρ (ρ.low L) := by
  refine ⟨fun b x hb => ?_, .refl _⟩
  rw [low_at]
  rcases Nat.lt_or_ge b L with c | c
  · rw [if_pos c]; exact hb
  · rw [hf b c] at hb; cases hb
theorem low_ext {ρ ρ' : Pl} {L : Nat} (h : ∀ i, i < L → ρ' i = ρ i) (r : ExtR ρ ρ') : Ext (ρ.low L) (ρ'.low L) := by
  refine ⟨fun b x hb => ?_, r⟩
  rw [low_at] at hb ⊢
  split at hb
  · rename_i c; rw [if_pos c, h b c]; exact hb
  · cases hb
def PQB (P : Program) (T : Nat → Nat → Prop) (w0 : World) (ρ : Pl) (L : Nat) (Q : LDefs → LExit → List LVal → LHeap → Prop) (e : Exit) (a : Act) (w : World) : Prop :=
  ∃ D le t' h' ρ', Q D le t' h' ∧ ExitPV ρ' le e ∧ TSim ρ' t' a ∧ StpL T w0 ρ L ρ' h' w ∧ DefsPV P ρ' D a.defers
theorem PQB.step {T : Nat → Nat → Prop} {w0 : World} {ρ ρ1 : Pl} {h1 : LHeap} {w1 : World} {L L' : Nat} (hL : L ≤ L') {Q : LDefs → LExit → List LVal → LHeap → Prop} (s : StpL T w0 ρ L ρ1 h1 w1) {e : Exit} {a : Act} {w : World} (q : PQB P T w0 ρ1 L' Q e a w) : PQB P T w0 ρ L Q e a w :=
  let ⟨D, le, t', h', ρ', q1, q2, q3, q4, q5⟩ := q
  ⟨D, le, t', h', ρ', q1, q2, q3, s.trans ⟨fun i hi => q4.keep i (by omega), q4.sim, q4.fresh, Nat.le_trans hL q4.len, q4.r⟩, q5⟩
theorem wpOpsIn_append {F : Fence} {n : Nat} {ops : Array Oper} {Q : Exit → Act → World → Prop} (m : List Nat) : ∀ (l : List Nat) (a : Act) (w : World), wpOpsIn F n P ops (fun e a w => match e with
    | .normal => wpOpsIn F n P ops Q m a w
    | e => Q e a w) l a w → wpOpsIn F n P ops Q (l ++ m) a w
  | [], a, w, h => h
  | i :: r, a, w, h => by
    rw [List.cons_append, wpOpsIn_cons]
    rw [wpOpsIn_cons] at h
    unfold wpOpIn at h ⊢
    split
    · rename_i ho
      rw [ho] at h
      exact wpOpsIn_append m r a w h
    · rename_i o ho
      rw [ho] at h
      simp only at h
      split
      · rename_i hw
        rw [if_pos hw] at h
        refine ⟨h.1, ?_⟩
        have h2 := h.2
        have K1 : ∀ a w, wpOpsIn F n P ops (fun e a w => match e with
          | .normal => wpOpsIn F n P ops Q m a w
          | e => Q e a w) r a w → wpOpsIn F n P ops Q (r ++ m) a w := wpOpsIn_append m r
        generalize (o.semAt F.round a.eval).run P w = res at h2 ⊢
        have out : LetsOut (fun e a w => match e with
          | .normal => wpOpsIn F n P ops Q m a w
          | e => Q e a w) → LetsOut Q := fun ⟨a', w1, q⟩ => ⟨a', w1, q⟩
        cases res with
        | ok nx w' =>
          cases nx <;> simp only [Oper.uponIn] at h2 ⊢ <;>
            first
              | exact K1 _ _ h2
              | exact ⟨h2.1, CallsIn.mono h2.2 (fun e w'' he => by cases e <;> first | exact K1 _ _ he | exact out he | exact he)⟩
              | exact ⟨h2.1, RowsIn.mono h2.2 (fun _ _ he => K1 _ _ he)⟩
              | exact ⟨h2.1, RoundIn.mono h2.2 (fun e w'' he => by cases e <;> first | exact K1 _ _ he | exact out he | exact he)⟩
        | halt x w' => cases x <;> simp only [Oper.uponIn] at h2 ⊢ <;> exact h2
      · rename_i hw
        rw [if_neg hw] at h
        exact ⟨h.1, wpOpsIn_append m r _ w h.2⟩
theorem def_wp {o : Oper} {c : LDefC} (hc : compileDef P o = some c) {ρ : Pl} {t : List LVal} {a : Act} {w : World} (ht : TSim ρ t a) {K : FuncId → LVals → Prop} (hw : defK t c K) :
    o.guard = none ∧ o.dst = none ∧ ∃ f vs l d, K f vs ∧ PVs ρ vs l ∧ (execOp a.eval o).run P w = .ok (.defer d) w ∧ (∃ fv cap, d.target = .fn fv cap) ∧ (hasBody P f = true → ∀ w, (invoke d.target d.args).run P w = .ok (.enter f l.toArray) w) := by
  unfold compileDef at hc
  split at hc
  · rename_i c0 ho
    split at hc
    · rename_i g hg hd hcal
      obtain ⟨xs, h2, hc⟩ := withO_some hc
      cases hc
      obtain ⟨vs, hv, hw⟩ := argsK_wp ht h2 hw
      obtain ⟨callee, ⟨args⟩, ts⟩ := c0
      simp only at hcal
      subst hcal
      refine ⟨hg, hd, g, vs, args.map a.eval, ⟨.fn (.func g) #[], (args.map a.eval).toArray⟩, hw, hv, ?_, ⟨_, _, rfl⟩, fun h1 w => ?_⟩
      · unfold execOp
        simp [ho, resolve, Deferred.ofValue, Act.eval]
      · have := run_callFunc h1 (args.map a.eval).toArray w
        simpa [invoke] using this
    · rename_i i hg hd hcal
      obtain ⟨xs, h2, hc⟩ := withO_some hc
      cases hc
      obtain ⟨v, hv, hw⟩ := opdK_wp ht (X := .tmp i) rfl hw
      cases v <;> try exact hw.elim
      rename_i g cap
      obtain ⟨cl, hcl, hx⟩ := hv
      obtain ⟨vs, hvs, hw⟩ := argsK_wp ht h2 hw
      rw [appVsK_eq] at hw
      obtain ⟨callee, ⟨args⟩, ts⟩ := c0
      simp only at hcal
      subst hcal
      refine ⟨hg, hd, g, appVs vs cap, args.map a.eval ++ cl, ⟨.fn (.func g) cl.toArray, (args.map a.eval).toArray⟩, hw, appVs_PVs _ _ _ _ hvs hcl, ?_, ⟨_, _, rfl⟩, fun h1 w => ?_⟩
      · unfold execOp
        simp [ho, resolve, hx, Deferred.ofValue]
      · have := run_callFunc h1 (args.map a.eval ++ cl).toArray w
        simpa [invoke] using this
    · cases hc
  · cases hc
theorem plain_seq {T : Nat → Nat → Prop} {w0 : World} {x y : Code} {x' : LCode} {b : LBody} (hx : compileC P x = some x')
    (ih : ∀ {L : Nat} {D : LDefs} {Q : LDefs → LExit → List LVal → LHeap → Prop} {ρ : Pl} {t : List LVal} {h : LHeap} {a : Act} {w : World}, L ≤ h.length → Sim T w0 ρ h w → (∀ i, h.length ≤ i → ρ i = none) → TSim ρ t a → DefsPV P (ρ.low L) D a.defers → bwp P L D b Q t h → y.wpIn (FW none) 0 P (PQB P T w0 ρ L Q) a w)
    {L : Nat} {D : LDefs} {Q : LDefs → LExit → List LVal → LHeap → Prop} {ρ : Pl} {t : List LVal} {h : LHeap} {a : Act} {w : World} (hL : L ≤ h.length) (hs : Sim T w0 ρ h w) (hf : ∀ i, h.length ≤ i → ρ i = none) (ht : TSim ρ t a) (hD : DefsPV P (ρ.low L) D a.defers) (hw : bwp P L D (.seq x' b) Q t h) : (Code.seq x y).wpIn (FW none) 0 P (PQB P T w0 ρ L Q) a w := by
  refine wpIn_seq (wpIn_mono (code_wp (κ := none) (D := a.defers) x x' hx hL hs hf ht rfl hw) ?_)
  rintro e a' w' ⟨le, t', h', ρ', q1, q2, q3, q4, q5⟩
  have hD' : DefsPV P ρ' D a'.defers := by rw [q5]; exact hD.ext q4.low
  cases le <;> cases e <;> try exact q2.elim
  · refine wpIn_mono (ih q4.len q4.sim q4.fresh q3 ?_ q1) (fun e a w q => PQB.step (Nat.le_refl _) q4 q)
    rw [q5]
    exact hD.ext (low_ext q4.keep q4.r)
  · exact ⟨D, _, t', h', ρ', q1, q2, q3, q4, hD'⟩
  · exact ⟨D, _, t', h', ρ', q1, q2, q3, q4, hD'⟩
  · exact ⟨D, _, t', h', ρ', q1, q2, q3, q4, hD'⟩
theorem plain_code {T : Nat → Nat → Prop} {w0 : World} {c : Code} {c' : LCode} (hc : compileC P c = some c')
    {L : Nat} {D : LDefs} {Q : LDefs → LExit → List LVal → LHeap → Prop} {ρ : Pl} {t : List LVal} {h : LHeap} {a : Act} {w : World} (hL : L ≤ h.length) (hs : Sim T w0 ρ h w) (hf : ∀ i, h.length ≤ i → ρ i = none) (ht : TSim ρ t a) (hD : DefsPV P (ρ.low L) D a.defers) (hw : bwp P L D (.code c') Q t h) : c.wpIn (FW none) 0 P (PQB P T w0 ρ L Q) a w := by
  refine wpIn_mono (code_wp (κ := none) (D := a.defers) c c' hc hL hs hf ht rfl hw) ?_
  rintro e a' w' ⟨le, t', h', ρ', q1, q2, q3, q4, q5⟩
  exact ⟨D, le, t', h', ρ', q1, q2, q3, q4, by rw [q5]; exact hD.ext q4.low⟩
theorem body_wp {T : Nat → Nat → Prop} {w0 : World} : ∀ (c : Code) (b : LBody), compileBd P c = some b → ∀ {L : Nat} {D : LDefs} {Q : LDefs → LExit → List LVal → LHeap → Prop} {ρ : Pl} {t : List LVal} {h : LHeap} {a : Act} {w : World}, L ≤ h.length → Sim T w0 ρ h w → (∀ i, h.length ≤ i → ρ i = none) → TSim ρ t a → DefsPV P (ρ.low L) D a.defers → bwp P L D b Q t h → c.wpIn (FW none) 0 P (PQB P T w0 ρ L Q) a w := by
  intro c
  induction c with
  | seq x y ihx ihy =>
    clear ihx
    intro b hb L D Q ρ t h a w hL hs hf ht hD hw
    simp only [compileBd] at hb
    split at hb
    · rename_i id ops
      split at hb
      · rename_i o ho
        split at hb
        · rename_i dc hdc
          obtain ⟨h0, hb⟩ := when_some hb
          obtain ⟨l, hl, hb⟩ := withO_some hb
          obtain ⟨b', hb', hb⟩ := withO_some hb
          cases hb
          have hpos : 0 < ops.size := by simpa using h0
          have hrange : List.range ops.size = List.range (ops.size - 1) ++ [ops.size - 1] := by
            conv => lhs; rw [show ops.size = (ops.size - 1) + 1 by omega, List.range_succ]
          refine wpIn_seq (wpIn_region ?_)
          rw [hrange]
          refine wpOpsIn_append _ _ _ _ ?_
          refine wpOps_mono ?_ _ _ _ (ops_wp (κ := none) (D := a.defers) (Q := fun e t h => match e with
            | .normal => defK t dc fun f vs => lenK h 0 fun n => bwp P n ((f, vs) :: D) b' Q t h
            | e => Q D e t h) _ _ hl hs hf ht rfl hw)
          rintro e a1 w1 ⟨le, t1, h1, ρ1, q1, q2, q3, q4, q5⟩
          have sL : StpL T w0 ρ L ρ1 h1 w1 := ⟨fun i hi => q4.keep i (by omega), q4.sim, q4.fresh, Nat.le_trans hL q4.len, q4.ext.r⟩
          have hD1 : DefsPV P ρ1 D a1.defers := by rw [q5]; exact hD.ext sL.low
          cases le <;> cases e <;> try exact q2.elim
          · obtain ⟨hg, hd, f, vs, lv, d, k1, k2, k3, k4, k5⟩ := def_wp hdc q3 q1
            rw [lenK_eq, Nat.zero_add] at k1
            show wpOpsIn (FW none) 0 P ops _ [ops.size - 1] a1 w1
            rw [wpOpsIn_cons]
            unfold wpOpIn
            simp only [ho]
            rw [if_pos (by simp [Region.wanted, hg])]
            refine ⟨fun _ _ => trivial, ?_⟩
            have hsem : o.semAt (FW none).round a1.eval = execOp a1.eval o := Oper.semAt_none _ _
            rw [hsem, k3]
            rw [Oper.uponIn_defer, hd]
            show Exit.then (y.wpIn (FW none) 0 P (PQB P T w0 ρ L Q)) (PQB P T w0 ρ L Q) .normal { a1 with defers := d :: a1.defers } w1
            show y.wpIn (FW none) 0 P (PQB P T w0 ρ L Q) { a1 with defers := d :: a1.defers } w1
            refine wpIn_mono (ihy b' hb' (Nat.le_refl _) q4.sim q4.fresh (a := { a1 with defers := d :: a1.defers }) (t := t1) ⟨q3.1, q3.2⟩ ?_ k1) (fun e a w q => PQB.step (Nat.le_trans hL q4.len) sL q)
            have el := ext_low (ρ := ρ1) (L := h1.length) q4.fresh
            exact ⟨⟨lv, PVs.ext el _ _ k2, k4, k5⟩, hD1.ext el⟩
          · exact ⟨D, _, t1, h1, ρ1, q1, q2, q3, sL, hD1⟩
          · exact ⟨D, _, t1, h1, ρ1, q1, q2, q3, sL, hD1⟩
          · exact ⟨D, _, t1, h1, ρ1, q1, q2, q3, sL, hD1⟩
        · obtain ⟨x', hx, hb⟩ := withO_some hb
          obtain ⟨b', hb', hb⟩ := withO_some hb
          cases hb
          exact plain_seq hx (ihy b' hb') hL hs hf ht hD hw
      · obtain ⟨x', hx, hb⟩ := withO_some hb
        obtain ⟨b', hb', hb⟩ := withO_some hb
        cases hb
        exact plain_seq hx (ihy b' hb') hL hs hf ht hD hw
    · obtain ⟨x', hx, hb⟩ := withO_some hb
      obtain ⟨b', hb', hb⟩ := withO_some hb
      cases hb
      exact plain_seq hx (ihy b' hb') hL hs hf ht hD hw
  | _ =>
    intro b hb L D Q ρ t h a w hL hs hf ht hD hw
    obtain ⟨c', hc, hb⟩ := withO_some hb
    cases hb
    exact plain_code hc hL hs hf ht hD hw
def endQ (P : Program) (lr : List LRes) (R : LEnd → LHeap → Prop) (D : LDefs) : LExit → List LVal → LHeap → Prop
  | .normal, t, h => endD P lr D .returning t h R
  | .ret, t, h => endD P lr D .returning t h R
  | .panic v, t, h => endD P lr D (.panicking v) t h R
  | .exit _, _, _ => False
theorem init_TSim {ρ : Pl} {args : LVals} {l : List Value} {n k : Nat} (hv : PVs ρ args l) (hk : n - lvsLen args = k) (ds : List Deferred) : TSim ρ (initT args k) { tmps := l.toArray ++ Array.replicate (n - l.toArray.size) undef, defers := ds } := by
  obtain ⟨h1, h2⟩ := init_PV args l k hv
  have hlen := PVs.len _ _ hv
  refine ⟨by rw [h1]; simp [hlen, ← hk], fun i => ?_⟩
  have e : (l.toArray ++ Array.replicate (n - l.toArray.size) undef).getD i undef = (l ++ List.replicate k undef).getD i undef := by
    rw [Array.getD_eq_getD_getElem?, List.getD_eq_getElem?_getD, ← hk, ← hlen]
    simp [Array.getElem?_append, List.getElem?_append, Array.getElem?_replicate, List.getElem?_replicate]
  show PV ρ _ ((l.toArray ++ Array.replicate (n - l.toArray.size) undef).getD i undef)
  rw [e]
  exact h2 i
theorem StpL.ext {T : Nat → Nat → Prop} {w0 : World} {ρ : Pl} {h : LHeap} {ρ' : Pl} {h' : LHeap} {w' : World} (hf : ∀ i, h.length ≤ i → ρ i = none) (s : StpL T w0 ρ h.length ρ' h' w') : Ext ρ ρ' := by
  refine ⟨fun b x hb => ?_, s.r⟩
  rcases Nat.lt_or_ge b h.length with c | c
  · rw [s.keep b c]; exact hb
  · rw [hf b c] at hb; cases hb
/-- A function with deferred calls. -/
theorem LCalls.of_bodyD {f : FuncId} {fn : Func} {c : Code} {lb : LBody} {lr : List LRes} {args : LVals} {h : LHeap} {R : LEnd → LHeap → Prop} (hfn : P.funcs[f]? = some fn) (hb : fn.body = some c) (hhas : hasBody P f = true) (hc : compileBd P c = some lb) (hr : compileRes P fn.results.toList = some lr) (k : Nat) (hk : fn.ntmps - lvsLen args = k)
    (hw : initK args k fun t => bwp P h.length [] lb (endQ P lr R) t h) : LCalls P f args h R := by
  refine ⟨hhas, fun T w0 ρ w l hs hf hv => ?_⟩
  rw [initK_eq] at hw
  refine calls_of_wp_defers hfn hb (wp_mono ((wpIn_wide (n := 0)).1 (body_wp (T := T) (w0 := w0) (D := []) c lb hc (Nat.le_refl _) hs hf (init_TSim hv hk []) trivial hw)) ?_)
  rintro e a w' ⟨D, le, t', h', ρ', q1, q2, q3, q4, q5⟩
  have hext := q4.ext hf
  have out : ∀ e' w'', (∃ r h'' ρ'', R r h'' ∧ EndPV ρ'' r e' ∧ Ext ρ' ρ'' ∧ (∀ i, i < h'.length → ρ'' i = ρ' i) ∧ Sim T w0 ρ'' h'' w'' ∧ (∀ i, h''.length ≤ i → ρ'' i = none) ∧ h'.length ≤ h''.length) →
      ∃ r h'' ρ'', R r h'' ∧ EndPV ρ'' r e' ∧ Ext ρ ρ'' ∧ (∀ i, i < h.length → ρ'' i = ρ i) ∧ Sim T w0 ρ'' h'' w'' ∧ (∀ i, h''.length ≤ i → ρ'' i = none) ∧ h.length ≤ h''.length := by
    rintro e' w'' ⟨r, h'', ρ'', s1, s2, s3, s4, s5, s6, s7⟩
    have := q4.len
    exact ⟨r, h'', ρ'', s1, s2, hext.trans s3, fun i hi => (s4 i (by omega)).trans (q4.keep i hi), s5, s6, by omega⟩
  cases le <;> cases e <;> try exact q2.elim
  · exact Leaves_mono out _ _ _ (endD_leaves hr D a.defers q1 q5 rfl q4.sim q4.fresh q3)
  · exact q1.elim
  · exact Leaves_mono out _ _ _ (endD_leaves hr D a.defers q1 q5 rfl q4.sim q4.fresh q3)
  · obtain ⟨x, rfl, hx⟩ := q2
    exact Leaves_mono out _ _ _ (endD_leaves hr D a.defers q1 q5 ⟨x, rfl, hx⟩ q4.sim q4.fresh q3)
/-- A deferred call that does not recover. -/
theorem LCallsD.of_body {f : FuncId} {fn : Func} {c : Code} {lc : LCode} {args : LVals} {u : LMode} {h : LHeap} {K : LMode → LHeap → Prop} (hfn : P.funcs[f]? = some fn) (hb : fn.body = some c) (hhas : hasBody P f = true) (hc : compileC P c = some lc) (hr : compileRes P fn.results.toList = some []) (k : Nat) (hk : fn.ntmps - lvsLen args = k)
    (hw : initK args k fun t => lwp P h.length lc (fun e _ h' => match e with
      | .normal => K u h'
      | .ret => K u h'
      | _ => False) t h) : LCallsD P f args u h K := by
  refine ⟨hhas, fun T w0 ρ w l um hs hf hv hm => ?_⟩
  rw [initK_eq] at hw
  refine (callsD_of_wp (R := fun e w' => (∃ v, e = .returned v) ∧ ∃ h' ρ', K u h' ∧ Ext ρ ρ' ∧ (∀ i, i < h.length → ρ' i = ρ i) ∧ Sim T w0 ρ' h' w' ∧ (∀ i, h'.length ≤ i → ρ' i = none) ∧ h.length ≤ h'.length) hfn hb (wp_mono ((wpIn_wide (n := 0)).1 (code_wp (κ := none) (D := []) (T := T) (w0 := w0) c lc hc (Nat.le_refl _) hs hf (init_TSim hv hk []) rfl hw)) ?_)).mono ?_
  · rintro e a w' ⟨le, t', h', ρ', q1, q2, q3, q4, q5⟩
    have fin : K u h' → a.defers = [] ∧ ∃ v, (results fn a.tmps).run P w' = .ok v w' ∧ (∃ v', Ending.returned v = .returned v') ∧ ∃ h' ρ', K u h' ∧ Ext ρ ρ' ∧ (∀ i, i < h.length → ρ' i = ρ i) ∧ Sim T w0 ρ' h' w' ∧ (∀ i, h'.length ≤ i → ρ' i = none) ∧ h.length ≤ h'.length := by
      intro hk'
      obtain ⟨vs, l', r1, r2, r3⟩ := res_run (K := fun _ => True) q4.sim q3 _ _ hr trivial
      exact ⟨q5, _, results_run r3, ⟨_, rfl⟩, h', ρ', hk', q4.ext hf, q4.keep, q4.sim, q4.fresh, q4.len⟩
    cases le <;> cases e <;> try exact q2.elim
    · exact fin q1
    · exact q1.elim
    · exact fin q1
    · exact q1.elim
  · rintro e u' w' ⟨rfl, hv', h', ρ', k1, k2, k3, k4, k5, k6⟩
    exact ⟨hv', u, h', ρ', k1, by rw [hm.settle]; exact hm.ext k2, k2, k3, k4, k5, k6⟩
def recV : LMode → LVal
  | .returning => .nilI
  | .panicking v => v
/-- A deferred call that begins by recovering. -/
theorem LCallsD.of_rec {f : FuncId} {fn : Func} {id : Nat} {o : Oper} {d : Nat} {c : Code} {lc : LCode} {args : LVals} {u : LMode} {h : LHeap} {K : LMode → LHeap → Prop} (hfn : P.funcs[f]? = some fn) (hb : fn.body = some (.seq (.region id #[o] false) c)) (hg : o.guard = none) (hd : o.dst = some d) (ho : ∀ (a : Act) (w : World), (execOp a.eval o).run P w = .ok .recover w) (hhas : hasBody P f = true) (hc : compileC P c = some lc) (hr : compileRes P fn.results.toList = some []) (k : Nat) (hk : fn.ntmps - lvsLen args = k)
    (hw : initK args k fun t => setK t d (recV u) fun t => lwp P h.length lc (fun e _ h' => match e with
      | .normal => K .returning h'
      | .ret => K .returning h'
      | _ => False) t h) : LCallsD P f args u h K := by
  refine ⟨hhas, fun T w0 ρ w l um hs hf hv hm => ?_⟩
  rw [initK_eq, setK_eq] at hw
  refine callsD_of_wpS hfn hb fun c₀ cs hu => wpS_seq (wpS_region ?_)
  have ht0 : TSim ρ (initT args k) { tmps := l.toArray ++ Array.replicate (fn.ntmps - l.toArray.size) undef, defers := [] } := init_TSim hv hk []
  have post : ∀ (x : Value) (u' : FrameMode), PV ρ (recV u) x → Go.settle u' = .returning → c.wpS P (bodyPostS P fn c₀ cs fun e u' w' => (∃ v, e = .returned v) ∧ ∃ m h' ρ', K m h' ∧ ModePV ρ' m (Go.settle u') ∧ Ext ρ ρ' ∧ (∀ i, i < h.length → ρ' i = ρ i) ∧ Sim T w0 ρ' h' w' ∧ (∀ i, h'.length ≤ i → ρ' i = none) ∧ h.length ≤ h'.length)
      (Act.put { tmps := l.toArray ++ Array.replicate (fn.ntmps - l.toArray.size) undef, defers := [] } (some d) x) ({ c₀ with mode := u' } :: cs) w := by
    intro x u' hx hset
    refine wpS_of_wp (wp_mono ((wpIn_wide (n := 0)).1 (code_wp (κ := none) (D := []) (T := T) (w0 := w0) c lc hc (Nat.le_refl _) hs hf (ht0.set d hx) (by rw [put_defers']) hw)) ?_)
    rintro e a w' ⟨le, t', h', ρ', q1, q2, q3, q4, q5⟩
    have fin : K .returning h' → a.defers = [] ∧ ∃ u'', ({ c₀ with mode := u' } :: cs : List Frame) = { c₀ with mode := u'' } :: cs ∧ ∃ v, (results fn a.tmps).run P w' = .ok v w' ∧ (∃ v', Ending.returned v = .returned v') ∧ ∃ m h' ρ', K m h' ∧ ModePV ρ' m (Go.settle u'') ∧ Ext ρ ρ' ∧ (∀ i, i < h.length → ρ' i = ρ i) ∧ Sim T w0 ρ' h' w' ∧ (∀ i, h'.length ≤ i → ρ' i = none) ∧ h.length ≤ h'.length := by
      intro hk'
      obtain ⟨vs, l', r1, r2, r3⟩ := res_run (K := fun _ => True) q4.sim q3 _ _ hr trivial
      exact ⟨q5, u', rfl, _, results_run r3, ⟨_, rfl⟩, .returning, h', ρ', hk', hset, q4.ext hf, q4.keep, q4.sim, q4.fresh, q4.len⟩
    cases le <;> cases e <;> try exact q2.elim
    · exact fin q1
    · exact q1.elim
    · exact fin q1
    · exact q1.elim
  show wpOpsS P #[o] _ [0] _ (c₀ :: cs) w
  have hO : (#[o] : Array Oper)[0]? = some o := rfl
  simp only [wpOpsS, hO]
  rw [if_pos (by simp [Region.wanted, hg])]
  rw [ho]
  simp only [hd]
  cases u with
  | returning =>
    have hu2 : um = .returning := hm
    subst hu2
    have hrec : recoverD (c₀ :: cs) = none := by simp [recoverD, hu]
    rw [hrec]
    have := post .nilIface .returning rfl rfl
    have e : ({ c₀ with mode := .returning } : Frame) = c₀ := by rw [← hu]
    rw [e] at this
    exact this
  | panicking v =>
    obtain ⟨x, rfl, hx⟩ := hm
    have hrec : recoverD (c₀ :: cs) = some (x, { c₀ with mode := .panicking [{ v := x, recovered := true }] } :: cs) := by simp [recoverD, hu]
    rw [hrec]
    exact post x (.panicking [{ v := x, recovered := true }]) hx rfl
theorem LCalls.enterD {f : FuncId} {fn : Func} {lb : LBody} {lr : List LRes} {args : LVals} {h : LHeap} {R : LEnd → LHeap → Prop} (hfn : P.funcs[f]? = some fn) (hb : fn.body.bind (compileBd P) = some lb) (hhas : hasBody P f = true) (hr : compileRes P fn.results.toList = some lr) (k : Nat) (hk : fn.ntmps - lvsLen args = k)
    (hw : initK args k fun t => bwp P h.length [] lb (endQ P lr R) t h) : LCalls P f args h R := by
  cases hc : fn.body with
  | none => rw [hc] at hb; cases hb
  | some c =>
    rw [hc] at hb
    exact LCalls.of_bodyD hfn hc hhas hb hr k hk hw
def dQ (K : LMode → LHeap → Prop) (u : LMode) : LExit → List LVal → LHeap → Prop
  | .normal, _, h => K u h
  | .ret, _, h => K u h
  | _, _, _ => False
theorem LCallsD.enter {f : FuncId} {fn : Func} {lc : LCode} {args : LVals} {u : LMode} {h : LHeap} {K : LMode → LHeap → Prop} (hfn : P.funcs[f]? = some fn) (hb : fn.body.bind (compileC P) = some lc) (hhas : hasBody P f = true) (hr : compileRes P fn.results.toList = some []) (k : Nat) (hk : fn.ntmps - lvsLen args = k)
    (hw : initK args k fun t => lwp P h.length lc (dQ K u) t h) : LCallsD P f args u h K := by
  cases hc : fn.body with
  | none => rw [hc] at hb; cases hb
  | some c =>
    rw [hc] at hb
    refine LCallsD.of_body hfn hc hhas hb hr k hk ?_
    rw [show (fun e _ h' => match e with
      | .normal => K u h'
      | .ret => K u h'
      | _ => False : LExit → List LVal → LHeap → Prop) = dQ K u from funext fun e => funext fun t => funext fun h => by cases e <;> rfl]
    exact hw
def compileRec (P : Program) : Code → Option (Nat × LCode)
  | .seq x y => match x with
    | .region _ ops false => match ops with
      | ⟨[o]⟩ => match o.op with
        | .call cc => match cc.callee, cc.args, o.guard, o.dst with
          | .builtin .recover, ⟨[]⟩, none, some d => withO (compileC P y) fun l => some (d, l)
          | _, _, _, _ => none
        | _ => none
      | _ => none
    | _ => none
  | _ => none
theorem LCallsD.enterR {f : FuncId} {fn : Func} {d : Nat} {lc : LCode} {args : LVals} {u : LMode} {h : LHeap} {K : LMode → LHeap → Prop} (hfn : P.funcs[f]? = some fn) (hb : fn.body.bind (compileRec P) = some (d, lc)) (hhas : hasBody P f = true) (hr : compileRes P fn.results.toList = some []) (k : Nat) (hk : fn.ntmps - lvsLen args = k)
    (hw : initK args k fun t => setK t d (recV u) fun t => lwp P h.length lc (dQ K .returning) t h) : LCallsD P f args u h K := by
  cases hc : fn.body with
  | none => rw [hc] at hb; cases hb
  | some c =>
    rw [hc] at hb
    replace hb : compileRec P c = some (d, lc) := hb
    unfold compileRec at hb
    split at hb
    · split at hb
      · split at hb
        · split at hb
          · rename_i o _ cc ho
            split at hb
            · rename_i q1 q2 q3 q4
              obtain ⟨l, hl, hb⟩ := withO_some hb
              cases hb
              refine LCallsD.of_rec (o := o) hfn hc q3 q4 (fun a w => ?_) hhas hl hr k hk ?_
              · obtain ⟨callee, args, ts⟩ := cc
                simp only at q1 q2
                subst q1 q2
                unfold execOp
                simp only [ho, resolve, Sem.run_bind, Sem.run_pure, Result.andThen_ok]
                rfl
              · rw [show (fun e _ h' => match e with
                  | .normal => K .returning h'
                  | .ret => K .returning h'
                  | _ => False : LExit → List LVal → LHeap → Prop) = dQ K .returning from funext fun e => funext fun t => funext fun h => by cases e <;> rfl]
                exact hw
            · cases hb
          · cases hb
        · cases hb
      · cases hb
    · cases hb
end
end Go.Proofs.Ytilmfhpoiejmfaa.Lh
