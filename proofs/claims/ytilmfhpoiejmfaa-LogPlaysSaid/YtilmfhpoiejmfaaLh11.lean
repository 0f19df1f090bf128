/- A function's body; a call within a greater heap; loops. Over any program. -/
import Derived.Test.YtilmfhpoiejmfaaLh10
namespace Go.Proofs.Ytilmfhpoiejmfaa.Lh
set_option linter.unusedSimpArgs false
set_option linter.unusedVariables false
set_option linter.unusedSectionVars false
open Go.RowKit
variable [Fz]
inductive LRes where
  | tmp (i : Nat)
  | cell (a : Nat) (m : Option Nat)
def compileRes (P : Program) : List ResultVar → Option (List LRes)
  | [] => some []
  | .tmp i :: r => withO (compileRes P r) fun s => some (.tmp i :: s)
  | .cell a ty :: r => withO (P.underlying ty) fun d => withO (P.info? ty) fun i => withO (compileRes P r) fun s => some (.cell a (if d.isRow then some i.size else none) :: s)
def resK (t : List LVal) (h : LHeap) : List LRes → (LVals → Prop) → Prop
  | [], K => K .nil
  | .tmp i :: r, K => getK t i fun v => resK t h r fun vs => K (.cons v vs)
  | .cell a m :: r, K => getK t a fun v => (loadRd m v).wp t h fun x _ _ => resK t h r fun vs => K (.cons x vs)
def retK (vs : LVals) (K : LVal → Prop) : Prop :=
  match vs with
  | .nil => K .undef
  | .cons v .nil => K v
  | vs => K (.tup vs)
def replK : Nat → (List LVal → Prop) → Prop
  | 0, K => K []
  | n + 1, K => replK n fun l => K (.undef :: l)
def initK : LVals → Nat → (List LVal → Prop) → Prop
  | .nil, n, K => replK n K
  | .cons v r, n, K => initK r n fun l => K (v :: l)
def initT : LVals → Nat → List LVal
  | .nil, n => List.replicate n .undef
  | .cons v r, n => v :: initT r n
theorem replK_eq (n : Nat) (K : List LVal → Prop) : replK n K = K (List.replicate n .undef) := by
  induction n generalizing K with
  | zero => rfl
  | succ n ih => simp only [replK, ih]; rfl
theorem initK_eq : ∀ (vs : LVals) (n : Nat) (K : List LVal → Prop), initK vs n K = K (initT vs n)
  | .nil, n, K => replK_eq n K
  | .cons v r, n, K => by simp only [initK, initK_eq r n]; rfl
/-- What a body leaves is what the call leaves. -/
def bodyQ (lr : List LRes) (R : LEnd → LHeap → Prop) : LExit → List LVal → LHeap → Prop
  | .normal, t, h => resK t h lr fun vs => retK vs fun v => R (.ret v) h
  | .ret, t, h => resK t h lr fun vs => retK vs fun v => R (.ret v) h
  | .panic v, _, h => R (.panic v) h
  | .exit _, _, _ => False
section
variable {P : Program}
def resF : ResultVar → (tmps : Array Value) → Sem Value
  | .tmp t, tmps => pure (tmps.getD t undef)
  | .cell a t, tmps => do loadVar t (← asAddr (tmps.getD a undef))
theorem res_run {T : Nat → Nat → Prop} {w0 : World} {ρ : Pl} {t : List LVal} {h : LHeap} {a : Act} {w : World} (hs : Sim T w0 ρ h w) (ht : TSim ρ t a) : ∀ (R : List ResultVar) (lr : List LRes), compileRes P R = some lr → ∀ {K : LVals → Prop}, resK t h lr K →
    ∃ vs l, K vs ∧ PVs ρ vs l ∧ (List.mapM (fun r => resF r a.tmps) R).run P w = .ok l w
  | [], lr, hc, K, hw => by
    cases hc
    exact ⟨.nil, [], hw, rfl, by simp⟩
  | .tmp i :: r, lr, hc, K, hw => by
    obtain ⟨s, h1, hc⟩ := withO_some hc
    cases hc
    simp only [resK, getK_eq] at hw
    obtain ⟨vs, l, h2, h3, h4⟩ := res_run hs ht r s h1 hw
    refine ⟨_, a.tmps.getD i undef :: l, h2, ⟨_, l, rfl, ht.2 i, h3⟩, ?_⟩
    rw [List.mapM_cons, Sem.run_bind]
    have e : (resF (.tmp i) a.tmps).run P w = .ok (a.tmps.getD i undef) w := rfl
    rw [e]
    simp only [Result.andThen_ok, Sem.run_bind]
    rw [h4]
    rfl
  | .cell c ty :: r, lr, hc, K, hw => by
    obtain ⟨d, h1, hc⟩ := withO_some hc
    obtain ⟨i, h2, hc⟩ := withO_some hc
    obtain ⟨s, h3, hc⟩ := withO_some hc
    cases hc
    simp only [resK, getK_eq] at hw
    obtain ⟨p, v', x', h4, h5, h6, h7⟩ := load_run (P := P) (w := w) ty d i h1 h2 hs (ht.2 c) hw
    obtain ⟨vs, l, h8, h9, h10⟩ := res_run hs ht r s h3 h5
    refine ⟨_, x' :: l, h8, ⟨_, l, rfl, h7, h9⟩, ?_⟩
    rw [List.mapM_cons, Sem.run_bind]
    have e : (resF (.cell c ty) a.tmps).run P w = .ok x' w := by
      simp only [resF, Sem.run_bind, h4, asAddr, Sem.run_pure, Result.andThen_ok, h6]
    rw [e]
    simp only [Result.andThen_ok, Sem.run_bind]
    rw [h10]
    rfl
theorem results_run {fn : Func} {tmps : Array Value} {w : World} {l : List Value} (h : (List.mapM (fun r => resF r tmps) fn.results.toList).run P w = .ok l w) :
    (results fn tmps).run P w = .ok (if h : l.toArray.size = 1 then l.toArray[0] else .tuple l.toArray) w := by
  have key : ∀ g : ResultVar → Sem Value, (∀ r, g r = resF r tmps) → (do let vs ← List.toArray <$> List.mapM g fn.results.toList; pure (if h : vs.size = 1 then vs[0] else Value.tuple vs) : Sem Value).run P w = .ok (if h : l.toArray.size = 1 then l.toArray[0] else .tuple l.toArray) w := by
    intro g hg
    rw [show g = fun r => resF r tmps from funext hg, Sem.run_bind, Sem.run_map, h]
    rfl
  unfold results
  rw [Array.mapM_eq_mapM_toList]
  exact key _ (fun r => by cases r <;> rfl)
theorem lget_repl (n i : Nat) : lget (List.replicate n .undef) i = .undef := by
  induction n generalizing i with
  | zero => rfl
  | succ n ih => cases i <;> simp [List.replicate_succ, lget, ih]
theorem init_PV {ρ : Pl} : ∀ (vs : LVals) (l : List Value) (n : Nat), PVs ρ vs l → (initT vs n).length = l.length + n ∧ ∀ i, PV ρ (lget (initT vs n) i) ((l ++ List.replicate n undef).getD i undef)
  | .nil, l, n, h => by
    have : l = [] := h
    subst this
    refine ⟨by simp [initT], fun i => ?_⟩
    rw [show initT .nil n = List.replicate n .undef from rfl, lget_repl]
    show _ = undef
    rw [List.nil_append, List.getD_eq_getElem?_getD, List.getElem?_replicate]
    split <;> rfl
  | .cons v r, l, n, h => by
    obtain ⟨x, l', rfl, h1, h2⟩ := h
    obtain ⟨h3, h4⟩ := init_PV r l' n h2
    refine ⟨by simp [initT, h3]; omega, fun i => ?_⟩
    cases i with
    | zero => exact h1
    | succ i => exact h4 i
theorem retK_spec {ρ : Pl} {vs : LVals} {l : List Value} {K : LVal → Prop} (h : PVs ρ vs l) (hk : retK vs K) : ∃ v, K v ∧ PV ρ v (if h : l.toArray.size = 1 then l.toArray[0] else .tuple l.toArray) := by
  cases vs with
  | nil =>
    have : l = [] := h
    subst this
    exact ⟨.undef, hk, rfl⟩
  | cons v r =>
    cases r with
    | nil =>
      obtain ⟨x, l', rfl, h1, h2⟩ := h
      have : l' = [] := h2
      subst this
      exact ⟨v, hk, h1⟩
    | cons u r =>
      refine ⟨_, hk, l, h, ?_⟩
      have := PVs.len _ _ h
      rw [dif_neg (by simp [lvsLen] at this ⊢; omega)]
theorem LCalls.of_body {f : FuncId} {fn : Func} {c : Code} {lc : LCode} {lr : List LRes} {args : LVals} {h : LHeap} {R : LEnd → LHeap → Prop} (hfn : P.funcs[f]? = some fn) (hb : fn.body = some c) (hhas : hasBody P f = true) (hc : compileC P c = some lc) (hr : compileRes P fn.results.toList = some lr) (k : Nat) (hk : fn.ntmps - lvsLen args = k)
    (hw : initK args k fun t => lwp P h.length lc (bodyQ lr R) t h) : LCalls P f args h R := by
  refine ⟨hhas, fun T w0 ρ w l hs hf hv => ?_⟩
  rw [initK_eq] at hw
  obtain ⟨h1, h2⟩ := init_PV args l k hv
  have hlen := PVs.len _ _ hv
  refine calls_of_wp hfn hb (wp_mono ((wpIn_wide (n := 0)).1 (code_wp (κ := none) (D := []) (T := T) (w0 := w0) c lc hc (Nat.le_refl _) hs hf (t := initT args k) ?_ rfl hw)) ?_)
  · refine ⟨by rw [h1]; simp [hlen, ← hk], fun i => ?_⟩
    have e : (l.toArray ++ Array.replicate (fn.ntmps - l.toArray.size) undef).getD i undef = (l ++ List.replicate k undef).getD i undef := by
      rw [Array.getD_eq_getD_getElem?, List.getD_eq_getElem?_getD, ← hk, ← hlen]
      simp [Array.getElem?_append, List.getElem?_append, Array.getElem?_replicate, List.getElem?_replicate]
    show PV ρ _ ((l.toArray ++ Array.replicate (fn.ntmps - l.toArray.size) undef).getD i undef)
    rw [e]
    exact h2 i
  · rintro e a w' ⟨le, t', h', ρ', q1, q2, q3, q4, q5⟩
    have hext : Ext ρ ρ' := by
      refine ⟨fun b x hb => ?_, q4.r⟩
      rcases Nat.lt_or_ge b h.length with c | c
      · rw [q4.keep b c]; exact hb
      · rw [hf b c] at hb; cases hb
    have fin : resK t' h' lr (fun vs => retK vs fun v => R (.ret v) h') → a.defers = [] ∧ ∃ v, (results fn a.tmps).run P w' = .ok v w' ∧ ∃ r h'' ρ'', R r h'' ∧ EndPV ρ'' r (.returned v) ∧ Ext ρ ρ'' ∧ (∀ i, i < h.length → ρ'' i = ρ i) ∧ Sim T w0 ρ'' h'' w' ∧ (∀ i, h''.length ≤ i → ρ'' i = none) ∧ h.length ≤ h''.length := by
      intro hres
      obtain ⟨vs, l', r1, r2, r3⟩ := res_run q4.sim q3 _ _ hr hres
      obtain ⟨v, r4, r5⟩ := retK_spec r2 r1
      exact ⟨q5, _, results_run r3, .ret v, h', ρ', r4, r5, hext, q4.keep, q4.sim, q4.fresh, q4.len⟩
    cases le <;> cases e <;> try exact q2.elim
    · exact fin q1
    · exact q1.elim
    · exact fin q1
    · exact ⟨q5, .panic _, h', ρ', q1, q2, hext, q4.keep, q4.sim, q4.fresh, q4.len⟩
end
def shE (F : Fzl) (g : Nat → Nat) : LEnd → LEnd → Prop
  | .ret v, .ret v' => shV 1000000 F v (ren g v')
  | .panic v, .panic v' => shV 1000000 F v (ren g v')
  | _, _ => False
/-- What a call leaves may be told less of; new blocks by other numbers; some stand still from now on. -/
def ToldF (L : Nat) (R : LEnd → LHeap → Prop) (e : LEnd) (h : LHeap) : Prop := ∃ F, frzOK h [] F ∧ ∃ gl e' h', apart 1000000 gl = true ∧ idl L 0 gl = true ∧ shE (frzAll [] F) (embF gl 1000000) e e' ∧ shH (frzAll [] F) (embF gl 1000000) (killF h F) gl h' ∧ R e' h'
def Told (L : Nat) (R : LEnd → LHeap → Prop) (e : LEnd) (h : LHeap) : Prop := ∃ gl e' h', apart 1000000 gl = true ∧ idl L 0 gl = true ∧ shE [] (embF gl 1000000) e e' ∧ shH [] (embF gl 1000000) h gl h' ∧ R e' h'
theorem LCalls.tellF {P : Program} {f : FuncId} {args : LVals} {h : LHeap} {R : LEnd → LHeap → Prop} (c : LCalls P f args h (ToldF h.length R)) : LCalls P f args h R := by
  refine ⟨c.has, fun T w0 ρ w l h1 h2 h3 => (c.run T w0 ρ w l h1 h2 h3).mono ?_⟩
  rintro e w' ⟨r, h', ρ', ⟨F, qF, gl, e', h'', q0, q1, q2, q3, q4⟩, h5, h6, h7, h8, h9, h10⟩
  have hgl := (shH_spec _ _ q3).1
  obtain ⟨ρ3, g1, g5, g6, g7⟩ := h8.tell h9 qF q0 q3
  refine ⟨e', h'', newP ρ3 gl, q4, ?_, ⟨fun b x hb => ?_, h6.r.trans g5.r⟩, fun i hi => (newP_id q1 i hi).trans ((congrFun g6 i).trans (h7 i hi)), g1, fun i hi => by rw [newP_at, if_neg (by omega)], by rw [← hgl]; exact idl_len q1⟩
  · cases r <;> cases e' <;> try exact q2.elim
    · cases e <;> try exact h5.elim
      exact PV.unren newP_cut _ _ (shV_spec g7 _ _ _ q2 (PV.ext g5 _ _ h5))
    · cases e <;> try exact h5.elim
      obtain ⟨x, e1, e2⟩ := h5
      exact ⟨x, e1, PV.unren newP_cut _ _ (shV_spec g7 _ _ _ q2 (PV.ext g5 _ _ e2))⟩
  · have hbl : b < h.length := by
      rcases Nat.lt_or_ge b h.length with c | c
      · exact c
      · rw [h2 b c] at hb; cases hb
    rw [newP_id q1 b hbl]
    exact (congrFun g6 b).trans (h6.at_ b x hb)
theorem LCalls.tell {P : Program} {f : FuncId} {args : LVals} {h : LHeap} {R : LEnd → LHeap → Prop} (c : LCalls P f args h (Told h.length R)) : LCalls P f args h R :=
  LCalls.tellF (c.mono fun e h' q => ⟨[], trivial, q⟩)
/-! Loops. -/
theorem LCalls.enter {P : Program} {f : FuncId} {fn : Func} {lc : LCode} {lr : List LRes} {args : LVals} {h : LHeap} {R : LEnd → LHeap → Prop} (hfn : P.funcs[f]? = some fn) (hb : fn.body.bind (compileC P) = some lc) (hhas : hasBody P f = true) (hr : compileRes P fn.results.toList = some lr) (k : Nat) (hk : fn.ntmps - lvsLen args = k)
    (hw : initK args k fun t => lwp P h.length lc (bodyQ lr R) t h) : LCalls P f args h R := by
  cases hc : fn.body with
  | none => rw [hc] at hb; cases hb
  | some c =>
    rw [hc] at hb
    exact LCalls.of_body hfn hc hhas hb hr k hk hw
section
variable {W : (LExit → List LVal → LHeap → Prop) → List LVal → LHeap → Prop} {Q : LExit → List LVal → LHeap → Prop}
def Mono (W : (LExit → List LVal → LHeap → Prop) → List LVal → LHeap → Prop) : Prop := ∀ Q Q' : LExit → List LVal → LHeap → Prop, (∀ e t h, Q e t h → Q' e t h) → ∀ t h, W Q t h → W Q' t h
theorem iter_mono (hm : Mono W) {L k k' : Nat} (hk : k ≤ k') : ∀ t h, iter W Q L k t h → iter W Q L k' t h := by
  induction k generalizing k' with
  | zero => exact fun t h x => x.elim
  | succ k ih =>
    intro t h x
    obtain ⟨k', rfl⟩ : ∃ m, k' = m + 1 := ⟨k' - 1, by omega⟩
    obtain ⟨t', h', h1, h2⟩ := x
    refine ⟨t', h', h1, hm _ _ ?_ _ _ h2⟩
    intro e t h x
    cases e with
    | normal => exact ih (by omega) t h x
    | _ => exact x
theorem iter_Q {Q Q' : LExit → List LVal → LHeap → Prop} (hm : Mono W) (hq : ∀ e t h, Q e t h → Q' e t h) {L k : Nat} : ∀ t h, iter W Q L k t h → iter W Q' L k t h := by
  induction k with
  | zero => exact fun t h x => x
  | succ k ih =>
    intro t h x
    obtain ⟨t', h', h1, h2⟩ := x
    refine ⟨t', h', h1, hm _ _ ?_ _ _ h2⟩
    intro e t h x
    cases e with
    | normal => exact ih t h x
    | _ => exact hq _ _ _ x
/-- A round's end: the relation holds of a state that is told less of, with a lower number. -/
def Again (L : Nat) (I : Nat → List LVal → LHeap → Prop) (n : Nat) (t : List LVal) (h : LHeap) : Prop := ∃ t' h' m, m < n ∧ Shift L t h t' h' ∧ I m t' h'
/-- A relation that each round keeps, with a number that each round lowers. -/
theorem Loop.invW (hm : Mono W) {L : Nat} (I : Nat → List LVal → LHeap → Prop) {t : List LVal} {h : LHeap} (h0 : ∃ t' h' n, Shift L t h t' h' ∧ I n t' h')
    (hr : ∀ n t' h', I n t' h' → W (fun e t'' h'' => match e with
      | .normal => Again L I n t'' h''
      | e => Q e t'' h'') t' h') : Loop L W Q t h := by
  have key : ∀ n t' h', I n t' h' → ∀ t h0, Shift L t h0 t' h' → iter W Q L (n + 1) t h0 := by
    intro n
    induction n using Nat.strongRecOn with
    | _ n ih =>
      intro t' h' hI t h0 hsh
      refine ⟨t', h', .inr hsh, hm _ _ ?_ _ _ (hr n t' h' hI)⟩
      intro e t h x
      cases e with
      | normal =>
        obtain ⟨t2, h2, m, e1, e3, e5⟩ := x
        exact iter_mono hm (by omega) t h (ih m e1 t2 h2 e5 t h e3)
      | _ => exact x
  obtain ⟨t', h', n, h1, h4⟩ := h0
  exact ⟨n + 1, key n t' h' h4 t h h1⟩
/-- A round more, as it stands. -/
theorem Loop.round {L : Nat} {t : List LVal} {h : LHeap} (hw : ∃ k, W (fun e t' h' => match e with
      | .normal => iter W Q L k t' h'
      | e => Q e t' h') t h) : Loop L W Q t h := by
  obtain ⟨k, hk⟩ := hw
  exact ⟨k + 1, t, h, .inl ⟨rfl, rfl⟩, hk⟩
theorem iter.round {L k : Nat} {t : List LVal} {h : LHeap} (hw : W (fun e t' h' => match e with
      | .normal => iter W Q L k t' h'
      | e => Q e t' h') t h) : iter W Q L (k + 1) t h := ⟨t, h, .inl ⟨rfl, rfl⟩, hw⟩
end
section
variable {P : Program}
theorem rd_mono {Φ Φ' : LVal → List (Nat × Option LObj) → Option LObj → Prop} (hp : ∀ v u n, Φ v u n → Φ' v u n) : ∀ (r : Rd) {t : List LVal} {h : LHeap}, r.wp t h Φ → r.wp t h Φ'
  | .ret v u nw, t, h, hw => hp _ _ _ hw
  | .tmp i k, t, h, hw => by
    simp only [Rd.wp, getK_eq] at hw ⊢
    exact rd_mono hp _ hw
  | .obj b k, t, h, hw => by
    simp only [Rd.wp, hgetK_eq] at hw ⊢
    cases hg : hget h b with
    | none => rw [hg] at hw; exact hw
    | some o => rw [hg] at hw; exact rd_mono hp _ hw
  | .need p k, t, h, hw => ⟨hw.1, rd_mono hp k hw.2⟩
  | .ite b x y, t, h, hw => by
    cases b
    · exact rd_mono hp y hw
    · exact rd_mono hp x hw
  | .allB p k, t, h, hw => fun b hb => rd_mono hp _ (hw b hb)
  | .fail, t, h, hw => hw
theorem opdK_mono {t : List LVal} {x : LOpd} {K K' : LVal → Prop} (hk : ∀ v, K v → K' v) (h : opdK t x K) : opdK t x K' := by
  cases x with
  | tmp i => simp only [opdK, getK_eq] at h ⊢; exact hk _ h
  | const v => exact hk _ h
theorem argsK_mono {t : List LVal} : ∀ {xs : List LOpd} {K K' : LVals → Prop} (_ : ∀ v, K v → K' v) (_ : argsK t xs K), argsK t xs K'
  | [], K, K', hk, h => hk _ h
  | x :: r, K, K', hk, h => opdK_mono (fun v hv => argsK_mono (fun vs => hk _) hv) h
theorem act_mono {t : List LVal} {h : LHeap} {K K' X X' : LVal → LHeap → Prop} (hk : ∀ v h, K v h → K' v h) (hx : ∀ v h, X v h → X' v h) {act : LAct} (hw : act.wp P t h K X) : act.wp P t h K' X' := by
  have hc : ∀ f vs, callK P f vs h K X → callK P f vs h K' X' := fun f vs c => c.mono fun e h' q => by
    cases e with
    | ret v => exact hk _ _ q
    | panic v => exact hx _ _ q
  cases act with
  | op o =>
    simp only [LAct.wp, lenK_eq, applyK_eq] at hw ⊢
    exact rd_mono (fun v u n => hk _ _) _ hw
  | call f xs => exact argsK_mono (fun vs => hc f vs) hw
  | callv x xs =>
    refine opdK_mono (fun v hv => ?_) hw
    cases v <;> try exact hv.elim
    · refine argsK_mono (fun vs h2 => ?_) hv
      rw [appVsK_eq] at h2 ⊢
      exact hc _ _ h2
    · refine argsK_mono (fun vs h2 => ?_) hv
      rw [appVsK_eq] at h2 ⊢
      exact LRound.mono h2 fun e h' q => by
        cases e with
        | ret v => exact hk _ _ q
        | panic v => exact hx _ _ q
  | panic x =>
    refine opdK_mono (fun v hv => ?_) hw
    cases v <;> first | exact hv.elim | exact hx _ _ hv
theorem setDst_mono {t : List LVal} {d : Option Nat} {v : LVal} {K K' : List LVal → Prop} (hk : ∀ t, K t → K' t) (h : setDst t d v K) : setDst t d v K' := by
  cases d with
  | none => exact hk _ h
  | some d => simp only [setDst, setK_eq] at h ⊢; exact hk _ h
theorem iteP_mono {b : Bool} {x y x' y' : Prop} (hx : x → x') (hy : y → y') (h : iteP b x y) : iteP b x' y' := by
  cases b
  · exact hy h
  · exact hx h
theorem guardK_mono {g : Option (Nat × Bool)} {t : List LVal} {x y x' y' : Prop} (hx : x → x') (hy : y → y') (h : guardK g t x y) : guardK g t x' y' := by
  cases g with
  | none => exact hx h
  | some dw =>
    obtain ⟨d, want⟩ := dw
    simp only [guardK, getK_eq] at h ⊢
    cases hl : lget t d <;> rw [hl] at h <;> try exact h
    · exact hy h
    · cases want
      · exact iteP_mono hy hx h
      · exact iteP_mono hx hy h
theorem rops_mono {Q Q' : LExit → List LVal → LHeap → Prop} (hq : ∀ e t h, Q e t h → Q' e t h) : ∀ (l : List LOper) {t : List LVal} {h : LHeap}, ropsK P Q l t h → ropsK P Q' l t h
  | [], t, h, hw => hq _ _ _ hw
  | o :: r, t, h, hw => guardK_mono (fun x => act_mono (fun v h' => setDst_mono fun t' => rops_mono hq r) (fun v h' => hq _ _ _) x) (setDst_mono fun t' => rops_mono hq r) hw
theorem wpL_mono {K K' : LK} (hk : ∀ v u n rt rh, K v u n rt rh → K' v u n rt rh) : ∀ (r : Rd) {t : List LVal} {h : LHeap}, r.wpL t h K → r.wpL t h K' := by
  intro r
  induction r generalizing K K' with
  | ret v u nw => intro t h hw; exact hk _ _ _ _ _ hw
  | tmp i k ih =>
    intro t h hw
    simp only [Rd.wpL, getK_eq] at hw ⊢
    exact ih _ (fun v u n rt rh => hk _ _ _ _ _) hw
  | obj b k ih =>
    intro t h hw
    simp only [Rd.wpL, hgetK_eq] at hw ⊢
    cases hg : hget h b with
    | none => rw [hg] at hw; exact hw
    | some o => rw [hg] at hw; exact ih _ (fun v u n rt rh => hk _ _ _ _ _) hw
  | need p k ih => intro t h hw; exact ⟨hw.1, ih hk hw.2⟩
  | ite b x y ih1 ih2 =>
    intro t h hw
    cases b
    · exact ih2 hk hw
    · exact ih1 hk hw
  | allB p k ih => intro t h hw; exact hw
  | fail => intro t h hw; exact hw
theorem argsLK_mono {t : List LVal} : ∀ (xs : List LOpd) {K K' : LVals → List Nat → Prop} (_ : ∀ v r, K v r → K' v r), argsLK t xs K → argsLK t xs K'
  | [], K, K', hk, h => hk _ _ h
  | .tmp i :: r, K, K', hk, h => by
    simp only [argsLK, getK_eq] at h ⊢
    exact argsLK_mono r (fun vs rt => hk _ _) h
  | .const v :: r, K, K', hk, h => by
    simp only [argsLK] at h ⊢
    exact argsLK_mono r (fun vs rt => hk _ _) h
theorem actL_mono {n : Nat} {t : List LVal} {h : LHeap} {K K' : LK} (hk : ∀ v u n rt rh, K v u n rt rh → K' v u n rt rh) {act : LAct} (hw : act.wpL P n t h K) : act.wpL P n t h K' := by
  cases act with
  | op o => exact wpL_mono hk _ hw
  | call f xs => exact argsLK_mono xs (fun vs rt h => h.imp (fun ⟨v, rh, c, x⟩ => ⟨v, rh, c, hk _ _ _ _ _ x⟩) (fun ⟨v, u, rh, c, x⟩ => ⟨v, u, rh, c, hk _ _ _ _ _ x⟩)) hw
  | callv x xs =>
    cases x with
    | const _ => exact hw
    | tmp i =>
      simp only [LAct.wpL, getK_eq] at hw ⊢
      cases hl : lget t i <;> rw [hl] at hw <;> try exact hw.elim
      exact argsLK_mono xs (fun vs rt h => by
        rw [appVsK_eq] at h ⊢
        obtain ⟨v, rh, c, x⟩ := h
        exact ⟨v, rh, c, hk _ _ _ _ _ x⟩) hw
  | panic x => exact hw
theorem operL_mono {n : Nat} {t : List LVal} {h : LHeap} {K K' : LK} (hk : ∀ v u n rt rh, K v u n rt rh → K' v u n rt rh) {o : LOper} (hw : o.wpL P n t h K) : o.wpL P n t h K' := by
  unfold LOper.wpL at hw ⊢
  split
  · rename_i hg; simp only [hg] at hw; exact actL_mono hk hw
  · rename_i d want hg
    simp only [hg, getK_eq] at hw ⊢
    cases hl : lget t d <;> rw [hl] at hw <;> try exact hw
    · exact hk _ _ _ _ _ hw
    · cases want
      · exact iteP_mono (hk _ _ _ _ _) (actL_mono fun v u n rt rh => hk _ _ _ _ _) hw
      · exact iteP_mono (actL_mono fun v u n rt rh => hk _ _ _ _ _) (hk _ _ _ _ _) hw
theorem drops_mono {base : Nat} {K K' : List LVal → LHeap → Prop} (hk : ∀ t h, K t h → K' t h) : ∀ (l : List (Nat × List Nat × LOper)) {t : List LVal} {h : LHeap} {logs : List DLog}, dropsK P base l t h logs K → dropsK P base l t h logs K'
  | [], t, h, logs, hw => hk _ _ hw
  | (i, un, o) :: r, t, h, logs, hw => by
    simp only [dropsK_cons, natK_eq] at hw ⊢
    refine operL_mono (fun v u n rt rh x => ?_) hw
    split
    · rename_i hc
      simp only [hc] at x
      rw [applyK_eq, setDst_eq] at x ⊢
      exact drops_mono hk r x
    · rename_i hc
      simp only [hc] at x
theorem lwp_mono {L : Nat} : ∀ (c : LCode), Mono (fun Q => lwp P L c Q)
  | .skip, Q, Q', hq, t, h, hw => hq _ _ _ hw
  | .region ops, Q, Q', hq, t, h, hw => rops_mono hq ops hw
  | .draws ops, Q, Q', hq, t, h, hw => by
    simp only [lwp_draws, lenK_eq] at hw ⊢
    exact drops_mono (fun t h => hq _ t h) ops hw
  | .seq a b, Q, Q', hq, t, h, hw => by
    refine lwp_mono a _ _ ?_ t h hw
    intro e t h x
    cases e with
    | normal => exact lwp_mono b _ _ hq t h x
    | _ => exact hq _ _ _ x
  | .cond c x y, Q, Q', hq, t, h, hw => by
    refine opdK_mono (fun v hv => ?_) hw
    cases v <;> try exact hv.elim
    exact iteP_mono (lwp_mono x _ _ hq t h) (lwp_mono y _ _ hq t h) hv
  | .block id b, Q, Q', hq, t, h, hw => by
    refine lwp_mono b _ _ ?_ t h hw
    intro e t h x
    cases e with
    | normal => exact hq _ _ _ x
    | exit i =>
      simp only at x ⊢
      split
      · rename_i hb; simp only [hb] at x; exact hq _ _ _ x
      · rename_i hb; simp only [hb] at x; exact hq _ _ _ x
    | ret => exact hq _ _ _ x
    | panic v => exact hq _ _ _ x
  | .loop b, Q, Q', hq, t, h, hw => by
    obtain ⟨⟨⟨k, hk⟩⟩⟩ := hw
    exact ⟨⟨⟨k, iter_Q (lwp_mono b) hq t h hk⟩⟩⟩
  | .exit id, Q, Q', hq, t, h, hw => hq _ _ _ hw
  | .ret, Q, Q', hq, t, h, hw => hq _ _ _ hw
theorem Loop.inv {L : Nat} {b : LCode} {W : (LExit → List LVal → LHeap → Prop) → List LVal → LHeap → Prop} {Q : LExit → List LVal → LHeap → Prop} (hm : Mono (fun Q => lwp P L b Q)) (I : Nat → List LVal → LHeap → Prop) {t : List LVal} {h : LHeap} (h0 : ∃ t' h' n, Shift L t h t' h' ∧ I n t' h')
    (hr : ∀ n t' h', I n t' h' → lwp P L b (fun e t'' h'' => match e with
      | .normal => Again L I n t'' h''
      | e => Q e t'' h'') t' h') (hW : W = fun Q => lwp P L b Q := by rfl) : LoopB P L b W Q t h := by
  subst hW
  exact ⟨Loop.invW hm I h0 hr⟩
end
end Go.Proofs.Ytilmfhpoiejmfaa.Lh
