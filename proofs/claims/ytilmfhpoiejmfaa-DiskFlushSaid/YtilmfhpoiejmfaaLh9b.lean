/- A region that draws its order, on the heap of the mind: in the text's order, with what each operation reads and turns told; operations that are apart may change places. Over any program. -/
import Derived.Test.YtilmfhpoiejmfaaLh9a
namespace Go.Proofs.Ytilmfhpoiejmfaa.Lh
set_option linter.unusedSimpArgs false
set_option linter.unusedVariables false
set_option linter.unusedSectionVars false
open Go.RowKit
variable [Fz]
inductive LAct where
  | op (o : LOp)
  | call (f : FuncId) (xs : List LOpd)
  | callv (x : LOpd) (xs : List LOpd)
  | panic (x : LOpd)
structure LOper where
  dst : Option Nat
  guard : Option (Nat × Bool)
  act : LAct
def opdK (t : List LVal) : LOpd → (LVal → Prop) → Prop
  | .tmp i, K => getK t i K
  | .const v, K => K v
def argsK (t : List LVal) : List LOpd → (LVals → Prop) → Prop
  | [], K => K .nil
  | x :: r, K => opdK t x fun v => argsK t r fun vs => K (.cons v vs)
def appVs : LVals → LVals → LVals
  | .nil, c => c
  | .cons v r, c => .cons v (appVs r c)
def appVsK : LVals → LVals → (LVals → Prop) → Prop
  | .nil, c, K => K c
  | .cons v r, c, K => appVsK r c fun x => K (.cons v x)
theorem appVsK_eq : ∀ (a c : LVals) (K : LVals → Prop), appVsK a c K = K (appVs a c)
  | .nil, c, K => rfl
  | .cons v r, c, K => by simp only [appVsK, appVs, appVsK_eq r c]
theorem opdK_congr' {t : List LVal} {x : LOpd} {K K' : LVal → Prop} (hk : ∀ v, K v → K' v) (h : opdK t x K) : opdK t x K' := by
  cases x with
  | tmp i => simp only [opdK, getK_eq] at h ⊢; exact hk _ h
  | const v => exact hk _ h
theorem argsK_congr' {t : List LVal} : ∀ {xs : List LOpd} {K K' : LVals → Prop} (_ : ∀ v, K v → K' v) (_ : argsK t xs K), argsK t xs K'
  | [], K, K', hk, h => hk _ h
  | x :: r, K, K', hk, h => opdK_congr' (fun v hv => argsK_congr' (fun vs => hk _) hv) h
def iteP (b : Bool) (x y : Prop) : Prop :=
  match b with
  | true => x
  | false => y
theorem iteP_intro {b : Bool} {x y : Prop} (hx : b = true → x) (hy : b = false → y) : iteP b x y := by
  cases b
  · exact hy rfl
  · exact hx rfl
theorem iteP_elim {b : Bool} {x y : Prop} (h : iteP b x y) : (b = true ∧ x) ∨ (b = false ∧ y) := by
  cases b
  · exact .inr ⟨rfl, h⟩
  · exact .inl ⟨rfl, h⟩
def setDst (t : List LVal) (d : Option Nat) (v : LVal) (K : List LVal → Prop) : Prop :=
  match d with
  | none => K t
  | some d => setK t d v K
/-- What a reader comes to, and what it has read. -/
def Rd.Run : Rd → List LVal → LHeap → LVal → List (Nat × Option LObj) → Option LObj → List Nat → List Nat → Prop
  | .ret v u nw, _, _, v', u', nw', rt, rh => v' = v ∧ u' = u ∧ nw' = nw ∧ rt = [] ∧ rh = []
  | .tmp i k, t, h, v, u, nw, rt, rh => ∃ rt', rt = i :: rt' ∧ (k (lget t i)).Run t h v u nw rt' rh
  | .obj b k, t, h, v, u, nw, rt, rh => ∃ rh' o, rh = b :: rh' ∧ hget h b = some o ∧ (k o).Run t h v u nw rt rh'
  | .need p k, t, h, v, u, nw, rt, rh => p ∧ k.Run t h v u nw rt rh
  | .ite b x y, t, h, v, u, nw, rt, rh => match b with
    | true => x.Run t h v u nw rt rh
    | false => y.Run t h v u nw rt rh
  | .allB _ _, _, _, _, _, _, _, _ => False
  | .fail, _, _, _, _, _, _, _ => False
abbrev LK := LVal → List (Nat × Option LObj) → Option LObj → List Nat → List Nat → Prop
def Rd.wpL : Rd → List LVal → LHeap → LK → Prop
  | .ret v u nw, _, _, K => K v u nw [] []
  | .tmp i k, t, h, K => getK t i fun x => (k x).wpL t h fun v u nw rt rh => K v u nw (i :: rt) rh
  | .obj b k, t, h, K => hgetK h b (fun o => (k o).wpL t h fun v u nw rt rh => K v u nw rt (b :: rh)) False
  | .need p k, t, h, K => p ∧ k.wpL t h K
  | .ite b x y, t, h, K => match b with
    | true => x.wpL t h K
    | false => y.wpL t h K
  | .allB _ _, _, _, _ => False
  | .fail, _, _, _ => False
theorem wpL_run : ∀ (r : Rd) {t : List LVal} {h : LHeap} {K : LK}, r.wpL t h K → ∃ v u nw rt rh, r.Run t h v u nw rt rh ∧ K v u nw rt rh
  | .ret v u nw, t, h, K, hw => ⟨v, u, nw, [], [], ⟨rfl, rfl, rfl, rfl, rfl⟩, hw⟩
  | .tmp i k, t, h, K, hw => by
    simp only [Rd.wpL, getK_eq] at hw
    obtain ⟨v, u, nw, rt, rh, h1, h2⟩ := wpL_run _ hw
    exact ⟨v, u, nw, i :: rt, rh, ⟨rt, rfl, h1⟩, h2⟩
  | .obj b k, t, h, K, hw => by
    simp only [Rd.wpL, hgetK_eq] at hw
    cases hg : hget h b with
    | none => rw [hg] at hw; exact hw.elim
    | some o =>
      rw [hg] at hw
      obtain ⟨v, u, nw, rt, rh, h1, h2⟩ := wpL_run _ hw
      exact ⟨v, u, nw, rt, b :: rh, ⟨rh, o, rfl, hg, h1⟩, h2⟩
  | .need p k, t, h, K, hw => by
    obtain ⟨v, u, nw, rt, rh, h1, h2⟩ := wpL_run k hw.2
    exact ⟨v, u, nw, rt, rh, ⟨hw.1, h1⟩, h2⟩
  | .ite b x y, t, h, K, hw => by
    cases b
    · exact wpL_run y hw
    · exact wpL_run x hw
  | .allB _ _, _, _, _, hw => hw.elim
  | .fail, _, _, _, hw => hw.elim
theorem run_wp : ∀ (r : Rd) {t : List LVal} {h : LHeap} {v : LVal} {u : List (Nat × Option LObj)} {nw : Option LObj} {rt rh : List Nat}, r.Run t h v u nw rt rh → r.wp t h (fun v' u' nw' => v' = v ∧ u' = u ∧ nw' = nw)
  | .ret v u nw, t, h, v', u', nw', rt, rh, hr => ⟨hr.1.symm, hr.2.1.symm, hr.2.2.1.symm⟩
  | .tmp i k, t, h, v, u, nw, rt, rh, hr => by
    obtain ⟨rt', _, h1⟩ := hr
    simp only [Rd.wp, getK_eq]
    exact run_wp _ h1
  | .obj b k, t, h, v, u, nw, rt, rh, hr => by
    obtain ⟨rh', o, _, hg, h1⟩ := hr
    simp only [Rd.wp, hgetK_eq, hg]
    exact run_wp _ h1
  | .need p k, t, h, v, u, nw, rt, rh, hr => ⟨hr.1, run_wp k hr.2⟩
  | .ite b x y, t, h, v, u, nw, rt, rh, hr => by
    cases b
    · exact run_wp y hr
    · exact run_wp x hr
  | .allB _ _, _, _, _, _, _, _, _, hr => hr.elim
  | .fail, _, _, _, _, _, _, _, hr => hr.elim
theorem run_local : ∀ (r : Rd) {t t' : List LVal} {h h' : LHeap} {v : LVal} {u : List (Nat × Option LObj)} {nw : Option LObj} {rt rh : List Nat}, r.Run t h v u nw rt rh → (∀ i ∈ rt, lget t' i = lget t i) → (∀ b ∈ rh, hget h' b = hget h b) → r.Run t' h' v u nw rt rh
  | .ret v u nw, _, _, _, _, _, _, _, _, _, hr, _, _ => hr
  | .tmp i k, t, t', h, h', v, u, nw, rt, rh, hr, h1, h2 => by
    obtain ⟨rt', rfl, h3⟩ := hr
    refine ⟨rt', rfl, ?_⟩
    rw [h1 i (by simp)]
    exact run_local _ h3 (fun j hj => h1 j (by simp [hj])) h2
  | .obj b k, t, t', h, h', v, u, nw, rt, rh, hr, h1, h2 => by
    obtain ⟨rh', o, rfl, hg, h3⟩ := hr
    exact ⟨rh', o, rfl, by rw [h2 b (by simp)]; exact hg, run_local _ h3 h1 (fun j hj => h2 j (by simp [hj]))⟩
  | .need p k, _, _, _, _, _, _, _, _, _, hr, h1, h2 => ⟨hr.1, run_local k hr.2 h1 h2⟩
  | .ite b x y, _, _, _, _, _, _, _, _, _, hr, h1, h2 => by
    cases b
    · exact run_local y hr h1 h2
    · exact run_local x hr h1 h2
  | .allB _ _, _, _, _, _, _, _, _, _, _, hr, _, _ => hr.elim
  | .fail, _, _, _, _, _, _, _, _, _, hr, _, _ => hr.elim
/-- Operands read. -/
def ArgsRun (t : List LVal) : List LOpd → LVals → List Nat → Prop
  | [], vs, rt => vs = .nil ∧ rt = []
  | .tmp i :: r, vs, rt => ∃ vs' rt', vs = .cons (lget t i) vs' ∧ rt = i :: rt' ∧ ArgsRun t r vs' rt'
  | .const v :: r, vs, rt => ∃ vs', vs = .cons v vs' ∧ ArgsRun t r vs' rt
def argsLK (t : List LVal) : List LOpd → (LVals → List Nat → Prop) → Prop
  | [], K => K .nil []
  | .tmp i :: r, K => getK t i fun v => argsLK t r fun vs rt => K (.cons v vs) (i :: rt)
  | .const v :: r, K => argsLK t r fun vs rt => K (.cons v vs) rt
theorem argsLK_run {t : List LVal} : ∀ (xs : List LOpd) {K : LVals → List Nat → Prop}, argsLK t xs K → ∃ vs rt, ArgsRun t xs vs rt ∧ K vs rt
  | [], K, hw => ⟨.nil, [], ⟨rfl, rfl⟩, hw⟩
  | .tmp i :: r, K, hw => by
    simp only [argsLK, getK_eq] at hw
    obtain ⟨vs, rt, h1, h2⟩ := argsLK_run r hw
    exact ⟨_, _, ⟨vs, rt, rfl, rfl, h1⟩, h2⟩
  | .const v :: r, K, hw => by
    obtain ⟨vs, rt, h1, h2⟩ := argsLK_run r hw
    exact ⟨_, _, ⟨vs, rfl, h1⟩, h2⟩
theorem args_local {t t' : List LVal} : ∀ (xs : List LOpd) {vs : LVals} {rt : List Nat}, ArgsRun t xs vs rt → (∀ i ∈ rt, lget t' i = lget t i) → ArgsRun t' xs vs rt
  | [], vs, rt, hr, _ => hr
  | .tmp i :: r, vs, rt, hr, h1 => by
    obtain ⟨vs', rt', rfl, rfl, h2⟩ := hr
    exact ⟨vs', rt', by rw [h1 i (by simp)], rfl, args_local r h2 (fun j hj => h1 j (by simp [hj]))⟩
  | .const v :: r, vs, rt, hr, h1 => by
    obtain ⟨vs', rfl, h2⟩ := hr
    exact ⟨vs', rfl, args_local r h2 h1⟩
theorem args_K {t : List LVal} : ∀ (xs : List LOpd) {vs : LVals} {rt : List Nat}, ArgsRun t xs vs rt → argsK t xs (fun us => us = vs)
  | [], vs, rt, hr => hr.1.symm
  | .tmp i :: r, vs, rt, hr => by
    obtain ⟨vs', rt', rfl, rfl, h2⟩ := hr
    simp only [argsK, opdK, getK_eq]
    have := args_K r h2
    exact argsK_congr' (fun us e => by rw [e]) this
  | .const v :: r, vs, rt, hr => by
    obtain ⟨vs', rfl, h2⟩ := hr
    simp only [argsK, opdK]
    exact argsK_congr' (fun us e => by rw [e]) (args_K r h2)
/-- A call that leaves its blocks as they were. -/
structure CallPure (P : Program) (f : FuncId) (vs : LVals) (H : LHeap) (v : LVal) (rh : List Nat) : Prop where
  ex : ∃ args0 h0 v0, LCalls P f args0 h0 (fun e h' => e = .ret v0 ∧ h' = h0) ∧ (∀ n, rens (embF rh n) args0 = vs) ∧ (∀ n, ren (embF rh n) v0 = v) ∧ apart 1000000 rh = true ∧ (∀ n, Emb (embF rh n) H rh h0) ∧ h0.all (·.isSome) = true
theorem emb_local {g : Nat → Nat} {H H' : LHeap} : ∀ (rh : List Nat) (h0 : LHeap), Emb g H rh h0 → (∀ b ∈ rh, hget H' b = hget H b) → Emb g H' rh h0
  | [], [], h, _ => h
  | [], _ :: _, h, _ => h.elim
  | _ :: _, [], h, _ => h.elim
  | e :: er, o :: r, h, h1 => by
    refine ⟨?_, emb_local er r h.2 (fun b hb => h1 b (by simp [hb]))⟩
    have h2 := h.1
    cases o with
    | none => trivial
    | some o => rw [h1 e (by simp)]; exact h2
theorem CallPure.loc {P : Program} {f : FuncId} {vs : LVals} {H H' : LHeap} {v : LVal} {rh : List Nat} (c : CallPure P f vs H v rh) (h1 : ∀ b ∈ rh, hget H' b = hget H b) : CallPure P f vs H' v rh := by
  obtain ⟨⟨a, h0, v0, e1, e2, e3, e4, e5, e6⟩⟩ := c
  exact ⟨⟨a, h0, v0, e1, e2, e3, e4, fun n => emb_local rh h0 (e5 n) h1, e6⟩⟩
def LAct.Run (P : Program) (n : Nat) (t : List LVal) (h : LHeap) (v : LVal) (u : List (Nat × Option LObj)) (nw : Option LObj) (rt rh : List Nat) : LAct → Prop
  | .op o => (opRd n o).Run t h v u nw rt rh
  | .call f xs => ∃ vs, ArgsRun t xs vs rt ∧ CallPure P f vs h v rh ∧ u = [] ∧ nw = none
  | _ => False
def LAct.wpL (P : Program) (n : Nat) (t : List LVal) (h : LHeap) (K : LK) : LAct → Prop
  | .op o => (opRd n o).wpL t h K
  | .call f xs => argsLK t xs fun vs rt => ∃ v rh, CallPure P f vs h v rh ∧ K v [] none rt rh
  | _ => False
def Skip (d : Nat) (v : LVal) (u : List (Nat × Option LObj)) (nw : Option LObj) (rt rh : List Nat) : Prop := v = .undef ∧ u = [] ∧ nw = none ∧ rt = [d] ∧ rh = []
def LOper.Run (P : Program) (n : Nat) (o : LOper) (t : List LVal) (h : LHeap) (v : LVal) (u : List (Nat × Option LObj)) (nw : Option LObj) (rt rh : List Nat) : Prop :=
  match o.guard with
  | none => o.act.Run P n t h v u nw rt rh
  | some (d, want) => (∃ b, lget t d = .bool b ∧ ((b = want ∧ ∃ rt', rt = d :: rt' ∧ o.act.Run P n t h v u nw rt' rh) ∨ (b ≠ want ∧ Skip d v u nw rt rh))) ∨ (lget t d = .undef ∧ Skip d v u nw rt rh)
def LOper.wpL (P : Program) (n : Nat) (o : LOper) (t : List LVal) (h : LHeap) (K : LK) : Prop :=
  match o.guard with
  | none => o.act.wpL P n t h K
  | some (d, want) => getK t d fun x => match x with
    | .bool b => match want with
      | true => iteP b (o.act.wpL P n t h fun v u nw rt rh => K v u nw (d :: rt) rh) (K .undef [] none [d] [])
      | false => iteP b (K .undef [] none [d] []) (o.act.wpL P n t h fun v u nw rt rh => K v u nw (d :: rt) rh)
    | .undef => K .undef [] none [d] []
    | _ => False
theorem actL_run {P : Program} {n : Nat} {t : List LVal} {h : LHeap} {K : LK} {act : LAct} (hw : act.wpL P n t h K) : ∃ v u nw rt rh, act.Run P n t h v u nw rt rh ∧ K v u nw rt rh := by
  cases act with
  | op o => exact wpL_run _ hw
  | call f xs =>
    obtain ⟨vs, rt, h1, v, rh, h2, h3⟩ := argsLK_run xs hw
    exact ⟨v, [], none, rt, rh, ⟨vs, h1, h2, rfl, rfl⟩, h3⟩
  | callv x xs => exact hw.elim
  | panic x => exact hw.elim
theorem operL_run {P : Program} {n : Nat} {t : List LVal} {h : LHeap} {K : LK} {o : LOper} (hw : o.wpL P n t h K) : ∃ v u nw rt rh, o.Run P n t h v u nw rt rh ∧ K v u nw rt rh := by
  unfold LOper.wpL at hw
  unfold LOper.Run
  split at hw
  · exact actL_run hw
  · rename_i d want hg
    rw [getK_eq] at hw
    have hskip : ∀ {b : Bool}, lget t d = .bool b → b ≠ want → K .undef [] none [d] [] → ∃ v u nw rt rh, ((∃ b, lget t d = .bool b ∧ ((b = want ∧ ∃ rt', rt = d :: rt' ∧ o.act.Run P n t h v u nw rt' rh) ∨ (b ≠ want ∧ Skip d v u nw rt rh))) ∨ (lget t d = .undef ∧ Skip d v u nw rt rh)) ∧ K v u nw rt rh := by
      intro b h1 h2 h3
      exact ⟨.undef, [], none, [d], [], .inl ⟨b, h1, .inr ⟨h2, rfl, rfl, rfl, rfl, rfl⟩⟩, h3⟩
    have hrun : ∀ {b : Bool}, lget t d = .bool b → b = want → (o.act.wpL P n t h fun v u nw rt rh => K v u nw (d :: rt) rh) → ∃ v u nw rt rh, ((∃ b, lget t d = .bool b ∧ ((b = want ∧ ∃ rt', rt = d :: rt' ∧ o.act.Run P n t h v u nw rt' rh) ∨ (b ≠ want ∧ Skip d v u nw rt rh))) ∨ (lget t d = .undef ∧ Skip d v u nw rt rh)) ∧ K v u nw rt rh := by
      intro b h1 h2 h3
      obtain ⟨v, u, nw, rt, rh, h4, h5⟩ := actL_run h3
      exact ⟨v, u, nw, d :: rt, rh, .inl ⟨b, h1, .inl ⟨h2, rt, rfl, h4⟩⟩, h5⟩
    cases hl : lget t d <;> rw [hl] at hw hskip hrun <;> try exact hw.elim
    · exact ⟨.undef, [], none, [d], [], .inr ⟨rfl, rfl, rfl, rfl, rfl, rfl⟩, hw⟩
    · rename_i b
      cases want
      · rcases iteP_elim hw with ⟨hb, h1⟩ | ⟨hb, h1⟩
        · exact hskip rfl (by rw [hb]; decide) h1
        · exact hrun rfl hb h1
      · rcases iteP_elim hw with ⟨hb, h1⟩ | ⟨hb, h1⟩
        · exact hrun rfl hb h1
        · exact hskip rfl (by rw [hb]; decide) h1
theorem act_local {P : Program} {n : Nat} {t t' : List LVal} {h h' : LHeap} {act : LAct} {v : LVal} {u : List (Nat × Option LObj)} {nw : Option LObj} {rt rh : List Nat} (hr : act.Run P n t h v u nw rt rh) (h1 : ∀ i ∈ rt, lget t' i = lget t i) (h2 : ∀ b ∈ rh, hget h' b = hget h b) : act.Run P n t' h' v u nw rt rh := by
  cases act with
  | op o => exact run_local _ hr h1 h2
  | call f xs =>
    obtain ⟨vs, e1, e2, e3⟩ := hr
    exact ⟨vs, args_local xs e1 h1, e2.loc h2, e3⟩
  | callv x xs => exact hr.elim
  | panic x => exact hr.elim
theorem oper_local {P : Program} {n : Nat} {t t' : List LVal} {h h' : LHeap} {o : LOper} {v : LVal} {u : List (Nat × Option LObj)} {nw : Option LObj} {rt rh : List Nat} (hr : o.Run P n t h v u nw rt rh) (h1 : ∀ i ∈ rt, lget t' i = lget t i) (h2 : ∀ b ∈ rh, hget h' b = hget h b) : o.Run P n t' h' v u nw rt rh := by
  unfold LOper.Run at hr ⊢
  split
  · rename_i hg
    simp only [hg] at hr
    exact act_local hr h1 h2
  · rename_i d want hg
    simp only [hg] at hr
    rcases hr with ⟨b, e1, ⟨e2, rt', rfl, e3⟩ | ⟨e2, e3⟩⟩ | ⟨e1, e3⟩
    · exact .inl ⟨b, by rw [h1 d (by simp)]; exact e1, .inl ⟨e2, rt', rfl, act_local e3 (fun i hi => h1 i (by simp [hi])) h2⟩⟩
    · have := e3.2.2.2.1
      subst this
      exact .inl ⟨b, by rw [h1 d (by simp)]; exact e1, .inr ⟨e2, e3⟩⟩
    · have := e3.2.2.2.1
      subst this
      exact .inr ⟨by rw [h1 d (by simp)]; exact e1, e3⟩
/-- What an operation has read and turned. -/
structure DLog where
  i : Nat
  dst : Option Nat
  rt : List Nat
  rh : List Nat
  wh : List Nat
def memB (x : Nat) : List Nat → Bool
  | [] => false
  | y :: r => Nat.beq x y || memB x r
theorem memB_iff {x : Nat} {l : List Nat} : memB x l = true ↔ x ∈ l := by
  induction l with
  | nil => simp [memB]
  | cons y r ih => simp [memB, ih]
def disj : List Nat → List Nat → Bool
  | [], _ => true
  | x :: r, l => !(memB x l) && disj r l
theorem disj_iff {a b : List Nat} : disj a b = true ↔ ∀ x ∈ a, x ∉ b := by
  induction a with
  | nil => simp [disj]
  | cons x r ih =>
    simp only [disj, Bool.and_eq_true, Bool.not_eq_true', ih, List.mem_cons, forall_eq_or_imp]
    rw [← Bool.not_eq_true, memB_iff]
def dstL (d : Option Nat) : List Nat :=
  match d with
  | none => []
  | some d => [d]
def okPair (a b : DLog) : Bool := disj (dstL a.dst) b.rt && disj (dstL b.dst) a.rt && disj (dstL a.dst) (dstL b.dst) && disj a.wh b.rh && disj b.wh a.rh && disj a.wh b.wh
def chkLogs (un : List Nat) (l : DLog) : List DLog → Bool
  | [] => true
  | a :: r => (!(memB a.i un) || okPair a l) && chkLogs un l r
def fsts : List (Nat × Option LObj) → List Nat
  | [] => []
  | (i, _) :: r => i :: fsts r
def whOf (u : List (Nat × Option LObj)) (nw : Option LObj) (n : Nat) : List Nat :=
  match nw with
  | none => fsts u
  | some _ => n :: fsts u
def subB : List Nat → List Nat → Bool
  | [], _ => true
  | x :: r, l => memB x l && subB r l
theorem subB_spec {a b : List Nat} (h : subB a b = true) : ∀ x ∈ a, x ∈ b := by
  induction a with
  | nil => intro x hx; cases hx
  | cons y r ih =>
    simp only [subB, Bool.and_eq_true, memB_iff] at h
    intro x hx
    rcases List.mem_cons.1 hx with rfl | hx
    · exact h.1
    · exact ih h.2 x hx
def dropsK (P : Program) (base : Nat) : List (Nat × List Nat × LOper) → List LVal → LHeap → List DLog → (List LVal → LHeap → Prop) → Prop
  | [], t, h, _, K => K t h
  | (i, un, o) :: r, t, h, logs, K => natK (base + i) fun n => o.wpL P n t h fun v u nw rt rh =>
    match chkLogs un ⟨i, o.dst, rt, rh, whOf u nw n⟩ logs && subB (fsts u) rh with
    | true => applyK h u n nw fun h' => setDst t o.dst v fun t' => dropsK P base r t' h' (⟨i, o.dst, rt, rh, whOf u nw n⟩ :: logs) K
    | false => False
/-- An operation as it was done. -/
structure TRec where
  i : Nat
  un : List Nat
  o : LOper
  v : LVal
  u : List (Nat × Option LObj)
  nw : Option LObj
  rt : List Nat
  rh : List Nat
def TRec.log (base : Nat) (r : TRec) : DLog := ⟨r.i, r.o.dst, r.rt, r.rh, whOf r.u r.nw (base + r.i)⟩
def tset (t : List LVal) (d : Option Nat) (v : LVal) : List LVal :=
  match d with
  | none => t
  | some d => lset t d v
theorem setDst_eq (t : List LVal) (d : Option Nat) (v : LVal) (K : List LVal → Prop) : setDst t d v K = K (tset t d v) := by
  cases d <;> simp [setDst, tset, setK_eq]
def Valid (P : Program) (base : Nat) : List TRec → List LVal → LHeap → List LVal → LHeap → Prop
  | [], t, h, t', h' => t' = t ∧ h' = h
  | r :: τ, t, h, t', h' => r.o.Run P (base + r.i) t h r.v r.u r.nw r.rt r.rh ∧ Valid P base τ (tset t r.o.dst r.v) (applyU h r.u (base + r.i) r.nw) t' h'
theorem drops_trace {P : Program} {base : Nat} : ∀ (ops : List (Nat × List Nat × LOper)) {t : List LVal} {h : LHeap} {logs : List DLog} {K : List LVal → LHeap → Prop}, dropsK P base ops t h logs K →
    ∃ (τ : List TRec) (t' : List LVal) (h' : LHeap), τ.map (fun r => (r.i, r.un, r.o)) = ops ∧ Valid P base τ t h t' h' ∧ K t' h' ∧ τ.Pairwise (fun a b => a.i ∈ b.un → okPair (a.log base) (b.log base) = true) ∧ (∀ b ∈ τ, ∀ l ∈ logs, l.i ∈ b.un → okPair l (b.log base) = true) ∧ (∀ b ∈ τ, ∀ x ∈ fsts b.u, x ∈ b.rh)
  | [], t, h, logs, K, hw => ⟨[], t, h, rfl, ⟨rfl, rfl⟩, hw, List.Pairwise.nil, (fun b hb => by cases hb), (fun b hb => by cases hb)⟩
  | (i, un, o) :: r, t, h, logs, K, hw => by
    simp only [dropsK, natK_eq] at hw
    obtain ⟨v, u, nw, rt, rh, h1, h2⟩ := operL_run hw
    split at h2
    · rename_i hc
      simp only [Bool.and_eq_true] at hc
      rw [applyK_eq, setDst_eq] at h2
      obtain ⟨τ, t', h', e1, e2, e3, e4, e5, e6⟩ := drops_trace r h2
      let R : TRec := ⟨i, un, o, v, u, nw, rt, rh⟩
      have hchk : ∀ (logs : List DLog), chkLogs un (R.log base) logs = true → ∀ l ∈ logs, l.i ∈ un → okPair l (R.log base) = true := by
        intro logs
        induction logs with
        | nil => intro _ l hl; cases hl
        | cons a q ih =>
          intro hq l hl hm
          simp only [chkLogs, Bool.and_eq_true, Bool.or_eq_true, Bool.not_eq_true'] at hq
          rcases List.mem_cons.1 hl with rfl | hl
          · rcases hq.1 with c | c
            · rw [← Bool.not_eq_true, memB_iff] at c; exact absurd hm c
            · exact c
          · exact ih hq.2 l hl hm
      refine ⟨R :: τ, t', h', by simp [R, e1], ⟨h1, e2⟩, e3, ?_, ?_, ?_⟩
      · refine List.Pairwise.cons (fun b hb hm => ?_) e4
        exact e5 b hb (R.log base) (by exact List.mem_cons_self) hm
      · intro b hb l hl hm
        rcases List.mem_cons.1 hb with rfl | hb
        · exact hchk logs hc.1 l hl hm
        · exact e5 b hb l (List.mem_cons_of_mem _ hl) hm
      · intro b hb x hx
        rcases List.mem_cons.1 hb with rfl | hb
        · exact subB_spec hc.2 x hx
        · exact e6 b hb x hx
    · exact h2.elim
end Go.Proofs.Ytilmfhpoiejmfaa.Lh
