/- A region that draws its order, in the world. Over any program. -/
import Derived.Test.YtilmfhpoiejmfaaLh10b
namespace Go.Proofs.Ytilmfhpoiejmfaa.Lh
set_option linter.unusedSimpArgs false
set_option linter.unusedVariables false
set_option linter.unusedSectionVars false
open Go.RowKit
variable [Fz]
section
variable {T : Nat → Nat → Prop} {w0 : World} {P : Program}
theorem act_res {o : Oper} {lo : LOp} (hc : compileAct P o = some (.op lo)) {ρ : Pl} {t : List LVal} {h : LHeap} {a : Act} {w : World} {n : Nat} {Φ : LVal → List (Nat × Option LObj) → Option LObj → Prop} (hs : Sim T w0 ρ h w) (hn : ρ n = none) (hh : hget h n = none) (ht : TSim ρ t a) (hw : (opRd n lo).wp t h Φ) : Res P o a w T w0 ρ h n Φ := by
  unfold compileAct at hc
  split at hc
  · rename_i c ho
    split at hc
    · rename_i f hcal
      split at hc
      · rename_i g
        split at hc
        · rename_i k hk
          obtain ⟨lo', h1, hc⟩ := withO_some hc
          cases hc
          exact at_sound ho hcal hk h1 hs ht hw
        · obtain ⟨xs, _, hc⟩ := withO_some hc; cases hc
      · obtain ⟨xs, _, hc⟩ := withO_some hc; cases hc
      · cases hc
    · rename_i b hcal
      obtain ⟨x, h1, hc⟩ := withO_some hc
      cases hc
      exact builtin_sound ho hcal h1 hs hn hh ht hw
    · cases hc
  · obtain ⟨x, _, hc⟩ := withO_some hc; cases hc
  · obtain ⟨x, h1, hc⟩ := withO_some hc
    cases hc
    exact op_sound h1 hs hn hh ht hw
theorem run_live : ∀ (r : Rd) {t : List LVal} {h : LHeap} {v : LVal} {u : List (Nat × Option LObj)} {nw : Option LObj} {rt rh : List Nat}, r.Run t h v u nw rt rh → ∀ b ∈ rh, ∃ o, hget h b = some o
  | .ret v u nw, t, h, v', u', nw', rt, rh, hr, b, hb => by
    have := hr.2.2.2.2
    subst this
    cases hb
  | .tmp i k, t, h, v, u, nw, rt, rh, hr, b, hb => by
    obtain ⟨rt', _, h1⟩ := hr
    exact run_live _ h1 b hb
  | .obj c k, t, h, v, u, nw, rt, rh, hr, b, hb => by
    obtain ⟨rh', o, rfl, hg, h1⟩ := hr
    rcases List.mem_cons.1 hb with rfl | hb
    · exact ⟨o, hg⟩
    · exact run_live _ h1 b hb
  | .need p k, t, h, v, u, nw, rt, rh, hr, b, hb => run_live k hr.2 b hb
  | .ite c x y, t, h, v, u, nw, rt, rh, hr, b, hb => by
    cases c
    · exact run_live y hr b hb
    · exact run_live x hr b hb
  | .allB _ _, _, _, _, _, _, _, _, hr, _, _ => hr.elim
  | .fail, _, _, _, _, _, _, _, hr, _, _ => hr.elim
theorem emb_live {g : Nat → Nat} {H : LHeap} : ∀ (rh : List Nat) (h0 : LHeap), Emb g H rh h0 → h0.all (·.isSome) = true → ∀ b ∈ rh, ∃ o, hget H b = some o
  | [], [], _, _, b, hb => by cases hb
  | [], _ :: _, h, _, b, hb => by cases hb
  | _ :: _, [], h, _, b, hb => h.elim
  | e :: er, o :: r, h, ha, b, hb => by
    simp only [List.all_cons, Bool.and_eq_true] at ha
    rcases List.mem_cons.1 hb with rfl | hb
    · cases o with
      | none => exact absurd ha.1 (by decide)
      | some o => exact ⟨_, h.1⟩
    · exact emb_live er r h.2 ha.2 b hb
theorem act_live {n : Nat} {t : List LVal} {h : LHeap} {act : LAct} {v : LVal} {u : List (Nat × Option LObj)} {nw : Option LObj} {rt rh : List Nat} (hr : act.Run P n t h v u nw rt rh) : ∀ b ∈ rh, ∃ o, hget h b = some o := by
  cases act with
  | op o => exact run_live _ hr
  | call f xs =>
    obtain ⟨vs, _, ⟨⟨a0, h0, v0, _, _, _, _, e5, e6⟩⟩, _⟩ := hr
    exact emb_live rh h0 (e5 0) e6
  | callv x xs => exact hr.elim
  | panic x => exact hr.elim
theorem oper_live {n : Nat} {t : List LVal} {h : LHeap} {o : LOper} {v : LVal} {u : List (Nat × Option LObj)} {nw : Option LObj} {rt rh : List Nat} (hr : o.Run P n t h v u nw rt rh) : ∀ b ∈ rh, ∃ o, hget h b = some o := by
  unfold LOper.Run at hr
  split at hr
  · exact act_live hr
  · rcases hr with ⟨b, _, ⟨_, rt', _, e3⟩ | ⟨_, e3⟩⟩ | ⟨_, e3⟩
    · exact act_live e3
    · intro b hb; rw [e3.2.2.2.2] at hb; cases hb
    · intro b hb; rw [e3.2.2.2.2] at hb; cases hb
theorem apart_mono {n m : Nat} : ∀ (l : List Nat), apart n l = true → (∀ x ∈ l, x < m) → apart m l = true
  | [], _, _ => rfl
  | x :: r, h, hl => by
    simp only [apart, Bool.and_eq_true] at h ⊢
    refine ⟨⟨?_, h.1.2⟩, apart_mono r h.2 (fun y hy => hl y (by simp [hy]))⟩
    have := hl x (by simp)
    exact Nat.ble_eq ▸ this
theorem hset_len_eq (h : LHeap) (n : Nat) (o : Option LObj) (hn : n < h.length) : (hset h n o).length = h.length := by
  induction n generalizing h with
  | zero => cases h with
    | nil => simp at hn
    | cons x r => rfl
  | succ n ih => cases h with
    | nil => simp at hn
    | cons x r => simp [hset, ih r (by simpa using hn)]
theorem graft_len_eq {g : Nat → Nat} : ∀ (h : LHeap) (H : LHeap) (k : Nat), (∀ i, i < h.length → g (k + i) < H.length) → (graft g H k h).length = H.length
  | [], H, k, _ => rfl
  | o :: r, H, k, hg => by
    have h0 : g k < H.length := hg 0 (by simp)
    rw [graft, graft_len_eq r _ (k + 1) (fun i hi => by rw [hset_len_eq _ _ _ h0]; have := hg (i + 1) (by simpa using hi); rw [show k + 1 + i = k + (i + 1) by omega]; exact this), hset_len_eq _ _ _ h0]
/-- A pure call's run. -/
theorem pure_wp {o : Oper} {a : Act} {w : World} {next : Act → World → Prop} {Q : Exit → Act → World → Prop} {ρ : Pl} {t : List LVal} {h : LHeap} {f : FuncId} {xs : List LOpd} {vs : LVals} {rt rh : List Nat} {v : LVal} (hc : compileAct P o = some (.call f xs)) (hs : Sim T w0 ρ h w) (hf : ∀ i, h.length ≤ i → ρ i = none) (ht : TSim ρ t a) (ha : ArgsRun t xs vs rt) (c : CallPure P f vs h v rh)
    (hK : ∀ ρ' x w', Ext ρ ρ' → ρ'.at_ = ρ.at_ → PV ρ' v x → Sim T w0 ρ' h w' → next (a.put o.dst x) w') : o.wp P a w next Q := by
  have hlive := (act_live (P := P) (n := 0) (t := t) (h := h) (act := .call f xs) (v := v) (u := []) (nw := none) (rt := rt) (rh := rh) ⟨vs, ha, c, rfl, rfl⟩)
  have hlt : ∀ x ∈ rh, x < h.length := by
    intro x hx
    obtain ⟨ob, hob⟩ := hlive x hx
    rcases Nat.lt_or_ge x h.length with c | c
    · exact c
    · rw [hget_out h x c] at hob; cases hob
  obtain ⟨⟨args0, h0, v0, e1, e2, e3, e4, e5, e6⟩⟩ := c
  have hap := apart_mono rh e4 hlt
  have hfr := e1.frame rh hap (e5 h.length)
  obtain ⟨hel, hes⟩ := Emb.spec rh h0 (e5 h.length)
  have hargs : argsK t xs (fun us => callK P f us h (fun v' h' => v' = v ∧ h'.length = h.length ∧ Eqv h h') (fun _ _ => False)) := by
    refine argsK_congr' (fun us e => ?_) (args_K xs ha)
    subst e
    unfold callK
    rw [← e2 h.length]
    refine hfr.mono ?_
    rintro e H' ⟨r, h', ⟨rfl, rfl⟩, rfl, rfl⟩
    refine ⟨e3 h.length, ?_, ?_⟩
    · refine graft_len_eq _ _ _ (fun i hi => ?_)
      rw [Nat.zero_add]
      obtain ⟨x, q1, q2⟩ := embF_lt rh h.length i (by rw [hel]; exact hi)
      rw [q2]
      exact hlt x (List.mem_of_getElem? q1)
    · intro i
      rw [graft_get h' h 0 (fun i j _ _ q => embF_inj hap i j q) i]
      cases hfnd : (List.range h'.length).find? (fun j => embF rh h.length (0 + j) == i) with
      | none => rfl
      | some j =>
        have hx := List.find?_some hfnd
        have hx := eq_of_beq hx
        rw [Nat.zero_add] at hx
        have hj : j < h'.length := by simpa using List.mem_of_find?_eq_some hfnd
        obtain ⟨x, q1, q2⟩ := embF_lt rh h.length j (by rw [hel]; exact hj)
        rw [q2] at hx
        subst hx
        simp only
        have hsome := List.all_eq_true.1 e6
        have hob : ∃ ob, hget h' j = some ob := by
          have : ∀ (l : LHeap) (j : Nat), l.all (·.isSome) = true → j < l.length → ∃ ob, hget l j = some ob := by
            intro l
            induction l with
            | nil => intro j _ hj; simp at hj
            | cons y r ih =>
              intro j hl hj
              simp only [List.all_cons, Bool.and_eq_true] at hl
              cases j with
              | zero => exact Option.isSome_iff_exists.1 hl.1
              | succ j => exact ih j hl.2 (by simpa using hj)
          exact this h' j e6 hj
        obtain ⟨ob, hob⟩ := hob
        obtain ⟨x', q3, q4⟩ := hes j ob hob
        rw [q1] at q3; cases q3
        rw [hob, q4]; rfl
  refine act_wp (act := .call f xs) (K := fun v' h' => v' = v ∧ h'.length = h.length ∧ Eqv h h') (X := fun _ _ => False) hc hs hf ht hargs (fun v' h' ρ' x w' h1 h2 h3 => ?_) (fun v' h' ρ' x w' h1 h2 h3 => h1.elim)
  obtain ⟨rfl, q1, q2⟩ := h1
  have hρ : ρ'.at_ = ρ.at_ := by
    funext i
    rcases Nat.lt_or_ge i h.length with c | c
    · exact h3.keep i c
    · rw [hf i c, h3.fresh i (by omega)]
  exact hK ρ' x w' h3.ext hρ h2 (h3.sim.eqv (fun i => (q2 i).symm))
structure DInv (P : Program) (ops : Array Oper) (T : Nat → Nat → Prop) (w0 : World) (ρ0 : Pl) (base : Nat) (tf : List LVal) (hf : LHeap) (τ : List TRec) (listed : Array Bool) (a : Act) (w : World) (t : List LVal) (h : LHeap) (ρ : Pl) : Prop where
  valid : ∃ h', Valid P base τ t h tf h' ∧ Eqv h' hf
  ts : TSim ρ t a
  sim : Sim T w0 ρ h w
  nodef : a.defers = []
  size : listed.size = ops.size
  open_ : ∀ k, k < ops.size → (listed.getD k true = false ↔ ∃ r ∈ τ, r.i = k)
  sorted : τ.Pairwise (fun a b => a.i < b.i)
  comp : ∀ r ∈ τ, r.un = unord ops r.i ∧ ∃ o, ops[r.i]? = some o ∧ compileOper P ops o = some r.o
  conf : τ.Pairwise (fun a b => a.i ∈ b.un → okPair (a.log base) (b.log base) = true)
  sub : ∀ r ∈ τ, ∀ x ∈ fsts r.u, x ∈ r.rh
  un : ∀ r ∈ τ, ρ (base + r.i) = none ∧ hget h (base + r.i) = none
  down : ∀ k o, ops[k]? = some o → listed.getD k false = true → ∀ e ∈ o.after, Region.binds .any e = true → listed.getD e.on false = true
  ext : Ext ρ0 ρ
  keep : ∀ i, i < base → ρ i = ρ0 i
  fresh : ∀ i, h.length ≤ i → ρ i = none
  freshf : ∀ i, hf.length ≤ i → ρ i = none
  newf : ∀ r ∈ τ, r.nw ≠ none → base + r.i < hf.length
  lenf : base ≤ hf.length
  len : base ≤ h.length
theorem DInv.step {ops : Array Oper} {ρ0 : Pl} {base : Nat} {tf : List LVal} {hf : LHeap} {τ1 τ2 : List TRec} {r : TRec} {listed : Array Bool} {a : Act} {w : World} {t : List LVal} {h : LHeap} {ρ : Pl} (I : DInv P ops T w0 ρ0 base tf hf (τ1 ++ r :: τ2) listed a w t h ρ) (hrun : r.o.Run P (base + r.i) t h r.v r.u r.nw r.rt r.rh) {h2 : LHeap} (hv : Valid P base (τ1 ++ τ2) (tset t r.o.dst r.v) (applyU h r.u (base + r.i) r.nw) tf h2) (he : Eqv h2 hf)
    {o : Oper} (ho : ops[r.i]? = some o) (hdeps : ∀ e ∈ o.after, Region.binds .any e = true → listed.getD e.on false = true) {ρ' : Pl} {w' : World} {a' : Act} (hext : Ext ρ ρ') (hkeep : ∀ i, (i ≠ base + r.i ∨ r.nw = none) → ρ' i = ρ i) (hts : TSim ρ' (tset t r.o.dst r.v) a') (hsim : Sim T w0 ρ' (applyU h r.u (base + r.i) r.nw) w') (hd : a'.defers = []) :
    DInv P ops T w0 ρ0 base tf hf (τ1 ++ τ2) (listed.setIfInBounds r.i true) a' w' (tset t r.o.dst r.v) (applyU h r.u (base + r.i) r.nw) ρ' := by
  have hri : r.i < ops.size := (Array.getElem?_eq_some_iff.1 ho).1
  have mem_old : ∀ x ∈ τ1 ++ τ2, x ∈ τ1 ++ r :: τ2 := by
    intro x hx
    rcases List.mem_append.1 hx with h | h
    · exact List.mem_append.2 (.inl h)
    · exact List.mem_append.2 (.inr (List.mem_cons_of_mem _ h))
  have hne : ∀ x ∈ τ1 ++ τ2, x.i ≠ r.i := by
    have hs := I.sorted
    rw [List.pairwise_append] at hs
    obtain ⟨_, s2, s3⟩ := hs
    rw [List.pairwise_cons] at s2
    intro x hx
    rcases List.mem_append.1 hx with h | h
    · have := s3 x h r (by simp); omega
    · have := s2.1 x h; omega
  have hlen := applyU_length h r.u (base + r.i) r.nw
  have rmem : r ∈ τ1 ++ r :: τ2 := by simp
  have sub : List.Sublist (τ1 ++ τ2) (τ1 ++ r :: τ2) := List.Sublist.append_left (List.sublist_cons_self r τ2) τ1
  refine ⟨⟨h2, hv, he⟩, hts, hsim, hd, by simp [I.size], ?_, I.sorted.sublist sub, fun x hx => I.comp x (mem_old x hx), I.conf.sublist sub, fun x hx => I.sub x (mem_old x hx), ?_, ?_, I.ext.trans hext, ?_, ?_, ?_, fun x hx => I.newf x (mem_old x hx), I.lenf, Nat.le_trans I.len hlen.1⟩
  · intro k hk
    by_cases c : r.i = k
    · subst c
      constructor
      · intro hx
        rw [Array.getD_eq_getD_getElem?, Array.getElem?_setIfInBounds_self_of_lt (by rw [I.size]; exact hk)] at hx
        cases hx
      · rintro ⟨x, hx, e⟩; exact absurd e (hne x hx)
    · rw [getD_set_ne true c, I.open_ k hk]
      constructor
      · rintro ⟨x, hx, rfl⟩
        rcases List.mem_append.1 hx with h | h
        · exact ⟨x, List.mem_append.2 (.inl h), rfl⟩
        · rcases List.mem_cons.1 h with rfl | h
          · exact absurd rfl c
          · exact ⟨x, List.mem_append.2 (.inr h), rfl⟩
      · rintro ⟨x, hx, rfl⟩; exact ⟨x, mem_old x hx, rfl⟩
  · intro x hx
    obtain ⟨u1, u2⟩ := I.un x (mem_old x hx)
    have hxi := hne x hx
    refine ⟨by rw [hkeep _ (.inl (by omega))]; exact u1, ?_⟩
    rw [applyU_out ?_]
    · exact u2
    · have hnu : base + x.i ∉ fsts r.u := by
        intro hm
        obtain ⟨ob, hob⟩ := oper_live hrun _ (I.sub r rmem _ hm)
        rw [u2] at hob; cases hob
      unfold whOf
      split
      · exact hnu
      · simp only [List.mem_cons, not_or]
        exact ⟨by omega, hnu⟩
  · intro k o' ho' hk e hee hb
    by_cases c : r.i = k
    · subst c
      rw [ho] at ho'
      cases ho'
      exact getD_set_true (hdeps e hee hb)
    · rw [getD_set_ne false c] at hk
      exact getD_set_true (I.down k o' ho' hk e hee hb)
  · intro i hi
    rw [hkeep i (.inl (by omega))]
    exact I.keep i hi
  · intro i hi
    rw [hkeep i ?_]
    · exact I.fresh i (Nat.le_trans hlen.1 hi)
    · by_cases c : r.nw = none
      · exact .inr c
      · have := hlen.2 c; exact .inl (by omega)
  · intro i hi
    rw [hkeep i ?_]
    · exact I.freshf i hi
    · by_cases c : r.nw = none
      · exact .inr c
      · have := I.newf r rmem c; exact .inl (by omega)
theorem yields_bool {ρ : Pl} {ops : Array Oper} {a : Act} {j d : Nat} {b : Bool} (hd : (ops[j]?).bind (·.dst) = some d) (hv : PV ρ (.bool b) (a.tmps.getD d undef)) : yielded ops a.tmps j = some b := by
  have hb : a.tmps.getD d undef = .bool b := hv
  unfold yielded
  have hlt : a.tmps[d]? = some (.bool b) := by
    rw [Array.getD_eq_getD_getElem?] at hb
    cases hq : a.tmps[d]? with
    | none => rw [hq] at hb; cases hb
    | some z => rw [hq] at hb; simpa using hb
  rw [hd]
  simp [hlt]
theorem yields_undef {ρ : Pl} {ops : Array Oper} {a : Act} {j d : Nat} (hd : (ops[j]?).bind (·.dst) = some d) (hv : PV ρ .undef (a.tmps.getD d undef)) : yielded ops a.tmps j = none := by
  have e : a.tmps.getD d undef = undef := hv
  unfold yielded
  rw [hd]
  rw [Array.getD_eq_getD_getElem?] at e
  simp only [Option.bind_some]
  cases hq : a.tmps[d]? with
  | none => rfl
  | some z =>
    rw [hq] at e
    have : z = undef := by simpa using e
    subst this; rfl
theorem draws_any {ops : Array Oper} {ρ0 : Pl} {h0 : LHeap} {base : Nat} (hbase : base = h0.length) {tf : List LVal} {hf : LHeap} {Q : LExit → List LVal → LHeap → Prop} (hq : Q .normal tf hf) (hao : afterOk ops = true) : ∀ (fuel : Nat) (τ : List TRec) (listed : Array Bool) (a : Act) (w : World) (t : List LVal) (h : LHeap) (ρ : Pl), τ.length = fuel → DInv P ops T w0 ρ0 base tf hf τ listed a w t h ρ → wpAny P .any ops (PQ T w0 ρ0 h0 Q) fuel listed a w := by
  intro fuel
  induction fuel with
  | zero =>
    intro τ listed a w t h ρ hlen I
    have : τ = [] := List.eq_nil_of_length_eq_zero hlen
    subst this
    obtain ⟨h', ⟨rfl, rfl⟩, he⟩ := I.valid
    refine ⟨?_, .normal, _, hf, ρ, hq, trivial, I.ts, ⟨I.ext, fun i hi => I.keep i (by omega), I.sim.eqv he, I.freshf, by rw [← hbase]; exact I.lenf⟩, I.nodef⟩
    cases hr : Region.ready .any ops listed with
    | nil => rfl
    | cons j rs =>
      have hj : j ∈ Region.ready .any ops listed := by rw [hr]; simp
      obtain ⟨h1, o, ho, _⟩ := mem_ready.1 hj
      obtain ⟨x, hx, _⟩ := (I.open_ j (Array.getElem?_eq_some_iff.1 ho).1).1 h1
      cases hx
  | succ fuel ih =>
    intro τ listed a w t h ρ hlen I
    refine ⟨fun hr => ?_, fun j hj => ?_⟩
    · -- the first one that is left may come up
      exfalso
      cases τ with
      | nil => simp at hlen
      | cons r τ =>
        obtain ⟨_, o, ho, _⟩ := I.comp r (by simp)
        have hri := (Array.getElem?_eq_some_iff.1 ho).1
        have hopen := (I.open_ r.i hri).2 ⟨r, by simp, rfl⟩
        have : r.i ∈ Region.ready .any ops listed := by
          refine mem_ready.2 ⟨hopen, o, ho, fun e he hb => ?_⟩
          have hlt := afterOk_spec hao ho he hb
          rcases Bool.eq_false_or_eq_true (listed.getD e.on false) with c | c
          · exact c
          · exfalso
            have hsz : e.on < listed.size := by rw [I.size]; omega
            have c' : listed.getD e.on true = false := by
              rw [Array.getD_eq_getD_getElem?, Array.getElem?_eq_getElem hsz] at c ⊢
              exact c
            obtain ⟨x, hx, hxi⟩ := (I.open_ e.on (by omega)).1 c'
            have hs := I.sorted
            rw [List.pairwise_cons] at hs
            rcases List.mem_cons.1 hx with rfl | hx
            · omega
            · have := hs.1 x hx; omega
        rw [hr] at this
        cases this
    · obtain ⟨h1, o, ho, hdeps⟩ := mem_ready.1 hj
      have hjs := (Array.getElem?_eq_some_iff.1 ho).1
      obtain ⟨r, hr, hri⟩ := (I.open_ j hjs).1 h1
      obtain ⟨τ1, τ2, rfl⟩ := List.append_of_mem hr
      subst hri
      obtain ⟨hun, o', ho', hco⟩ := I.comp r (by simp)
      rw [ho] at ho'
      cases ho'
      have hok : ∀ x ∈ τ1, okPair (x.log base) (r.log base) = true := by
        intro x hx
        have hs := I.sorted
        have hc := I.conf
        rw [List.pairwise_append] at hs hc
        have hlt := hs.2.2 x hx r (by simp)
        refine hc.2.2 x hx r (by simp) ?_
        rw [hun, unord, List.mem_filter, List.mem_range]
        refine ⟨hlt, ?_⟩
        rw [Bool.not_eq_true', ← Bool.not_eq_true, memB_iff]
        intro hm
        have hl := ancs_listed I.down _ _ o ho hdeps _ hm
        have hxo := (I.open_ x.i (by omega)).2 ⟨x, by simp [hx], rfl⟩
        have hsz : x.i < listed.size := by rw [I.size]; omega
        rw [Array.getD_eq_getD_getElem?, Array.getElem?_eq_getElem hsz] at hl hxo
        simp only [Option.getD_some] at hl hxo
        rw [hl] at hxo
        cases hxo
      obtain ⟨hf', hval, hee⟩ := I.valid
      obtain ⟨hrun, h2, hv2, he2⟩ := bubble τ1 r τ2 hval hok
      have he3 : Eqv h2 hf := fun i => (he2 i).symm.trans (hee i)
      have next : ∀ {ρ' : Pl} {w' : World} {a' : Act}, Ext ρ ρ' → (∀ i, (i ≠ base + r.i ∨ r.nw = none) → ρ' i = ρ i) → TSim ρ' (tset t r.o.dst r.v) a' → Sim T w0 ρ' (applyU h r.u (base + r.i) r.nw) w' → a'.defers = [] → wpAny P .any ops (PQ T w0 ρ0 h0 Q) fuel (listed.setIfInBounds r.i true) a' w' := by
        intro ρ' w' a' q1 q2 q3 q4 q5
        exact ih (τ1 ++ τ2) _ a' w' _ _ ρ' (by simp at hlen ⊢; omega) (I.step hrun hv2 he3 ho hdeps q1 q2 q3 q4 q5)
      obtain ⟨hun1, hun2⟩ := I.un r (by simp)
      obtain ⟨act, hact, hco⟩ := withO_some hco
      have tsput : ∀ {ρ' : Pl} {x : Value} {d : Option Nat}, d = o.dst → Ext ρ ρ' → PV ρ' r.v x → TSim ρ' (tset t d r.v) (a.put o.dst x) := by
        intro ρ' x d hd e hx
        subst hd
        have := I.ts.ext e
        cases hdst : o.dst with
        | none => exact this
        | some d => exact this.set d hx
      have runA : r.o.dst = o.dst → ∀ {rt : List Nat}, act.Run P (base + r.i) t h r.v r.u r.nw rt r.rh → o.wp P a w (wpAny P .any ops (PQ T w0 ρ0 h0 Q) fuel (listed.setIfInBounds r.i true)) (PQ T w0 ρ0 h0 Q) := by
        intro hdst rt hA
        cases act with
        | op lo =>
          obtain ⟨v, u, nw, x, ρ', w', ⟨rfl, rfl, rfl⟩, g2, g3, g4, g5, g6⟩ := act_res hact I.sim hun1 hun2 I.ts (run_wp _ hA)
          have := next g3 g4 (tsput hdst g3 g5) g6 (by rw [put_defers']; exact I.nodef)
          unfold Oper.wp
          rcases g2 with g2 | ⟨g2, rfl⟩
          · rw [g2]; exact this
          · rw [g2]; exact this
        | call f xs =>
          obtain ⟨vs, q1, q2, q3, q4⟩ := hA
          refine pure_wp hact I.sim I.fresh I.ts q1 q2 (fun ρ' x w' g3 g4 g1 g2 => ?_)
          refine next g3 (fun i _ => congrFun g4 i) (tsput hdst g3 g1) ?_ (by rw [put_defers']; exact I.nodef)
          rw [q3, q4]
          exact g2
        | callv x xs => exact hA.elim
        | panic x => exact hA.elim
      have skipA : r.o.dst = o.dst → ∀ {d : Nat}, Skip d r.v r.u r.nw r.rt r.rh → wpAny P .any ops (PQ T w0 ρ0 h0 Q) fuel (listed.setIfInBounds r.i true) (a.put o.dst undef) w := by
        intro hdst d hS
        obtain ⟨q1, q2, q3, _⟩ := hS
        refine next (Ext.refl ρ) (fun _ _ => rfl) (tsput hdst (Ext.refl ρ) (by rw [q1]; rfl)) ?_ (by rw [put_defers']; exact I.nodef)
        rw [q2, q3]
        exact I.sim
      unfold wpOp
      simp only [ho]
      cases hg : o.guard with
      | none =>
        rw [hg] at hco
        have hr0 : r.o = ⟨o.dst, none, act⟩ := (Option.some.inj hco).symm
        have hdst : r.o.dst = o.dst := by rw [hr0]
        have hA : act.Run P (base + r.i) t h r.v r.u r.nw r.rt r.rh := by
          unfold LOper.Run at hrun
          rw [hr0] at hrun
          exact hrun
        rw [if_pos (by simp [Region.wanted, hg])]
        exact .inl (runA hdst hA)
      | some gw =>
        obtain ⟨j, want⟩ := gw
        rw [hg] at hco
        obtain ⟨d, hd1, hco⟩ := withO_some hco
        have hr0 : r.o = ⟨o.dst, some (d, want), act⟩ := (Option.some.inj hco).symm
        have hdst : r.o.dst = o.dst := by rw [hr0]
        have hrun' : (∃ b, lget t d = .bool b ∧ ((b = want ∧ ∃ rt', r.rt = d :: rt' ∧ act.Run P (base + r.i) t h r.v r.u r.nw rt' r.rh) ∨ (b ≠ want ∧ Skip d r.v r.u r.nw r.rt r.rh))) ∨ (lget t d = .undef ∧ Skip d r.v r.u r.nw r.rt r.rh) := by
          unfold LOper.Run at hrun
          rw [hr0] at hrun
          exact hrun
        have hvd := I.ts.2 d
        rcases hrun' with ⟨b, e1, ⟨e2, rt', _, e3⟩ | ⟨e2, e3⟩⟩ | ⟨e1, e3⟩
        · rw [e1] at hvd
          rw [if_pos (by simp [Region.wanted, hg, yields_bool hd1 hvd, e2])]
          exact .inl (runA hdst e3)
        · rw [e1] at hvd
          rw [if_neg (by simp [Region.wanted, hg, yields_bool hd1 hvd, e2])]
          exact skipA hdst e3
        · rw [e1] at hvd
          rw [if_neg (by simp [Region.wanted, hg, yields_undef hd1 hvd])]
          exact skipA hdst e3
theorem draws_wp {id : Nat} {ops : Array Oper} {los : List (Nat × List Nat × LOper)} {Q : LExit → List LVal → LHeap → Prop} {ρ : Pl} {t : List LVal} {h : LHeap} {a : Act} {w : World} (hm : P.follows .mixedOrders = true) (hao : afterOk ops = true) (hc : compileD P ops (List.range ops.size) = some los) (hs : Sim T w0 ρ h w) (hf : ∀ i, h.length ≤ i → ρ i = none) (ht : TSim ρ t a) (hd : a.defers = [])
    (hw : lenK h 0 fun base => dropsK P base los t h [] fun t h => Q .normal t h) : (Code.region id ops true).wp P (PQ T w0 ρ h Q) a w := by
  rw [lenK_eq, Nat.zero_add] at hw
  obtain ⟨τ, t', h', e1, e2, e3, e4, _, e6⟩ := drops_trace los hw
  obtain ⟨c1, c2⟩ := compileD_spec _ _ hc
  have hidx : τ.map (·.i) = List.range ops.size := by
    rw [← c1, ← e1, List.map_map]
    rfl
  have hcomp : ∀ r ∈ τ, r.un = unord ops r.i ∧ ∃ o, ops[r.i]? = some o ∧ compileOper P ops o = some r.o := by
    intro r hr
    have : (r.i, r.un, r.o) ∈ los := by rw [← e1]; exact List.mem_map.2 ⟨r, hr, rfl⟩
    obtain ⟨q1, o, q2, q3⟩ := c2 _ this
    exact ⟨q1, o, q2, q3⟩
  have hsorted : τ.Pairwise (fun a b => a.i < b.i) := by
    have : (τ.map (·.i)).Pairwise (· < ·) := by rw [hidx]; exact List.pairwise_lt_range
    rw [List.pairwise_map] at this
    exact this
  obtain ⟨v1, v2⟩ := valid_len τ e2
  have hgetF : ∀ k : Nat, k < ops.size → (Array.replicate ops.size false).getD k true = false := by
    intro k hk
    rw [Array.getD_eq_getD_getElem?, Array.getElem?_replicate, if_pos hk]
    rfl
  have hgetF' : ∀ k : Nat, (Array.replicate ops.size false).getD k false = false := by
    intro k
    rw [Array.getD_eq_getD_getElem?, Array.getElem?_replicate]
    split <;> rfl
  refine wp_region_any hm (draws_any (ρ0 := ρ) (h0 := h) rfl e3 hao ops.size τ _ a w.drew t h ρ (by have := congrArg List.length hidx; simpa using this) ?_)
  refine ⟨⟨h', e2, fun _ => rfl⟩, ht, hs.drew, hd, by simp, ?_, hsorted, hcomp, e4, e6, ?_, ?_, Ext.refl ρ, fun _ _ => rfl, hf, fun i hi => hf i (Nat.le_trans v1 hi), v2, v1, Nat.le_refl _⟩
  · intro k hk
    refine ⟨fun _ => ?_, fun _ => hgetF k hk⟩
    have : k ∈ τ.map (·.i) := by rw [hidx]; exact List.mem_range.2 hk
    obtain ⟨r, hr, e⟩ := List.mem_map.1 this
    exact ⟨r, hr, e⟩
  · intro r hr
    exact ⟨hf _ (by omega), hget_out _ _ (by omega)⟩
  · intro k o ho hk
    rw [hgetF' k] at hk
    cases hk
end
end Go.Proofs.Ytilmfhpoiejmfaa.Lh
