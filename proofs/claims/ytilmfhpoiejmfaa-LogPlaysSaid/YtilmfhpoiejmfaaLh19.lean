/- Regions that draw their order, cut where all that follows comes behind all that is ahead: such parts are run one behind the other, calls that lay new blocks among them. Over any program. Turned from the elder texts by a program of this session. -/
import Derived.Test.YtilmfhpoiejmfaaLh11
namespace Go.Proofs.Ytilmfhpoiejmfaa.Lh
set_option linter.unusedSimpArgs false
set_option linter.unusedVariables false
set_option linter.unusedSectionVars false
open Go.RowKit
variable [Fz]
section
variable {T : Nat → Nat → Prop} {w0 : World} {P : Program} {κ : Option Nat} {D : List Deferred}
/-- All from there on comes behind all ahead of it. -/
def Bar (ops : Array Oper) (m : Nat) : Prop := ∀ j x, m ≤ j → j < ops.size → x < m → x ∉ unord ops j
theorem mem_anc {ops : Array Oper} {j x : Nat} (h1 : x ∉ unord ops j) (hx : x < j) : x ∈ ancs ops ((j + 2) * (j + 2)) j := by
  unfold unord at h1
  rw [List.mem_filter, List.mem_range] at h1
  by_cases c : memB x (ancs ops ((j + 2) * (j + 2)) j) = true
  · exact (memB_iff).1 c
  · exact absurd ⟨hx, by simpa using c⟩ h1
theorem listed_of {listed : Array Bool} {n k : Nat} (hs : listed.size = n) (hk : k < n) (h : ¬ listed.getD k true = false) : listed.getD k false = true := by
  have hsz : k < listed.size := by omega
  rw [Array.getD_eq_getD_getElem?, Array.getElem?_eq_getElem hsz] at h ⊢
  simpa using h
theorem not_listed {listed : Array Bool} {n k : Nat} (hs : listed.size = n) (hk : k < n) (h : listed.getD k true = false) : ¬ listed.getD k false = true := by
  have hsz : k < listed.size := by omega
  rw [Array.getD_eq_getD_getElem?, Array.getElem?_eq_getElem hsz] at h ⊢
  simpa using h
theorem bar_down {ops : Array Oper} (hao : afterOk ops = true) {listed : Array Bool} {s : Nat} (hsz : listed.size = ops.size) (hl : ∀ k, k < ops.size → (listed.getD k true = false ↔ s ≤ k)) : ∀ k o, ops[k]? = some o → listed.getD k false = true → ∀ e ∈ o.after, Region.binds .any e = true → listed.getD e.on false = true := by
  intro k o hk hk2 e he hb
  have hks := (Array.getElem?_eq_some_iff.1 hk).1
  have hlt := afterOk_spec hao hk he hb
  have : ¬ s ≤ k := fun c => not_listed hsz hks ((hl k hks).2 c) hk2
  exact listed_of hsz (by omega) (fun x => by have := (hl e.on (by omega)).1 x; omega)
theorem bar_next {ops : Array Oper} {listed : Array Bool} {s : Nat} (hsz : listed.size = ops.size) (hl : ∀ k, k < ops.size → (listed.getD k true = false ↔ s ≤ k)) : ∀ k, k < ops.size → ((listed.setIfInBounds s true).getD k true = false ↔ s + 1 ≤ k) := by
  intro k hk
  by_cases c : s = k
  · subst c
    constructor
    · intro hx
      rw [Array.getD_eq_getD_getElem?, Array.getElem?_setIfInBounds_self_of_lt (by rw [hsz]; exact hk)] at hx
      cases hx
    · intro hx; omega
  · rw [getD_set_ne true c, hl k hk]
    omega
theorem ops_one {F : Fence} {n : Nat} {ops : Array Oper} {Q : Exit → Act → World → Prop} {X : Act → World → Prop} {i : Nat} {a : Act} {w : World} (h : wpOpsIn F n P ops (fun e a w => match e with
    | .normal => X a w
    | e => Q e a w) [i] a w) : wpOpIn F n P ops Q i X a w := by
  rw [wpOpsIn_cons] at h
  unfold wpOpIn at h ⊢
  split
  · rename_i ho
    rw [ho] at h
    exact h
  · rename_i o ho
    rw [ho] at h
    simp only at h
    split
    · rename_i hw
      rw [if_pos hw] at h
      refine ⟨h.1, ?_⟩
      have h2 := h.2
      have K1 : ∀ a w, wpOpsIn F n P ops (fun e a w => match e with
        | .normal => X a w
        | e => Q e a w) [] a w → X a w := fun _ _ h => h
      generalize (o.semAt F.round a.eval).run P w = res at h2 ⊢
      have out : LetsOut (fun e a w => match e with
        | .normal => X a w
        | e => Q e a w) → LetsOut Q := fun ⟨a', w1, q⟩ => ⟨a', w1, q⟩
      cases res with
      | ok nx w' =>
        cases nx <;> simp only [Oper.uponIn] at h2 ⊢ <;>
          first
            | exact K1 _ _ h2
            | exact ⟨h2.1, CallsIn.mono h2.2 (fun e w'' he => by cases e <;> first | exact K1 _ _ he | exact out he | exact he)⟩
            | exact ⟨h2.1, RowsIn.mono h2.2 (fun _ _ he => K1 _ _ he)⟩
            | exact ⟨h2.1, RoundIn.mono h2.2 (fun e w'' he => by cases e <;> first | exact K1 _ _ he | exact out he | exact he)⟩
      | halt x w' => cases x <;> simp only [Oper.uponIn] at h2 ⊢ <;> exact h2
    · rename_i hw
      rw [if_neg hw] at h
      exact ⟨h.1, h.2⟩
structure DInvT (m : Nat) (D : List Deferred) (P : Program) (ops : Array Oper) (T : Nat → Nat → Prop) (w0 : World) (ρ0 : Pl) (base : Nat) (tf : List LVal) (hf : LHeap) (τ : List TRec) (listed : Array Bool) (a : Act) (w : World) (t : List LVal) (h : LHeap) (ρ : Pl) : Prop where
  valid : ∃ h', Valid P base τ t h tf h' ∧ Eqv h' hf
  ts : TSim ρ t a
  sim : Sim T w0 ρ h w
  nodef : a.defers = D
  size : listed.size = ops.size
  open_ : ∀ k, k < ops.size → (listed.getD k true = false ↔ (∃ r ∈ τ, r.i = k) ∨ m ≤ k)
  lt : ∀ r ∈ τ, r.i < m
  sorted : τ.Pairwise (fun a b => a.i < b.i)
  comp : ∀ r ∈ τ, r.un = unord ops r.i ∧ ∃ o, ops[r.i]? = some o ∧ compileOper P ops o = some r.o
  conf : τ.Pairwise (fun a b => a.i ∈ b.un → okPair (a.log base) (b.log base) = true)
  sub : ∀ r ∈ τ, ∀ x ∈ fsts r.u, x ∈ r.rh
  un : ∀ r ∈ τ, ρ (base + r.i) = none ∧ hget h (base + r.i) = none
  down : ∀ k o, ops[k]? = some o → listed.getD k false = true → ∀ e ∈ o.after, Region.binds .any e = true → listed.getD e.on false = true
  ext : Ext ρ0 ρ
  keep : ∀ i, i < base → ρ i = ρ0 i
  fresh : ∀ i, h.length ≤ i → ρ i = none
  freshf : ∀ i, hf.length ≤ i → ρ i = none
  newf : ∀ r ∈ τ, r.nw ≠ none → base + r.i < hf.length
  lenf : base ≤ hf.length
  len : base ≤ h.length
theorem DInvT.step {m : Nat} {ops : Array Oper} {ρ0 : Pl} {base : Nat} {tf : List LVal} {hf : LHeap} {τ1 τ2 : List TRec} {r : TRec} {listed : Array Bool} {a : Act} {w : World} {t : List LVal} {h : LHeap} {ρ : Pl} (I : DInvT m D P ops T w0 ρ0 base tf hf (τ1 ++ r :: τ2) listed a w t h ρ) (hrun : r.o.Run P (base + r.i) t h r.v r.u r.nw r.rt r.rh) {h2 : LHeap} (hv : Valid P base (τ1 ++ τ2) (tset t r.o.dst r.v) (applyU h r.u (base + r.i) r.nw) tf h2) (he : Eqv h2 hf)
    {o : Oper} (ho : ops[r.i]? = some o) (hdeps : ∀ e ∈ o.after, Region.binds .any e = true → listed.getD e.on false = true) {ρ' : Pl} {w' : World} {a' : Act} (hext : Ext ρ ρ') (hkeep : ∀ i, (i ≠ base + r.i ∨ r.nw = none) → ρ' i = ρ i) (hts : TSim ρ' (tset t r.o.dst r.v) a') (hsim : Sim T w0 ρ' (applyU h r.u (base + r.i) r.nw) w') (hd : a'.defers = D) :
    DInvT m D P ops T w0 ρ0 base tf hf (τ1 ++ τ2) (listed.setIfInBounds r.i true) a' w' (tset t r.o.dst r.v) (applyU h r.u (base + r.i) r.nw) ρ' := by
  have hri : r.i < ops.size := (Array.getElem?_eq_some_iff.1 ho).1
  have mem_old : ∀ x ∈ τ1 ++ τ2, x ∈ τ1 ++ r :: τ2 := by
    intro x hx
    rcases List.mem_append.1 hx with h | h
    · exact List.mem_append.2 (.inl h)
    · exact List.mem_append.2 (.inr (List.mem_cons_of_mem _ h))
  have hne : ∀ x ∈ τ1 ++ τ2, x.i ≠ r.i := by
    have hs := I.sorted
    rw [List.pairwise_append] at hs
    obtain ⟨_, s2, s3⟩ := hs
    rw [List.pairwise_cons] at s2
    intro x hx
    rcases List.mem_append.1 hx with h | h
    · have := s3 x h r (by simp); omega
    · have := s2.1 x h; omega
  have hlen := applyU_length h r.u (base + r.i) r.nw
  have rmem : r ∈ τ1 ++ r :: τ2 := by simp
  have sub : List.Sublist (τ1 ++ τ2) (τ1 ++ r :: τ2) := List.Sublist.append_left (List.sublist_cons_self r τ2) τ1
  refine ⟨⟨h2, hv, he⟩, hts, hsim, hd, by simp [I.size], ?_, fun x hx => I.lt x (mem_old x hx), I.sorted.sublist sub, fun x hx => I.comp x (mem_old x hx), I.conf.sublist sub, fun x hx => I.sub x (mem_old x hx), ?_, ?_, I.ext.trans hext, ?_, ?_, ?_, fun x hx => I.newf x (mem_old x hx), I.lenf, Nat.le_trans I.len hlen.1⟩
  · intro k hk
    by_cases c : r.i = k
    · subst c
      constructor
      · intro hx
        rw [Array.getD_eq_getD_getElem?, Array.getElem?_setIfInBounds_self_of_lt (by rw [I.size]; exact hk)] at hx
        cases hx
      · rintro (⟨x, hx, e⟩ | hm)
        · exact absurd e (hne x hx)
        · have := I.lt r rmem; omega
    · rw [getD_set_ne true c, I.open_ k hk]
      constructor
      · rintro (⟨x, hx, rfl⟩ | hm)
        · rcases List.mem_append.1 hx with h | h
          · exact .inl ⟨x, List.mem_append.2 (.inl h), rfl⟩
          · rcases List.mem_cons.1 h with rfl | h
            · exact absurd rfl c
            · exact .inl ⟨x, List.mem_append.2 (.inr h), rfl⟩
        · exact .inr hm
      · rintro (⟨x, hx, rfl⟩ | hm)
        · exact .inl ⟨x, mem_old x hx, rfl⟩
        · exact .inr hm
  · intro x hx
    obtain ⟨u1, u2⟩ := I.un x (mem_old x hx)
    have hxi := hne x hx
    refine ⟨by rw [hkeep _ (.inl (by omega))]; exact u1, ?_⟩
    rw [applyU_out ?_]
    · exact u2
    · have hnu : base + x.i ∉ fsts r.u := by
        intro hm
        obtain ⟨ob, hob⟩ := oper_live hrun _ (I.sub r rmem _ hm)
        rw [u2] at hob; cases hob
      unfold whOf
      split
      · exact hnu
      · simp only [List.mem_cons, not_or]
        exact ⟨by omega, hnu⟩
  · intro k o' ho' hk e hee hb
    by_cases c : r.i = k
    · subst c
      rw [ho] at ho'
      cases ho'
      exact getD_set_true (hdeps e hee hb)
    · rw [getD_set_ne false c] at hk
      exact getD_set_true (I.down k o' ho' hk e hee hb)
  · intro i hi
    rw [hkeep i (.inl (by omega))]
    exact I.keep i hi
  · intro i hi
    rw [hkeep i ?_]
    · exact I.fresh i (Nat.le_trans hlen.1 hi)
    · by_cases c : r.nw = none
      · exact .inr c
      · have := hlen.2 c; exact .inl (by omega)
  · intro i hi
    rw [hkeep i ?_]
    · exact I.freshf i hi
    · by_cases c : r.nw = none
      · exact .inr c
      · have := I.newf r rmem c; exact .inl (by omega)
theorem drawsT_any {m : Nat} {ops : Array Oper} (hms : m ≤ ops.size) (htail : Bar ops m) {ρ0 : Pl} {h0 : LHeap} {base : Nat} (hbase : base = h0.length) {tf : List LVal} {hf : LHeap} {QQ : Exit → Act → World → Prop} (hK : ∀ (listed : Array Bool) (a : Act) (w : World) (ρ : Pl), listed.size = ops.size → (∀ k, k < ops.size → (listed.getD k true = false ↔ m ≤ k)) → Stp T w0 ρ0 h0 ρ hf w → TSim ρ tf a → a.defers = D → wpAnyIn (FW κ) 0 P .any ops QQ (ops.size - m) listed a w) (hao : afterOk ops = true) : ∀ (fuel : Nat) (τ : List TRec) (listed : Array Bool) (a : Act) (w : World) (t : List LVal) (h : LHeap) (ρ : Pl), τ.length = fuel → DInvT m D P ops T w0 ρ0 base tf hf τ listed a w t h ρ → wpAnyIn (FW κ) 0 P .any ops QQ (fuel + (ops.size - m)) listed a w := by
  intro fuel
  induction fuel with
  | zero =>
    intro τ listed a w t h ρ hlen I
    have : τ = [] := List.eq_nil_of_length_eq_zero hlen
    subst this
    obtain ⟨h', ⟨rfl, rfl⟩, he⟩ := I.valid
    have stp : Stp T w0 ρ0 h0 ρ hf w := ⟨I.ext, fun i hi => I.keep i (by omega), I.sim.eqv he, I.freshf, by rw [← hbase]; exact I.lenf⟩
    rw [Nat.zero_add]
    exact hK listed a w ρ I.size (fun k hk => (I.open_ k hk).trans ⟨fun h => h.resolve_left (fun ⟨x, hx, _⟩ => by cases hx), .inr⟩) stp I.ts I.nodef
  | succ fuel ih =>
    intro τ listed a w t h ρ hlen I
    rw [show fuel + 1 + (ops.size - m) = (fuel + (ops.size - m)) + 1 by omega]
    refine ⟨fun hr => ?_, fun j hj => ?_⟩
    · -- the first one that is left may come up
      exfalso
      cases τ with
      | nil => simp at hlen
      | cons r τ =>
        obtain ⟨_, o, ho, _⟩ := I.comp r (by simp)
        have hri := (Array.getElem?_eq_some_iff.1 ho).1
        have hopen := (I.open_ r.i hri).2 (.inl ⟨r, by simp, rfl⟩)
        have : r.i ∈ Region.ready .any ops listed := by
          refine mem_ready.2 ⟨hopen, o, ho, fun e he hb => ?_⟩
          have hlt := afterOk_spec hao ho he hb
          rcases Bool.eq_false_or_eq_true (listed.getD e.on false) with c | c
          · exact c
          · exfalso
            have hsz : e.on < listed.size := by rw [I.size]; omega
            have c' : listed.getD e.on true = false := by
              rw [Array.getD_eq_getD_getElem?, Array.getElem?_eq_getElem hsz] at c ⊢
              exact c
            obtain ⟨x, hx, hxi⟩ := ((I.open_ e.on (by omega)).1 c').resolve_right (by have := I.lt r (by simp); omega)
            have hs := I.sorted
            rw [List.pairwise_cons] at hs
            rcases List.mem_cons.1 hx with rfl | hx
            · omega
            · have := hs.1 x hx; omega
        rw [hr] at this
        cases this
    · obtain ⟨h1, o, ho, hdeps⟩ := mem_ready.1 hj
      have hjs := (Array.getElem?_eq_some_iff.1 ho).1
      have hcase : ∃ r ∈ τ, r.i = j := by
        rcases (I.open_ j hjs).1 h1 with c | c
        · exact c
        · exfalso
          obtain ⟨r0, hr0⟩ : ∃ r0, r0 ∈ τ := by
            cases τ with
            | nil => simp at hlen
            | cons r0 τ => exact ⟨r0, by simp⟩
          have hl0 := I.lt r0 hr0
          have hl := ancs_listed I.down _ _ o ho hdeps _ (mem_anc (htail j r0.i c hjs hl0) (by omega : r0.i < j))
          exact not_listed I.size (by omega) ((I.open_ r0.i (by omega)).2 (.inl ⟨r0, hr0, rfl⟩)) hl
      obtain ⟨r, hr, hri⟩ := hcase
      obtain ⟨τ1, τ2, rfl⟩ := List.append_of_mem hr
      subst hri
      obtain ⟨hun, o', ho', hco⟩ := I.comp r (by simp)
      rw [ho] at ho'
      cases ho'
      have hok : ∀ x ∈ τ1, okPair (x.log base) (r.log base) = true := by
        intro x hx
        have hs := I.sorted
        have hc := I.conf
        rw [List.pairwise_append] at hs hc
        have hlt := hs.2.2 x hx r (by simp)
        refine hc.2.2 x hx r (by simp) ?_
        rw [hun, unord, List.mem_filter, List.mem_range]
        refine ⟨hlt, ?_⟩
        rw [Bool.not_eq_true', ← Bool.not_eq_true, memB_iff]
        intro hm
        have hl := ancs_listed I.down _ _ o ho hdeps _ hm
        have hxo := (I.open_ x.i (by omega)).2 (.inl ⟨x, by simp [hx], rfl⟩)
        have hsz : x.i < listed.size := by rw [I.size]; omega
        rw [Array.getD_eq_getD_getElem?, Array.getElem?_eq_getElem hsz] at hl hxo
        simp only [Option.getD_some] at hl hxo
        rw [hl] at hxo
        cases hxo
      obtain ⟨hf', hval, hee⟩ := I.valid
      obtain ⟨hrun, h2, hv2, he2⟩ := bubble τ1 r τ2 hval hok
      have he3 : Eqv h2 hf := fun i => (he2 i).symm.trans (hee i)
      have next : ∀ {ρ' : Pl} {w' : World} {a' : Act}, Ext ρ ρ' → (∀ i, (i ≠ base + r.i ∨ r.nw = none) → ρ' i = ρ i) → TSim ρ' (tset t r.o.dst r.v) a' → Sim T w0 ρ' (applyU h r.u (base + r.i) r.nw) w' → a'.defers = D → wpAnyIn (FW κ) 0 P .any ops QQ (fuel + (ops.size - m)) (listed.setIfInBounds r.i true) a' w' := by
        intro ρ' w' a' q1 q2 q3 q4 q5
        exact ih (τ1 ++ τ2) _ a' w' _ _ ρ' (by simp at hlen ⊢; omega) (I.step hrun hv2 he3 ho hdeps q1 q2 q3 q4 q5)
      obtain ⟨hun1, hun2⟩ := I.un r (by simp)
      obtain ⟨act, hact, hco⟩ := withO_some hco
      have tsput : ∀ {ρ' : Pl} {x : Value} {d : Option Nat}, d = o.dst → Ext ρ ρ' → PV ρ' r.v x → TSim ρ' (tset t d r.v) (a.put o.dst x) := by
        intro ρ' x d hd e hx
        subst hd
        have := I.ts.ext e
        cases hdst : o.dst with
        | none => exact this
        | some d => exact this.set d hx
      have runA : r.o.dst = o.dst → ∀ {rt : List Nat}, act.Run P (base + r.i) t h r.v r.u r.nw rt r.rh → o.wpIn (FW κ) 0 P a w (wpAnyIn (FW κ) 0 P .any ops QQ (fuel + (ops.size - m)) (listed.setIfInBounds r.i true)) QQ := by
        intro hdst rt hA
        cases act with
        | op lo =>
          obtain ⟨v, u, nw, x, ρ', w', ⟨rfl, rfl, rfl⟩, g2, g3, g4, g5, g6⟩ := act_res hact I.sim hun1 hun2 I.ts (run_wp _ hA)
          have := next g3 g4 (tsput hdst g3 g5) g6 (by rw [put_defers']; exact I.nodef)
          refine wp_plain (compileAct_nd hact) ?_
          rcases g2 with g2 | ⟨g2, rfl⟩
          · rw [g2]; exact this
          · rw [g2]; exact this
        | call f xs =>
          obtain ⟨vs, q1, q2, q4⟩ := hA
          have hcall : callK P f vs h (fun v' h' => v' = r.v ∧ h'.length = h.length ∧ Eqv (updU h r.u) h') (fun _ _ => False) := by
            rcases q2 with ⟨c, q3⟩ | c
            · rw [q3]; exact pure_callK c
            · exact eff_callK c
          refine pure_wp (v := r.v) (h2 := updU h r.u) hact I.sim I.fresh I.ts (argsK_congr' (fun us e => by subst e; exact hcall) (args_K xs q1)) (fun ρ' x w' g3 g4 g1 g2 => ?_)
          refine next g3 (fun i _ => congrFun g4 i) (tsput hdst g3 g1) ?_ (by rw [put_defers']; exact I.nodef)
          rw [q4]
          exact g2
        | callv x xs =>
          cases x with
          | const _ => exact hA.elim
          | tmp i =>
            obtain ⟨f, c, vs, rt', q0, _, q1, q2, q3, q4⟩ := hA
            refine pure_wp (v := r.v) (h2 := h) hact I.sim I.fresh I.ts ?_ (fun ρ' x w' g3 g4 g1 g2 => ?_)
            · simp only [LAct.wp, opdK, getK_eq, q0]
              exact argsK_congr' (fun us e => by subst e; rw [appVsK_eq]; exact pure_callK q2) (args_K xs q1)
            · refine next g3 (fun i _ => congrFun g4 i) (tsput hdst g3 g1) ?_ (by rw [put_defers']; exact I.nodef)
              rw [q3, q4]
              exact g2
        | panic x => exact hA.elim
      have skipA : r.o.dst = o.dst → ∀ {d : Nat}, Skip d r.v r.u r.nw r.rt r.rh → wpAnyIn (FW κ) 0 P .any ops QQ (fuel + (ops.size - m)) (listed.setIfInBounds r.i true) (a.put o.dst undef) w := by
        intro hdst d hS
        obtain ⟨q1, q2, q3, _⟩ := hS
        refine next (Ext.refl ρ) (fun _ _ => rfl) (tsput hdst (Ext.refl ρ) (by rw [q1]; rfl)) ?_ (by rw [put_defers']; exact I.nodef)
        rw [q2, q3]
        exact I.sim
      unfold wpOpIn
      simp only [ho]
      cases hg : o.guard with
      | none =>
        rw [hg] at hco
        have hr0 : r.o = ⟨o.dst, none, act⟩ := (Option.some.inj hco).symm
        have hdst : r.o.dst = o.dst := by rw [hr0]
        have hA : act.Run P (base + r.i) t h r.v r.u r.nw r.rt r.rh := by
          unfold LOper.Run at hrun
          rw [hr0] at hrun
          exact hrun
        rw [if_pos (by simp [Region.wanted, hg])]
        exact runA hdst hA
      | some gw =>
        obtain ⟨j, want⟩ := gw
        rw [hg] at hco
        obtain ⟨d, hd1, hco⟩ := withO_some hco
        have hr0 : r.o = ⟨o.dst, some (d, want), act⟩ := (Option.some.inj hco).symm
        have hdst : r.o.dst = o.dst := by rw [hr0]
        have hrun' : (∃ b, lget t d = .bool b ∧ ((b = want ∧ ∃ rt', r.rt = d :: rt' ∧ act.Run P (base + r.i) t h r.v r.u r.nw rt' r.rh) ∨ (b ≠ want ∧ Skip d r.v r.u r.nw r.rt r.rh))) ∨ (lget t d = .undef ∧ Skip d r.v r.u r.nw r.rt r.rh) := by
          unfold LOper.Run at hrun
          rw [hr0] at hrun
          exact hrun
        have hvd := I.ts.2 d
        rcases hrun' with ⟨b, e1, ⟨e2, rt', _, e3⟩ | ⟨e2, e3⟩⟩ | ⟨e1, e3⟩
        · rw [e1] at hvd
          rw [if_pos (by simp [Region.wanted, hg, yields_bool hd1 hvd, e2])]
          exact runA hdst e3
        · rw [e1] at hvd
          rw [if_neg (by simp [Region.wanted, hg, yields_bool hd1 hvd, e2])]
          exact ⟨fun _ _ => trivial, skipA hdst e3⟩
        · rw [e1] at hvd
          rw [if_neg (by simp [Region.wanted, hg, yields_undef hd1 hvd])]
          exact ⟨fun _ _ => trivial, skipA hdst e3⟩
theorem drawsT_seg {m s n : Nat} {ops : Array Oper} {los : List (Nat × List Nat × LOper)} {K : List LVal → LHeap → Prop} {QQ : Exit → Act → World → Prop} {ρ : Pl} {t : List LVal} {h : LHeap} {a : Act} {w : World} {listed : Array Bool} (hao : afterOk ops = true) (hsn : s + n = m) (hms : m ≤ ops.size) (htail : Bar ops m) (hsz : listed.size = ops.size) (hl : ∀ k, k < ops.size → (listed.getD k true = false ↔ s ≤ k)) (hc : compileD P ops (List.range' s n) = some los) (hs : Sim T w0 ρ h w) (hf : ∀ i, h.length ≤ i → ρ i = none) (ht : TSim ρ t a) (hd : a.defers = D)
    (hK : ∀ (tf : List LVal) (hf : LHeap) (listed : Array Bool) (a : Act) (w : World) (ρ' : Pl), K tf hf → listed.size = ops.size → (∀ k, k < ops.size → (listed.getD k true = false ↔ m ≤ k)) → Stp T w0 ρ h ρ' hf w → TSim ρ' tf a → a.defers = D → wpAnyIn (FW κ) 0 P .any ops QQ (ops.size - m) listed a w)
    (hw : lenK h 0 fun base => dropsK P base los t h [] K) : wpAnyIn (FW κ) 0 P .any ops QQ (ops.size - s) listed a w := by
  rw [lenK_eq, Nat.zero_add] at hw
  obtain ⟨τ, t', h', e1, e2, e3, e4, _, e6⟩ := drops_trace los hw
  obtain ⟨c1, c2⟩ := compileD_spec _ _ hc
  have hidx : τ.map (·.i) = List.range' s n := by
    rw [← c1, ← e1, List.map_map]
    rfl
  have hcomp : ∀ r ∈ τ, r.un = unord ops r.i ∧ ∃ o, ops[r.i]? = some o ∧ compileOper P ops o = some r.o := by
    intro r hr
    have : (r.i, r.un, r.o) ∈ los := by rw [← e1]; exact List.mem_map.2 ⟨r, hr, rfl⟩
    obtain ⟨q1, o, q2, q3⟩ := c2 _ this
    exact ⟨q1, o, q2, q3⟩
  have hsorted : τ.Pairwise (fun a b => a.i < b.i) := by
    have : (τ.map (·.i)).Pairwise (· < ·) := by rw [hidx]; exact List.pairwise_lt_range'
    rw [List.pairwise_map] at this
    exact this
  obtain ⟨v1, v2⟩ := valid_len τ e2
  have hfu : n + (ops.size - m) = ops.size - s := by omega
  have key := drawsT_any (T := T) (w0 := w0) (D := D) (κ := κ) (P := P) (ρ0 := ρ) (h0 := h) (QQ := QQ) hms htail rfl (tf := t') (hf := h') (fun listed a w ρ' q1 q2 q3 q4 q5 => hK t' h' listed a w ρ' e3 q1 q2 q3 q4 q5) hao n τ listed a w t h ρ (by have := congrArg List.length hidx; simpa using this) ?_
  · rw [hfu] at key; exact key
  refine ⟨⟨h', e2, fun _ => rfl⟩, ht, hs, hd, hsz, ?_, ?_, hsorted, hcomp, e4, e6, ?_, ?_, Ext.refl ρ, fun _ _ => rfl, hf, fun i hi => hf i (Nat.le_trans v1 hi), v2, v1, Nat.le_refl _⟩
  · intro k hk
    rw [hl k hk]
    constructor
    · intro hk2
      rcases Nat.lt_or_ge k m with c | c
      · have : k ∈ τ.map (·.i) := by rw [hidx, List.mem_range'_1]; omega
        obtain ⟨r, hr, e⟩ := List.mem_map.1 this
        exact .inl ⟨r, hr, e⟩
      · exact .inr c
    · rintro (⟨r, hr, rfl⟩ | c)
      · have : r.i ∈ τ.map (·.i) := List.mem_map.2 ⟨r, hr, rfl⟩
        rw [hidx, List.mem_range'_1] at this
        exact this.1
      · omega
  · intro r hr
    have : r.i ∈ τ.map (·.i) := List.mem_map.2 ⟨r, hr, rfl⟩
    rw [hidx, List.mem_range'_1] at this
    omega
  · intro r hr
    exact ⟨hf _ (by omega), hget_out _ _ (by omega)⟩
  · exact bar_down hao hsz hl
end
/-- The first of those ahead of an operation that it does not come behind. -/
def lowOf (ops : Array Oper) (j : Nat) : Nat := match unord ops j with
  | [] => j
  | x :: _ => x
/-- Where a region is cut. -/
def bars (ops : Array Oper) : Nat → Nat → List Nat → List Nat
  | 0, _, acc => acc
  | j + 1, mn, acc => match Nat.ble mn (lowOf ops j) with
    | true => match Nat.ble j mn with
      | true => bars ops j mn (match j with | 0 => acc | _ + 1 => j :: acc)
      | false => bars ops j mn acc
    | false => match lowOf ops j with
      | mn => match Nat.ble j mn with
        | true => bars ops j mn (match j with | 0 => acc | _ + 1 => j :: acc)
        | false => bars ops j mn acc
theorem lowOf_le {ops : Array Oper} {j x : Nat} (h : x ∈ unord ops j) : lowOf ops j ≤ x := by
  unfold lowOf
  have hs : (unord ops j).Pairwise (· < ·) := by
    unfold unord
    exact List.pairwise_lt_range.filter _
  cases hu : unord ops j with
  | nil => rw [hu] at h; cases h
  | cons y l =>
    rw [hu] at h hs
    rw [List.pairwise_cons] at hs
    show y ≤ x
    rcases List.mem_cons.1 h with rfl | h
    · exact Nat.le_refl _
    · exact Nat.le_of_lt (hs.1 x h)
theorem bars_spec {ops : Array Oper} : ∀ (j mn : Nat) (acc : List Nat), (∀ m ∈ acc, Bar ops m) → (∀ k x, j ≤ k → k < ops.size → x ∈ unord ops k → mn ≤ x) → ∀ m ∈ bars ops j mn acc, Bar ops m
  | 0, mn, acc, ha, hm => ha
  | j + 1, mn, acc, ha, hm => by
    have next : ∀ {mn' : Nat}, mn' ≤ mn → mn' ≤ lowOf ops j → ∀ k x, j ≤ k → k < ops.size → x ∈ unord ops k → mn' ≤ x := by
      intro mn' h1 h2 k x hk hks hx
      rcases Nat.lt_or_ge j k with c | c
      · exact Nat.le_trans h1 (hm k x c hks hx)
      · obtain rfl : k = j := by omega
        exact Nat.le_trans h2 (lowOf_le hx)
    have put : ∀ {mn' : Nat}, mn' ≤ mn → mn' ≤ lowOf ops j → j ≤ mn' → ∀ m ∈ (match j with | 0 => acc | _ + 1 => j :: acc), Bar ops m := by
      intro mn' h1 h2 h3 m hmm
      have : m = j ∨ m ∈ acc := by
        cases j with
        | zero => exact .inr hmm
        | succ j => exact List.mem_cons.1 hmm
      rcases this with rfl | h
      · intro k x hk hks hx hu
        have := next h1 h2 k x hk hks hu
        omega
      · exact ha m h
    unfold bars
    cases c1 : Nat.ble mn (lowOf ops j) with
    | true =>
      have h1 := Nat.le_of_ble_eq_true c1
      simp only
      cases c2 : Nat.ble j mn with
      | true => exact bars_spec j mn _ (put (Nat.le_refl _) h1 (Nat.le_of_ble_eq_true c2)) (next (Nat.le_refl _) h1)
      | false => exact bars_spec j mn _ ha (next (Nat.le_refl _) h1)
    | false =>
      have h1 : lowOf ops j ≤ mn := by
        rcases Nat.le_total mn (lowOf ops j) with h | h
        · rw [Nat.ble_eq_true_of_le h] at c1; cases c1
        · exact h
      simp only
      cases c2 : Nat.ble j (lowOf ops j) with
      | true => exact bars_spec j _ _ (put h1 (Nat.le_refl _) (Nat.le_of_ble_eq_true c2)) (next h1 (Nat.le_refl _))
      | false => exact bars_spec j _ _ ha (next h1 (Nat.le_refl _))
def chainB : List Nat → Nat → Nat → Bool
  | [], s, z => Nat.beq s z
  | m :: r, s, z => Nat.ble s m && Nat.ble m z && chainB r m z
def compileS (P : Program) (ops : Array Oper) : List Nat → Nat → Option LCode
  | [], _ => some .skip
  | m :: r, s => match m - s with
    | 1 => withO (compileR P ops [s]) fun y => withO (compileS P ops r m) fun z => some (.seq (.region y) z)
    | n => withO (compileD P ops (List.range' s n)) fun x => withO (compileS P ops r m) fun z => some (.seq (drawC x) z)
section
variable {T : Nat → Nat → Prop} {w0 : World} {P : Program} {κ : Option Nat} {D : List Deferred}
theorem segs_wp {ops : Array Oper} (hao : afterOk ops = true) {L : Nat} {Q : LExit → List LVal → LHeap → Prop} {ρ0 : Pl} {h0 : LHeap} : ∀ (l : List Nat) (s : Nat) (lc : LCode), (∀ m ∈ l, Bar ops m) → chainB l s ops.size = true → compileS P ops l s = some lc → ∀ {ρ : Pl} {t : List LVal} {h : LHeap} {a : Act} {w : World} {listed : Array Bool}, listed.size = ops.size → (∀ k, k < ops.size → (listed.getD k true = false ↔ s ≤ k)) → Stp T w0 ρ0 h0 ρ h w → TSim ρ t a → a.defers = D → lwp P L lc Q t h → wpAnyIn (FW κ) 0 P .any ops (PQ T w0 D ρ0 h0 Q) (ops.size - s) listed a w
  | [], s, lc, hb, hch, hc, ρ, t, h, a, w, listed, hsz, hl, hst, ht, hd, hw => by
    cases hc
    have : s = ops.size := Nat.eq_of_beq_eq_true hch
    subst this
    rw [Nat.sub_self]
    refine ⟨?_, .normal, t, h, ρ, hw, trivial, ht, hst, hd⟩
    cases hr : Region.ready .any ops listed with
    | nil => rfl
    | cons j rs =>
      have hj : j ∈ Region.ready .any ops listed := by rw [hr]; simp
      obtain ⟨h1, o, ho, _⟩ := mem_ready.1 hj
      have hjs := (Array.getElem?_eq_some_iff.1 ho).1
      have := (hl j hjs).1 h1
      omega
  | m :: r, s, lc, hb, hch, hc, ρ, t, h, a, w, listed, hsz, hl, hst, ht, hd, hw => by
    unfold chainB at hch
    simp only [Bool.and_eq_true] at hch
    have hsm := Nat.le_of_ble_eq_true hch.1.1
    have hmz := Nat.le_of_ble_eq_true hch.1.2
    have hbr : ∀ m ∈ r, Bar ops m := fun k hk => hb k (List.mem_cons_of_mem _ hk)
    have hbm := hb m List.mem_cons_self
    unfold compileS at hc
    split at hc
    · rename_i h1
      obtain ⟨y, hy, hc⟩ := withO_some hc
      obtain ⟨z, hz, hc⟩ := withO_some hc
      cases hc
      obtain rfl : m = s + 1 := by omega
      have hops := ops_wp (κ := κ) [s] y hy hst.sim hst.fresh ht hd (Q := fun e t h => match e with
        | .normal => lwp P L z Q t h
        | e => Q e t h) hw
      rw [show ops.size - s = (ops.size - (s + 1)) + 1 by omega]
      have nol : listed.getD s true = false := (hl s (by omega)).2 (Nat.le_refl s)
      have hmr : s ∈ Region.ready .any ops listed := mem_ready.2 ⟨nol, ops[s], Array.getElem?_eq_getElem (by omega), fun e he hb => listed_of hsz (by have := afterOk_spec hao (Array.getElem?_eq_getElem (by omega)) he hb; omega) (fun x => by have := afterOk_spec hao (Array.getElem?_eq_getElem (by omega)) he hb; have := (hl e.on (by omega)).1 x; omega)⟩
      refine ⟨fun hr => (by rw [hr] at hmr; exact absurd hmr (List.not_mem_nil)), fun j hj => ?_⟩
      obtain ⟨q1, o, ho, hdeps⟩ := mem_ready.1 hj
      have hjs := (Array.getElem?_eq_some_iff.1 ho).1
      have hmj := (hl j hjs).1 q1
      have hjm : j = s := by
        rcases Nat.lt_or_ge s j with c | c
        · exfalso
          have := ancs_listed (bar_down hao hsz hl) _ _ o ho hdeps _ (mem_anc (hbm j s c hjs (Nat.lt_succ_self s)) c)
          exact not_listed hsz (by omega) nol this
        · omega
      subst hjm
      refine ops_one (wpOps_mono (fun e a w q => ?_) _ _ _ hops)
      obtain ⟨le, t', h', ρ', p1, p2, p3, p4, p5⟩ := q
      cases le <;> cases e <;> try exact p2.elim
      · exact segs_wp hao r (j + 1) z hbr hch.2 hz (by simp [hsz]) (bar_next hsz hl) (hst.trans p4) p3 p5 p1
      · exact ⟨_, t', h', ρ', p1, p2, p3, hst.trans p4, p5⟩
      · exact ⟨_, t', h', ρ', p1, p2, p3, hst.trans p4, p5⟩
      · exact ⟨_, t', h', ρ', p1, p2, p3, hst.trans p4, p5⟩
    · obtain ⟨x, hx, hc⟩ := withO_some hc
      obtain ⟨z, hz, hc⟩ := withO_some hc
      cases hc
      refine drawsT_seg (n := m - s) hao (by omega) hmz hbm hsz hl hx hst.sim hst.fresh ht hd (fun tf hf listed a w ρ' q0 q1 q2 q3 q4 q5 => ?_) (drawC_wp (L := L) (Q := fun e t h => match e with
        | .normal => lwp P L z Q t h
        | e => Q e t h) hw)
      exact segs_wp hao r m z hbr hch.2 hz q1 q2 (hst.trans q3) q4 q5 q0
end
def compileT (P : Program) : Code → Option LCode
  | .skip => some .skip
  | .region _ ops draw => match draw with
    | true => when_ (P.follows .mixedOrders && afterOk ops) (withO (compileD P ops (List.range ops.size)) fun x => match quietL x [] with
      | true => some (drawC x)
      | false => match bars ops ops.size ops.size [ops.size] with
        | l => when_ (chainB l 0 ops.size) (compileS P ops l 0))
    | false => withO (compileR P ops (List.range ops.size)) fun x => some (.region x)
  | .seq a b => withO (compileT P a) fun x => withO (compileT P b) fun y => some (.seq x y)
  | .cond c a b => withO (compileOpd c) fun z => withO (compileT P a) fun x => withO (compileT P b) fun y => some (.cond z x y)
  | .block id b => withO (compileT P b) fun x => some (.block id x)
  | .loop b => withO (compileT P b) fun x => some (.loop x)
  | .exit id => some (.exit id)
  | .ret => some .ret
  | .scope b => compileT P b
  | .label _ => some .skip
  | _ => none
section
variable {T : Nat → Nat → Prop} {w0 : World} {P : Program} {κ : Option Nat} {D : List Deferred}
theorem codeT_wp : ∀ (c : Code) (lc : LCode), compileT P c = some lc → ∀ {L : Nat} {Q : LExit → List LVal → LHeap → Prop} {ρ : Pl} {t : List LVal} {h : LHeap} {a : Act} {w : World}, L ≤ h.length → Sim T w0 ρ h w → (∀ i, h.length ≤ i → ρ i = none) → TSim ρ t a → a.defers = D → lwp P L lc Q t h → c.wpIn (FW κ) 0 P (PQL T w0 D ρ L Q) a w
  | .skip, lc, hc, L, Q, ρ, t, h, a, w, hL, hs, hf, ht, hd, hw => by
    cases hc
    exact wpIn_skip ⟨.normal, t, h, ρ, hw, trivial, ht, StpL.refl hL hs hf, hd⟩
  | .exit id, lc, hc, L, Q, ρ, t, h, a, w, hL, hs, hf, ht, hd, hw => by
    cases hc
    exact wpIn_exit ⟨.exit id, t, h, ρ, hw, rfl, ht, StpL.refl hL hs hf, hd⟩
  | .ret, lc, hc, L, Q, ρ, t, h, a, w, hL, hs, hf, ht, hd, hw => by
    cases hc
    exact wpIn_ret ⟨.ret, t, h, ρ, hw, trivial, ht, StpL.refl hL hs hf, hd⟩
  | .region id ops draw, lc, hc, L, Q, ρ, t, h, a, w, hL, hs, hf, ht, hd, hw => by
    cases draw with
    | true =>
      obtain ⟨h1, hc⟩ := when_some hc
      obtain ⟨x, hx, hc⟩ := withO_some hc
      rw [Bool.and_eq_true] at h1
      split at hc
      · cases hc
        exact wpIn_mono (draws_wp h1.1 h1.2 hx hs hf ht hd (drawC_wp (L := L) hw)) (fun e a w q => q.low hL)
      · obtain ⟨h2, hc⟩ := when_some hc
        refine wpIn_mono (wpIn_region_any h1.1 ?_) (fun e a w (q : PQ T w0 D ρ h Q e a w) => q.low hL)
        have key := segs_wp (T := T) (w0 := w0) (D := D) (κ := κ) (ρ0 := ρ) (h0 := h) h1.2 _ 0 lc (bars_spec _ _ _ (fun m hm => ?_) (fun k x hk hks _ => by omega)) h2 hc (listed := Array.replicate ops.size false) (by simp) (fun k hk => ?_) (Stp.refl hs.drew hf) ht hd hw
        · rw [Nat.sub_zero] at key
          exact key
        · rw [List.mem_singleton.1 hm]
          intro j x h1 h2 h3
          omega
        · rw [Array.getD_eq_getD_getElem?, Array.getElem?_replicate, if_pos hk]
          exact ⟨fun _ => Nat.zero_le _, fun _ => rfl⟩
    | false =>
      obtain ⟨x, hx, hc⟩ := withO_some hc
      cases hc
      exact wpIn_mono (wpIn_region (ops_wp _ _ hx hs hf ht hd hw)) (fun e a w q => q.low hL)
  | .seq x y, lc, hc, L, Q, ρ, t, h, a, w, hL, hs, hf, ht, hd, hw => by
    obtain ⟨x', hx, hc⟩ := withO_some hc
    obtain ⟨y', hy, hc⟩ := withO_some hc
    cases hc
    refine wpIn_seq (wpIn_mono (codeT_wp x x' hx hL hs hf ht hd hw) ?_)
    rintro e a' w' ⟨le, t', h', ρ', q1, q2, q3, q4, q5⟩
    cases le <;> cases e <;> try exact q2.elim
    · exact wpIn_mono (codeT_wp y y' hy q4.len q4.sim q4.fresh q3 q5 q1) (fun e a w q => PQL.step q4 q)
    · exact ⟨_, t', h', ρ', q1, q2, q3, q4, q5⟩
    · exact ⟨_, t', h', ρ', q1, q2, q3, q4, q5⟩
    · exact ⟨_, t', h', ρ', q1, q2, q3, q4, q5⟩
  | .cond c x y, lc, hc, L, Q, ρ, t, h, a, w, hL, hs, hf, ht, hd, hw => by
    obtain ⟨c', h1, hc⟩ := withO_some hc
    obtain ⟨x', hx, hc⟩ := withO_some hc
    obtain ⟨y', hy, hc⟩ := withO_some hc
    cases hc
    obtain ⟨v, hv, hw⟩ := opdK_wp ht h1 hw
    cases v <;> try exact hw.elim
    rename_i b
    rcases iteP_elim hw with ⟨hb, h1⟩ | ⟨hb, h1⟩
    · subst hb
      exact wpIn_cond_true hv (codeT_wp x x' hx hL hs hf ht hd h1)
    · subst hb
      exact wpIn_cond_false hv (codeT_wp y y' hy hL hs hf ht hd h1)
  | .block id b, lc, hc, L, Q, ρ, t, h, a, w, hL, hs, hf, ht, hd, hw => by
    obtain ⟨b', hb, hc⟩ := withO_some hc
    cases hc
    refine wpIn_block (wpIn_mono (codeT_wp b b' hb hL hs hf ht hd hw) ?_)
    rintro e a' w' ⟨le, t', h', ρ', q1, q2, q3, q4, q5⟩
    cases le <;> cases e <;> try exact q2.elim
    · exact ⟨_, t', h', ρ', q1, q2, q3, q4, q5⟩
    · rename_i i j
      have q2 : i = j := q2
      subst q2
      simp only [Exit.inBlock]
      simp only at q1
      split at q1
      · rename_i hb
        have := Nat.eq_of_beq_eq_true hb
        rw [if_pos this]
        exact ⟨.normal, t', h', ρ', q1, trivial, q3, q4, q5⟩
      · rename_i hb
        rw [if_neg (by intro e; subst e; simp at hb)]
        exact ⟨.exit i, t', h', ρ', q1, rfl, q3, q4, q5⟩
    · exact ⟨_, t', h', ρ', q1, q2, q3, q4, q5⟩
    · exact ⟨_, t', h', ρ', q1, q2, q3, q4, q5⟩
  | .loop b, lc, hc, L, Q, ρ, t, h, a, w, hL, hs, hf, ht, hd, hw => by
    obtain ⟨b', hb, hc⟩ := withO_some hc
    cases hc
    obtain ⟨⟨⟨k, hk⟩⟩⟩ := hw
    -- a round's state: how many rounds are left
    refine wpIn_loop (fun a' w' => ∃ j t' h' ρ', iter (fun Q => lwp P L b' Q) Q L j t' h' ∧ TSim ρ' t' a' ∧ StpL T w0 ρ L ρ' h' w' ∧ a'.defers = D) (fun a' w' => sInf' fun j => ∃ t' h' ρ', iter (fun Q => lwp P L b' Q) Q L j t' h' ∧ TSim ρ' t' a' ∧ StpL T w0 ρ L ρ' h' w' ∧ a'.defers = D) ⟨k, t, h, ρ, hk, ht, StpL.refl hL hs hf, hd⟩ ?_
    intro a1 w1 hI
    have hmin := sInf'_spec hI
    generalize hj : sInf' (fun j => ∃ t' h' ρ', iter (fun Q => lwp P L b' Q) Q L j t' h' ∧ TSim ρ' t' a1 ∧ StpL T w0 ρ L ρ' h' w1 ∧ a1.defers = D) = j at hmin
    obtain ⟨t1, h1, ρ1, r1, r2, r3, r4⟩ := hmin
    cases j with
    | zero => exact r1.elim
    | succ j =>
      obtain ⟨t2, h2, hsh, r1⟩ := r1
      obtain ⟨ρ2, s1, s2, s3, r3'⟩ : ∃ ρ2, Sim T w0 ρ2 h2 w1 ∧ (∀ i, h2.length ≤ i → ρ2 i = none) ∧ TSim ρ2 t2 a1 ∧ StpL T w0 ρ L ρ2 h2 w1 := by
        rcases hsh with ⟨rfl, rfl⟩ | ⟨F, qF, gl, q0, q3, q1, q2⟩
        · exact ⟨ρ1, r3.sim, r3.fresh, r2, r3⟩
        · obtain ⟨ρ3, g1, g5, g6, g7⟩ := r3.sim.tell r3.fresh qF q0 q2
          have hgl := (shH_spec _ _ q2).1
          have g2 : ∀ i, h2.length ≤ i → newP ρ3 gl i = none := fun i hi => by rw [newP_at, if_neg (by omega)]
          obtain ⟨g3, g4⟩ := shT_spec (ρ := ρ3) (ρ' := newP ρ3 gl) g7 newP_cut _ _ q1
          exact ⟨_, g1, g2, ⟨by rw [← g3]; exact r2.1, fun i => g4 i _ (PV.ext g5 _ _ (r2.2 i))⟩, ⟨fun i hi => (newP_id q3 i hi).trans ((congrFun g6 i).trans (r3.keep i hi)), g1, g2, by rw [← hgl]; exact idl_len q3, r3.r.trans g5.r⟩⟩
      refine wpIn_mono (codeT_wp b b' hb r3'.len s1 s2 s3 r4 r1) ?_
      rintro e a' w' ⟨le, t', h', ρ', q1, q2, q3, q4, q5⟩
      cases le <;> cases e <;> try exact q2.elim
      · refine ⟨⟨j, t', h', ρ', q1, q3, r3'.trans q4, q5⟩, ?_⟩
        have := sInf'_le (p := fun j => ∃ t'' h'' ρ'', iter (fun Q => lwp P L b' Q) Q L j t'' h'' ∧ TSim ρ'' t'' a' ∧ StpL T w0 ρ L ρ'' h'' w' ∧ a'.defers = D) ⟨t', h', ρ', q1, q3, r3'.trans q4, q5⟩
        omega
      · exact ⟨_, t', h', ρ', q1, q2, q3, r3'.trans q4, q5⟩
      · exact ⟨_, t', h', ρ', q1, q2, q3, r3'.trans q4, q5⟩
      · exact ⟨_, t', h', ρ', q1, q2, q3, r3'.trans q4, q5⟩
  | .rangeFunc .., lc, hc, L, Q, ρ, t, h, a, w, hL, hs, hf, ht, hd, hw => by cases hc
  | .scope b, lc, hc, L, Q, ρ, t, h, a, w, hL, hs, hf, ht, hd, hw => by
    refine wpIn_scope (wpIn_mono (codeT_wp b lc hc hL hs hf ht hd hw) ?_)
    rintro e a' w' ⟨le, t', h', ρ', q1, q2, q3, q4, q5⟩
    cases e <;> try exact ⟨le, t', h', ρ', q1, q2, q3, q4, q5⟩
    cases le <;> exact q2.elim
  | .label _, lc, hc, L, Q, ρ, t, h, a, w, hL, hs, hf, ht, hd, hw => by
    cases hc
    exact wpIn_label ⟨.normal, t, h, ρ, hw, trivial, ht, StpL.refl hL hs hf, hd⟩
  | .goto _, lc, hc, L, Q, ρ, t, h, a, w, hL, hs, hf, ht, hd, hw => by cases hc
  | .refuse _, lc, hc, L, Q, ρ, t, h, a, w, hL, hs, hf, ht, hd, hw => by cases hc
end
section
variable {P : Program}
theorem LCalls.of_bodyT {f : FuncId} {fn : Func} {c : Code} {lc : LCode} {lr : List LRes} {args : LVals} {h : LHeap} {R : LEnd → LHeap → Prop} (hfn : P.funcs[f]? = some fn) (hb : fn.body = some c) (hhas : hasBody P f = true) (hc : compileT P c = some lc) (hr : compileRes P fn.results.toList = some lr) (k : Nat) (hk : fn.ntmps - lvsLen args = k)
    (hw : initK args k fun t => lwp P h.length lc (bodyQ lr R) t h) : LCalls P f args h R := by
  refine ⟨hhas, fun T w0 ρ w l hs hf hv => ?_⟩
  rw [initK_eq] at hw
  obtain ⟨h1, h2⟩ := init_PV args l k hv
  have hlen := PVs.len _ _ hv
  refine calls_of_wp hfn hb (wp_mono ((wpIn_wide (n := 0)).1 (codeT_wp (κ := none) (D := []) (T := T) (w0 := w0) c lc hc (Nat.le_refl _) hs hf (t := initT args k) ?_ rfl hw)) ?_)
  · refine ⟨by rw [h1]; simp [hlen, ← hk], fun i => ?_⟩
    have e : (l.toArray ++ Array.replicate (fn.ntmps - l.toArray.size) undef).getD i undef = (l ++ List.replicate k undef).getD i undef := by
      rw [Array.getD_eq_getD_getElem?, List.getD_eq_getElem?_getD, ← hk, ← hlen]
      simp [Array.getElem?_append, List.getElem?_append, Array.getElem?_replicate, List.getElem?_replicate]
    show PV ρ _ ((l.toArray ++ Array.replicate (fn.ntmps - l.toArray.size) undef).getD i undef)
    rw [e]
    exact h2 i
  · rintro e a w' ⟨le, t', h', ρ', q1, q2, q3, q4, q5⟩
    have hext : Ext ρ ρ' := by
      refine ⟨fun b x hb => ?_, q4.r⟩
      rcases Nat.lt_or_ge b h.length with c | c
      · rw [q4.keep b c]; exact hb
      · rw [hf b c] at hb; cases hb
    have fin : resK t' h' lr (fun vs => retK vs fun v => R (.ret v) h') → a.defers = [] ∧ ∃ v, (results fn a.tmps).run P w' = .ok v w' ∧ ∃ r h'' ρ'', R r h'' ∧ EndPV ρ'' r (.returned v) ∧ Ext ρ ρ'' ∧ (∀ i, i < h.length → ρ'' i = ρ i) ∧ Sim T w0 ρ'' h'' w' ∧ (∀ i, h''.length ≤ i → ρ'' i = none) ∧ h.length ≤ h''.length := by
      intro hres
      obtain ⟨vs, l', r1, r2, r3⟩ := res_run q4.sim q3 _ _ hr hres
      obtain ⟨v, r4, r5⟩ := retK_spec r2 r1
      exact ⟨q5, _, results_run r3, .ret v, h', ρ', r4, r5, hext, q4.keep, q4.sim, q4.fresh, q4.len⟩
    cases le <;> cases e <;> try exact q2.elim
    · exact fin q1
    · exact q1.elim
    · exact fin q1
    · exact ⟨q5, .panic _, h', ρ', q1, q2, hext, q4.keep, q4.sim, q4.fresh, q4.len⟩
end
theorem LCalls.enterT {P : Program} {f : FuncId} {fn : Func} {lc : LCode} {lr : List LRes} {args : LVals} {h : LHeap} {R : LEnd → LHeap → Prop} (hfn : P.funcs[f]? = some fn) (hb : fn.body.bind (compileT P) = some lc) (hhas : hasBody P f = true) (hr : compileRes P fn.results.toList = some lr) (k : Nat) (hk : fn.ntmps - lvsLen args = k)
    (hw : initK args k fun t => lwp P h.length lc (bodyQ lr R) t h) : LCalls P f args h R := by
  cases hc : fn.body with
  | none => rw [hc] at hb; cases hb
  | some c =>
    rw [hc] at hb
    exact LCalls.of_bodyT hfn hc hhas hb hr k hk hw
end Go.Proofs.Ytilmfhpoiejmfaa.Lh
