/- A region that draws its order: any order does what the text's order does. Over any program. -/
import Derived.Test.YtilmfhpoiejmfaaLh10a
import Derived.Orders
namespace Go.Proofs.Ytilmfhpoiejmfaa.Lh
set_option linter.unusedSimpArgs false
set_option linter.unusedVariables false
set_option linter.unusedSectionVars false
open Go.RowKit
variable [Fz]
/-- Two heaps that tell the same. -/
def Eqv (h h' : LHeap) : Prop := ∀ i, hget h i = hget h' i
theorem Sim.eqv {T : Nat → Nat → Prop} {w0 : World} {ρ : Pl} {h h' : LHeap} {w : World} (s : Sim T w0 ρ h w) (e : Eqv h h') : Sim T w0 ρ h' w :=
  ⟨fun i o hi => s.obj i o (by rw [e i]; exact hi), fun i j oi oj g b n b' m hi hj => s.inj i j oi oj g b n b' m (by rw [e i]; exact hi) (by rw [e j]; exact hj), s.lt, s.os, s.tape, s.output, s.size, s.kept, s.new, s.apart, s.fz, s.fzT, fun i o g b n hi => s.nofz i o g b n (by rw [e i]; exact hi), s.glob, s.tks, s.res.imp fun Fs r => r.keep (.refl _) (Nat.le_refl _) (fun i o A hi _ => by rw [e i]; exact hi) (fun i o A k hi hA hk => ⟨rfl, (r.mine i o A k hi hA hk).2⟩) (fun i j oi oj A g b m hi hA hi0 hj h1 => r.off i j oi oj A g b m hi0 hA (by rw [e j]; exact hj) h1)⟩
theorem updU_out {i : Nat} : ∀ (u : List (Nat × Option LObj)) (h : LHeap), i ∉ fsts u → hget (updU h u) i = hget h i
  | [], h, _ => rfl
  | (j, o) :: r, h, hi => by
    simp only [fsts, List.mem_cons, not_or] at hi
    rw [updU, updU_out r _ hi.2, hget_hset, if_neg hi.1]
theorem updU_in {i : Nat} : ∀ (u : List (Nat × Option LObj)) (h h' : LHeap), i ∈ fsts u → hget (updU h u) i = hget (updU h' u) i
  | [], h, h', hi => by cases hi
  | (j, o) :: r, h, h', hi => by
    rw [updU, updU]
    by_cases c : i ∈ fsts r
    · exact updU_in r _ _ c
    · have : i = j := by
        rcases List.mem_cons.1 hi with e | e
        · exact e
        · exact absurd e c
      subst this
      rw [updU_out r _ c, updU_out r _ c, hget_hset, hget_hset, if_pos rfl, if_pos rfl]
theorem applyU_out {i : Nat} {u : List (Nat × Option LObj)} {n : Nat} {nw : Option LObj} {h : LHeap} (hi : i ∉ whOf u nw n) : hget (applyU h u n nw) i = hget h i := by
  unfold applyU
  cases nw with
  | none => exact updU_out u h hi
  | some o =>
    simp only [whOf, List.mem_cons, not_or] at hi
    simp only
    rw [hget_hset, if_neg hi.1]
    exact updU_out u h hi.2
theorem applyU_in {i : Nat} {u : List (Nat × Option LObj)} {n : Nat} {nw : Option LObj} (h h' : LHeap) (hi : i ∈ whOf u nw n) : hget (applyU h u n nw) i = hget (applyU h' u n nw) i := by
  unfold applyU
  cases nw with
  | none => exact updU_in u h h' hi
  | some o =>
    simp only
    rw [hget_hset, hget_hset]
    by_cases c : i = n
    · rw [if_pos c, if_pos c]
    · rw [if_neg c, if_neg c]
      simp only [whOf, List.mem_cons] at hi
      exact updU_in u h h' (hi.resolve_left c)
theorem applyU_eqv {u : List (Nat × Option LObj)} {n : Nat} {nw : Option LObj} {h h' : LHeap} (e : Eqv h h') : Eqv (applyU h u n nw) (applyU h' u n nw) := by
  intro i
  by_cases c : i ∈ whOf u nw n
  · exact applyU_in h h' c
  · rw [applyU_out c, applyU_out c]; exact e i
theorem applyU_comm {u u' : List (Nat × Option LObj)} {n n' : Nat} {nw nw' : Option LObj} {h : LHeap} (hd : ∀ i ∈ whOf u nw n, i ∉ whOf u' nw' n') : Eqv (applyU (applyU h u n nw) u' n' nw') (applyU (applyU h u' n' nw') u n nw) := by
  intro i
  by_cases c : i ∈ whOf u nw n
  · have c' := hd i c
    rw [applyU_out c']
    exact applyU_in _ _ c
  · rw [applyU_out c]
    by_cases c' : i ∈ whOf u' nw' n'
    · exact applyU_in _ _ c'
    · rw [applyU_out c', applyU_out c', applyU_out c]
theorem tset_get {t : List LVal} {d : Option Nat} {v : LVal} {i : Nat} (h : i ∉ dstL d) : lget (tset t d v) i = lget t i := by
  cases d with
  | none => rfl
  | some d =>
    have : i ≠ d := by simpa [dstL] using h
    rw [tset, lget_lset, if_neg (fun c => this c.1)]
theorem lset_comm {t : List LVal} {i j : Nat} {v u : LVal} (h : i ≠ j) : lset (lset t i v) j u = lset (lset t j u) i v := by
  induction t generalizing i j with
  | nil => rfl
  | cons x r ih =>
    cases i with
    | zero => cases j with
      | zero => exact absurd rfl h
      | succ j => rfl
    | succ i => cases j with
      | zero => rfl
      | succ j => simp only [lset]; rw [ih (fun e => h (by rw [e]))]
theorem tset_comm {t : List LVal} {d d' : Option Nat} {v u : LVal} (h : ∀ x ∈ dstL d, x ∉ dstL d') : tset (tset t d v) d' u = tset (tset t d' u) d v := by
  cases d with
  | none => rfl
  | some d => cases d' with
    | none => rfl
    | some d' => exact lset_comm (by simpa [dstL] using h)
section
variable {P : Program} {base : Nat}
theorem valid_eqv : ∀ (τ : List TRec) {t : List LVal} {h h2 : LHeap} {t' : List LVal} {h' : LHeap}, Valid P base τ t h t' h' → Eqv h h2 → ∃ h2', Valid P base τ t h2 t' h2' ∧ Eqv h' h2'
  | [], t, h, h2, t', h', hv, e => by
    obtain ⟨rfl, rfl⟩ := hv
    exact ⟨h2, ⟨rfl, rfl⟩, e⟩
  | r :: τ, t, h, h2, t', h', hv, e => by
    obtain ⟨h1, h3⟩ := hv
    obtain ⟨h2', h4, h5⟩ := valid_eqv τ h3 (applyU_eqv e)
    exact ⟨h2', ⟨oper_local h1 (fun _ _ => rfl) (fun b _ => (e b).symm), h4⟩, h5⟩
structure Apart (a b : DLog) : Prop where
  a1 : ∀ x ∈ dstL a.dst, x ∉ b.rt
  a2 : ∀ x ∈ dstL b.dst, x ∉ a.rt
  a3 : ∀ x ∈ dstL a.dst, x ∉ dstL b.dst
  a4 : ∀ x ∈ a.wh, x ∉ b.rh
  a5 : ∀ x ∈ b.wh, x ∉ a.rh
  a6 : ∀ x ∈ a.wh, x ∉ b.wh
theorem okPair_spec {a b : DLog} (h : okPair a b = true) : Apart a b := by
  simp only [okPair, Bool.and_eq_true, disj_iff] at h
  exact ⟨h.1.1.1.1.1, h.1.1.1.1.2, h.1.1.1.2, h.1.1.2, h.1.2, h.2⟩
/-- An operation that is apart from all ahead of it may be done first. -/
theorem bubble : ∀ (τ1 : List TRec) (r : TRec) (τ2 : List TRec) {t : List LVal} {h : LHeap} {t' : List LVal} {h' : LHeap}, Valid P base (τ1 ++ r :: τ2) t h t' h' → (∀ a ∈ τ1, okPair (a.log base) (r.log base) = true) →
    r.o.Run P (base + r.i) t h r.v r.u r.nw r.rt r.rh ∧ ∃ h2, Valid P base (τ1 ++ τ2) (tset t r.o.dst r.v) (applyU h r.u (base + r.i) r.nw) t' h2 ∧ Eqv h' h2
  | [], r, τ2, t, h, t', h', hv, _ => ⟨hv.1, h', hv.2, fun _ => rfl⟩
  | a :: τ1, r, τ2, t, h, t', h', hv, hok => by
    obtain ⟨h1, h2⟩ := hv
    obtain ⟨h3, h4, h5, h6⟩ := bubble τ1 r τ2 h2 (fun b hb => hok b (by simp [hb]))
    have ok := okPair_spec (hok a (by simp))
    have r1 : r.o.Run P (base + r.i) t h r.v r.u r.nw r.rt r.rh := by
      refine oper_local h3 (fun i hi => (tset_get (fun c => ok.a1 i c hi)).symm) (fun b hb => (applyU_out (fun c => ok.a4 b c hb)).symm)
    have r2 : a.o.Run P (base + a.i) (tset t r.o.dst r.v) (applyU h r.u (base + r.i) r.nw) a.v a.u a.nw a.rt a.rh :=
      oper_local h1 (fun i hi => tset_get (fun c => ok.a2 i c hi)) (fun b hb => applyU_out (fun c => ok.a5 b c hb))
    rw [tset_comm (d := a.o.dst) (d' := r.o.dst) ok.a3] at h5
    obtain ⟨h7, h8, h9⟩ := valid_eqv _ h5 (applyU_comm (h := h) ok.a6)
    exact ⟨r1, h7, ⟨r2, h8⟩, fun i => (h6 i).trans (h9 i)⟩
theorem valid_len : ∀ (τ : List TRec) {t : List LVal} {h : LHeap} {t' : List LVal} {h' : LHeap}, Valid P base τ t h t' h' → h.length ≤ h'.length ∧ ∀ r ∈ τ, r.nw ≠ none → base + r.i < h'.length
  | [], t, h, t', h', hv => by
    obtain ⟨rfl, rfl⟩ := hv
    exact ⟨Nat.le_refl _, fun r hr => by cases hr⟩
  | r :: τ, t, h, t', h', hv => by
    obtain ⟨h1, h2⟩ := valid_len τ hv.2
    have h3 := applyU_length h r.u (base + r.i) r.nw
    refine ⟨Nat.le_trans h3.1 h1, fun x hx hn => ?_⟩
    rcases List.mem_cons.1 hx with rfl | hx
    · exact Nat.lt_of_lt_of_le (h3.2 hn) h1
    · exact h2 x hx hn
end
/-- What an operation must wait for. -/
def ancs (ops : Array Oper) : Nat → Nat → List Nat
  | 0, _ => []
  | f + 1, j => match ops[j]? with
    | none => []
    | some o => (o.after.toList.filter (fun e => Region.binds .any e)).flatMap fun e => e.on :: ancs ops f e.on
def unord (ops : Array Oper) (j : Nat) : List Nat := (List.range j).filter fun i => !(memB i (ancs ops (j + 1) j))
def compileD (P : Program) (ops : Array Oper) : List Nat → Option (List (Nat × List Nat × LOper))
  | [] => some []
  | i :: r => withO ops[i]? fun o => withO (compileOper P ops o) fun x => withO (compileD P ops r) fun y => some ((i, unord ops i, x) :: y)
def afterOk (ops : Array Oper) : Bool := (List.range ops.size).all fun j => match ops[j]? with
  | none => true
  | some o => o.after.toList.all fun e => !(Region.binds .any e) || Nat.blt e.on j
theorem afterOk_spec {ops : Array Oper} (h : afterOk ops = true) {j : Nat} {o : Oper} (ho : ops[j]? = some o) {e : Edge} (he : e ∈ o.after) (hb : Region.binds .any e = true) : e.on < j := by
  have hj : j < ops.size := (Array.getElem?_eq_some_iff.1 ho).1
  have := List.all_eq_true.1 h j (List.mem_range.2 hj)
  rw [ho] at this
  have := List.all_eq_true.1 this e (by simpa using he)
  rw [hb] at this
  simpa using this
theorem ancs_listed {ops : Array Oper} {listed : Array Bool} (hdc : ∀ k o, ops[k]? = some o → listed.getD k false = true → ∀ e ∈ o.after, Region.binds .any e = true → listed.getD e.on false = true) : ∀ (f j : Nat) (o : Oper), ops[j]? = some o → (∀ e ∈ o.after, Region.binds .any e = true → listed.getD e.on false = true) → ∀ x ∈ ancs ops f j, listed.getD x false = true
  | 0, j, o, _, _, x, hx => by cases hx
  | f + 1, j, o, ho, hj, x, hx => by
    simp only [ancs, ho, List.mem_flatMap, List.mem_filter, Array.mem_toList_iff] at hx
    obtain ⟨e, ⟨he, hb⟩, hx⟩ := hx
    have h1 := hj e he hb
    rcases List.mem_cons.1 hx with rfl | hx
    · exact h1
    · cases hq : ops[e.on]? with
      | none =>
        cases f with
        | zero => cases hx
        | succ f => simp [ancs, hq] at hx
      | some o' => exact ancs_listed hdc f e.on o' hq (fun e' he' hb' => hdc e.on o' hq h1 e' he' hb') x hx
theorem compileD_spec {P : Program} {ops : Array Oper} : ∀ (l : List Nat) (los : List (Nat × List Nat × LOper)), compileD P ops l = some los → los.map (·.1) = l ∧ ∀ p ∈ los, p.2.1 = unord ops p.1 ∧ ∃ o, ops[p.1]? = some o ∧ compileOper P ops o = some p.2.2
  | [], los, h => by
    cases h
    exact ⟨rfl, fun p hp => by cases hp⟩
  | i :: r, los, h => by
    obtain ⟨o, h1, h⟩ := withO_some h
    obtain ⟨x, h2, h⟩ := withO_some h
    obtain ⟨y, h3, h⟩ := withO_some h
    cases h
    obtain ⟨e1, e2⟩ := compileD_spec r y h3
    refine ⟨by simp [e1], fun p hp => ?_⟩
    rcases List.mem_cons.1 hp with rfl | hp
    · exact ⟨rfl, o, h1, h2⟩
    · exact e2 p hp
end Go.Proofs.Ytilmfhpoiejmfaa.Lh
