/- The world's code does what the code on the heap of the mind does. Over any program. -/
import Derived.Test.YtilmfhpoiejmfaaLh10c
namespace Go.Proofs.Ytilmfhpoiejmfaa.Lh
set_option linter.unusedSimpArgs false
set_option linter.unusedVariables false
set_option linter.unusedSectionVars false
open Go.RowKit
variable [Fz]
def compileC (P : Program) : Code → Option LCode
  | .skip => some .skip
  | .region _ ops draw => match draw with
    | true => when_ (P.follows .mixedOrders && afterOk ops) (withO (compileD P ops (List.range ops.size)) fun x => some (.draws x))
    | false => withO (compileR P ops (List.range ops.size)) fun x => some (.region x)
  | .seq a b => withO (compileC P a) fun x => withO (compileC P b) fun y => some (.seq x y)
  | .cond c a b => withO (compileOpd c) fun z => withO (compileC P a) fun x => withO (compileC P b) fun y => some (.cond z x y)
  | .block id b => withO (compileC P b) fun x => some (.block id x)
  | .loop b => withO (compileC P b) fun x => some (.loop x)
  | .exit id => some (.exit id)
  | .ret => some .ret
  | _ => none
section
variable {T : Nat → Nat → Prop} {w0 : World} {P : Program}
/-- The world's post of a code: the first L blocks stand where they stood. -/
structure StpL (T : Nat → Nat → Prop) (w0 : World) (ρ : Pl) (L : Nat) (ρ' : Pl) (h' : LHeap) (w' : World) : Prop where
  keep : ∀ i, i < L → ρ' i = ρ i
  sim : Sim T w0 ρ' h' w'
  fresh : ∀ i, h'.length ≤ i → ρ' i = none
  len : L ≤ h'.length
  r : ExtR ρ ρ'
def PQL (T : Nat → Nat → Prop) (w0 : World) (ρ : Pl) (L : Nat) (Q : LExit → List LVal → LHeap → Prop) (e : Exit) (a : Act) (w : World) : Prop :=
  ∃ le t' h' ρ', Q le t' h' ∧ ExitPV ρ' le e ∧ TSim ρ' t' a ∧ StpL T w0 ρ L ρ' h' w ∧ a.defers = []
theorem PQ.low {ρ : Pl} {h : LHeap} {L : Nat} (hL : L ≤ h.length) {Q : LExit → List LVal → LHeap → Prop} {e : Exit} {a : Act} {w : World} (q : PQ T w0 ρ h Q e a w) : PQL T w0 ρ L Q e a w :=
  let ⟨le, t', h', ρ', q1, q2, q3, q4, q5⟩ := q
  ⟨le, t', h', ρ', q1, q2, q3, ⟨fun i hi => q4.keep i (by omega), q4.sim, q4.fresh, Nat.le_trans hL q4.len, q4.ext.r⟩, q5⟩
theorem StpL.refl {ρ : Pl} {h : LHeap} {w : World} {L : Nat} (hL : L ≤ h.length) (hs : Sim T w0 ρ h w) (hf : ∀ i, h.length ≤ i → ρ i = none) : StpL T w0 ρ L ρ h w := ⟨fun _ _ => rfl, hs, hf, hL, .refl _⟩
theorem StpL.trans {ρ ρ1 ρ2 : Pl} {h1 h2 : LHeap} {w1 w2 : World} {L : Nat} (a : StpL T w0 ρ L ρ1 h1 w1) (b : StpL T w0 ρ1 L ρ2 h2 w2) : StpL T w0 ρ L ρ2 h2 w2 :=
  ⟨fun i hi => (b.keep i hi).trans (a.keep i hi), b.sim, b.fresh, b.len, a.r.trans b.r⟩
theorem PQL.step {ρ ρ1 : Pl} {h1 : LHeap} {w1 : World} {L : Nat} {Q : LExit → List LVal → LHeap → Prop} (s : StpL T w0 ρ L ρ1 h1 w1) {e : Exit} {a : Act} {w : World} (q : PQL T w0 ρ1 L Q e a w) : PQL T w0 ρ L Q e a w :=
  let ⟨le, t', h', ρ', q1, q2, q3, q4, q5⟩ := q
  ⟨le, t', h', ρ', q1, q2, q3, s.trans q4, q5⟩
theorem code_wp : ∀ (c : Code) (lc : LCode), compileC P c = some lc → ∀ {L : Nat} {Q : LExit → List LVal → LHeap → Prop} {ρ : Pl} {t : List LVal} {h : LHeap} {a : Act} {w : World}, L ≤ h.length → Sim T w0 ρ h w → (∀ i, h.length ≤ i → ρ i = none) → TSim ρ t a → a.defers = [] → lwp P L lc Q t h → c.wp P (PQL T w0 ρ L Q) a w
  | .skip, lc, hc, L, Q, ρ, t, h, a, w, hL, hs, hf, ht, hd, hw => by
    cases hc
    exact wp_skip ⟨.normal, t, h, ρ, hw, trivial, ht, StpL.refl hL hs hf, hd⟩
  | .exit id, lc, hc, L, Q, ρ, t, h, a, w, hL, hs, hf, ht, hd, hw => by
    cases hc
    exact wp_exit ⟨.exit id, t, h, ρ, hw, rfl, ht, StpL.refl hL hs hf, hd⟩
  | .ret, lc, hc, L, Q, ρ, t, h, a, w, hL, hs, hf, ht, hd, hw => by
    cases hc
    exact wp_ret ⟨.ret, t, h, ρ, hw, trivial, ht, StpL.refl hL hs hf, hd⟩
  | .region id ops draw, lc, hc, L, Q, ρ, t, h, a, w, hL, hs, hf, ht, hd, hw => by
    cases draw with
    | true =>
      obtain ⟨h1, hc⟩ := when_some hc
      obtain ⟨x, hx, hc⟩ := withO_some hc
      cases hc
      simp only [Bool.and_eq_true] at h1
      exact wp_mono (draws_wp h1.1 h1.2 hx hs hf ht hd hw) (fun e a w q => q.low hL)
    | false =>
      obtain ⟨x, hx, hc⟩ := withO_some hc
      cases hc
      exact wp_mono (wp_region (ops_wp _ _ hx hs hf ht hd hw)) (fun e a w q => q.low hL)
  | .seq x y, lc, hc, L, Q, ρ, t, h, a, w, hL, hs, hf, ht, hd, hw => by
    obtain ⟨x', hx, hc⟩ := withO_some hc
    obtain ⟨y', hy, hc⟩ := withO_some hc
    cases hc
    refine wp_seq (wp_mono (code_wp x x' hx hL hs hf ht hd hw) ?_)
    rintro e a' w' ⟨le, t', h', ρ', q1, q2, q3, q4, q5⟩
    cases le <;> cases e <;> try exact q2.elim
    · exact wp_mono (code_wp y y' hy q4.len q4.sim q4.fresh q3 q5 q1) (fun e a w q => PQL.step q4 q)
    · exact ⟨_, t', h', ρ', q1, q2, q3, q4, q5⟩
    · exact ⟨_, t', h', ρ', q1, q2, q3, q4, q5⟩
    · exact ⟨_, t', h', ρ', q1, q2, q3, q4, q5⟩
  | .cond c x y, lc, hc, L, Q, ρ, t, h, a, w, hL, hs, hf, ht, hd, hw => by
    obtain ⟨c', h1, hc⟩ := withO_some hc
    obtain ⟨x', hx, hc⟩ := withO_some hc
    obtain ⟨y', hy, hc⟩ := withO_some hc
    cases hc
    obtain ⟨v, hv, hw⟩ := opdK_wp ht h1 hw
    cases v <;> try exact hw.elim
    rename_i b
    rcases iteP_elim hw with ⟨hb, h1⟩ | ⟨hb, h1⟩
    · subst hb
      exact wp_cond_true hv (code_wp x x' hx hL hs hf ht hd h1)
    · subst hb
      exact wp_cond_false hv (code_wp y y' hy hL hs hf ht hd h1)
  | .block id b, lc, hc, L, Q, ρ, t, h, a, w, hL, hs, hf, ht, hd, hw => by
    obtain ⟨b', hb, hc⟩ := withO_some hc
    cases hc
    refine wp_block (wp_mono (code_wp b b' hb hL hs hf ht hd hw) ?_)
    rintro e a' w' ⟨le, t', h', ρ', q1, q2, q3, q4, q5⟩
    cases le <;> cases e <;> try exact q2.elim
    · exact ⟨_, t', h', ρ', q1, q2, q3, q4, q5⟩
    · rename_i i j
      have q2 : i = j := q2
      subst q2
      simp only [Exit.inBlock]
      simp only at q1
      split at q1
      · rename_i hb
        have := Nat.eq_of_beq_eq_true hb
        rw [if_pos this]
        exact ⟨.normal, t', h', ρ', q1, trivial, q3, q4, q5⟩
      · rename_i hb
        rw [if_neg (by intro e; subst e; simp at hb)]
        exact ⟨.exit i, t', h', ρ', q1, rfl, q3, q4, q5⟩
    · exact ⟨_, t', h', ρ', q1, q2, q3, q4, q5⟩
    · exact ⟨_, t', h', ρ', q1, q2, q3, q4, q5⟩
  | .loop b, lc, hc, L, Q, ρ, t, h, a, w, hL, hs, hf, ht, hd, hw => by
    obtain ⟨b', hb, hc⟩ := withO_some hc
    cases hc
    obtain ⟨⟨k, hk⟩⟩ := hw
    -- a round's state: how many rounds are left
    refine wp_loop (fun a' w' => ∃ j t' h' ρ', iter (fun Q => lwp P L b' Q) Q L j t' h' ∧ TSim ρ' t' a' ∧ StpL T w0 ρ L ρ' h' w' ∧ a'.defers = []) (fun a' w' => sInf' fun j => ∃ t' h' ρ', iter (fun Q => lwp P L b' Q) Q L j t' h' ∧ TSim ρ' t' a' ∧ StpL T w0 ρ L ρ' h' w' ∧ a'.defers = []) ⟨k, t, h, ρ, hk, ht, StpL.refl hL hs hf, hd⟩ ?_
    intro a1 w1 hI
    have hmin := sInf'_spec hI
    generalize hj : sInf' (fun j => ∃ t' h' ρ', iter (fun Q => lwp P L b' Q) Q L j t' h' ∧ TSim ρ' t' a1 ∧ StpL T w0 ρ L ρ' h' w1 ∧ a1.defers = []) = j at hmin
    obtain ⟨t1, h1, ρ1, r1, r2, r3, r4⟩ := hmin
    cases j with
    | zero => exact r1.elim
    | succ j =>
      obtain ⟨t2, h2, hsh, r1⟩ := r1
      obtain ⟨ρ2, s1, s2, s3, r3'⟩ : ∃ ρ2, Sim T w0 ρ2 h2 w1 ∧ (∀ i, h2.length ≤ i → ρ2 i = none) ∧ TSim ρ2 t2 a1 ∧ StpL T w0 ρ L ρ2 h2 w1 := by
        rcases hsh with ⟨rfl, rfl⟩ | ⟨F, qF, gl, q0, q3, q1, q2⟩
        · exact ⟨ρ1, r3.sim, r3.fresh, r2, r3⟩
        · obtain ⟨ρ3, g1, g5, g6, g7⟩ := r3.sim.tell r3.fresh qF q0 q2
          have hgl := (shH_spec _ _ q2).1
          have g2 : ∀ i, h2.length ≤ i → newP ρ3 gl i = none := fun i hi => by rw [newP_at, if_neg (by omega)]
          obtain ⟨g3, g4⟩ := shT_spec (ρ := ρ3) (ρ' := newP ρ3 gl) g7 newP_cut _ _ q1
          exact ⟨_, g1, g2, ⟨by rw [← g3]; exact r2.1, fun i => g4 i _ (PV.ext g5 _ _ (r2.2 i))⟩, ⟨fun i hi => (newP_id q3 i hi).trans ((congrFun g6 i).trans (r3.keep i hi)), g1, g2, by rw [← hgl]; exact idl_len q3, r3.r.trans g5.r⟩⟩
      refine wp_mono (code_wp b b' hb r3'.len s1 s2 s3 r4 r1) ?_
      rintro e a' w' ⟨le, t', h', ρ', q1, q2, q3, q4, q5⟩
      cases le <;> cases e <;> try exact q2.elim
      · refine ⟨⟨j, t', h', ρ', q1, q3, r3'.trans q4, q5⟩, ?_⟩
        have := sInf'_le (p := fun j => ∃ t'' h'' ρ'', iter (fun Q => lwp P L b' Q) Q L j t'' h'' ∧ TSim ρ'' t'' a' ∧ StpL T w0 ρ L ρ'' h'' w' ∧ a'.defers = []) ⟨t', h', ρ', q1, q3, r3'.trans q4, q5⟩
        omega
      · exact ⟨_, t', h', ρ', q1, q2, q3, r3'.trans q4, q5⟩
      · exact ⟨_, t', h', ρ', q1, q2, q3, r3'.trans q4, q5⟩
      · exact ⟨_, t', h', ρ', q1, q2, q3, r3'.trans q4, q5⟩
  | .rangeFunc .., lc, hc, L, Q, ρ, t, h, a, w, hL, hs, hf, ht, hd, hw => by cases hc
  | .scope _, lc, hc, L, Q, ρ, t, h, a, w, hL, hs, hf, ht, hd, hw => by cases hc
  | .label _, lc, hc, L, Q, ρ, t, h, a, w, hL, hs, hf, ht, hd, hw => by cases hc
  | .goto _, lc, hc, L, Q, ρ, t, h, a, w, hL, hs, hf, ht, hd, hw => by cases hc
  | .refuse _, lc, hc, L, Q, ρ, t, h, a, w, hL, hs, hf, ht, hd, hw => by cases hc
end
end Go.Proofs.Ytilmfhpoiejmfaa.Lh
