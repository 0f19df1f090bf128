/- Operations on the heap of the mind that make no block and turn none; and that the world's operations do the same. Over any program. -/
import Derived.Test.YtilmfhpoiejmfaaLh2
namespace Go.Proofs.Ytilmfhpoiejmfaa.Lh
set_option linter.unusedSimpArgs false
set_option linter.unusedVariables false
set_option linter.unusedSectionVars false
open Go.RowKit
variable [Fz]
section
variable {α β : Type}
def withO (x : Option α) (K : α → Option β) : Option β :=
  match x with
  | some y => K y
  | none => none
def when_ (b : Bool) (K : Option β) : Option β :=
  match b with
  | true => K
  | false => none
theorem withO_some {x : Option α} {K : α → Option β} {r : β} (h : withO x K = some r) : ∃ y, x = some y ∧ K y = some r := by
  cases x with
  | none => cases h
  | some y => exact ⟨y, rfl, h⟩
theorem when_some {b : Bool} {K : Option β} {r : β} (h : when_ b K = some r) : b = true ∧ K = some r := by
  cases b with
  | false => cases h
  | true => exact ⟨rfl, h⟩
end
inductive LOpd where
  | tmp (i : Nat)
  | const (v : LVal)
def constS : Value → Option LVal
  | .bool b => some (.bool b)
  | .int k n => some (.int k n)
  | .string s => some (.str s)
  | .pointer none => some .nilp
  | .slice none 0 0 => some (.slice ⟨0, [], 0⟩ 0 0 0 0 (some 0))
  | .nilFunc => some .nilf
  | .nilIface => some .nilI
  | _ => none
def constOnes : List Value → Option Segs
  | [] => some .nil
  | v :: r => match constS v, constOnes r with
    | some x, some s => some (.one x s)
    | _, _ => none
def constL : Value → Option LVal
  | .agg cs => (constOnes cs.toList).map .agg
  | .tuple cs => match cs.toList with
    | [] => some .undef
    | _ => none
  | v => constS v
theorem constS_spec {v : Value} {x : LVal} (h : constS v = some x) (ρ : Pl) : PV ρ x v ∧ notAgg v := by
  unfold constS at h
  split at h <;> simp at h <;> subst h
  all_goals first
    | exact ⟨rfl, rfl⟩
    | exact ⟨⟨none, 0, rfl, .inl ⟨rfl, rfl, rfl⟩⟩, rfl⟩
theorem constOnes_spec : ∀ {l : List Value} {s : Segs}, constOnes l = some s → ∀ ρ, PS ρ s l
  | [], s, h, ρ => by
    simp [constOnes] at h
    subst h
    rfl
  | v :: r, s, h, ρ => by
    unfold constOnes at h
    split at h
    · rename_i x s' hx hs
      simp at h
      subst h
      exact ⟨v, r, rfl, (constS_spec hx ρ).1, (constS_spec hx ρ).2, constOnes_spec hs ρ⟩
    · simp at h
theorem constL_spec {v : Value} {x : LVal} (h : constL v = some x) (ρ : Pl) : PV ρ x v := by
  unfold constL at h
  split at h
  · rename_i cs
    cases hc : constOnes cs.toList with
    | none => simp [hc] at h
    | some s =>
      simp [hc] at h
      subst h
      exact ⟨cs.toList, constOnes_spec hc ρ, by simp⟩
  · rename_i cs
    split at h
    · rename_i he
      simp at h
      subst h
      have : cs = #[] := by simpa using he
      subst this
      rfl
    · simp at h
  · exact (constS_spec h ρ).1
def compileOpd : Operand → Option LOpd
  | .tmp i => some (.tmp i)
  | .const v => (constL v).map .const
  | .func f => some (.const (.func f .nil))
  | .global g => some (.const (.gl g))
def LOpd.rd : LOpd → (LVal → Rd) → Rd
  | .tmp i, k => .tmp i k
  | .const v, k => k v
def TSim (ρ : Pl) (t : List LVal) (a : Act) : Prop := t.length = a.tmps.size ∧ ∀ i, PV ρ (lget t i) (a.tmps.getD i undef)
section
variable {T : Nat → Nat → Prop} {w0 : World} {ρ : Pl} {h : LHeap} {w : World} {t : List LVal} {a : Act} {Φ : LVal → List (Nat × Option LObj) → Option LObj → Prop} {P : Program} {n : Nat}
theorem opd_wp {X : Operand} {x : LOpd} (hx : compileOpd X = some x) (ht : TSim ρ t a) {k : LVal → Rd} (hw : (x.rd k).wp t h Φ) : ∃ v, PV ρ v (a.eval X) ∧ (k v).wp t h Φ := by
  cases X with
  | tmp i =>
    simp [compileOpd] at hx
    subst hx
    simp only [LOpd.rd, Rd.wp, getK_eq] at hw
    exact ⟨lget t i, ht.2 i, hw⟩
  | const v =>
    simp only [compileOpd] at hx
    cases hc : constL v with
    | none => simp [hc] at hx
    | some c =>
      simp [hc] at hx
      subst hx
      exact ⟨c, constL_spec hc ρ, hw⟩
  | func f =>
    simp [compileOpd] at hx
    subst hx
    exact ⟨.func f .nil, ⟨[], rfl, rfl⟩, hw⟩
  | global g =>
    simp [compileOpd] at hx
    subst hx
    exact ⟨.gl g, rfl, hw⟩
/-- An operation's run: a value, or none. -/
def Done (P : Program) (o : Oper) (a : Act) (w : World) (x : Value) (w' : World) : Prop :=
  (execOp a.eval o).run P w = .ok (.value x) w' ∨ ((execOp a.eval o).run P w = .ok .skip w' ∧ x = undef)
def Res (P : Program) (o : Oper) (a : Act) (w : World) (T : Nat → Nat → Prop) (w0 : World) (ρ : Pl) (h : LHeap) (n : Nat) (Φ : LVal → List (Nat × Option LObj) → Option LObj → Prop) : Prop :=
  ∃ v u nw x ρ' w', Φ v u nw ∧ Done P o a w x w' ∧ Ext ρ ρ' ∧ (∀ i, (i ≠ n ∨ nw = none) → ρ' i = ρ i) ∧ PV ρ' v x ∧ Sim T w0 ρ' (applyU h u n nw) w'
theorem Res.quiet {o : Oper} {v : LVal} {x : Value} (hs : Sim T w0 ρ h w) (hΦ : Φ v [] none) (hr : (execOp a.eval o).run P w = .ok (.value x) w) (hv : PV ρ v x) : Res P o a w T w0 ρ h n Φ :=
  ⟨v, [], none, x, ρ, w, hΦ, .inl hr, Ext.refl ρ, fun _ _ => rfl, hv, hs⟩
end
def IntKind.num : IntKind → Nat
  | .i8 => 0 | .i16 => 1 | .i32 => 2 | .i64 => 3 | .u8 => 4 | .u16 => 5 | .u32 => 6 | .u64 => 7
def kEq (k k' : IntKind) : Bool := Nat.beq (IntKind.num k) (IntKind.num k')
theorem kEq_spec {k k' : IntKind} (h : kEq k k' = true) : k = k' := by
  cases k <;> cases k' <;> first | rfl | (exact absurd h (by decide))
def one (v : LVal) : Rd := .ret v [] none
def binRd (op : BinOp) : LVal → LVal → Rd
  | .int k a, .int k' b => match op with
    | .shl => .need (0 ≤ b) (one (.int k (k.wrap (a * 2 ^ (min b.toNat k.bits)))))
    | .shr => .need (0 ≤ b) (one (.int k (a.fdiv (2 ^ (min b.toNat k.bits)))))
    | op => match kEq k k' with
      | false => .fail
      | true => match op with
        | .add => one (.int k (k.wrap (a + b)))
        | .sub => one (.int k (k.wrap (a - b)))
        | .mul => one (.int k (k.wrap (a * b)))
        | .quo => .need (b ≠ 0) (one (.int k (k.wrap (a.tdiv b))))
        | .rem => .need (b ≠ 0) (one (.int k (a.tmod b)))
        | .and => one (.int k (k.wrap (BitVec.ofInt k.bits a &&& BitVec.ofInt k.bits b).toNat))
        | .or => one (.int k (k.wrap (BitVec.ofInt k.bits a ||| BitVec.ofInt k.bits b).toNat))
        | .xor => one (.int k (k.wrap (BitVec.ofInt k.bits a ^^^ BitVec.ofInt k.bits b).toNat))
        | .andNot => one (.int k (k.wrap (BitVec.ofInt k.bits a &&& ~~~BitVec.ofInt k.bits b).toNat))
        | .eql => one (.bool (a == b))
        | .neq => one (.bool (a != b))
        | .lss => one (.bool (a < b))
        | .leq => one (.bool (a ≤ b))
        | .gtr => one (.bool (a > b))
        | .geq => one (.bool (a ≥ b))
        | _ => .fail
  | .str x, .str y => match op with
    | .add => .need (((x.size + y.size : Nat) : Int) ≤ IntKind.i64.max) (one (.str (x ++ y)))
    | .eql => one (.bool (x == y))
    | .neq => one (.bool (!(x == y)))
    | .lss => one (.bool (Op.bytesLess x.toList y.toList))
    | .leq => one (.bool (Op.bytesLess x.toList y.toList || x == y))
    | .gtr => one (.bool (!(Op.bytesLess x.toList y.toList || x == y)))
    | .geq => one (.bool (!Op.bytesLess x.toList y.toList))
    | _ => .fail
  | _, _ => .fail
theorem kwrap {k : IntKind} {n : Nat} : k.wrap ((n : Nat) : Int) = k.wrap (n : Int) := rfl
section
variable {T : Nat → Nat → Prop} {w0 : World} {ρ : Pl} {h : LHeap} {w : World} {t : List LVal} {a : Act} {Φ : LVal → List (Nat × Option LObj) → Option LObj → Prop} {P : Program} {n : Nat}
theorem bin_sound (op : BinOp) (xT yT : TypeId) (X Y : Operand) (o : Oper) (ho : o.op = .binOp op xT X Y yT) (hs : Sim T w0 ρ h w) {vx vy : LVal} (hx : PV ρ vx (a.eval X)) (hy : PV ρ vy (a.eval Y)) (hw : (binRd op vx vy).wp t h Φ) : Res P o a w T w0 ρ h n Φ := by
  have main : ∀ v x, Φ v [] none → (eqGuard op xT X Y (a.eval X) (a.eval Y)).run P w = .ok () w → (binOp op xT (a.eval X) (a.eval Y)).run P w = .ok x w → PV ρ v x → Res P o a w T w0 ρ h n Φ := by
    intro v x h1 h2 h3 h4
    refine Res.quiet hs h1 ?_ h4
    unfold execOp
    simp only [ho, Sem.run_bind, h2, h3, Result.andThen_ok, Sem.run_pure]
  have hg : ∀ x y : Value, notAgg x → x ≠ .nilIface → (eqGuard op xT X Y x y).run P w = .ok () w := by
    intro x y h1 h2
    unfold eqGuard
    cases op <;> first | rfl | (cases x <;> first | rfl | exact absurd rfl h2 | exact absurd h1 (by simp [notAgg, Value.oneCell']))
  unfold binRd at hw
  split at hw
  · rename_i k n k' m
    have ex : a.eval X = .int k n := hx
    have ey : a.eval Y = .int k' m := hy
    have g := hg (.int k n) (.int k' m) rfl (by simp)
    rw [ex, ey] at main
    split at hw
    · obtain ⟨h0, hw⟩ := hw
      exact main _ _ hw g (by simp [binOp, Op.shift, Int.not_lt.2 h0]) rfl
    · obtain ⟨h0, hw⟩ := hw
      exact main _ _ hw g (by simp [binOp, Op.shift, Int.not_lt.2 h0]) rfl
    · rename_i n1 n2
      split at hw
      · exact hw.elim
      · rename_i hk
        have := kEq_spec hk
        subst this
        split at hw
        case h_4 => exact main _ _ hw.2 g (by simp [binOp, Op.intDiv, hw.1]) rfl
        case h_5 => exact main _ _ hw.2 g (by simp [binOp, Op.intDiv, hw.1]) rfl
        all_goals first
          | exact hw.elim
          | exact main _ _ hw g (by simp [binOp, Op.intArith, Op.intBits, Op.intCmp]) rfl
  · rename_i x y
    have ex : a.eval X = .string x := hx
    have ey : a.eval Y = .string y := hy
    have g := hg (.string x) (.string y) rfl (by simp)
    rw [ex, ey] at main
    split at hw
    · obtain ⟨h0, hw⟩ := hw
      exact main _ _ hw g (by simp only [binOp, Op.stringOp]; rw [if_neg (by omega)]; rfl) rfl
    all_goals first
      | exact hw.elim
      | exact main _ _ hw g (by simp [binOp, Op.stringOp, beq_toListBytes]) rfl
  · exact hw.elim
end
end Go.Proofs.Ytilmfhpoiejmfaa.Lh
