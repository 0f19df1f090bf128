/- Equality of truths, pointers and nil, structs of scalars, arrays of integers. Over any program. -/
import Derived.Test.YtilmfhpoiejmfaaLh7b
import Derived.ChangeKeysEq
import Derived.Laws.StructEq
namespace Go.Proofs.Ytilmfhpoiejmfaa.Lh
set_option linter.unusedSimpArgs false
set_option linter.unusedVariables false
set_option linter.unusedSectionVars false
open Go.RowKit
variable [Fz]
def negB (neg b : Bool) : Bool :=
  match neg with
  | true => !b
  | false => b
def eqOp (neg : Bool) : BinOp := if neg then .neq else .eql
section
variable {T : Nat → Nat → Prop} {w0 : World} {ρ : Pl} {h : LHeap} {w : World} {t : List LVal} {a : Act} {Φ : LVal → List (Nat × Option LObj) → Option LObj → Prop} {P : Program} {n : Nat}
/-- The run of an equality, of what the values' equality comes to. -/
theorem eq_exec {neg : Bool} {o : Oper} {xT yT : TypeId} {X Y : Operand} (ho : o.op = .binOp (eqOp neg) xT X Y yT) {b : Bool} (hg : (eqGuard (eqOp neg) xT X Y (a.eval X) (a.eval Y)).run P w = .ok () w) (hb : (Op.equal xT (a.eval X) (a.eval Y)).run P w = .ok b w)
    (hs1 : ∀ op, op = .eql ∨ op = .neq → binOp op xT (a.eval X) (a.eval Y) = (match op with | .eql => (do pure (.bool (← Op.equal xT (a.eval X) (a.eval Y)))) | _ => (do pure (.bool (!(← Op.equal xT (a.eval X) (a.eval Y))))))) :
    (execOp a.eval o).run P w = .ok (.value (.bool (negB neg b))) w := by
  unfold execOp
  simp only [ho, Sem.run_bind, hg, Result.andThen_ok]
  cases neg
  · rw [show eqOp false = .eql from rfl, hs1 .eql (.inl rfl)]
    simp [hb, negB]
  · rw [show eqOp true = .neq from rfl, hs1 .neq (.inr rfl)]
    simp [hb, negB]
def beqRd (neg : Bool) : LVal → LVal → Rd
  | .bool x, .bool y => match neg with
    | true => one (.bool (!(x == y)))
    | false => one (.bool (x == y))
  | _, _ => .fail
theorem beq_sound (neg : Bool) (xT yT : TypeId) (X Y : Operand) (o : Oper) (ho : o.op = .binOp (eqOp neg) xT X Y yT) (hd : P.underlying xT = some .bool) (hs : Sim T w0 ρ h w) {vx vy : LVal} (hx : PV ρ vx (a.eval X)) (hy : PV ρ vy (a.eval Y)) (hw : (beqRd neg vx vy).wp t h Φ) : Res P o a w T w0 ρ h n Φ := by
  cases vx <;> try exact hw.elim
  cases vy <;> try exact hw.elim
  rename_i x y
  have ex : a.eval X = .bool x := hx
  have ey : a.eval Y = .bool y := hy
  have hr : (execOp a.eval o).run P w = .ok (.value (.bool (negB neg (x == y)))) w := by
    refine eq_exec ho ?_ ?_ ?_
    · rw [ex, ey]; cases neg <;> rfl
    · rw [ex, ey]; exact run_equalIn_bool' w 9999 xT x y hd
    · rw [ex, ey]; rintro op (rfl | rfl) <;> rfl
  cases neg
  · exact Res.quiet hs hw hr rfl
  · exact Res.quiet hs hw hr rfl
theorem equalIn_ptr (d : Nat) {t e : TypeId} (h : P.underlying t = some (.pointer e)) {y : Option Addr} {w : World} : (Op.equalIn (d + 1) t (.pointer none) (.pointer y)).run P w = .ok y.isNone w := by
  simp only [Op.equalIn, Sem.run_bind, run_underlying h, Result.andThen_ok]
  rfl
theorem equalIn_ptr' (d : Nat) {t e : TypeId} (h : P.underlying t = some (.pointer e)) {x : Addr} {w : World} : (Op.equalIn (d + 1) t (.pointer (some x)) (.pointer none)).run P w = .ok false w := by
  simp only [Op.equalIn, Sem.run_bind, run_underlying h, Result.andThen_ok]
  rfl
def peqRd (neg : Bool) : LVal → LVal → Rd
  | .nilp, .nilp => one (.bool (negB neg true))
  | .nilp, .ptr _ => one (.bool (negB neg false))
  | .ptr _, .nilp => one (.bool (negB neg false))
  | .nilp, .tok _ => one (.bool (negB neg false))
  | .tok _, .nilp => one (.bool (negB neg false))
  | _, _ => .fail
theorem peq_sound (neg : Bool) (xT yT e : TypeId) (X Y : Operand) (o : Oper) (ho : o.op = .binOp (eqOp neg) xT X Y yT) (hd : P.underlying xT = some (.pointer e)) (hs : Sim T w0 ρ h w) {vx vy : LVal} (hx : PV ρ vx (a.eval X)) (hy : PV ρ vy (a.eval Y)) (hw : (peqRd neg vx vy).wp t h Φ) : Res P o a w T w0 ρ h n Φ := by
  unfold peqRd at hw
  split at hw
  · have ex : a.eval X = .pointer none := hx
    have ey : a.eval Y = .pointer none := hy
    refine Res.quiet hs hw (eq_exec (b := true) ho ?_ ?_ ?_) rfl
    · rw [ex, ey]; cases neg <;> rfl
    · rw [ex, ey, show ∀ x y, Op.equal xT x y = Op.equalIn (9999 + 1) xT x y from fun _ _ => rfl]; rw [equalIn_ptr _ hd]; rfl
    · rw [ex, ey]; rintro op (rfl | rfl) <;> rfl
  · have ex : a.eval X = .pointer none := hx
    obtain ⟨g, b, m, hp, ey⟩ := hy
    refine Res.quiet hs hw (eq_exec (b := false) ho ?_ ?_ ?_) rfl
    · rw [ex, ey]; cases neg <;> rfl
    · rw [ex, ey, show ∀ x y, Op.equal xT x y = Op.equalIn (9999 + 1) xT x y from fun _ _ => rfl]; rw [equalIn_ptr _ hd]; rfl
    · rw [ex, ey]; rintro op (rfl | rfl) <;> rfl
  · have ey : a.eval Y = .pointer none := hy
    obtain ⟨g, b, m, hp, ex⟩ := hx
    refine Res.quiet hs hw (eq_exec (b := false) ho ?_ ?_ ?_) rfl
    · rw [ex, ey]; cases neg <;> rfl
    · rw [ex, ey, show ∀ x y, Op.equal xT x y = Op.equalIn (9999 + 1) xT x y from fun _ _ => rfl]; rw [equalIn_ptr' _ hd]
    · rw [ex, ey]; rintro op (rfl | rfl) <;> rfl
  · have ex : a.eval X = .pointer none := hx
    obtain ⟨g, hp, ey⟩ := hy
    refine Res.quiet hs hw (eq_exec (b := false) ho ?_ ?_ ?_) rfl
    · rw [ex, ey]; cases neg <;> rfl
    · rw [ex, ey, show ∀ x y, Op.equal xT x y = Op.equalIn (9999 + 1) xT x y from fun _ _ => rfl]; rw [equalIn_ptr _ hd]; rfl
    · rw [ex, ey]; rintro op (rfl | rfl) <;> rfl
  · have ey : a.eval Y = .pointer none := hy
    obtain ⟨g, hp, ex⟩ := hx
    refine Res.quiet hs hw (eq_exec (b := false) ho ?_ ?_ ?_) rfl
    · rw [ex, ey]; cases neg <;> rfl
    · rw [ex, ey, show ∀ x y, Op.equal xT x y = Op.equalIn (9999 + 1) xT x y from fun _ _ => rfl]; rw [equalIn_ptr' _ hd]
    · rw [ex, ey]; rintro op (rfl | rfl) <;> rfl
  · exact hw.elim
/-- Two scalars' equality. -/
def scEq : LVal → LVal → (Bool → Rd) → Rd
  | .int k a, .int k' b, K => match kEq k k' with
    | true => K (a == b)
    | false => .fail
  | .str a, .str b, K => K (a == b)
  | .bool a, .bool b, K => K (a == b)
  | _, _, _ => .fail
theorem scEq_wp {v u : LVal} {x y : Value} {K : Bool → Rd} (hv : PV ρ v x) (hu : PV ρ u y) (hw : (scEq v u K).wp t h Φ) : ∃ b, (K b).wp t h Φ ∧ ∀ (d : Nat) (f : TypeId), (P.underlying f = some .string ∨ P.underlying f = some .bool ∨ ∃ k, P.underlying f = some (.int k)) → (∀ k, P.underlying f = some (.int k) → ∃ k' n, v = .int k' n) → (P.underlying f = some .string → ∃ s, v = .str s) → (P.underlying f = some .bool → ∃ s, v = .bool s) → (Op.equalIn (d + 1) f x y).run P w = .ok b w := by
  cases v <;> try exact hw.elim
  · cases u <;> try exact hw.elim
    rename_i a b
    have ex : x = .bool a := hv
    have ey : y = .bool b := hu
    subst ex ey
    refine ⟨_, hw, fun d f h1 h2 h3 h4 => ?_⟩
    rcases h1 with h1 | h1 | ⟨k2, h1⟩
    · obtain ⟨s, e⟩ := h3 h1; cases e
    · exact run_equalIn_bool' w d f a b h1
    · obtain ⟨_, _, e⟩ := h2 _ h1; cases e
  · cases u <;> try exact hw.elim
    rename_i k a k' b
    simp only [scEq] at hw
    split at hw
    · rename_i hk
      have := kEq_spec hk
      subst this
      have ex : x = .int k a := hv
      have ey : y = .int k b := hu
      subst ex ey
      refine ⟨_, hw, fun d f h1 h2 h3 h4 => ?_⟩
      rcases h1 with h1 | h1 | ⟨k2, h1⟩
      · obtain ⟨s, e⟩ := h3 h1; cases e
      · obtain ⟨s, e⟩ := h4 h1; cases e
      · exact run_equalIn_int w d f k k2 a b h1
    · exact hw.elim
  · cases u <;> try exact hw.elim
    rename_i a b
    have ex : x = .string a := hv
    have ey : y = .string b := hu
    subst ex ey
    refine ⟨_, hw, fun d f h1 h2 h3 h4 => ?_⟩
    rcases h1 with h1 | h1 | ⟨k2, h1⟩
    · rw [run_equalIn_string w d f a b h1, beq_toListBytes]
    · obtain ⟨s, e⟩ := h4 h1; cases e
    · obtain ⟨_, _, e⟩ := h2 _ h1; cases e
/-- A scalar's kind: 0 an integer, 1 a string, 2 a truth. -/
def kindOk (c : Nat) : LVal → Bool
  | .int _ _ => Nat.beq c 0
  | .str _ => Nat.beq c 1
  | .bool _ => Nat.beq c 2
  | _ => false
def steqK : List (Nat × Nat) → Segs → Segs → (Bool → Rd) → Rd
  | [], _, _, K => K true
  | (off, c) :: r, s1, s2, K => skipK s1 off (fun x => skipK s2 off (fun y => match x, y with
    | .one u _, .one v _ => match kindOk c u with
      | true => scEq u v fun b => steqK r s1 s2 fun b' => K (b && b')
      | false => .fail
    | _, _ => .fail) .fail) .fail
def fieldsEq (P : Program) : List Field → Option (List (Nat × Nat))
  | [] => some []
  | f :: r => match f.name == "_" with
    | true => none
    | false => withO (fieldsEq P r) fun s => match P.underlying f.type with
      | some (.int _) => some ((f.offset, 0) :: s)
      | some .string => some ((f.offset, 1) :: s)
      | some .bool => some ((f.offset, 2) :: s)
      | _ => none
theorem part_sc {f : TypeId} {d : TypeDesc} (hd : P.underlying f = some d) (hr : d.isRow = false) {cs : Array Value} {off : Nat} {v : Value} (hv : cs[off]? = some v) (w : World) : (part f cs off).run P w = .ok v w := by
  have hagg : (isAgg f).run P w = .ok false w := by
    unfold isAgg
    rw [Sem.run_bind, run_underlying hd w]
    cases d <;> simp_all
  simp [part, Sem.run_bind, hagg, hv]
theorem steq_wp {s1 s2 : Segs} {l1 l2 : List Value} (h1 : PS ρ s1 l1) (h2 : PS ρ s2 l2) : ∀ (fs : List Field) (r : List (Nat × Nat)), fieldsEq P fs = some r → ∀ {K : Bool → Rd}, (steqK r s1 s2 K).wp t h Φ → ∃ b, (K b).wp t h Φ ∧ ∀ d : Nat, (Op.eqFields (d + 1) l1.toArray l2.toArray fs).run P w = .ok b w
  | [], r, hr, K, hw => by
    simp [fieldsEq] at hr
    subst hr
    exact ⟨true, hw, fun d => rfl⟩
  | f :: fs, r, hr, K, hw => by
    unfold fieldsEq at hr
    split at hr
    · cases hr
    · rename_i hname
      have hname : f.name ≠ "_" := by simpa using hname
      obtain ⟨s, hs, hr⟩ := withO_some hr
      have main : ∀ c, r = (f.offset, c) :: s → (∃ d, P.underlying f.type = some d ∧ d.isRow = false) → (P.underlying f.type = some .string ∨ P.underlying f.type = some .bool ∨ ∃ k, P.underlying f.type = some (.int k)) → (∀ v, kindOk c v = true → (∀ k, P.underlying f.type = some (.int k) → ∃ k' n, v = .int k' n) ∧ (P.underlying f.type = some .string → ∃ s, v = .str s) ∧ (P.underlying f.type = some .bool → ∃ s, v = .bool s)) → ∃ b, (K b).wp t h Φ ∧ ∀ d : Nat, (Op.eqFields (d + 1) l1.toArray l2.toArray (f :: fs)).run P w = .ok b w := by
        intro c hrc ⟨d0, hd0, hd1⟩ hk hok
        subst hrc
        obtain ⟨a1, q1, q2⟩ := skip_wp _ _ hw
        obtain ⟨a2, q3, q4⟩ := skip_wp _ _ q1
        cases a1 <;> try exact q3.elim
        cases a2 <;> try exact q3.elim
        rename_i u r1 v r2
        simp only at q3
        split at q3
        · rename_i hkind
          obtain ⟨x1, y1, rfl, e1, e2⟩ := q2 ρ l1 h1
          obtain ⟨x2, y2, rfl, e3, e4⟩ := q4 ρ l2 h2
          obtain ⟨xv, l', rfl, p1, _, _⟩ := e2
          obtain ⟨yv, l'', rfl, p2, _, _⟩ := e4
          obtain ⟨b, p3, p4⟩ := scEq_wp (P := P) (w := w) p1 p2 q3
          obtain ⟨b', p5, p6⟩ := steq_wp h1 h2 fs s hs p3
          refine ⟨b && b', p5, fun d => ?_⟩
          obtain ⟨o1, o2, o3⟩ := hok u hkind
          have g1 : ((x1 ++ xv :: l').toArray)[f.offset]? = some xv := by simp [← e1]
          have g2 : ((x2 ++ yv :: l'').toArray)[f.offset]? = some yv := by simp [← e3]
          simp only [Op.eqFields, if_pos hname, Sem.run_bind, part_sc hd0 hd1 g1, part_sc hd0 hd1 g2, Result.andThen_ok, p4 d f.type hk o1 o2 o3]
          cases b
          · simp
          · simp only [Bool.not_true, Bool.false_eq_true, if_false, Bool.true_and]
            exact p6 d
        · exact q3.elim
      split at hr
      · rename_i k hd
        cases hr
        refine main 0 rfl ⟨_, hd, rfl⟩ (.inr (.inr ⟨_, hd⟩)) (fun v hv => ?_)
        cases v <;> first | (simp [kindOk] at hv; done) | exact ⟨fun _ _ => ⟨_, _, rfl⟩, fun e => by (rw [hd] at e; cases e), fun e => by (rw [hd] at e; cases e)⟩ | (exact absurd hv (by decide))
      · rename_i hd
        cases hr
        refine main 1 rfl ⟨_, hd, rfl⟩ (.inl hd) (fun v hv => ?_)
        cases v <;> first | (simp [kindOk] at hv; done) | exact ⟨fun _ e => by (rw [hd] at e; cases e), fun _ => ⟨_, rfl⟩, fun e => by (rw [hd] at e; cases e)⟩ | (exact absurd hv (by decide))
      · rename_i hd
        cases hr
        refine main 2 rfl ⟨_, hd, rfl⟩ (.inr (.inl hd)) (fun v hv => ?_)
        cases v <;> first | (simp [kindOk] at hv; done) | exact ⟨fun _ e => by (rw [hd] at e; cases e), fun e => by (rw [hd] at e; cases e), fun _ => ⟨_, rfl⟩⟩ | (exact absurd hv (by decide))
      · cases hr
def stRd (neg : Bool) (r : List (Nat × Nat)) : LVal → LVal → Rd
  | .agg s1, .agg s2 => steqK r s1 s2 fun b => match neg with
    | true => one (.bool (!b))
    | false => one (.bool b)
  | _, _ => .fail
theorem st_sound (neg : Bool) (xT yT : TypeId) (X Y : Operand) (o : Oper) (ho : o.op = .binOp (eqOp neg) xT X Y yT) (hd : P.underlying xT = some (.struct (P.fieldsOf xT))) (hp : P.stoodInHeld xT = false) (hm : P.eqGuardType P.depth xT = false) {r : List (Nat × Nat)} (hr : fieldsEq P (P.fieldsOf xT).toList = some r) (hs : Sim T w0 ρ h w) {vx vy : LVal} (hx : PV ρ vx (a.eval X)) (hy : PV ρ vy (a.eval Y)) (hw : (stRd neg r vx vy).wp t h Φ) : Res P o a w T w0 ρ h n Φ := by
  cases vx <;> try exact hw.elim
  cases vy <;> try exact hw.elim
  obtain ⟨l1, p1, ex⟩ := hx
  obtain ⟨l2, p2, ey⟩ := hy
  obtain ⟨b, hb, hrun⟩ := steq_wp (P := P) (w := w) p1 p2 _ r hr hw
  have hexec : (execOp a.eval o).run P w = .ok (.value (.bool (negB neg b))) w := by
    refine eq_exec ho ?_ ?_ ?_
    · rw [ex, ey]; exact run_eqGuard_agg w _ xT X Y _ _ hm
    · rw [ex, ey]
      have := run_equalIn_struct w 9999 xT l1.toArray l2.toArray hd hp
      rw [hrun 9998] at this
      exact this
    · rw [ex, ey]; rintro op (rfl | rfl) <;> rfl
  cases neg
  · exact Res.quiet hs hb hexec rfl
  · exact Res.quiet hs hb hexec rfl
/-- Arrays of integers. -/
def arEq (m : Nat) (f g : Nat → Segs) : Bool := (List.range m).all fun i => segInt (f i) == segInt (g i)
def isIntK (k : IntKind) : Segs → Bool
  | .one (.int k' _) .nil => kEq k' k
  | _ => false
def arRd (neg : Bool) (m : Nat) (k : IntKind) : LVal → LVal → Rd
  | .agg s1, .agg s2 => match s1, s2 with
    | .rows m1 w1 f .nil, .rows m2 w2 g .nil => match Nat.beq m m1, Nat.beq m m2, Nat.beq w1 1, Nat.beq w2 1 with
      | true, true, true, true => .need ((∀ i, i < m → isIntK k (f i) = true) ∧ ∀ i, i < m → isIntK k (g i) = true) (match neg with
        | true => one (.bool (!arEq m f g))
        | false => one (.bool (arEq m f g)))
      | _, _, _, _ => .fail
    | _, _ => .fail
  | _, _ => .fail
theorem eqItems_run (d : Nat) {e : TypeId} {k : IntKind} (he : P.underlying e = some (.int k)) (hc : P.cellsOf e = 1) (xs ys : Array Value) (F G : Nat → Int) (m : Nat) (hx : ∀ i, i < m → ∃ k', xs[i]? = some (.int k' (F i)) ∧ ys[i]? = some (.int k' (G i))) : ∀ (c s : Nat), s + c ≤ m →
    (Op.eqItems (d + 1) e (P.cellsOf e) xs ys (List.range' s c)).run P w = .ok ((List.range' s c).all fun i => F i == G i) w := by
  have hp : P.plainKey e = true := by simp [Program.plainKey, he]
  intro c
  induction c with
  | zero => intro s _; rfl
  | succ c ih =>
    intro s hs
    rw [List.range'_succ]
    obtain ⟨k', h1, h2⟩ := hx s (by omega)
    have h1 : xs[s * P.cellsOf e]? = some (.int k' (F s)) := by rw [hc, Nat.mul_one]; exact h1
    have h2 : ys[s * P.cellsOf e]? = some (.int k' (G s)) := by rw [hc, Nat.mul_one]; exact h2
    simp only [Op.eqItems, Sem.run_bind, run_part_plain w hp h1, run_part_plain w hp h2, run_equalIn_int w d e k' k _ _ he, Result.andThen_ok, List.all_cons]
    cases hfg : (F s == G s)
    · simp
    · simp only [Bool.not_true, Bool.false_eq_true, if_false, Bool.true_and]
      exact ih (s + 1) (by omega)
theorem ar_sound (neg : Bool) (xT yT e : TypeId) (m : Nat) (k : IntKind) (i : TypeInfo) (X Y : Operand) (o : Oper) (ho : o.op = .binOp (eqOp neg) xT X Y yT) (hd : P.underlying xT = some (.array m e)) (he : P.underlying e = some (.int k)) (hi : P.info? e = some i) (hc : P.cellsOf e = 1) (hm : P.eqGuardType P.depth xT = false) (hs : Sim T w0 ρ h w) {vx vy : LVal} (hx : PV ρ vx (a.eval X)) (hy : PV ρ vy (a.eval Y)) (hw : (arRd neg m k vx vy).wp t h Φ) : Res P o a w T w0 ρ h n Φ := by
  cases vx <;> try exact hw.elim
  cases vy <;> try exact hw.elim
  rename_i s1 s2
  simp only [arRd] at hw
  split at hw
  · rename_i m1 w1 f m2 w2 g
    split at hw
    · rename_i b1 b2 b3 b4
      have b1 := Nat.eq_of_beq_eq_true b1
      have b2 := Nat.eq_of_beq_eq_true b2
      have b3 := Nat.eq_of_beq_eq_true b3
      have b4 := Nat.eq_of_beq_eq_true b4
      subst b1 b2 b3 b4
      obtain ⟨⟨q1, q2⟩, hw⟩ := hw
      obtain ⟨l1, p1, ex⟩ := hx
      obtain ⟨l2, p2, ey⟩ := hy
      have cells : ∀ (f : Nat → Segs) (l : List Value), PS ρ (.rows m 1 f .nil) l → (∀ i, i < m → isIntK k (f i) = true) → l.length = m ∧ ∀ i, i < m → l[i]? = some (.int k (segInt (f i))) := by
        intro f l hl hf
        obtain ⟨c1, c2, rfl, hch, hn⟩ := rows_chunks hl
        have hn : c2 = [] := hn
        subst hn
        rw [List.append_nil]
        refine ⟨by rw [hch.1, Nat.mul_one], fun i hi => ?_⟩
        have h6 := hch.2 i hi
        have h7 := hf i hi
        cases hgi : f i with
        | nil => rw [hgi] at h7; cases h7
        | res A => rw [hgi] at h7; cases h7
        | rows a b c d => rw [hgi] at h7; cases h7
        | one u r =>
          rw [hgi] at h7 h6
          cases u <;> try (cases h7; done)
          rename_i kk z
          cases r <;> try (cases h7; done)
          have hk := kEq_spec h7
          subst hk
          obtain ⟨x, l', e1, e2, _, e3⟩ := h6
          have e2 : x = .int kk z := e2
          subst e2
          have := congrArg (fun z => z[0]?) e1
          simp only [List.getElem?_cons_zero, List.getElem?_take, Nat.lt_one_iff, if_pos, List.getElem?_drop, Nat.mul_one, Nat.add_zero] at this
          simpa [segInt] using this
      obtain ⟨_, c1⟩ := cells f l1 p1 q1
      obtain ⟨_, c2⟩ := cells g l2 p2 q2
      have hexec : (execOp a.eval o).run P w = .ok (.value (.bool (negB neg (arEq m f g)))) w := by
        refine eq_exec ho ?_ ?_ ?_
        · rw [ex, ey]; exact run_eqGuard_agg w _ xT X Y _ _ hm
        · rw [ex, ey]
          have := run_equalIn_array w 9999 l1.toArray l2.toArray hd hi
          rw [List.range_eq_range', eqItems_run 9998 he hc l1.toArray l2.toArray (fun i => segInt (f i)) (fun i => segInt (g i)) m (fun i hi => ⟨k, by simpa using c1 i hi, by simpa using c2 i hi⟩) m 0 (by omega)] at this
          rw [← List.range_eq_range'] at this
          exact this
        · rw [ex, ey]; rintro op (rfl | rfl) <;> rfl
      cases neg
      · exact Res.quiet hs hw hexec rfl
      · exact Res.quiet hs hw hexec rfl
    · exact hw.elim
  · exact hw.elim
/-- s[i:j:m]. -/
def slSl3Rd (w : Nat) (lo : Option LVal) (hi mx : LVal) : LVal → Rd
  | .slice p st w' _ l0 _ => match Nat.beq w w' with
    | false => .fail
    | true => optNat (some mx) 0 fun m => optNat (some hi) 0 fun j => optNat lo 0 fun i => .need (i ≤ j ∧ j ≤ m ∧ m ≤ l0) (one (.slice p (st + i) w (j - i) (m - i) (some (m - i))))
  | _ => .fail
theorem slSl3_sound (ty : TypeId) (X H M : Operand) (L : Option Operand) (o : Oper) (ho : o.op = .slice ty X L (some H) (some M)) (e : TypeId) (i : TypeInfo) (hd : P.underlying ty = some (.slice e)) (hi : P.info? e = some i) (hs : Sim T w0 ρ h w) {v hv mv : LVal} {lo : Option LVal} (hv' : PV ρ v (a.eval X)) (hl : OptPV ρ lo (L.map a.eval)) (hh : PV ρ hv (a.eval H)) (hm : PV ρ mv (a.eval M)) (hw : (slSl3Rd i.size lo hv mv v).wp t h Φ) : Res P o a w T w0 ρ h n Φ := by
  cases v <;> try exact hw.elim
  rename_i p st w' len l0 h0
  simp only [slSl3Rd] at hw
  split at hw
  · exact hw.elim
  · rename_i hb
    have hb := Nat.eq_of_beq_eq_true hb
    subst hb
    obtain ⟨q, cap, ex, hc⟩ := hv'
    obtain ⟨m, h1, e1⟩ := optNat_wp (P := P) (w := w) (ρ := ρ) (x := some mv) (X := some (a.eval M)) hm hw
    obtain ⟨j, h2, e2⟩ := optNat_wp (P := P) (w := w) (ρ := ρ) (x := some hv) (X := some (a.eval H)) hh h1
    obtain ⟨k, h3, e3⟩ := optNat_wp (P := P) (w := w) hl h2
    obtain ⟨⟨g1, g2, g3⟩, h4⟩ := h3
    have hl0 : l0 ≤ cap := by rcases hc with ⟨_, h2, h3⟩ | ⟨_, _, _, _, _, _, h2, _⟩ <;> omega
    have b1 : (Instr.sliceBound (a.eval M) cap .slice3Acap).run P w = .ok m w := by
      rcases e1 cap .slice3Acap (by omega) with ⟨h, _⟩ | ⟨v, h, hr⟩
      · cases h
      · cases h; exact hr
    have b2 : (Instr.sliceBound (a.eval H) m .slice3B).run P w = .ok j w := by
      rcases e2 m .slice3B g2 with ⟨h, _⟩ | ⟨v, h, hr⟩
      · cases h
      · cases h; exact hr
    refine Res.quiet hs h4 (x := .slice (if m = k then q else q.map (·.add (k * i.size))) (j - k) (m - k)) ?_ ?_
    · unfold execOp
      rcases e3 j .slice3C g1 with ⟨h5, h6⟩ | ⟨v, h5, h6⟩
      · simp [ho, ex, Instr.sliceAt, Instr.slice, run_underlying hd, Instr.sliceBounds, b1, b2, h5, h6, sizeOf, typeInfo, hi]
      · simp [ho, ex, Instr.sliceAt, Instr.slice, run_underlying hd, Instr.sliceBounds, b1, b2, h5, h6, sizeOf, typeInfo, hi]
    · refine ⟨_, _, rfl, ?_⟩
      by_cases c0 : m = k
      · exact .inl ⟨by omega, by omega, by omega⟩
      · rcases hc with ⟨r1, r2, r3⟩ | ⟨g, b, mm, r1, rfl, r2, r3, r4, r5⟩
        · exact .inl ⟨by omega, by omega, by omega⟩
        · refine .inr ⟨g, b, mm, r1, ?_, by omega, Nat.le_refl _, fun x hx => by cases hx; exact Nat.le_refl _, ?_⟩
          · rw [if_neg c0]
            simp only [Option.map_some, Addr.add_mid, Nat.add_mul]
            congr 2; omega
          · rw [show st + k + (m - k) = st + m by omega]
            have : (st + m) * i.size ≤ (st + cap) * i.size := Nat.mul_le_mul_right _ (by omega)
            omega
/-- Clear. -/
def clearRd (w : Nat) (z : Segs) (x : LVal) : Rd :=
  match x with
  | .slice p st w' len _ _ => match Nat.beq w w' with
    | false => .fail
    | true => .obj p.blk fun o => match o.ro with
      | true => .fail
      | false => pmodK p.path o.segs (fun s K => atK s p.off (fun s1 K1 => match s1 with
        | .rows k w2 f q => match Nat.beq w w2 with
          | true => .need (st + len ≤ k) (K1 (.rows k w (fun j => if st ≤ j ∧ j < st + len then z else f j) q))
          | false => .fail
        | _ => .fail) K .fail) fun s' => .ret .undef [(p.blk, some ⟨s', o.ty, o.more, false⟩)] none
  | _ => .fail
theorem zeroCells_eq (z : Array Value) (n : Nat) : (Builtin.zeroCells z n).toList = (List.replicate n z.toList).flatten := by
  have := madeCells_eq z n
  unfold madeCells at this
  exact this
theorem clear_sound (X : Operand) (tS e : TypeId) (i : TypeInfo) (z : Value) (s : Segs) (o : Oper) (ho : o.op = .call ⟨.builtin .clear, #[X], #[tS]⟩) (ht : P.underlying tS = some (.slice e)) (hi : P.info? e = some i) (hz : i.zero = some z) (hf : flatEq s z.cells.toList = true) (hsz : z.cells.size = i.size)
    (hs : Sim T w0 ρ h w) {v : LVal} (hv : PV ρ v (a.eval X)) (hw : (clearRd i.size s v).wp t h Φ) : Res P o a w T w0 ρ h n Φ := by
  cases v <;> try exact hw.elim
  rename_i p st w' len lo hi'
  obtain ⟨q, cap, ex, hc⟩ := hv
  simp only [clearRd] at hw
  have exec : ∀ {v : Value} {w1 : World}, (Builtin.clear_ #[tS] o.type #[a.eval X]).run P w = .ok v w1 → (execOp a.eval o).run P w = .ok (.value v) w1 := by
    intro v w1 hr
    unfold execOp
    simp [ho, resolve, invoke, builtin, hr]
  split at hw
  · exact hw.elim
  · rename_i hb1
    have hb1 := Nat.eq_of_beq_eq_true hb1
    subst hb1
    simp only [Rd.wp, hgetK_eq] at hw
    cases hg : hget h p.blk with
    | none => simp [hg] at hw
    | some ob =>
      simp only [hg] at hw
      split at hw
      · exact hw.elim
      rename_i hro
      obtain ⟨s1, rb, h2, h3⟩ := pmod_wp _ _ _ hw
      obtain ⟨s2, rb2, h4, h5⟩ := at_wp _ _ _ h2
      cases s2 <;> try exact h4.elim
      rename_i k w2 f qq
      simp only at h4
      split at h4
      · rename_i hb
        have hb := Nat.eq_of_beq_eq_true hb
        subst hb
        obtain ⟨h6, h8⟩ := h4
        have hch : Chunks ρ i.size len (fun _ => s) (Builtin.zeroCells z.cells len).toList := by
          rw [zeroCells_eq]
          exact chunks_const (flatEq_spec hf ρ) (by simp [hsz])
        by_cases h0 : len = 0
        · subst h0
          have hnil : (Builtin.zeroCells z.cells 0).toList = [] := by rw [zeroCells_eq]; rfl
          refine ⟨_, _, _, undef, ρ, w, h8, .inl (exec (w1 := w) ?_), Ext.refl ρ, fun _ _ => rfl, rfl, ?_⟩
          · rw [ex]
            cases q <;> simp [Builtin.clear_, run_underlying ht, undef]
          · simp only [applyU, updU]
            rcases hs.obj _ _ hg with ⟨g2, b2, n2, obj, e1, e2, e3, hT⟩ | ⟨e1, e2⟩
            · obtain ⟨pre, lr, exx, fr, rfl, hlr, hmore, hpre, hn2, hfr⟩ := e3
              obtain ⟨x1, x2, x3, rfl, _, f2, f3⟩ := over_PS (at_ := st) (m := 0) h3 h5 hch h6 hlr
              rw [hnil] at f2 f3
              have f2 : x2 = [] := List.eq_nil_of_length_eq_zero (by simpa using f2)
              subst f2
              exact hs.turn (o' := ⟨_, ob.ty, ob.more, false⟩) hro rfl hg e1 ⟨pre, _, exx, fr, rfl, f3, hmore, hpre, hn2, fun _ => hfr hro⟩ e2 rfl (fun _ _ => rfl) rfl rfl rfl
            · obtain ⟨x1, x2, x3, f1, _, f2, f3⟩ := over_PS (at_ := st) (m := 0) h3 h5 hch h6 (e2.ps hro)
              rw [hnil] at f2 f3
              have f2 : x2 = [] := List.eq_nil_of_length_eq_zero (by simpa using f2)
              subst f2
              have f1 := f1.symm
              rw [f1] at f3
              have := (hs.kill p.blk).empty e1 (by rw [hget_hset, if_pos rfl]) (o := ⟨_, ob.ty, ob.more, false⟩) f3
              rw [hset_hset] at this
              exact this
        · rcases hc with ⟨c1, c2, c3⟩ | ⟨g', b, n', r1, rfl, r2, r3, r4, r5⟩
          · omega
          · rcases hs.obj _ _ hg with ⟨g2, b2, n2, obj, e1, e2, e3, hT⟩ | ⟨e1, _⟩
            · rw [r1] at e1
              cases e1
              obtain ⟨pre, lr, exx, fr, rfl, hlr, hmore, hpre, hn2, hfr⟩ := e3
              obtain ⟨x1, x2, x3, rfl, f1, f2, f3⟩ := over_PS (at_ := st) (m := len) h3 h5 hch h6 hlr
              generalize hlc : (Builtin.zeroCells z.cells len).toList = lc at *
              have hone := PS.oneCells _ _ (chunks_rows hch)
              have hoff : (pre ++ x1).length = b + (p.cell + st * i.size) := by
                rw [List.length_append, hpre, f1]; simp only [LAddr.cell] <;> omega
              have hC : (pre ++ (x1 ++ (x2 ++ x3)) ++ exx).toArray.toList = (pre ++ x1) ++ (x2 ++ (x3 ++ exx)) := by simp
              have hCs : (pre ++ (x1 ++ (x2 ++ x3)) ++ exx).toArray.size = (pre ++ x1).length + x2.length + x3.length + exx.length := by simp; omega
              obtain ⟨k1, k2, k3, k4, k5, k6⟩ := setCells_heap g' lc w (b + (p.cell + st * i.size)) _ _ _ e2 (by rw [hCs, hoff]; omega)
              rw [hC, splice f2.symm hoff.symm] at k1
              have hth : ∀ j, j < lc.length → (w.cell? ⟨g', b + (p.cell + st * i.size) + 0 + j, none⟩).isSome = true ∧ w.frozen? ⟨g', b + (p.cell + st * i.size) + 0 + j, none⟩ = false := by
                intro j hj
                have hj2 : b + (p.cell + st * i.size) + 0 + j < (pre ++ (x1 ++ (x2 ++ x3)) ++ exx).toArray.size := by rw [hCs, hoff]; omega
                refine ⟨?_, unfrozen_at e2 (by simpa using hfr hro) hj2⟩
                rw [cell_of_row w g' _ _ _ _ e2, Array.getElem?_eq_getElem hj2]
                rfl
              have hst := run_storeCells_cells (P := P) g' (b + (p.cell + st * i.size)) lc 0 w (fun j hj => (hth j hj).1) (fun j hj => (hth j hj).2) hone
              simp only [Nat.add_zero] at hst
              refine ⟨_, _, _, undef, ρ, _, h8, .inl (exec (w1 := w.setCells g' (b + (p.cell + st * i.size)) lc) ?_), Ext.refl ρ, fun _ _ => rfl, rfl, ?_⟩
              · rw [ex]
                obtain ⟨len', rfl⟩ : ∃ m, len = m + 1 := ⟨len - 1, by omega⟩
                simp [Builtin.clear_, run_underlying ht, zeroValue, typeInfo, hi, hz, hlc, hst, undef]
              · simp only [applyU, updU]
                refine hs.turn hro rfl hg r1 ?_ k1 k2 k3 k4 k5 k6
                refine ⟨pre, x1 ++ (lc ++ x3), exx, fr, by simp, f3, hmore, hpre, ?_, ?_⟩
                · rw [hn2]; simp [f2]
                · intro _ y hy'; exact hfr hro y (by simp only [List.length_append, f2] at hy' ⊢; omega)
            · rw [r1] at e1; cases e1
      · exact h4.elim
/-- A slice against nil. -/
def slNilRd (neg : Bool) : LVal → Rd
  | .slice _ _ _ len _ _ => .allB (fun b => len ≠ 0 → b = false) fun b => one (.bool (negB neg b))
  | .rsl n _ _ => .allB (fun b => n ≠ 0 → b = false) fun b => one (.bool (negB neg b))
  | _ => .fail
theorem allB_wp {p : Bool → Prop} {k : Bool → Rd} (hw : (Rd.allB p k).wp t h Φ) {b : Bool} (hb : p b) : (k b).wp t h Φ := hw b hb
theorem slNil_sound (neg : Bool) (xT yT e : TypeId) (X : Operand) (o : Oper) (ho : o.op = .binOp (eqOp neg) xT X (.const (.slice none 0 0)) yT) (hd : P.underlying xT = some (.slice e)) (hs : Sim T w0 ρ h w) {vx : LVal} (hx : PV ρ vx (a.eval X)) (hw : (slNilRd neg vx).wp t h Φ) : Res P o a w T w0 ρ h n Φ := by
  obtain ⟨q, len, cap, ex, hq, hw⟩ : ∃ q len cap, a.eval X = .slice q len cap ∧ (len ≠ 0 → q.isNone = false) ∧ (Rd.allB (fun b => len ≠ 0 → b = false) fun b => one (.bool (negB neg b))).wp t h Φ := by
    cases vx <;> try exact hw.elim
    · obtain ⟨q, cap, ex, hc⟩ := hx
      refine ⟨q, _, cap, ex, fun hl => ?_, hw⟩
      rcases hc with ⟨c1, _⟩ | ⟨g, b, m, _, rfl, _⟩
      · exact absurd c1 hl
      · rfl
    · obtain ⟨q, cap, ex, _, hc⟩ := hx
      refine ⟨q, _, cap, ex, fun hl => ?_, hw⟩
      rcases hc with c1 | ⟨g, off, l, rfl, _⟩
      · exact absurd c1 hl
      · rfl
  have ey : a.eval (.const (.slice none 0 0)) = .slice none 0 0 := rfl
  refine Res.quiet hs (allB_wp (b := q.isNone) hw hq) (eq_exec (b := q.isNone) ho ?_ ?_ ?_) rfl
  · rw [ex, ey]; cases neg <;> rfl
  · rw [ex, ey, show ∀ x y, Op.equal xT x y = Op.equalIn (9999 + 1) xT x y from fun _ _ => rfl]
    have : ∀ d : Nat, (Op.equalIn (d + 1) xT (.slice q len cap) (.slice none 0 0)).run P w = .ok q.isNone w := by
      intro d
      simp only [Op.equalIn, Sem.run_bind, run_underlying hd, Result.andThen_ok]
      cases q <;> rfl
    exact this 9999
  · rw [ex, ey]; rintro op (rfl | rfl) <;> rfl
/-- The greater, the less of two integers. -/
def mmRd (mx : Bool) : LVal → LVal → Rd
  | .int k a, .int k' b => match kEq k k' with
    | true => match mx with
      | true => one (.int k (if b > a then b else a))
      | false => one (.int k (if b < a then b else a))
    | false => .fail
  | _, _ => .fail
theorem mm_sound (mx : Bool) (X Y : Operand) (ts : Array TypeId) (o : Oper) (ho : o.op = .call ⟨.builtin (if mx then .max else .min), #[X, Y], ts⟩) (hs : Sim T w0 ρ h w) {vx vy : LVal} (hx : PV ρ vx (a.eval X)) (hy : PV ρ vy (a.eval Y)) (hw : (mmRd mx vx vy).wp t h Φ) : Res P o a w T w0 ρ h n Φ := by
  cases vx <;> try exact hw.elim
  cases vy <;> try exact hw.elim
  rename_i k x k' y
  simp only [mmRd] at hw
  split at hw
  · rename_i hk
    have := kEq_spec hk
    subst this
    have ex : a.eval X = .int k x := hx
    have ey : a.eval Y = .int k y := hy
    cases mx
    · refine Res.quiet hs hw (x := .int k (if y < x then y else x)) ?_ rfl
      unfold execOp
      simp [ho, resolve, invoke, builtin, ex, ey, Builtin.min_, Builtin.min2]
    · refine Res.quiet hs hw (x := .int k (if y > x then y else x)) ?_ rfl
      unfold execOp
      simp [ho, resolve, invoke, builtin, ex, ey, Builtin.max_, Builtin.max2]
  · exact hw.elim
end
end Go.Proofs.Ytilmfhpoiejmfaa.Lh
