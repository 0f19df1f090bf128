/- Code on the heap of the mind. Over any program. -/
import Derived.Test.YtilmfhpoiejmfaaLh9b
namespace Go.Proofs.Ytilmfhpoiejmfaa.Lh
set_option linter.unusedSimpArgs false
set_option linter.unusedVariables false
set_option linter.unusedSectionVars false
open Go.RowKit
variable [Fz]
inductive LCode where
  | skip
  | region (ops : List LOper)
  | draws (ops : List (Nat × List Nat × LOper))
  | seq (a b : LCode)
  | cond (c : LOpd) (x y : LCode)
  | block (id : Nat) (b : LCode)
  | loop (b : LCode)
  | exit (id : Nat)
  | ret
inductive LExit where
  | normal
  | exit (id : Nat)
  | ret
  | panic (v : LVal)
def callK (P : Program) (f : FuncId) (vs : LVals) (h : LHeap) (K X : LVal → LHeap → Prop) : Prop :=
  LCalls P f vs h fun e h' => match e with
    | .ret v => K v h'
    | .panic v => X v h'
def LAct.wp (P : Program) (t : List LVal) (h : LHeap) (K X : LVal → LHeap → Prop) : LAct → Prop
  | .op o => lenK h 0 fun n => (opRd n o).wp t h fun v u nw => applyK h u n nw fun h' => K v h'
  | .call f xs => argsK t xs fun vs => callK P f vs h K X
  | .callv x xs => opdK t x fun v => match v with
    | .func f c => argsK t xs fun vs => appVsK vs c fun us => callK P f us h K X
    | _ => False
  | .panic x => opdK t x fun v => match v with
    | .iface t x => X (.iface t x) h
    | _ => False
def guardK (g : Option (Nat × Bool)) (t : List LVal) (run skip : Prop) : Prop :=
  match g with
  | none => run
  | some (d, want) => getK t d fun v => match v with
    | .bool b => match want with
      | true => iteP b run skip
      | false => iteP b skip run
    | .undef => skip
    | _ => False
def LOper.wp (P : Program) (Q : LExit → List LVal → LHeap → Prop) (o : LOper) (t : List LVal) (h : LHeap) (K : List LVal → LHeap → Prop) : Prop :=
  guardK o.guard t (o.act.wp P t h (fun v h' => setDst t o.dst v fun t' => K t' h') (fun v h' => Q (.panic v) t h')) (setDst t o.dst .undef fun t' => K t' h)
def ropsK (P : Program) (Q : LExit → List LVal → LHeap → Prop) : List LOper → List LVal → LHeap → Prop
  | [], t, h => Q .normal t h
  | o :: r, t, h => o.wp P Q t h (ropsK P Q r)
/-- Places below a bound alone. -/
def cutP (ρ : Pl) (k : Nat) : Pl := ⟨fun i => if i < k then ρ i else none, ρ.fz, ρ.tk⟩
theorem cutP_at (ρ : Pl) (k i : Nat) : cutP ρ k i = if i < k then ρ i else none := rfl
/-- Blocks that stand still from now on: the block, how many rows, how wide, what each holds. -/
abbrev Fzl := List (Nat × Nat × Nat × (Nat → Segs))
def fzGet : Fzl → Nat → Option (Nat × Nat × (Nat → Segs))
  | [], _ => none
  | (b, x) :: r, i => match Nat.beq b i with
    | true => some x
    | false => fzGet r i
def offs : Nat → Nat → Nat
  | 0, i => i
  | n + 1, i => n + 1 + i
theorem offs_eq (n i : Nat) : offs n i = n + i := by
  cases n with
  | zero => exact (Nat.zero_add i).symm
  | succ n => rfl
def isNilL : List (Nat × Nat × Nat) → Bool
  | [] => true
  | _ => false
mutual
/-- What stands for the one stands for the other, and names no block from k on. -/
def shV (k : Nat) (F : Fzl) : LVal → LVal → Prop
  | .undef, .undef => True
  | .undef, .any => True
  | .any, .any => True
  | .bool b, .bool c => b = c
  | .bool _, .any => True
  | .int j n, .int j' m => j = j' ∧ n = m
  | .int _ _, .any => True
  | .str s, .str s' => s = s'
  | .str _, .any => True
  | .nilp, .nilp => True
  | .nilp, .any => True
  | .ptr a, .ptr b => a = b ∧ a.blk < k
  | .ptr _, .any => True
  | .slice a st w len lo hi, .slice a' st' w' len' lo' hi' => (a = a' ∧ st = st' ∧ w = w' ∧ len = len' ∧ len' ≤ lo' ∧ lo' ≤ lo ∧ (hi' = none ∨ hi' = hi) ∧ a.blk < k) ∨ (len = 0 ∧ lo = 0 ∧ hi = some 0 ∧ len' = 0 ∧ lo' = 0)
  | .slice _ _ _ _ _ _, .any => True
  | .slice a st w len _ _, .rsl n' w' f' => (len = 0 ∧ n' = 0) ∨ (match fzGet F a.blk with
    | some x => isNilL a.path = true ∧ a.off = 0 ∧ w = w' ∧ x.2.1 = w ∧ len = n' ∧ st + len ≤ x.1 ∧ ∀ i, i < len → x.2.2 (offs st i) = f' i
    | none => False)
  | .nilf, .nilf => True
  | .nilf, .any => True
  | .func f c, .func f' c' => f = f' ∧ shVs k F c c'
  | .func _ _, .any => True
  | .nilI, .nilI => True
  | .nilI, .any => True
  | .iface t v, .iface t' v' => t = t' ∧ shV k F v v'
  | .iface _ _, .any => True
  | .agg s, .agg s' => shS k F s s'
  | .agg _, .any => True
  | .tup vs, .tup vs' => shVs k F vs vs'
  | .tup _, .any => True
  | .rsl n w f, .rsl n' w' f' => n = n' ∧ w = w' ∧ ∀ i, i < n → shS k F (f i) (f' i)
  | .rsl _ _ _, .any => True
  | .rptr s, .rptr s' => shS k F s s'
  | .rptr _, .any => True
  | .tok k, .tok k' => k = k'
  | .tok _, .any => True
  | .gl k, .gl k' => k = k'
  | .gl _, .any => True
  | _, _ => False
def shVs (k : Nat) (F : Fzl) : LVals → LVals → Prop
  | .nil, .nil => True
  | .cons v r, .cons v' r' => shV k F v v' ∧ shVs k F r r'
  | _, _ => False
def shS (k : Nat) (F : Fzl) : Segs → Segs → Prop
  | .nil, .nil => True
  | .one v r, .one v' r' => shV k F v v' ∧ shS k F r r'
  | .rows n w f r, .rows n' w' f' r' => n = n' ∧ w = w' ∧ (∀ i, i < n → shS k F (f i) (f' i)) ∧ shS k F r r'
  | .res A, .res B => A = B
  | _, _ => False
end
/-- The same of temporaries; the one's blocks bear other numbers. -/
def shT (F : Fzl) (g : Nat → Nat) : List LVal → List LVal → Prop
  | [], [] => True
  | v :: r, v' :: r' => shV 1000000 F v (ren g v') ∧ shT F g r r'
  | _, _ => False
def emptyS : Segs → Prop
  | .nil => True
  | .one _ _ => False
  | .rows n _ _ r => n = 0 ∧ emptyS r
  | .res _ => False
/-- Rows, the last ones forgotten. -/
def shTop (F : Fzl) : Segs → Segs → Prop
  | .rows n w f .nil, .rows n' w' f' .nil => n' ≤ n ∧ w = w' ∧ ∀ i, i < n' → shS 1000000 F (f i) (f' i)
  | _, _ => False
/-- The same of blocks: each one's old number stands in the list. -/
def shH (F : Fzl) (g : Nat → Nat) (h : LHeap) : List Nat → LHeap → Prop
  | [], [] => True
  | e :: er, o' :: r' => (match o' with
    | none => True
    | some o' => match hget h e with
      | some o => o.ty = o'.ty ∧ (o.more = true → o'.more = true) ∧ o.ro = o'.ro ∧ (shS 1000000 F o.segs (renS g o'.segs) ∨ (o'.more = true ∧ shTop F o.segs (renS g o'.segs)))
      | none => h.length ≤ e ∧ emptyS o'.segs) ∧ shH F g h er r'
  | _, _ => False
/-- The first ones keep their numbers. -/
def idl : Nat → Nat → List Nat → Bool
  | 0, _, _ => true
  | _ + 1, _, [] => false
  | L + 1, i, e :: r => Nat.beq e i && idl L (i + 1) r
theorem idl_spec : ∀ (L k : Nat) (l : List Nat), idl L k l = true → ∀ i, i < L → l[i]? = some (k + i)
  | 0, _, _, _, i, hi => by omega
  | L + 1, k, [], h, i, hi => by simp [idl] at h
  | L + 1, k, e :: r, h, i, hi => by
    simp only [idl, Bool.and_eq_true] at h
    have h1 := Nat.eq_of_beq_eq_true h.1
    cases i with
    | zero => simp [h1]
    | succ i =>
      have := idl_spec L (k + 1) r h.2 i (by omega)
      simp only [List.getElem?_cons_succ, this]
      congr 1; omega
theorem cutP0 (ρ : Pl) (k : Nat) : cutP ρ.clo k = ρ.clo := by
  unfold cutP Pl.clo
  congr 1
  funext i
  exact ite_self _
theorem cut0 (ρ : Pl) : Ext (cutP ρ 0) ρ.clo := ⟨fun b x h => (by rw [cutP_at, if_neg (Nat.not_lt_zero b)] at h; cases h), .refl _⟩
theorem clo_clo (ρ : Pl) : ρ.clo.clo = ρ.clo := rfl
theorem clo_cut (ρ : Pl) (k : Nat) : (cutP ρ k).clo = ρ.clo := rfl
/-- The blocks that stand still do. -/
def FzOK (ρ : Pl) (F : Fzl) : Prop := ∀ b x, fzGet F b = some x → ∀ g bs c, ρ b = some (g, bs, c) → ∃ l, Frz ρ g bs l ∧ l.length = x.1 * x.2.1 ∧ ∀ i, i < x.1 → PS ρ.clo (x.2.2 i) ((l.drop (i * x.2.1)).take x.2.1)
theorem FzOK.nil (ρ : Pl) : FzOK ρ [] := fun b x h => by cases h
theorem FzOK.clo {ρ : Pl} {F : Fzl} : FzOK ρ.clo F := fun b x _ g bs c h => by cases h
mutual
theorem shV_spec {k : Nat} {F : Fzl} {ρ : Pl} (hF : FzOK ρ F) : ∀ (v v' : LVal) (x : Value), shV k F v v' → PV ρ v x → PV (cutP ρ k) v' x
  | .undef, v', x, hs, hv => by cases v' <;> first | exact hs.elim | exact hv | exact trivial
  | .any, v', x, hs, hv => by cases v' <;> first | exact hs.elim | exact trivial
  | .bool _, v', x, hs, hv => by
    cases v' <;> try exact hs.elim
    · exact trivial
    · have hs : _ = _ := hs
      subst hs; exact hv
  | .int _ _, v', x, hs, hv => by
    cases v' <;> try exact hs.elim
    · exact trivial
    · obtain ⟨rfl, rfl⟩ := hs
      exact hv
  | .str _, v', x, hs, hv => by
    cases v' <;> try exact hs.elim
    · exact trivial
    · have hs : _ = _ := hs
      subst hs; exact hv
  | .nilp, v', x, hs, hv => by cases v' <;> first | exact hs.elim | exact hv | exact trivial
  | .ptr a, v', x, hs, hv => by
    cases v' <;> try exact hs.elim
    · exact trivial
    · obtain ⟨rfl, h1⟩ := hs
      obtain ⟨g, b, n, h2, h3⟩ := hv
      exact ⟨g, b, n, by rw [cutP_at, if_pos h1]; exact h2, h3⟩
  | .slice a st w len lo hi, v', x, hs, hv => by
    cases v' <;> try exact hs.elim
    · exact trivial
    · obtain ⟨p, cap, h1, h2⟩ := hv
      rcases hs with ⟨rfl, rfl, rfl, rfl, e1, e2, e3, e4⟩ | ⟨rfl, rfl, rfl, rfl, rfl⟩
      · refine ⟨p, cap, h1, ?_⟩
        rcases h2 with ⟨c1, c2, c3⟩ | ⟨g, b, n, c1, c2, c3, c4, c5, c6⟩
        · exact .inl ⟨c1, by omega, c3⟩
        · refine .inr ⟨g, b, n, by rw [cutP_at, if_pos e4]; exact c1, c2, e1, by omega, fun z hz => ?_, c6⟩
          rcases e3 with rfl | rfl
          · cases hz
          · exact c5 z hz
      · refine ⟨p, cap, h1, .inl ⟨rfl, rfl, ?_⟩⟩
        rcases h2 with ⟨_, _, c3⟩ | ⟨g, b, n, c1, c2, c3, c4, c5, c6⟩
        · exact c3
        · have := c5 0 rfl; omega
    · obtain ⟨p, cap, h1, h2⟩ := hv
      rcases hs with ⟨rfl, rfl⟩ | hs
      · exact ⟨p, cap, h1, Nat.zero_le _, .inl rfl⟩
      · split at hs
        · rename_i y hy
          obtain ⟨e1, e2, rfl, e4, rfl, e6, e7⟩ := hs
          rcases h2 with ⟨c1, c2, c3⟩ | ⟨g, b, n, c1, c2, c3, c4, c5, c6⟩
          · exact ⟨p, cap, h1, by omega, .inl c1⟩
          · obtain ⟨l, d1, d2, d3⟩ := hF _ _ hy _ _ _ c1
            have ecell : a.cell = 0 := by
              unfold LAddr.cell
              rw [e2]
              cases hp : a.path with
              | nil => rfl
              | cons z r => rw [hp] at e1; cases e1
            rw [e4] at d2 d3
            have hmul : (st + len) * w ≤ y.1 * w := Nat.mul_le_mul_right _ e6
            rw [Nat.add_mul] at hmul
            refine ⟨p, cap, h1, by omega, .inr ⟨g, _, _, by rw [c2, ecell, Nat.zero_add], d1.sub (st * w) (len * w) (by omega), ?_, fun i hi => ?_⟩⟩
            · rw [List.length_take, List.length_drop]; omega
            · rw [← e7 i hi, offs_eq]
              have hi2 : i * w + w ≤ len * w := mul_lt w hi
              have e9 : (st + i) * w = st * w + i * w := Nat.add_mul _ _ _
              have hx := d3 (st + i) (by omega)
              rw [clo_cut, List.drop_take, List.drop_drop, List.take_take, Nat.min_eq_left (by omega), ← e9]
              exact hx
        · exact hs.elim
  | .nilf, v', x, hs, hv => by cases v' <;> first | exact hs.elim | exact hv | exact trivial
  | .func f c, v', x, hs, hv => by
    cases v' <;> try exact hs.elim
    · exact trivial
    · obtain ⟨rfl, h1⟩ := hs
      obtain ⟨l, h2, h3⟩ := hv
      exact ⟨l, shVs_spec hF c _ l h1 h2, h3⟩
  | .nilI, v', x, hs, hv => by cases v' <;> first | exact hs.elim | exact hv | exact trivial
  | .iface t v, v', x, hs, hv => by
    cases v' <;> try exact hs.elim
    · exact trivial
    · obtain ⟨rfl, h1⟩ := hs
      obtain ⟨y, h2, h3⟩ := hv
      exact ⟨y, shV_spec hF v _ y h1 h2, h3⟩
  | .agg s, v', x, hs, hv => by
    cases v' <;> try exact hs.elim
    · exact trivial
    · obtain ⟨l, h2, h3⟩ := hv
      exact ⟨l, shS_spec hF s _ l hs h2, h3⟩
  | .tup vs, v', x, hs, hv => by
    cases v' <;> try exact hs.elim
    · exact trivial
    · obtain ⟨l, h2, h3⟩ := hv
      exact ⟨l, shVs_spec hF vs _ l hs h2, h3⟩
  | .rsl n w f, v', x, hs, hv => by
    cases v' <;> try exact hs.elim
    · exact trivial
    · obtain ⟨rfl, rfl, h1⟩ := hs
      obtain ⟨p, cap, h2, h3, h4⟩ := hv
      refine ⟨p, cap, h2, h3, h4.imp id fun ⟨g, off, l, h5, h6, h7, h8⟩ => ⟨g, off, l, h5, h6, h7, fun i hi => ?_⟩⟩
      have := shS_spec (ρ := ρ.clo) .clo (f i) _ _ (h1 i hi) (h8 i hi)
      rw [cutP0] at this
      exact this
  | .rptr s, v', x, hs, hv => by
    cases v' <;> try exact hs.elim
    · exact trivial
    · obtain ⟨g, off, l, h5, h6, h7⟩ := hv
      refine ⟨g, off, l, h5, h6, ?_⟩
      have := shS_spec (ρ := ρ.clo) .clo s _ _ hs h7
      rw [cutP0] at this
      exact this
  | .tok _, v', x, hs, hv => by
    cases v' <;> try exact hs.elim
    · exact trivial
    · have hs : _ = _ := hs
      subst hs; exact hv
  | .gl _, v', x, hs, hv => by
    cases v' <;> try exact hs.elim
    · exact trivial
    · have hs : _ = _ := hs
      subst hs; exact hv
theorem shVs_spec {k : Nat} {F : Fzl} {ρ : Pl} (hF : FzOK ρ F) : ∀ (v v' : LVals) (l : List Value), shVs k F v v' → PVs ρ v l → PVs (cutP ρ k) v' l
  | .nil, v', l, hs, hv => by cases v' <;> first | exact hs.elim | exact hv
  | .cons v r, v', l, hs, hv => by
    cases v' <;> try exact hs.elim
    obtain ⟨x, l', h1, h2, h3⟩ := hv
    exact ⟨x, l', h1, shV_spec hF v _ x hs.1 h2, shVs_spec hF r _ l' hs.2 h3⟩
theorem shS_spec {k : Nat} {F : Fzl} {ρ : Pl} (hF : FzOK ρ F) : ∀ (v v' : Segs) (l : List Value), shS k F v v' → PS ρ v l → PS (cutP ρ k) v' l
  | .nil, v', l, hs, hv => by cases v' <;> first | exact hs.elim | exact hv
  | .one v r, v', l, hs, hv => by
    cases v' <;> try exact hs.elim
    obtain ⟨x, l', h1, h2, h3, h4⟩ := hv
    exact ⟨x, l', h1, shV_spec hF v _ x hs.1 h2, h3, shS_spec hF r _ l' hs.2 h4⟩
  | .rows n w f r, v', l, hs, hv => by
    cases v' <;> try exact hs.elim
    obtain ⟨rfl, rfl, h5, h6⟩ := hs
    obtain ⟨ls, l', h1, h2, h3, h4⟩ := hv
    exact ⟨ls, l', h1, h2, fun i hi => (h3 i hi).elim fun y hy => ⟨y, hy.1, hy.2.1, shS_spec hF (f i) _ y (h5 i hi) hy.2.2⟩, shS_spec hF r _ l' h6 h4⟩
  | .res _, v', l, hs, hv => False.elim hv
end
theorem emptyS_spec {ρ : Pl} : ∀ (s : Segs), emptyS s → PS ρ s []
  | .nil, _ => rfl
  | .one _ _, h => h.elim
  | .rows n w f r, h => by
    obtain ⟨rfl, h2⟩ := h
    exact ⟨[], [], rfl, rfl, fun i hi => by omega, emptyS_spec r h2⟩
theorem shT_spec {F : Fzl} {g : Nat → Nat} {ρ ρ' : Pl} (hF : FzOK ρ F) (e : UnrE g ρ' (cutP ρ 1000000)) : ∀ (t t' : List LVal), shT F g t t' → t.length = t'.length ∧ ∀ i x, PV ρ (lget t i) x → PV ρ' (lget t' i) x
  | [], [], _ => ⟨rfl, fun i x h => h⟩
  | [], _ :: _, h => h.elim
  | _ :: _, [], h => h.elim
  | v :: r, v' :: r', h => by
    obtain ⟨h1, h2⟩ := shT_spec hF e r r' h.2
    refine ⟨by simp [h1], fun i x hx => ?_⟩
    cases i with
    | zero => exact PV.unren e v' x (shV_spec hF v _ x h.1 hx)
    | succ i => exact h2 i x hx
theorem shH_spec {F : Fzl} {g : Nat → Nat} {h : LHeap} : ∀ (gl : List Nat) (h' : LHeap), shH F g h gl h' → gl.length = h'.length ∧ ∀ i o', hget h' i = some o' → ∃ e, gl[i]? = some e ∧ ((∃ o, hget h e = some o ∧ o.ty = o'.ty ∧ (o.more = true → o'.more = true) ∧ o.ro = o'.ro ∧ (shS 1000000 F o.segs (renS g o'.segs) ∨ (o'.more = true ∧ shTop F o.segs (renS g o'.segs)))) ∨ (h.length ≤ e ∧ emptyS o'.segs))
  | [], [], _ => ⟨rfl, fun i o h => by simp [hget] at h⟩
  | [], _ :: _, h => h.elim
  | _ :: _, [], h => h.elim
  | e :: er, x :: r, hs => by
    obtain ⟨h1, h2⟩ := shH_spec er r hs.2
    refine ⟨by simp [h1], fun i ob hi => ?_⟩
    cases i with
    | zero =>
      simp only [hget] at hi
      subst hi
      have h3 := hs.1
      refine ⟨e, rfl, ?_⟩
      simp only at h3
      cases hg : hget h e with
      | none => rw [hg] at h3; exact .inr h3
      | some o => rw [hg] at h3; exact .inl ⟨o, rfl, h3⟩
    | succ i =>
      obtain ⟨x, h3, h4⟩ := h2 i ob hi
      exact ⟨x, by simpa using h3, h4⟩
theorem shTop_spec {F : Fzl} {ρ : Pl} (hF : FzOK ρ F) : ∀ (s s' : Segs) (l : List Value), shTop F s s' → PS ρ s l → ∃ l1 l2, l = l1 ++ l2 ∧ PS (cutP ρ 1000000) s' l1 := by
  intro s s' l hs hl
  cases s with
  | nil => exact hs.elim
  | res A => exact hs.elim
  | one v r => exact hs.elim
  | rows n w f r =>
    cases r <;> try exact hs.elim
    cases s' <;> try exact hs.elim
    rename_i n' w' f' r'
    cases r' <;> try exact hs.elim
    obtain ⟨h1, rfl, h2⟩ := hs
    obtain ⟨d1, d2, rfl, hd, _⟩ := rows_chunks hl
    have h3 := chunks_sub (st := 0) (m := n') hd (by omega)
    simp only [Nat.zero_mul, List.drop_zero, Nat.zero_add] at h3
    refine ⟨d1.take (n' * w), d1.drop (n' * w) ++ d2, by rw [← List.append_assoc, List.take_append_drop], ?_⟩
    exact shS_spec hF (.rows n' w f .nil) (.rows n' w f' .nil) _ ⟨rfl, rfl, h2, trivial⟩ (chunks_rows h3)
/-- The places, by the new numbers. -/
def newP (ρ : Pl) (gl : List Nat) : Pl := ⟨fun i => if i < gl.length then ρ (embF gl 1000000 i) else none, ρ.fz, ρ.tk⟩
theorem newP_at (ρ : Pl) (gl : List Nat) (i : Nat) : newP ρ gl i = if i < gl.length then ρ (embF gl 1000000 i) else none := rfl
theorem newP_cut {ρ : Pl} {gl : List Nat} : UnrE (embF gl 1000000) (newP ρ gl) (cutP ρ 1000000) := by
  refine ⟨fun b x h => ?_, .refl _⟩
  rw [cutP_at] at h
  rw [newP_at]
  split at h
  · rename_i hlt
    have hb : b < gl.length := by
      rcases Nat.lt_or_ge b gl.length with c | c
      · exact c
      · rw [embF_ge gl _ b c] at hlt; omega
    rw [if_pos hb]
    exact h
  · cases h
theorem shS_res {k : Nat} {F : Fzl} {g : Nat → Nat} {s s' : Segs} {A : Asn} (h : shS k F s (renS g s')) (hA : s = .res A) : s' = .res A := by
  subst hA
  cases s' with
  | res B => have h : A = B := h; rw [h]
  | nil => exact h.elim
  | one v r => exact h.elim
  | rows n w f r => exact h.elim
theorem shS_res' {k : Nat} {F : Fzl} {g : Nat → Nat} {s : Segs} {A : Asn} (h : shS k F s (renS g (.res A))) : s = .res A := by
  cases s with
  | res B => have h : B = A := h; rw [h]
  | nil => exact h.elim
  | one v r => exact h.elim
  | rows n w f r => exact h.elim
theorem shTop_res {F : Fzl} {g : Nat → Nat} {s : Segs} {A : Asn} (h : shTop F s (renS g (.res A))) : False := by
  cases s with
  | res B => exact h
  | nil => exact h
  | one v r => exact h
  | rows n w f r => cases r <;> exact h
theorem hset_len (h : LHeap) (n : Nat) (o : Option LObj) (hn : n < h.length) : (hset h n o).length = h.length := by
  induction h generalizing n with
  | nil => simp at hn
  | cons x r ih =>
    cases n with
    | zero => rfl
    | succ n => simp only [hset, List.length_cons, ih n (by simpa using hn)]
theorem Sim.sh {T : Nat → Nat → Prop} {w0 : World} {ρ : Pl} {h h' : LHeap} {w : World} {F : Fzl} {gl : List Nat} (s : Sim T w0 ρ h w) (hF : FzOK ρ F) (hf : ∀ i, h.length ≤ i → ρ i = none) (hap : Lh.apart 1000000 gl = true) (hs : shH F (embF gl 1000000) h gl h') : Sim T w0 (newP ρ gl) h' w := by
  obtain ⟨hlen, hsp⟩ := shH_spec gl h' hs
  have cut : ∀ i x, newP ρ gl i = some x → ρ (embF gl 1000000 i) = some x := by
    intro i x hx
    rw [newP_at] at hx
    split at hx
    · exact hx
    · cases hx
  have at_ : ∀ i e, gl[i]? = some e → newP ρ gl i = ρ e := by
    intro i e he
    have hi : i < gl.length := (List.getElem?_eq_some_iff.1 he).1
    obtain ⟨e', h1, h2⟩ := embF_lt gl 1000000 i hi
    rw [he] at h1
    cases h1
    rw [newP_at]
    rw [if_pos hi, h2]
  have live : ∀ i o', hget h' i = some o' → ∀ x, newP ρ gl i = some x → ∃ e o, gl[i]? = some e ∧ hget h e = some o ∧ ρ e = some x ∧ o.ro = o'.ro := by
    intro i o' hi x hx
    obtain ⟨e, he, ⟨o, h1, _, _, h5, _⟩ | ⟨h1, _⟩⟩ := hsp i o' hi
    · exact ⟨e, o, he, h1, by rw [← at_ i e he]; exact hx, h5⟩
    · rw [at_ i e he, hf e h1] at hx; cases hx
  have rsc : ∀ i o' A, hget h' i = some o' → o'.segs = .res A → ∃ e o, gl[i]? = some e ∧ hget h e = some o ∧ o.segs = .res A := by
    intro i o' A hi hA
    obtain ⟨e, he, ⟨o, h1, _, _, _, h4⟩ | ⟨_, h2⟩⟩ := hsp i o' hi
    · refine ⟨e, o, he, h1, ?_⟩
      rcases h4 with h4 | ⟨_, h4⟩
      · rw [hA] at h4; exact shS_res' h4
      · rw [hA] at h4; exact (shTop_res h4).elim
    · rw [hA] at h2; exact h2.elim
  refine ⟨?_, ?_, fun i g b n hp => s.lt _ g b n (cut i _ hp), s.os, s.tape, s.output, s.size, s.kept, s.new, s.apart, s.fz, s.fzT, ?_, s.glob, s.tks, ?_⟩
  · intro i o' hi
    obtain ⟨e, he, ⟨o, h1, h2, h3, h5, h4⟩ | ⟨h1, h2⟩⟩ := hsp i o' hi
    · rcases s.obj e o h1 with ⟨g, b, n, ob, p1, p2, p3, p4⟩ | ⟨p1, p2⟩
      · obtain ⟨pre, l, ex, fr, q1, q2, q3, q4⟩ := p3
        rcases h4 with h4 | ⟨hmore, h4⟩
        · refine .inl ⟨g, b, n, ob, by rw [at_ i e he]; exact p1, p2, ⟨pre, l, ex, fr, by rw [q1, h2], PS.unren newP_cut _ _ (shS_spec hF _ _ _ h4 q2), fun hm => q3 ?_, by rw [← h5]; exact q4⟩, by rw [← h5]; exact p4⟩
          cases hom : o.more with
          | false => rfl
          | true => rw [h3 hom] at hm; cases hm
        · obtain ⟨l1, l2, rfl, h6⟩ := shTop_spec hF _ _ _ h4 q2
          exact .inl ⟨g, b, n, ob, by rw [at_ i e he]; exact p1, p2, ⟨pre, l1, l2 ++ ex, fr, by rw [q1, h2]; simp, PS.unren newP_cut _ _ h6, fun hm => (by rw [hmore] at hm; cases hm), q4.1, by rw [q4.2.1]; simp, by rw [← h5]; simpa using q4.2.2⟩, by rw [← h5]; exact p4⟩
      · rcases h4 with h4 | ⟨hmore, h4⟩
        · refine .inr ⟨by rw [at_ i e he]; exact p1, ?_⟩
          rcases p2 with p2 | ⟨hr, A, hA⟩
          · exact .inl (PS.unren newP_cut _ _ (shS_spec hF _ _ _ h4 p2))
          · exact .inr ⟨h5 ▸ hr, A, shS_res h4 hA⟩
        · rcases p2 with p2 | ⟨_, A, hA⟩
          · obtain ⟨l1, l2, h7, h6⟩ := shTop_spec hF _ _ _ h4 p2
            have : l1 = [] := (List.append_eq_nil_iff.1 h7.symm).1
            subst this
            exact .inr ⟨by rw [at_ i e he]; exact p1, .inl (PS.unren newP_cut _ _ h6)⟩
          · rw [hA] at h4; exact h4.elim
    · exact .inr ⟨by rw [at_ i e he]; exact hf e h1, .inl (emptyS_spec _ h2)⟩
  · intro i j oi oj g b n b' m hi hj p1 p2 hTg
    obtain ⟨a1, o1, c1, e1, f1, _⟩ := live i oi hi _ p1
    obtain ⟨a2, o2, c2, e2, f2, _⟩ := live j oj hj _ p2
    have := s.inj a1 a2 o1 o2 g b n b' m e1 e2 f1 f2 hTg
    subst this
    exact (apart_spec gl hap).2 i j a1 c1 c2
  · intro i o' g b n hi hr hp
    obtain ⟨e, o, c1, e1, f1, f2⟩ := live i o' hi _ hp
    exact s.nofz e o g b n e1 (f2.trans hr) f1
  · obtain ⟨Fs, r⟩ := s.res
    have hgl : ∀ (i e x : Nat), gl[i]? = some e → ((∃ e', gl[i]? = some e' ∧ Fs e' x) ↔ Fs e x) := fun i e x he => ⟨fun z => z.elim fun e' q => (by have h1 := q.1; rw [he] at h1; cases h1; exact q.2), fun h => ⟨e, he, h⟩⟩
    refine ⟨fun i x => ∃ e, gl[i]? = some e ∧ Fs e x, ?_, ?_, ?_, ?_⟩
    · intro i o' A hi hA
      obtain ⟨e, o, c1, c2, c3⟩ := rsc i o' A hi hA
      have : (fun x => ∃ e, gl[i]? = some e ∧ Fs e x) = Fs e := funext fun x => propext (hgl i e x c1)
      rw [this]
      exact A.ext (ρ := ρ) (.refl _) (r.holds e o A c2 c3)
    · rintro i o' A k hi hA ⟨e', h1, h2⟩
      obtain ⟨e, o, c1, c2, c3⟩ := rsc i o' A hi hA
      rw [c1] at h1; rw [← Option.some.inj h1] at h2
      exact r.mine e o A k c2 c3 h2
    · rintro i j oi oj A B k hi hA hj hB ⟨e', h1, h2⟩ ⟨d', h3, h4⟩
      obtain ⟨e, o, c1, c2, c3⟩ := rsc i oi A hi hA
      obtain ⟨d, p, d1, d2, d3⟩ := rsc j oj B hj hB
      rw [c1] at h1; rw [← Option.some.inj h1] at h2
      rw [d1] at h3; rw [← Option.some.inj h3] at h4
      have := r.apart e d o p A B k c2 c3 d2 d3 h2 h4
      subst this
      exact (apart_spec gl hap).2 i j e c1 d1
    · rintro i j oi oj A g b n hi hA hj hp ⟨e', h1, h2⟩
      obtain ⟨e, o, c1, c2, c3⟩ := rsc i oi A hi hA
      rw [c1] at h1; rw [← Option.some.inj h1] at h2
      obtain ⟨d, p, d1, d2, d3, _⟩ := live j oj hj _ hp
      exact r.off e d o p A g b n c2 c3 d2 d3 h2
/-- One block after the other stands still. -/
def frzOK (h : LHeap) : Fzl → Fzl → Prop
  | _, [] => True
  | done, (b, x) :: r => (match hget h b with
    | some o => o.ro = false ∧ (match o.segs with
      | .rows m w0 f0 _ => x.1 ≤ m ∧ x.2.1 = w0 ∧ ∀ i, i < x.1 → shS 0 done (f0 i) (x.2.2 i)
      | _ => False)
    | none => False) ∧ fzGet done b = none ∧ frzOK h ((b, x) :: done) r
def frzAll : Fzl → Fzl → Fzl
  | done, [] => done
  | done, x :: r => frzAll (x :: done) r
def killF : LHeap → Fzl → LHeap
  | h, [] => h
  | h, (b, _) :: r => killF (hset h b none) r
theorem FzOK.ext {ρ ρ' : Pl} {F : Fzl} (e : ExtR ρ ρ') (ha : ρ'.at_ = ρ.at_) (h : FzOK ρ F) : FzOK ρ' F := by
  intro b x hb g bs c hp
  rw [ha] at hp
  obtain ⟨l, h1, h2, h3⟩ := h b x hb g bs c hp
  exact ⟨l, h1.ext e, h2, fun i hi => PS.ext (Ext.clo e) _ _ (h3 i hi)⟩
theorem Sim.frz {T : Nat → Nat → Prop} {w0 : World} {h0 : LHeap} {w : World} : ∀ (F done : Fzl) (h : LHeap) (ρ : Pl), frzOK h0 done F → (∀ b, fzGet done b = none → hget h b = hget h0 b) → FzOK ρ done → Sim T w0 ρ h w → h.length = h0.length →
    ∃ ρ', Sim T w0 ρ' (killF h F) w ∧ Ext ρ ρ' ∧ ρ'.at_ = ρ.at_ ∧ FzOK ρ' (frzAll done F) ∧ (killF h F).length = h0.length
  | [], done, h, ρ, _, _, hF, hs, hl => ⟨ρ, hs, Ext.refl ρ, rfl, hF, hl⟩
  | (b, n, w1, f) :: r, done, h, ρ, hok, hh, hF, hs, hl => by
    obtain ⟨h1, h2, h3⟩ := hok
    cases hg : hget h0 b with
    | none => rw [hg] at h1; exact h1.elim
    | some o =>
      rw [hg] at h1
      obtain ⟨hro, h1⟩ := h1
      have hgb : hget h b = some o := (hh b h2).trans hg
      have hbl : b < h.length := by
        rcases Nat.lt_or_ge b h.length with c | c
        · exact c
        · rw [hget_out h b c] at hgb; cases hgb
      have hlen : (hset h b none).length = h0.length := by rw [hset_len _ _ _ hbl]; exact hl
      have hh' : ∀ b', fzGet ((b, n, w1, f) :: done) b' = none → hget (hset h b none) b' = hget h0 b' := by
        intro b' hb'
        unfold fzGet at hb'
        split at hb'
        · cases hb'
        · rename_i hne
          rw [hget_hset, if_neg (by intro c; subst c; simp at hne)]
          exact hh b' hb'
      rcases hs.obj b o hgb with ⟨g, bs, c, ob, p1, p2, p3, p4⟩ | ⟨p1, _⟩
      · obtain ⟨s1, s2, _⟩ := hs.still hro hgb p1 p2
        have hF' : FzOK (ρ.still g ob) ((b, n, w1, f) :: done) := by
          intro b' x hb' g' bs' c' hp'
          unfold fzGet at hb'
          split at hb'
          · rename_i he
            have he := Nat.eq_of_beq_eq_true he
            subst he
            cases hb'
            have hp' : ρ b = some (g', bs', c') := hp'
            rw [p1] at hp'
            cases hp'
            obtain ⟨pre, l, ex, fr, rfl, q2, q3, q4, q5⟩ := p3
            cases hsg : o.segs with
            | nil => rw [hsg] at h1; exact h1.elim
            | one v r => rw [hsg] at h1; exact h1.elim
            | res A => rw [hsg] at h1; exact h1.elim
            | rows m w0' f0 rr =>
              rw [hsg] at h1 q2
              obtain ⟨h4, h5, h6⟩ := h1
              have h5 : w1 = w0' := h5
              have h4 : n ≤ m := h4
              subst h5
              obtain ⟨d1, d2, rfl, hd, _⟩ := rows_chunks q2
              have hmul : n * w1 ≤ m * w1 := Nat.mul_le_mul_right _ h4
              have hd1 := hd.1
              refine ⟨d1.take (n * w1), ⟨(pre ++ (d1 ++ d2) ++ ex).toArray, o.ty, fr, ?_, ?_, d1.drop (n * w1) ++ d2 ++ ex, ?_⟩, ?_, fun i hi => ?_⟩
              · show (if g = g then some _ else ρ.fz g) = some _
                rw [if_pos rfl]
              · simp only [List.size_toArray, List.length_append]; omega
              · rw [show (pre ++ (d1 ++ d2) ++ ex).toArray.toList = pre ++ (d1 ++ d2 ++ ex) by simp, ← q4, List.drop_left, ← List.append_assoc, ← List.append_assoc, List.take_append_drop]
              · show (d1.take (n * w1)).length = n * w1
                rw [List.length_take]; omega
              · have hi : i < n := hi
                have hi2 : i * w1 + w1 ≤ n * w1 := mul_lt w1 hi
                have h7 := hd.2 i (by omega)
                have h8 := shS_spec (hF.ext s2.r rfl) (f0 i) (f i) _ (h6 i hi) (PS.ext s2 _ _ h7)
                have h9 := PS.ext (cut0 _) _ _ h8
                show PS _ (f i) (((d1.take (n * w1)).drop (i * w1)).take w1)
                rw [List.drop_take, List.take_take, Nat.min_eq_left (by omega)]
                exact h9
          · exact hF.ext s2.r rfl b' x hb' g' bs' c' hp'
        obtain ⟨ρ', r1, r2, r3, r4, r5⟩ := Sim.frz r ((b, n, w1, f) :: done) (hset h b none) (ρ.still g ob) h3 hh' hF' s1 hlen
        exact ⟨ρ', r1, s2.trans r2, r3, r4, r5⟩
      · have hF' : FzOK ρ ((b, n, w1, f) :: done) := by
          intro b' x hb' g' bs' c' hp'
          unfold fzGet at hb'
          split at hb'
          · rename_i he
            have he := Nat.eq_of_beq_eq_true he
            subst he
            rw [p1] at hp'; cases hp'
          · exact hF b' x hb' g' bs' c' hp'
        obtain ⟨ρ', r1, r2, r3, r4, r5⟩ := Sim.frz r ((b, n, w1, f) :: done) (hset h b none) ρ h3 hh' hF' (hs.kill b) hlen
        exact ⟨ρ', r1, r2, r3, r4, r5⟩
/-- A state told anew: some blocks stand still from now on. -/
theorem Sim.tell {T : Nat → Nat → Prop} {w0 : World} {ρ : Pl} {h h' : LHeap} {w : World} {F : Fzl} {gl : List Nat} (s : Sim T w0 ρ h w) (hf : ∀ i, h.length ≤ i → ρ i = none) (hok : frzOK h [] F) (hap : Lh.apart 1000000 gl = true) (hs : shH (frzAll [] F) (embF gl 1000000) (killF h F) gl h') :
    ∃ ρ', Sim T w0 (newP ρ' gl) h' w ∧ Ext ρ ρ' ∧ ρ'.at_ = ρ.at_ ∧ FzOK ρ' (frzAll [] F) := by
  obtain ⟨ρ', r1, r2, r3, r4, r5⟩ := Sim.frz F [] h ρ hok (fun _ _ => rfl) (FzOK.nil ρ) s rfl
  exact ⟨ρ', r1.sh r4 (fun i hi => by show ρ'.at_ i = none; rw [r3]; exact hf i (by omega)) hap hs, r2, r3, r4⟩
theorem newP_id {ρ : Pl} {gl : List Nat} {L : Nat} (h : idl L 0 gl = true) (i : Nat) (hi : i < L) : newP ρ gl i = ρ i := by
  have h1 := idl_spec L 0 gl h i hi
  rw [Nat.zero_add] at h1
  obtain ⟨e', h2, h3⟩ := embF_lt gl 1000000 i (List.getElem?_eq_some_iff.1 h1).1
  rw [h1] at h2
  cases h2
  rw [newP_at, if_pos (List.getElem?_eq_some_iff.1 h1).1, h3]
theorem idl_len {gl : List Nat} {L : Nat} (h : idl L 0 gl = true) : L ≤ gl.length := by
  rcases Nat.lt_or_ge gl.length L with c | c
  · have := idl_spec L 0 gl h gl.length c
    simp at this
  · exact c
/-- What stands for one state stands for the other. The first L blocks keep their numbers; the others' old ones stand in a list. -/
def Shift (L : Nat) (t : List LVal) (h : LHeap) (t' : List LVal) (h' : LHeap) : Prop := ∃ F, frzOK h [] F ∧ ∃ gl, apart 1000000 gl = true ∧ idl L 0 gl = true ∧ shT (frzAll [] F) (embF gl 1000000) t t' ∧ shH (frzAll [] F) (embF gl 1000000) (killF h F) gl h'
def iter (W : (LExit → List LVal → LHeap → Prop) → List LVal → LHeap → Prop) (Q : LExit → List LVal → LHeap → Prop) (L : Nat) : Nat → List LVal → LHeap → Prop
  | 0, _, _ => False
  | k + 1, t, h => ∃ t' h', ((t' = t ∧ h' = h) ∨ Shift L t h t' h') ∧ W (fun e t h => match e with
    | .normal => iter W Q L k t h
    | e => Q e t h) t' h'
structure Loop (L : Nat) (W : (LExit → List LVal → LHeap → Prop) → List LVal → LHeap → Prop) (Q : LExit → List LVal → LHeap → Prop) (t : List LVal) (h : LHeap) : Prop where
  ex : ∃ k, iter W Q L k t h
def lwp (P : Program) (L : Nat) : LCode → (LExit → List LVal → LHeap → Prop) → List LVal → LHeap → Prop
  | .skip, Q, t, h => Q .normal t h
  | .region ops, Q, t, h => ropsK P Q ops t h
  | .draws ops, Q, t, h => lenK h 0 fun base => dropsK P base ops t h [] fun t h => Q .normal t h
  | .seq a b, Q, t, h => lwp P L a (fun e t h => match e with
    | .normal => lwp P L b Q t h
    | e => Q e t h) t h
  | .cond c x y, Q, t, h => opdK t c fun v => match v with
    | .bool b => iteP b (lwp P L x Q t h) (lwp P L y Q t h)
    | _ => False
  | .block id b, Q, t, h => lwp P L b (fun e t h => match e with
    | .exit i => match Nat.beq i id with
      | true => Q .normal t h
      | false => Q (.exit i) t h
    | e => Q e t h) t h
  | .loop b, Q, t, h => Loop L (fun Q => lwp P L b Q) Q t h
  | .exit id, Q, t, h => Q (.exit id) t h
  | .ret, Q, t, h => Q .ret t h
end Go.Proofs.Ytilmfhpoiejmfaa.Lh
