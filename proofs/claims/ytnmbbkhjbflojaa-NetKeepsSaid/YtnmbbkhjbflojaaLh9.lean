/- Code on the heap of the mind. Over any program. -/
import Derived.Test.YtnmbbkhjbflojaaLh9b
namespace Go.Proofs.Ytnmbbkhjbflojaa.Lh
set_option linter.unusedSimpArgs false
set_option linter.unusedVariables false
open Go.RowKit
inductive LCode where
  | skip
  | region (ops : List LOper)
  | draws (ops : List (Nat × List Nat × LOper))
  | seq (a b : LCode)
  | cond (c : LOpd) (x y : LCode)
  | block (id : Nat) (b : LCode)
  | loop (b : LCode)
  | exit (id : Nat)
  | ret
inductive LExit where
  | normal
  | exit (id : Nat)
  | ret
  | panic (v : LVal)
def callK (P : Program) (f : FuncId) (vs : LVals) (h : LHeap) (K X : LVal → LHeap → Prop) : Prop :=
  LCalls P f vs h fun e h' => match e with
    | .ret v => K v h'
    | .panic v => X v h'
def LAct.wp (P : Program) (t : List LVal) (h : LHeap) (K X : LVal → LHeap → Prop) : LAct → Prop
  | .op o => lenK h 0 fun n => (opRd n o).wp t h fun v u nw => applyK h u n nw fun h' => K v h'
  | .call f xs => argsK t xs fun vs => callK P f vs h K X
  | .callv x xs => opdK t x fun v => match v with
    | .func f c => argsK t xs fun vs => appVsK vs c fun us => callK P f us h K X
    | _ => False
  | .panic x => opdK t x fun v => match v with
    | .iface t x => X (.iface t x) h
    | _ => False
def guardK (g : Option (Nat × Bool)) (t : List LVal) (run skip : Prop) : Prop :=
  match g with
  | none => run
  | some (d, want) => getK t d fun v => match v with
    | .bool b => match want with
      | true => iteP b run skip
      | false => iteP b skip run
    | .undef => skip
    | _ => False
def LOper.wp (P : Program) (Q : LExit → List LVal → LHeap → Prop) (o : LOper) (t : List LVal) (h : LHeap) (K : List LVal → LHeap → Prop) : Prop :=
  guardK o.guard t (o.act.wp P t h (fun v h' => setDst t o.dst v fun t' => K t' h') (fun v h' => Q (.panic v) t h')) (setDst t o.dst .undef fun t' => K t' h)
def ropsK (P : Program) (Q : LExit → List LVal → LHeap → Prop) : List LOper → List LVal → LHeap → Prop
  | [], t, h => Q .normal t h
  | o :: r, t, h => o.wp P Q t h (ropsK P Q r)
/-- Places below a bound alone. -/
def cutP (ρ : Pl) (k : Nat) : Pl := fun i => if i < k then ρ i else none
mutual
/-- What stands for the one stands for the other, and names no block from k on. -/
def shV (k : Nat) : LVal → LVal → Prop
  | .undef, .undef => True
  | .undef, .any => True
  | .any, .any => True
  | .bool b, .bool c => b = c
  | .bool _, .any => True
  | .int j n, .int j' m => j = j' ∧ n = m
  | .int _ _, .any => True
  | .str s, .str s' => s = s'
  | .str _, .any => True
  | .nilp, .nilp => True
  | .nilp, .any => True
  | .ptr a, .ptr b => a = b ∧ a.blk < k
  | .ptr _, .any => True
  | .slice a st w len lo hi, .slice a' st' w' len' lo' hi' => (a = a' ∧ st = st' ∧ w = w' ∧ len = len' ∧ len' ≤ lo' ∧ lo' ≤ lo ∧ (hi' = none ∨ hi' = hi) ∧ a.blk < k) ∨ (len = 0 ∧ lo = 0 ∧ hi = some 0 ∧ len' = 0 ∧ lo' = 0)
  | .slice _ _ _ _ _ _, .any => True
  | .nilf, .nilf => True
  | .nilf, .any => True
  | .func f c, .func f' c' => f = f' ∧ shVs k c c'
  | .func _ _, .any => True
  | .nilI, .nilI => True
  | .nilI, .any => True
  | .iface t v, .iface t' v' => t = t' ∧ shV k v v'
  | .iface _ _, .any => True
  | .agg s, .agg s' => shS k s s'
  | .agg _, .any => True
  | .tup vs, .tup vs' => shVs k vs vs'
  | .tup _, .any => True
  | _, _ => False
def shVs (k : Nat) : LVals → LVals → Prop
  | .nil, .nil => True
  | .cons v r, .cons v' r' => shV k v v' ∧ shVs k r r'
  | _, _ => False
def shS (k : Nat) : Segs → Segs → Prop
  | .nil, .nil => True
  | .one v r, .one v' r' => shV k v v' ∧ shS k r r'
  | .rows n w f r, .rows n' w' f' r' => n = n' ∧ w = w' ∧ (∀ i, i < n → shS k (f i) (f' i)) ∧ shS k r r'
  | _, _ => False
end
/-- The same of temporaries; the one's blocks bear other numbers. -/
def shT (g : Nat → Nat) : List LVal → List LVal → Prop
  | [], [] => True
  | v :: r, v' :: r' => shV 1000000 v (ren g v') ∧ shT g r r'
  | _, _ => False
def emptyS : Segs → Prop
  | .nil => True
  | .one _ _ => False
  | .rows n _ _ r => n = 0 ∧ emptyS r
/-- Rows, the last ones forgotten. -/
def shTop : Segs → Segs → Prop
  | .rows n w f .nil, .rows n' w' f' .nil => n' ≤ n ∧ w = w' ∧ ∀ i, i < n' → shS 1000000 (f i) (f' i)
  | _, _ => False
/-- The same of blocks: each one's old number stands in the list. -/
def shH (g : Nat → Nat) (h : LHeap) : List Nat → LHeap → Prop
  | [], [] => True
  | e :: er, o' :: r' => (match o' with
    | none => True
    | some o' => match hget h e with
      | some o => o.ty = o'.ty ∧ (o.more = true → o'.more = true) ∧ o.ro = o'.ro ∧ (shS 1000000 o.segs (renS g o'.segs) ∨ (o'.more = true ∧ shTop o.segs (renS g o'.segs)))
      | none => h.length ≤ e ∧ emptyS o'.segs) ∧ shH g h er r'
  | _, _ => False
/-- The first ones keep their numbers. -/
def idl : Nat → Nat → List Nat → Bool
  | 0, _, _ => true
  | _ + 1, _, [] => false
  | L + 1, i, e :: r => Nat.beq e i && idl L (i + 1) r
theorem idl_spec : ∀ (L k : Nat) (l : List Nat), idl L k l = true → ∀ i, i < L → l[i]? = some (k + i)
  | 0, _, _, _, i, hi => by omega
  | L + 1, k, [], h, i, hi => by simp [idl] at h
  | L + 1, k, e :: r, h, i, hi => by
    simp only [idl, Bool.and_eq_true] at h
    have h1 := Nat.eq_of_beq_eq_true h.1
    cases i with
    | zero => simp [h1]
    | succ i =>
      have := idl_spec L (k + 1) r h.2 i (by omega)
      simp only [List.getElem?_cons_succ, this]
      congr 1; omega
mutual
theorem shV_spec {k : Nat} {ρ : Pl} : ∀ (v v' : LVal) (x : Value), shV k v v' → PV ρ v x → PV (cutP ρ k) v' x
  | .undef, v', x, hs, hv => by cases v' <;> first | exact hs.elim | exact hv | exact trivial
  | .any, v', x, hs, hv => by cases v' <;> first | exact hs.elim | exact trivial
  | .bool _, v', x, hs, hv => by
    cases v' <;> try exact hs.elim
    · exact trivial
    · have hs : _ = _ := hs
      subst hs; exact hv
  | .int _ _, v', x, hs, hv => by
    cases v' <;> try exact hs.elim
    · exact trivial
    · obtain ⟨rfl, rfl⟩ := hs
      exact hv
  | .str _, v', x, hs, hv => by
    cases v' <;> try exact hs.elim
    · exact trivial
    · have hs : _ = _ := hs
      subst hs; exact hv
  | .nilp, v', x, hs, hv => by cases v' <;> first | exact hs.elim | exact hv | exact trivial
  | .ptr a, v', x, hs, hv => by
    cases v' <;> try exact hs.elim
    · exact trivial
    · obtain ⟨rfl, h1⟩ := hs
      obtain ⟨g, b, n, h2, h3⟩ := hv
      exact ⟨g, b, n, by unfold cutP; rw [if_pos h1]; exact h2, h3⟩
  | .slice a st w len lo hi, v', x, hs, hv => by
    cases v' <;> try exact hs.elim
    · exact trivial
    · obtain ⟨p, cap, h1, h2⟩ := hv
      rcases hs with ⟨rfl, rfl, rfl, rfl, e1, e2, e3, e4⟩ | ⟨rfl, rfl, rfl, rfl, rfl⟩
      · refine ⟨p, cap, h1, ?_⟩
        rcases h2 with ⟨c1, c2, c3⟩ | ⟨g, b, n, c1, c2, c3, c4, c5, c6⟩
        · exact .inl ⟨c1, by omega, c3⟩
        · refine .inr ⟨g, b, n, by unfold cutP; rw [if_pos e4]; exact c1, c2, e1, by omega, fun z hz => ?_, c6⟩
          rcases e3 with rfl | rfl
          · cases hz
          · exact c5 z hz
      · refine ⟨p, cap, h1, .inl ⟨rfl, rfl, ?_⟩⟩
        rcases h2 with ⟨_, _, c3⟩ | ⟨g, b, n, c1, c2, c3, c4, c5, c6⟩
        · exact c3
        · have := c5 0 rfl; omega
  | .nilf, v', x, hs, hv => by cases v' <;> first | exact hs.elim | exact hv | exact trivial
  | .func f c, v', x, hs, hv => by
    cases v' <;> try exact hs.elim
    · exact trivial
    · obtain ⟨rfl, h1⟩ := hs
      obtain ⟨l, h2, h3⟩ := hv
      exact ⟨l, shVs_spec c _ l h1 h2, h3⟩
  | .nilI, v', x, hs, hv => by cases v' <;> first | exact hs.elim | exact hv | exact trivial
  | .iface t v, v', x, hs, hv => by
    cases v' <;> try exact hs.elim
    · exact trivial
    · obtain ⟨rfl, h1⟩ := hs
      obtain ⟨y, h2, h3⟩ := hv
      exact ⟨y, shV_spec v _ y h1 h2, h3⟩
  | .agg s, v', x, hs, hv => by
    cases v' <;> try exact hs.elim
    · exact trivial
    · obtain ⟨l, h2, h3⟩ := hv
      exact ⟨l, shS_spec s _ l hs h2, h3⟩
  | .tup vs, v', x, hs, hv => by
    cases v' <;> try exact hs.elim
    · exact trivial
    · obtain ⟨l, h2, h3⟩ := hv
      exact ⟨l, shVs_spec vs _ l hs h2, h3⟩
theorem shVs_spec {k : Nat} {ρ : Pl} : ∀ (v v' : LVals) (l : List Value), shVs k v v' → PVs ρ v l → PVs (cutP ρ k) v' l
  | .nil, v', l, hs, hv => by cases v' <;> first | exact hs.elim | exact hv
  | .cons v r, v', l, hs, hv => by
    cases v' <;> try exact hs.elim
    obtain ⟨x, l', h1, h2, h3⟩ := hv
    exact ⟨x, l', h1, shV_spec v _ x hs.1 h2, shVs_spec r _ l' hs.2 h3⟩
theorem shS_spec {k : Nat} {ρ : Pl} : ∀ (v v' : Segs) (l : List Value), shS k v v' → PS ρ v l → PS (cutP ρ k) v' l
  | .nil, v', l, hs, hv => by cases v' <;> first | exact hs.elim | exact hv
  | .one v r, v', l, hs, hv => by
    cases v' <;> try exact hs.elim
    obtain ⟨x, l', h1, h2, h3, h4⟩ := hv
    exact ⟨x, l', h1, shV_spec v _ x hs.1 h2, h3, shS_spec r _ l' hs.2 h4⟩
  | .rows n w f r, v', l, hs, hv => by
    cases v' <;> try exact hs.elim
    obtain ⟨rfl, rfl, h5, h6⟩ := hs
    obtain ⟨ls, l', h1, h2, h3, h4⟩ := hv
    exact ⟨ls, l', h1, h2, fun i hi => (h3 i hi).elim fun y hy => ⟨y, hy.1, hy.2.1, shS_spec (f i) _ y (h5 i hi) hy.2.2⟩, shS_spec r _ l' h6 h4⟩
end
theorem emptyS_spec {ρ : Pl} : ∀ (s : Segs), emptyS s → PS ρ s []
  | .nil, _ => rfl
  | .one _ _, h => h.elim
  | .rows n w f r, h => by
    obtain ⟨rfl, h2⟩ := h
    exact ⟨[], [], rfl, rfl, fun i hi => by omega, emptyS_spec r h2⟩
theorem shT_spec {g : Nat → Nat} {ρ ρ' : Pl} (e : ∀ b x, cutP ρ 1000000 (g b) = some x → ρ' b = some x) : ∀ (t t' : List LVal), shT g t t' → t.length = t'.length ∧ ∀ i x, PV ρ (lget t i) x → PV ρ' (lget t' i) x
  | [], [], _ => ⟨rfl, fun i x h => h⟩
  | [], _ :: _, h => h.elim
  | _ :: _, [], h => h.elim
  | v :: r, v' :: r', h => by
    obtain ⟨h1, h2⟩ := shT_spec e r r' h.2
    refine ⟨by simp [h1], fun i x hx => ?_⟩
    cases i with
    | zero => exact PV.unren e v' x (shV_spec v _ x h.1 hx)
    | succ i => exact h2 i x hx
theorem shH_spec {g : Nat → Nat} {h : LHeap} : ∀ (gl : List Nat) (h' : LHeap), shH g h gl h' → gl.length = h'.length ∧ ∀ i o', hget h' i = some o' → ∃ e, gl[i]? = some e ∧ ((∃ o, hget h e = some o ∧ o.ty = o'.ty ∧ (o.more = true → o'.more = true) ∧ o.ro = o'.ro ∧ (shS 1000000 o.segs (renS g o'.segs) ∨ (o'.more = true ∧ shTop o.segs (renS g o'.segs)))) ∨ (h.length ≤ e ∧ emptyS o'.segs))
  | [], [], _ => ⟨rfl, fun i o h => by simp [hget] at h⟩
  | [], _ :: _, h => h.elim
  | _ :: _, [], h => h.elim
  | e :: er, x :: r, hs => by
    obtain ⟨h1, h2⟩ := shH_spec er r hs.2
    refine ⟨by simp [h1], fun i ob hi => ?_⟩
    cases i with
    | zero =>
      simp only [hget] at hi
      subst hi
      have h3 := hs.1
      refine ⟨e, rfl, ?_⟩
      simp only at h3
      cases hg : hget h e with
      | none => rw [hg] at h3; exact .inr h3
      | some o => rw [hg] at h3; exact .inl ⟨o, rfl, h3⟩
    | succ i =>
      obtain ⟨x, h3, h4⟩ := h2 i ob hi
      exact ⟨x, by simpa using h3, h4⟩
theorem shTop_spec {ρ : Pl} : ∀ (s s' : Segs) (l : List Value), shTop s s' → PS ρ s l → ∃ l1 l2, l = l1 ++ l2 ∧ PS (cutP ρ 1000000) s' l1 := by
  intro s s' l hs hl
  cases s with
  | nil => exact hs.elim
  | one v r => exact hs.elim
  | rows n w f r =>
    cases r <;> try exact hs.elim
    cases s' <;> try exact hs.elim
    rename_i n' w' f' r'
    cases r' <;> try exact hs.elim
    obtain ⟨h1, rfl, h2⟩ := hs
    obtain ⟨d1, d2, rfl, hd, _⟩ := rows_chunks hl
    have h3 := chunks_sub (st := 0) (m := n') hd (by omega)
    simp only [Nat.zero_mul, List.drop_zero, Nat.zero_add] at h3
    refine ⟨d1.take (n' * w), d1.drop (n' * w) ++ d2, by rw [← List.append_assoc, List.take_append_drop], ?_⟩
    exact shS_spec (.rows n' w f .nil) (.rows n' w f' .nil) _ ⟨rfl, rfl, h2, trivial⟩ (chunks_rows h3)
/-- The places, by the new numbers. -/
def newP (ρ : Pl) (gl : List Nat) : Pl := fun i => if i < gl.length then ρ (embF gl 1000000 i) else none
theorem newP_cut {ρ : Pl} {gl : List Nat} (b : Nat) (x : Nat × Nat × Nat) (h : cutP ρ 1000000 (embF gl 1000000 b) = some x) : newP ρ gl b = some x := by
  unfold cutP at h
  unfold newP
  split at h
  · rename_i hlt
    have hb : b < gl.length := by
      rcases Nat.lt_or_ge b gl.length with c | c
      · exact c
      · rw [embF_ge gl _ b c] at hlt; omega
    rw [if_pos hb]
    exact h
  · cases h
theorem Sim.sh {T : Bool → Nat → Prop} {w0 : World} {ρ : Pl} {h h' : LHeap} {w : World} {gl : List Nat} (s : Sim T w0 ρ h w) (hf : ∀ i, h.length ≤ i → ρ i = none) (hap : Lh.apart 1000000 gl = true) (hs : shH (embF gl 1000000) h gl h') : Sim T w0 (newP ρ gl) h' w := by
  obtain ⟨hlen, hsp⟩ := shH_spec gl h' hs
  have cut : ∀ i x, newP ρ gl i = some x → ρ (embF gl 1000000 i) = some x := by
    intro i x hx
    unfold newP at hx
    split at hx
    · exact hx
    · cases hx
  have at_ : ∀ i e, gl[i]? = some e → newP ρ gl i = ρ e := by
    intro i e he
    have hi : i < gl.length := (List.getElem?_eq_some_iff.1 he).1
    obtain ⟨e', h1, h2⟩ := embF_lt gl 1000000 i hi
    rw [he] at h1
    cases h1
    unfold newP
    rw [if_pos hi, h2]
  refine ⟨?_, ?_, fun i g b n hp => s.lt _ g b n (cut i _ hp), s.os, s.tape, s.output, s.size, s.kept, s.new, s.apart⟩
  · intro i o' hi
    obtain ⟨e, he, ⟨o, h1, h2, h3, h5, h4⟩ | ⟨h1, h2⟩⟩ := hsp i o' hi
    · rcases s.obj e o h1 with ⟨g, b, n, ob, p1, p2, p3, p4⟩ | ⟨p1, p2⟩
      · obtain ⟨pre, l, ex, fr, q1, q2, q3, q4⟩ := p3
        rcases h4 with h4 | ⟨hmore, h4⟩
        · refine .inl ⟨g, b, n, ob, by rw [at_ i e he]; exact p1, p2, ⟨pre, l, ex, fr, by rw [q1, h2], PS.unren newP_cut _ _ (shS_spec _ _ _ h4 q2), fun hm => q3 ?_, by rw [← h5]; exact q4⟩, by rw [← h5]; exact p4⟩
          cases hom : o.more with
          | false => rfl
          | true => rw [h3 hom] at hm; cases hm
        · obtain ⟨l1, l2, rfl, h6⟩ := shTop_spec _ _ _ h4 q2
          exact .inl ⟨g, b, n, ob, by rw [at_ i e he]; exact p1, p2, ⟨pre, l1, l2 ++ ex, fr, by rw [q1, h2]; simp, PS.unren newP_cut _ _ h6, fun hm => (by rw [hmore] at hm; cases hm), q4.1, by rw [q4.2.1]; simp, by rw [← h5]; simpa using q4.2.2⟩, by rw [← h5]; exact p4⟩
      · rcases h4 with h4 | ⟨hmore, h4⟩
        · exact .inr ⟨by rw [at_ i e he]; exact p1, PS.unren newP_cut _ _ (shS_spec _ _ _ h4 p2)⟩
        · obtain ⟨l1, l2, h7, h6⟩ := shTop_spec _ _ _ h4 p2
          have : l1 = [] := (List.append_eq_nil_iff.1 h7.symm).1
          subst this
          exact .inr ⟨by rw [at_ i e he]; exact p1, PS.unren newP_cut _ _ h6⟩
    · exact .inr ⟨by rw [at_ i e he]; exact hf e h1, emptyS_spec _ h2⟩
  · intro i j oi oj g b n b' m hi hj p1 p2 hTg
    have live : ∀ i o', hget h' i = some o' → ∀ x, newP ρ gl i = some x → ∃ e o, gl[i]? = some e ∧ hget h e = some o ∧ ρ e = some x := by
      intro i o' hi x hx
      obtain ⟨e, he, ⟨o, h1, _⟩ | ⟨h1, _⟩⟩ := hsp i o' hi
      · exact ⟨e, o, he, h1, by rw [← at_ i e he]; exact hx⟩
      · rw [at_ i e he, hf e h1] at hx; cases hx
    obtain ⟨a1, o1, c1, e1, f1⟩ := live i oi hi _ p1
    obtain ⟨a2, o2, c2, e2, f2⟩ := live j oj hj _ p2
    have := s.inj a1 a2 o1 o2 g b n b' m e1 e2 f1 f2 hTg
    subst this
    exact (apart_spec gl hap).2 i j a1 c1 c2
theorem newP_id {ρ : Pl} {gl : List Nat} {L : Nat} (h : idl L 0 gl = true) (i : Nat) (hi : i < L) : newP ρ gl i = ρ i := by
  have h1 := idl_spec L 0 gl h i hi
  rw [Nat.zero_add] at h1
  obtain ⟨e', h2, h3⟩ := embF_lt gl 1000000 i (List.getElem?_eq_some_iff.1 h1).1
  rw [h1] at h2
  cases h2
  unfold newP
  rw [if_pos (List.getElem?_eq_some_iff.1 h1).1, h3]
theorem idl_len {gl : List Nat} {L : Nat} (h : idl L 0 gl = true) : L ≤ gl.length := by
  rcases Nat.lt_or_ge gl.length L with c | c
  · have := idl_spec L 0 gl h gl.length c
    simp at this
  · exact c
/-- What stands for one state stands for the other. The first L blocks keep their numbers; the others' old ones stand in a list. -/
def Shift (L : Nat) (t : List LVal) (h : LHeap) (t' : List LVal) (h' : LHeap) : Prop := ∃ gl, apart 1000000 gl = true ∧ idl L 0 gl = true ∧ shT (embF gl 1000000) t t' ∧ shH (embF gl 1000000) h gl h'
def iter (W : (LExit → List LVal → LHeap → Prop) → List LVal → LHeap → Prop) (Q : LExit → List LVal → LHeap → Prop) (L : Nat) : Nat → List LVal → LHeap → Prop
  | 0, _, _ => False
  | k + 1, t, h => ∃ t' h', ((t' = t ∧ h' = h) ∨ Shift L t h t' h') ∧ W (fun e t h => match e with
    | .normal => iter W Q L k t h
    | e => Q e t h) t' h'
structure Loop (L : Nat) (W : (LExit → List LVal → LHeap → Prop) → List LVal → LHeap → Prop) (Q : LExit → List LVal → LHeap → Prop) (t : List LVal) (h : LHeap) : Prop where
  ex : ∃ k, iter W Q L k t h
def lwp (P : Program) (L : Nat) : LCode → (LExit → List LVal → LHeap → Prop) → List LVal → LHeap → Prop
  | .skip, Q, t, h => Q .normal t h
  | .region ops, Q, t, h => ropsK P Q ops t h
  | .draws ops, Q, t, h => lenK h 0 fun base => dropsK P base ops t h [] fun t h => Q .normal t h
  | .seq a b, Q, t, h => lwp P L a (fun e t h => match e with
    | .normal => lwp P L b Q t h
    | e => Q e t h) t h
  | .cond c x y, Q, t, h => opdK t c fun v => match v with
    | .bool b => iteP b (lwp P L x Q t h) (lwp P L y Q t h)
    | _ => False
  | .block id b, Q, t, h => lwp P L b (fun e t h => match e with
    | .exit i => match Nat.beq i id with
      | true => Q .normal t h
      | false => Q (.exit i) t h
    | e => Q e t h) t h
  | .loop b, Q, t, h => Loop L (fun Q => lwp P L b Q) Q t h
  | .exit id, Q, t, h => Q (.exit id) t h
  | .ret, Q, t, h => Q .ret t h
end Go.Proofs.Ytnmbbkhjbflojaa.Lh
