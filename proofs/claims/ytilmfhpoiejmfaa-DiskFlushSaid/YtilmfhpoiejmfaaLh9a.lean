/- Calls on the heap of the mind; a call within a greater heap. Over any program. -/
import Derived.Test.YtilmfhpoiejmfaaLh8
namespace Go.Proofs.Ytilmfhpoiejmfaa.Lh
set_option linter.unusedSimpArgs false
set_option linter.unusedVariables false
set_option linter.unusedSectionVars false
open Go.RowKit
variable [Fz]
inductive LEnd where
  | ret (v : LVal)
  | panic (v : LVal)
def EndPV (ρ : Pl) : LEnd → Ending → Prop
  | .ret v, .returned x => PV ρ v x
  | .panic v, .panicked c => ∃ x, c = [{ v := x, recovered := false }] ∧ PV ρ v x
  | _, _ => False
/-- A call on the heap of the mind. -/
def hasBody (P : Program) (f : FuncId) : Bool :=
  match P.funcs[f]? with
  | some fn => fn.body.isSome && !(fn.name == "runtime.NumGoroutine")
  | none => false
structure LCalls (P : Program) (f : FuncId) (args : LVals) (h : LHeap) (R : LEnd → LHeap → Prop) : Prop where
  has : hasBody P f = true
  run : ∀ T w0 ρ w l, Sim T w0 ρ h w → (∀ i, h.length ≤ i → ρ i = none) → PVs ρ args l →
    Calls P f l.toArray w fun e w' => ∃ r h' ρ', R r h' ∧ EndPV ρ' r e ∧ Ext ρ ρ' ∧ (∀ i, i < h.length → ρ' i = ρ i) ∧ Sim T w0 ρ' h' w' ∧ (∀ i, h'.length ≤ i → ρ' i = none) ∧ h.length ≤ h'.length
theorem LCalls.mono {P : Program} {f : FuncId} {args : LVals} {h : LHeap} {R R' : LEnd → LHeap → Prop} (c : LCalls P f args h R) (hr : ∀ e h', R e h' → R' e h') : LCalls P f args h R' :=
  ⟨c.has, fun T w0 ρ w l h1 h2 h3 => (c.run T w0 ρ w l h1 h2 h3).mono fun e w' ⟨r, h', ρ', h4, h5⟩ => ⟨r, h', ρ', hr r h' h4, h5⟩⟩
theorem hset_length (h : LHeap) (n : Nat) (o : Option LObj) : h.length ≤ (hset h n o).length ∧ n < (hset h n o).length := by
  induction n generalizing h with
  | zero => cases h <;> simp [hset]
  | succ n ih =>
    cases h with
    | nil => have := ih []; simp [hset]; exact this.2
    | cons x r => have := ih r; simp [hset]; omega
mutual
def ren (g : Nat → Nat) : LVal → LVal
  | .undef => .undef
  | .any => .any
  | .bool b => .bool b
  | .int k n => .int k n
  | .str s => .str s
  | .nilp => .nilp
  | .ptr a => .ptr ⟨g a.blk, a.path, a.off⟩
  | .slice a st w len lo hi => .slice ⟨g a.blk, a.path, a.off⟩ st w len lo hi
  | .nilf => .nilf
  | .func f c => .func f (rens g c)
  | .nilI => .nilI
  | .iface t v => .iface t (ren g v)
  | .agg s => .agg (renS g s)
  | .tup vs => .tup (rens g vs)
  | .rsl n w f => .rsl n w f
  | .rptr s => .rptr s
  | .tok k => .tok k
  | .gl k => .gl k
def rens (g : Nat → Nat) : LVals → LVals
  | .nil => .nil
  | .cons v r => .cons (ren g v) (rens g r)
def renS (g : Nat → Nat) : Segs → Segs
  | .nil => .nil
  | .one v r => .one (ren g v) (renS g r)
  | .rows n w f r => .rows n w (fun i => renS g (f i)) (renS g r)
  | .res A => .res A
end
/-- Places, by other numbers. -/
structure RenE (g : Nat → Nat) (ρ ρ' : Pl) : Prop where
  at_ : ∀ b x, ρ b = some x → ρ' (g b) = some x
  r : ExtR ρ ρ'
structure UnrE (g : Nat → Nat) (ρ ρ' : Pl) : Prop where
  at_ : ∀ b x, ρ' (g b) = some x → ρ b = some x
  r : ExtR ρ' ρ
mutual
theorem PV.ren {ρ ρ' : Pl} {g : Nat → Nat} (e : RenE g ρ ρ') : ∀ (v : LVal) (x : Value), PV ρ v x → PV ρ' (ren g v) x
  | .undef, _, h => h
  | .any, _, h => h
  | .bool _, _, h => h
  | .int _ _, _, h => h
  | .str _, _, h => h
  | .nilp, _, h => h
  | .ptr _, _, h => by
    obtain ⟨g', b, n, h1, h2⟩ := h
    exact ⟨g', b, n, e.at_ _ _ h1, h2⟩
  | .slice _ _ _ _ _ _, _, h => by
    obtain ⟨p, cap, h1, h2 | ⟨g', b, n, h2, h3⟩⟩ := h
    · exact ⟨p, cap, h1, .inl h2⟩
    · exact ⟨p, cap, h1, .inr ⟨g', b, n, e.at_ _ _ h2, h3⟩⟩
  | .nilf, _, h => h
  | .func _ c, _, h => by
    obtain ⟨l, h1, h2⟩ := h
    exact ⟨l, PVs.ren e c l h1, h2⟩
  | .nilI, _, h => h
  | .iface _ x, _, h => by
    obtain ⟨y, h1, h2⟩ := h
    exact ⟨y, PV.ren e x y h1, h2⟩
  | .agg s, _, h => by
    obtain ⟨l, h1, h2⟩ := h
    exact ⟨l, PS.ren e s l h1, h2⟩
  | .tup vs, _, h => by
    obtain ⟨l, h1, h2⟩ := h
    exact ⟨l, PVs.ren e vs l h1, h2⟩
  | .rsl _ _ f, _, h => by
    obtain ⟨p, cap, h1, h2, h3⟩ := h
    exact ⟨p, cap, h1, h2, h3.imp id fun ⟨g, off, l, h4, h5, h6, h7⟩ => ⟨g, off, l, h4, h5.ext e.r, h6, fun i hi => PS.ext (Ext.clo e.r) (f i) _ (h7 i hi)⟩⟩
  | .rptr s, _, h => by
    obtain ⟨g, off, l, h4, h5, h6⟩ := h
    exact ⟨g, off, l, h4, h5.ext e.r, PS.ext (Ext.clo e.r) s l h6⟩
  | .tok _, _, h => by
    obtain ⟨g, h1, h2⟩ := h
    exact ⟨g, e.r.2 _ _ h1, h2⟩
  | .gl _, _, h => h
theorem PVs.ren {ρ ρ' : Pl} {g : Nat → Nat} (e : RenE g ρ ρ') : ∀ (v : LVals) (l : List Value), PVs ρ v l → PVs ρ' (rens g v) l
  | .nil, _, h => h
  | .cons v r, _, h => by
    obtain ⟨x, l', h1, h2, h3⟩ := h
    exact ⟨x, l', h1, PV.ren e v x h2, PVs.ren e r l' h3⟩
theorem PS.ren {ρ ρ' : Pl} {g : Nat → Nat} (e : RenE g ρ ρ') : ∀ (s : Segs) (l : List Value), PS ρ s l → PS ρ' (renS g s) l
  | .nil, _, h => h
  | .one v r, _, h => by
    obtain ⟨x, l', h1, h2, h3, h4⟩ := h
    exact ⟨x, l', h1, PV.ren e v x h2, h3, PS.ren e r l' h4⟩
  | .rows n w f r, _, h => by
    obtain ⟨ls, l', h1, h2, h3, h4⟩ := h
    exact ⟨ls, l', h1, h2, fun i hi => (h3 i hi).elim fun y hy => ⟨y, hy.1, hy.2.1, PS.ren e (f i) y hy.2.2⟩, PS.ren e r l' h4⟩
  | .res _, _, h => h
end
mutual
theorem PV.unren {ρ ρ' : Pl} {g : Nat → Nat} (e : UnrE g ρ ρ') : ∀ (v : LVal) (x : Value), PV ρ' (ren g v) x → PV ρ v x
  | .undef, _, h => h
  | .any, _, h => h
  | .bool _, _, h => h
  | .int _ _, _, h => h
  | .str _, _, h => h
  | .nilp, _, h => h
  | .ptr _, _, h => by
    obtain ⟨g', b, n, h1, h2⟩ := h
    exact ⟨g', b, n, e.at_ _ _ h1, h2⟩
  | .slice _ _ _ _ _ _, _, h => by
    obtain ⟨p, cap, h1, h2 | ⟨g', b, n, h2, h3⟩⟩ := h
    · exact ⟨p, cap, h1, .inl h2⟩
    · exact ⟨p, cap, h1, .inr ⟨g', b, n, e.at_ _ _ h2, h3⟩⟩
  | .nilf, _, h => h
  | .func _ c, _, h => by
    obtain ⟨l, h1, h2⟩ := h
    exact ⟨l, PVs.unren e c l h1, h2⟩
  | .nilI, _, h => h
  | .iface _ x, _, h => by
    obtain ⟨y, h1, h2⟩ := h
    exact ⟨y, PV.unren e x y h1, h2⟩
  | .agg s, _, h => by
    obtain ⟨l, h1, h2⟩ := h
    exact ⟨l, PS.unren e s l h1, h2⟩
  | .tup vs, _, h => by
    obtain ⟨l, h1, h2⟩ := h
    exact ⟨l, PVs.unren e vs l h1, h2⟩
  | .rsl _ _ f, _, h => by
    obtain ⟨p, cap, h1, h2, h3⟩ := h
    exact ⟨p, cap, h1, h2, h3.imp id fun ⟨g, off, l, h4, h5, h6, h7⟩ => ⟨g, off, l, h4, h5.ext e.r, h6, fun i hi => PS.ext (Ext.clo e.r) (f i) _ (h7 i hi)⟩⟩
  | .rptr s, _, h => by
    obtain ⟨g, off, l, h4, h5, h6⟩ := h
    exact ⟨g, off, l, h4, h5.ext e.r, PS.ext (Ext.clo e.r) s l h6⟩
  | .tok _, _, h => by
    obtain ⟨g, h1, h2⟩ := h
    exact ⟨g, e.r.2 _ _ h1, h2⟩
  | .gl _, _, h => h
theorem PVs.unren {ρ ρ' : Pl} {g : Nat → Nat} (e : UnrE g ρ ρ') : ∀ (v : LVals) (l : List Value), PVs ρ' (rens g v) l → PVs ρ v l
  | .nil, _, h => h
  | .cons v r, _, h => by
    obtain ⟨x, l', h1, h2, h3⟩ := h
    exact ⟨x, l', h1, PV.unren e v x h2, PVs.unren e r l' h3⟩
theorem PS.unren {ρ ρ' : Pl} {g : Nat → Nat} (e : UnrE g ρ ρ') : ∀ (s : Segs) (l : List Value), PS ρ' (renS g s) l → PS ρ s l
  | .nil, _, h => h
  | .one v r, _, h => by
    obtain ⟨x, l', h1, h2, h3, h4⟩ := h
    exact ⟨x, l', h1, PV.unren e v x h2, h3, PS.unren e r l' h4⟩
  | .rows n w f r, _, h => by
    obtain ⟨ls, l', h1, h2, h3, h4⟩ := h
    exact ⟨ls, l', h1, h2, fun i hi => (h3 i hi).elim fun y hy => ⟨y, hy.1, hy.2.1, PS.unren e (f i) y hy.2.2⟩, PS.unren e r l' h4⟩
  | .res _, _, h => h
end
theorem renS_res {g : Nat → Nat} {s : Segs} {A : Asn} (h : renS g s = .res A) : s = .res A := by
  cases s with
  | res B => exact h
  | nil => cases h
  | one v r => cases h
  | rows n w f r => cases h
def LObj.ren (g : Nat → Nat) (o : LObj) : LObj := ⟨renS g o.segs, o.ty, o.more, o.ro⟩
theorem Emp.ren {ρ ρ' : Pl} {g : Nat → Nat} (e : RenE g ρ ρ') {o : LObj} (h : Emp ρ o) : Emp ρ' (o.ren g) := h.imp (PS.ren e _ _) (fun ⟨h1, A, hA⟩ => ⟨h1, A, by show renS g o.segs = _; rw [hA]; rfl⟩)
theorem Emp.unren {ρ ρ' : Pl} {g : Nat → Nat} (e : UnrE g ρ ρ') {o : LObj} (h : Emp ρ' (o.ren g)) : Emp ρ o := h.imp (PS.unren e _ _) (fun ⟨h1, A, hA⟩ => ⟨h1, A, renS_res hA⟩)
theorem PO.ren {ρ ρ' : Pl} {g : Nat → Nat} (e : RenE g ρ ρ') {b n : Nat} {o : LObj} {ob : Obj} (h : PO ρ b n o ob) : PO ρ' b n (o.ren g) ob := by
  obtain ⟨pre, l, ex, fr, h1, h2, h3⟩ := h
  exact ⟨pre, l, ex, fr, h1, PS.ren e _ _ h2, h3⟩
theorem PO.unren {ρ ρ' : Pl} {g : Nat → Nat} (e : UnrE g ρ ρ') {b n : Nat} {o : LObj} {ob : Obj} (h : PO ρ' b n (o.ren g) ob) : PO ρ b n o ob := by
  obtain ⟨pre, l, ex, fr, h1, h2, h3⟩ := h
  exact ⟨pre, l, ex, fr, h1, PS.unren e _ _ h2, h3⟩
/-- Where a small heap's blocks lie in the greater one: those told, then new ones. -/
def embF : List Nat → Nat → Nat → Nat
  | [], n, i => n + i
  | e :: _, _, 0 => e
  | _ :: r, n, i + 1 => embF r n i
theorem embF_lt : ∀ (emb : List Nat) (n i : Nat), i < emb.length → ∃ e, emb[i]? = some e ∧ embF emb n i = e
  | [], n, i, h => by simp at h
  | e :: r, n, 0, h => ⟨e, rfl, rfl⟩
  | e :: r, n, i + 1, h => by
    obtain ⟨x, h1, h2⟩ := embF_lt r n i (by simpa using h)
    exact ⟨x, by simpa using h1, h2⟩
theorem embF_ge : ∀ (emb : List Nat) (n i : Nat), emb.length ≤ i → embF emb n i = n + (i - emb.length)
  | [], n, i, h => by simp [embF]
  | e :: r, n, 0, h => by simp at h
  | e :: r, n, i + 1, h => by
    rw [embF, embF_ge r n i (by simpa using h)]
    simp
/-- The small heap's blocks are those of the greater one. -/
def Emb (g : Nat → Nat) (H : LHeap) : List Nat → LHeap → Prop
  | [], [] => True
  | e :: er, o :: r => (match o with
    | none => True
    | some o => hget H e = some (o.ren g)) ∧ Emb g H er r
  | _, _ => False
theorem Emb.spec {g : Nat → Nat} {H : LHeap} : ∀ (emb : List Nat) (h : LHeap), Emb g H emb h → emb.length = h.length ∧ ∀ i o, hget h i = some o → ∃ e, emb[i]? = some e ∧ hget H e = some (o.ren g)
  | [], [], _ => ⟨rfl, fun i o h => by simp [hget] at h⟩
  | [], _ :: _, h => h.elim
  | _ :: _, [], h => h.elim
  | e :: er, o :: r, h => by
    obtain ⟨h1, h2⟩ := Emb.spec er r h.2
    refine ⟨by simp [h1], fun i ob hi => ?_⟩
    cases i with
    | zero =>
      simp only [hget] at hi
      subst hi
      exact ⟨e, rfl, h.1⟩
    | succ i =>
      obtain ⟨x, h3, h4⟩ := h2 i ob hi
      exact ⟨x, by simpa using h3, h4⟩
/-- What a call leaves, put back. -/
def graft (g : Nat → Nat) : LHeap → Nat → LHeap → LHeap
  | H, _, [] => H
  | H, i, o :: r => graft g (hset H (g i) (o.map (LObj.ren g))) (i + 1) r
theorem graft_get {g : Nat → Nat} : ∀ (h : LHeap) (H : LHeap) (k : Nat), (∀ i j, i < k + h.length → j < k + h.length → g i = g j → i = j) → ∀ n,
    hget (graft g H k h) n = (match (List.range h.length).find? (fun i => g (k + i) == n) with
      | some i => (hget h i).map (LObj.ren g)
      | none => hget H n)
  | [], H, k, hinj, n => by simp [graft]
  | o :: r, H, k, hinj, n => by
    rw [graft, graft_get r _ (k + 1) (fun i j hi hj => hinj i j (by simp; omega) (by simp; omega)) n]
    rw [List.length_cons, List.range_succ_eq_map, List.find?_cons, List.find?_map]
    by_cases c : g k = n
    · have : (List.range r.length).find? (fun i => g (k + 1 + i) == n) = none := by
        rw [List.find?_eq_none]
        intro i hi hx
        have := eq_of_beq hx
        have := hinj (k + 1 + i) k (by simp at hi ⊢; omega) (by simp) (by rw [this, c])
        omega
      rw [this]
      simp only [Nat.add_zero, c, beq_self_eq_true]
      rw [hget_hset, if_pos rfl]
      rfl
    · have e : (g (k + 0) == n) = false := by simpa using c
      rw [e]
      simp only
      have e2 : ((fun i => g (k + i) == n) ∘ Nat.succ) = (fun i => g (k + 1 + i) == n) := by
        funext i
        simp only [Function.comp, Nat.succ_eq_add_one]
        rw [show k + (i + 1) = k + 1 + i by omega]
      rw [e2]
      cases hf : (List.range r.length).find? (fun i => g (k + 1 + i) == n) with
      | none =>
        simp only [Option.map_none]
        rw [hget_hset, if_neg (fun e => c e.symm)]
      | some i => simp only [Option.map_some]; rfl
theorem graft_length {g : Nat → Nat} : ∀ (h : LHeap) (H : LHeap) (k : Nat), H.length ≤ (graft g H k h).length ∧ ∀ i, i < h.length → g (k + i) < (graft g H k h).length
  | [], H, k => ⟨Nat.le_refl _, fun i hi => by simp at hi⟩
  | o :: r, H, k => by
    obtain ⟨h1, h2⟩ := graft_length (g := g) r (hset H (g k) (o.map (LObj.ren g))) (k + 1)
    obtain ⟨h3, h4⟩ := hset_length H (g k) (o.map (LObj.ren g))
    refine ⟨Nat.le_trans h3 h1, fun i hi => ?_⟩
    cases i with
    | zero => exact Nat.lt_of_lt_of_le h4 h1
    | succ i =>
      have := h2 i (by simpa using hi)
      rw [show k + (i + 1) = k + 1 + i by omega]
      exact this
def renE (g : Nat → Nat) : LEnd → LEnd
  | .ret v => .ret (ren g v)
  | .panic v => .panic (ren g v)
/-- No number twice, each below a bound. -/
def apart (n : Nat) : List Nat → Bool
  | [] => true
  | e :: r => Nat.blt e n && r.all (fun x => !(Nat.beq e x)) && apart n r
theorem apart_spec {n : Nat} : ∀ (l : List Nat), apart n l = true → (∀ (i e : Nat), l[i]? = some e → e < n) ∧ ∀ (i j e : Nat), l[i]? = some e → l[j]? = some e → i = j
  | [], _ => ⟨fun i e h => by simp at h, fun i j e h => by simp at h⟩
  | x :: r, h => by
    simp only [apart, Bool.and_eq_true] at h
    obtain ⟨⟨h1, h2⟩, h3⟩ := h
    obtain ⟨h4, h5⟩ := apart_spec r h3
    have h1 : x < n := by
      have := Nat.le_of_ble_eq_true h1
      omega
    have hx : ∀ (i : Nat), r[i]? = some x → False := by
      intro i hi
      have := List.all_eq_true.1 h2 x (List.mem_of_getElem? hi)
      simp at this
    refine ⟨fun i e hi => ?_, fun i j e hi hj => ?_⟩
    · cases i with
      | zero => simp at hi; subst hi; exact h1
      | succ i => exact h4 i e (by simpa using hi)
    · cases i with
      | zero =>
        cases j with
        | zero => rfl
        | succ j => simp at hi; subst hi; exact (hx j (by simpa using hj)).elim
      | succ i =>
        cases j with
        | zero => simp at hj; subst hj; exact (hx i (by simpa using hi)).elim
        | succ j => rw [h5 i j e (by simpa using hi) (by simpa using hj)]
theorem embF_inj {emb : List Nat} {n : Nat} (h : apart n emb = true) (i j : Nat) (e : embF emb n i = embF emb n j) : i = j := by
  obtain ⟨h1, h2⟩ := apart_spec emb h
  rcases Nat.lt_or_ge i emb.length with hi | hi <;> rcases Nat.lt_or_ge j emb.length with hj | hj
  · obtain ⟨x, a1, a2⟩ := embF_lt emb n i hi
    obtain ⟨y, b1, b2⟩ := embF_lt emb n j hj
    rw [a2, b2] at e
    subst e
    exact h2 i j x a1 b1
  · obtain ⟨x, a1, a2⟩ := embF_lt emb n i hi
    have := h1 i x a1
    rw [a2, embF_ge emb n j hj] at e
    omega
  · obtain ⟨x, a1, a2⟩ := embF_lt emb n j hj
    have := h1 j x a1
    rw [a2, embF_ge emb n i hi] at e
    omega
  · rw [embF_ge emb n i hi, embF_ge emb n j hj] at e
    omega
/-- THE FRAME: a call's contract over its own small heap serves in a greater one. -/
theorem LCalls.frame {P : Program} {f : FuncId} {args : LVals} {h : LHeap} {R : LEnd → LHeap → Prop} (c : LCalls P f args h R) (emb : List Nat) {H : LHeap} (hap : apart H.length emb = true) (he : Emb (embF emb H.length) H emb h) :
    LCalls P f (rens (embF emb H.length) args) H fun e H' => ∃ r h', R r h' ∧ e = renE (embF emb H.length) r ∧ H' = graft (embF emb H.length) H 0 h' := by
  obtain ⟨hlen, hemb⟩ := Emb.spec emb h he
  have hinj := embF_inj hap
  obtain ⟨hap1, hap2⟩ := apart_spec emb hap
  generalize hg : embF emb H.length = g at *
  have glt : ∀ i, i < h.length → ∃ e, emb[i]? = some e ∧ g i = e ∧ e < H.length := by
    intro i hi
    obtain ⟨e, h1, h2⟩ := embF_lt emb H.length i (by omega)
    exact ⟨e, h1, by rw [← hg]; exact h2, hap1 i e h1⟩
  have gge : ∀ i, h.length ≤ i → g i = H.length + (i - h.length) := by
    intro i hi
    rw [← hg, embF_ge emb H.length i (by omega), hlen]
  refine ⟨c.has, fun T w0 ρ w l hs hf hv => ?_⟩
  -- the small heap's places
  let ρs : Pl := ⟨fun i => if i < h.length then ρ (g i) else none, ρ.fz, ρ.tk⟩
  obtain ⟨Fs, hR⟩ := hs.res
  have e1 : UnrE g ρs ρ := by
    refine ⟨fun b x hb => ?_, .refl _⟩
    show (if b < h.length then ρ (g b) else none) = some x
    by_cases cb : b < h.length
    · rw [if_pos cb]; exact hb
    · rw [hf (g b) (by rw [gge b (by omega)]; omega)] at hb
      cases hb
  have e1' : ∀ b x, ρs b = some x → b < h.length ∧ ρ (g b) = some x := by
    intro b x hb
    have hb : (if b < h.length then ρ (g b) else none) = some x := hb
    by_cases cb : b < h.length
    · rw [if_pos cb] at hb; exact ⟨cb, hb⟩
    · rw [if_neg cb] at hb; cases hb
  have hlive : ∀ i o, hget h i = some o → i < h.length := by
    intro i o hi
    rcases Nat.lt_or_ge i h.length with c | c
    · exact c
    · rw [hget_out h i c] at hi; cases hi
  let Ts : Nat → Nat → Prop := fun r k => (∃ i o b n, hget h i = some o ∧ tag o.ro = r ∧ ρs i = some (k, b, n)) ∨ (r = 0 ∧ w.heap.size ≤ k) ∨ (r = 0 ∧ ∃ i o A, hget h i = some o ∧ o.segs = .res A ∧ Fs (g i) k) ∨ (r = 2 ∧ ∃ ob, ρ.fz k = some ob)
  have tag2 : ∀ b, tag b ≠ 2 := fun b => by cases b <;> decide
  have at1 : ∀ i o, hget h i = some o → hget H (g i) = some (o.ren g) := by
    intro i o hi
    obtain ⟨e, h1, h2⟩ := hemb i o hi
    obtain ⟨e', h3, h4, h5⟩ := glt i (hlive i o hi)
    rw [h1] at h3
    cases h3
    rw [h4]
    exact h2
  have resg : ∀ o : LObj, ∀ A, o.segs = .res A → (o.ren g).segs = .res A := fun o A hA => by show renS g o.segs = _; rw [hA]; rfl
  have TsT : ∀ r k, r ≠ 2 → Ts r k → T r k := by
    rintro r k h2n (⟨i, o, b, n, q1, q0, q2⟩ | ⟨rfl, q⟩ | ⟨rfl, i, o, A, q1, q2, q3⟩ | ⟨rfl, _⟩)
    · obtain ⟨a1, a2⟩ := e1' _ _ q2
      obtain ⟨x, q3, q4⟩ := hemb i o q1
      obtain ⟨x', q5, q6, _⟩ := glt i a1
      rw [q3] at q5; cases q5
      rw [← q6] at q4
      rcases hs.obj _ _ q4 with ⟨k', b', n', ob, p1, p2, p3, p4⟩ | ⟨p1, _⟩
      · rw [a2] at p1; cases p1; rw [← q0]; exact p4
      · rw [a2] at p1; cases p1
    · exact hs.new k (by have := hs.size; omega)
    · exact (hR.mine _ _ A k (at1 i o q1) (resg o A q2) q3).1
    · exact absurd rfl h2n
  have TsF : ∀ k, Ts 0 k → ρ.fz k = none := by
    rintro k (⟨i, o, b, n, q1, q0, q2⟩ | ⟨_, q⟩ | ⟨_, i, o, A, q1, q2, q3⟩ | ⟨h0, _⟩)
    · refine hs.nofz (g i) (o.ren g) k b n (at1 i o q1) ?_ (e1' _ _ q2).2
      show o.ro = false
      cases hr : o.ro with
      | false => rfl
      | true => rw [hr] at q0; cases q0
    · cases hq : ρ.fz k with
      | none => rfl
      | some ob => have := hs.flt hq; omega
    · exact (hR.mine _ _ A k (at1 i o q1) (resg o A q2) q3).2.1
    · cases h0
  have hs' : Sim Ts w ρs h w := by
    refine ⟨?_, ?_, ?_, rfl, rfl, rfl, Nat.le_refl _, fun _ _ => rfl, fun k hk => .inr (.inl ⟨rfl, hk⟩), fun k x y => hs.apart k (TsT _ _ (by decide) x) (TsT _ _ (by decide) y), hs.fz, fun k o hk => .inl (.inr (.inr (.inr ⟨rfl, o, hk⟩))), fun i o k b n hi hr hp => hs.nofz (g i) (o.ren g) k b n (at1 i o hi) hr (e1' _ _ hp).2, fun g' s hg' => PV.ext (Ext.clo (.refl _)) _ _ (hs.glob g' s hg'), hs.tks, fun i => Fs (g i), ?_, ?_, ?_, ?_⟩
    · intro i o hi
      obtain ⟨e, h1, h2⟩ := hemb i o hi
      obtain ⟨e', h3, h4, h5⟩ := glt i (hlive i o hi)
      rw [h1] at h3
      cases h3
      rw [← h4] at h2
      rcases hs.obj _ _ h2 with ⟨k, b, n, ob, r1, r2, r3, r4⟩ | ⟨r1, r2⟩
      · exact .inl ⟨k, b, n, ob, e1.at_ _ _ r1, r2, r3.unren e1, .inl ⟨i, o, b, n, hi, rfl, e1.at_ _ _ r1⟩⟩
      · refine .inr ⟨?_, Emp.unren e1 r2⟩
        show (if i < h.length then ρ (g i) else none) = none
        rw [if_pos (hlive i o hi), r1]
    · intro i j oi oj k b n b' m hi hj h1 h2 hTk
      obtain ⟨a1, a2⟩ := e1' _ _ h1
      obtain ⟨a3, a4⟩ := e1' _ _ h2
      obtain ⟨x, q1, q2⟩ := hemb i oi hi
      obtain ⟨y, q3, q4⟩ := hemb j oj hj
      obtain ⟨x', q5, q6, _⟩ := glt i a1
      obtain ⟨y', q7, q8, _⟩ := glt j a3
      rw [q1] at q5; cases q5
      rw [q3] at q7; cases q7
      rw [← q6] at q2
      rw [← q8] at q4
      exact hinj i j (hs.inj _ _ _ _ k b n b' m q2 q4 a2 a4 (TsT _ _ (by decide) hTk))
    · intro i k b n h1
      exact hs.lt _ _ _ _ (e1' _ _ h1).2
    · intro i o A hi hA
      exact A.ext (ρ := ρ) (.refl _) (hR.holds (g i) _ A (at1 i o hi) (resg o A hA))
    · intro i o A k hi hA hk
      exact ⟨.inr (.inr (.inl ⟨rfl, i, o, A, hi, hA, hk⟩)), (hR.mine (g i) _ A k (at1 i o hi) (resg o A hA) hk).2⟩
    · intro i j oi oj A B k hi hA hj hB h1 h2
      exact hinj i j (hR.apart (g i) (g j) _ _ A B k (at1 i oi hi) (resg oi A hA) (at1 j oj hj) (resg oj B hB) h1 h2)
    · intro i j oi oj A k b n hi hA hj h1
      exact hR.off (g i) (g j) _ _ A k b n (at1 i oi hi) (resg oi A hA) (at1 j oj hj) (e1' _ _ h1).2
  refine (c.run Ts w ρs w l hs' (fun i hi => by show (if i < h.length then ρ (g i) else none) = none; rw [if_neg (by omega)]) (PVs.unren e1 _ _ hv)).mono ?_
  rintro e w' ⟨r, h', ρs', r1, r2, r3, r4, r5, r6, r7⟩
  -- the places behind the call
  let ρ' : Pl := ⟨fun k => if k < H.length then ρ k else ρs' (h.length + (k - H.length)), ρs'.fz, ρs'.tk⟩
  have e2 : RenE g ρs' ρ' := by
    refine ⟨fun b x hb => ?_, .refl _⟩
    show (if g b < H.length then ρ (g b) else ρs' (h.length + (g b - H.length))) = some x
    by_cases cb : b < h.length
    · obtain ⟨y, q1, q2, q3⟩ := glt b cb
      rw [if_pos (by omega)]
      rw [r4 b cb] at hb
      exact (e1' _ _ hb).2
    · rw [if_neg (by rw [gge b (by omega)]; omega), gge b (by omega)]
      rw [show h.length + (H.length + (b - h.length) - H.length) = b by omega]
      exact hb
  have e3 : Ext ρ ρ' := by
    refine ⟨fun b x hb => ?_, r3.r⟩
    show (if b < H.length then ρ b else ρs' (h.length + (b - H.length))) = some x
    rcases Nat.lt_or_ge b H.length with cb | cb
    · rw [if_pos cb]; exact hb
    · rw [hf b cb] at hb; cases hb
  have hgl := graft_length (g := g) h' H 0
  have hgg := graft_get (g := g) h' H 0 (fun i j _ _ q => hinj i j q)
  have hold : ∀ n, (∀ i, i < h'.length → g i ≠ n) → hget (graft g H 0 h') n = hget H n := by
    intro n hn
    rw [hgg n]
    have : (List.range h'.length).find? (fun i => g (0 + i) == n) = none := by
      rw [List.find?_eq_none]
      intro i hi hx
      have := eq_of_beq hx
      rw [Nat.zero_add] at this
      exact hn i (by simpa using hi) this
    rw [this]
  have hnew : ∀ i, i < h'.length → hget (graft g H 0 h') (g i) = (hget h' i).map (LObj.ren g) := by
    intro i hi
    rw [hgg (g i)]
    cases hfnd : (List.range h'.length).find? (fun j => g (0 + j) == g i) with
    | none =>
      rw [List.find?_eq_none] at hfnd
      exact absurd (by simp) (hfnd i (by simpa using hi))
    | some j =>
      have hx := List.find?_some hfnd
      have hx := eq_of_beq hx
      rw [Nat.zero_add] at hx
      rw [hinj j i hx]
  refine ⟨renE g r, _, ρ', ⟨r, h', r1, rfl, rfl⟩, ?_, e3, ?_, ?_, ?_, hgl.1⟩
  · cases r <;> cases e <;> try exact r2.elim
    · exact PV.ren e2 _ _ r2
    · obtain ⟨x, q1, q2⟩ := r2
      exact ⟨x, q1, PV.ren e2 _ _ q2⟩
  · intro i hi
    show (if i < H.length then ρ i else ρs' (h.length + (i - H.length))) = ρ i
    rw [if_pos hi]
  · -- a block that the call does not see
    have far : ∀ k ok kb b n, hget H k = some ok → ρ k = some (kb, b, n) → (∀ i, i < h'.length → g i ≠ k) → ¬ Ts 0 kb := by
      rintro k ok kb b n q1 q2 q3 hTf
      have hTf' := TsT _ _ (by decide) hTf
      rcases hTf with ⟨i, o, b', n', p1, _, p2⟩ | ⟨_, p⟩ | ⟨_, i, o, A, p1, p2, p3⟩ | ⟨h0, _⟩
      · obtain ⟨a1, a2⟩ := e1' _ _ p2
        obtain ⟨x, p3, p4⟩ := hemb i o p1
        obtain ⟨x', p5, p6, _⟩ := glt i a1
        rw [p3] at p5; cases p5
        rw [← p6] at p4
        exact q3 i (by omega) (hs.inj _ _ _ _ kb b' n' b n p4 q1 a2 q2 hTf')
      · have := hs.lt _ _ _ _ q2; omega
      · exact hR.off (g i) k _ ok A kb b n (at1 i o p1) (resg o A p2) q1 q2 p3
      · cases h0
    have farR : ∀ k ok A kb, hget H k = some ok → ok.segs = .res A → (∀ i, i < h'.length → g i ≠ k) → Fs k kb → ¬ Ts 0 kb := by
      rintro k ok A kb q1 q2 q3 q4 (⟨i, o, b', n', p1, _, p2⟩ | ⟨_, p⟩ | ⟨_, i, o, B, p1, p2, p3⟩ | ⟨h0, _⟩)
      · exact hR.off k (g i) ok _ A kb b' n' q1 q2 (at1 i o p1) (e1' _ _ p2).2 q4
      · have := (hR.mine k ok A kb q1 q2 q4).2.2; omega
      · exact q3 i (Nat.lt_of_lt_of_le (hlive i o p1) r7) (hR.apart (g i) k _ ok B A kb (at1 i o p1) (resg o B p2) q1 q2 p3 q4)
      · cases h0
    have ρ'old : ∀ k, k < H.length → ρ' k = ρ k := fun k hk => by
      show (if k < H.length then ρ k else ρs' (h.length + (k - H.length))) = ρ k
      rw [if_pos hk]
    have ρ'g : ∀ i, i < h'.length → ρ' (g i) = ρs' i := by
      intro i hi
      by_cases c : i < h.length
      · obtain ⟨y, q1, q2, q3⟩ := glt i c
        rw [ρ'old (g i) (by omega), r4 i c]
        show ρ (g i) = if i < h.length then ρ (g i) else none
        rw [if_pos c]
      · show (if g i < H.length then ρ (g i) else ρs' (h.length + (g i - H.length))) = ρs' i
        rw [if_neg (by rw [gge i (by omega)]; omega), gge i (by omega)]
        congr 1; omega
    have Hlt : ∀ k o, hget H k = some o → k < H.length := by
      intro k o hk
      rcases Nat.lt_or_ge k H.length with c | c
      · exact c
      · rw [hget_out H k c] at hk; cases hk
    have split : ∀ k o, hget (graft g H 0 h') k = some o → (∃ i oi, i < h'.length ∧ g i = k ∧ hget h' i = some oi ∧ o = oi.ren g) ∨ ((∀ i, i < h'.length → g i ≠ k) ∧ hget H k = some o) := by
      intro k o hk
      by_cases c : ∃ i, i < h'.length ∧ g i = k
      · obtain ⟨i, hi, rfl⟩ := c
        rw [hnew i hi] at hk
        cases hq : hget h' i with
        | none => rw [hq] at hk; cases hk
        | some oi =>
          rw [hq] at hk
          have hk : some (oi.ren g) = some o := hk
          cases hk
          exact .inl ⟨i, oi, hi, rfl, hq, rfl⟩
      · have c' : ∀ i, i < h'.length → g i ≠ k := fun i hi e => c ⟨i, hi, e⟩
        rw [hold k c'] at hk
        exact .inr ⟨c', hk⟩
    refine ⟨?_, ?_, ?_, r5.os.trans hs.os, r5.tape.trans hs.tape, r5.output.trans hs.output, Nat.le_trans hs.size r5.size, ?_, hs.new, hs.apart, r5.fz, ?_, ?_, fun g' s hg' => PV.ext (Ext.clo r3.r) _ _ (hs.glob g' s hg'), r5.tks, ?_⟩
    · intro k o hk
      rcases split k o hk with ⟨i, oi, hi, rfl, q1, rfl⟩ | ⟨q1, q2⟩
      · rcases r5.obj i oi q1 with ⟨kb, b, n, ob, p1, p2, p3, p4⟩ | ⟨p1, p2⟩
        · exact .inl ⟨kb, b, n, ob, e2.at_ _ _ p1, p2, p3.ren e2, TsT _ kb (tag2 _) p4⟩
        · exact .inr ⟨by rw [ρ'g i hi]; exact p1, Emp.ren e2 p2⟩
      · rcases hs.obj k o q2 with ⟨kb, b, n, ob, p1, p2, p3, p4⟩ | ⟨p1, p2⟩
        · exact .inl ⟨kb, b, n, ob, e3.at_ _ _ p1, by rw [r5.kept kb (far k o kb b n q2 p1 q1)]; exact p2, p3.ext e3, p4⟩
        · exact .inr ⟨by rw [ρ'old k (Hlt k o q2)]; exact p1, p2.ext e3⟩
    · intro k1 k2 o1 o2 kb b n b' m q1 q2 p1 p2 hTb
      have side : ∀ i oi k2 o2 b n b' m, i < h'.length → hget h' i = some oi → ρ' (g i) = some (kb, b, n) → hget H k2 = some o2 → (∀ i, i < h'.length → g i ≠ k2) → ρ' k2 = some (kb, b', m) → False := by
        intro i oi k2 o2 b n b' m hi hoi p1 ho2 hfar p2
        rw [ρ'g i hi] at p1
        rw [ρ'old k2 (Hlt k2 o2 ho2)] at p2
        rcases r5.obj i oi hoi with ⟨kb', b2, n2, ob, z1, z2, z3, z4⟩ | ⟨z1, _⟩
        · rw [p1] at z1; cases z1
          refine far k2 o2 kb b' m ho2 p2 hfar ?_
          cases hro : oi.ro with
          | false => rw [hro] at z4; exact z4
          | true => rw [hro] at z4; exact absurd hTb (hs.apart _ (TsT _ _ (by decide) z4))
        · rw [p1] at z1; cases z1
      rcases split k1 o1 q1 with ⟨i, oi, hi, rfl, a1, rfl⟩ | ⟨a1, a2⟩ <;> rcases split k2 o2 q2 with ⟨j, oj, hj, rfl, c1, rfl⟩ | ⟨c1, c2⟩
      · rw [ρ'g i hi] at p1
        rw [ρ'g j hj] at p2
        rcases r5.obj i oi a1 with ⟨kb', b2, n2, ob, z1, z2, z3, z4⟩ | ⟨z1, _⟩
        · rw [p1] at z1; cases z1
          cases hro : oi.ro with
          | true => rw [hro] at z4; exact absurd hTb (hs.apart _ (TsT _ _ (by decide) z4))
          | false => rw [hro] at z4; rw [r5.inj i j oi oj kb b n b' m a1 c1 p1 p2 z4]
        · rw [p1] at z1; cases z1
      · exact (side i oi k2 o2 b n b' m hi a1 p1 c2 c1 p2).elim
      · exact (side j oj k1 o1 b' m b n hj c1 p2 a2 a1 p1).elim
      · rw [ρ'old k1 (Hlt k1 o1 a2)] at p1
        rw [ρ'old k2 (Hlt k2 o2 c2)] at p2
        exact hs.inj k1 k2 o1 o2 kb b n b' m a2 c2 p1 p2 hTb
    · intro k kb b n q
      by_cases c : k < H.length
      · rw [ρ'old k c] at q
        have := hs.lt _ _ _ _ q
        have := r5.size
        omega
      · have q : (if k < H.length then ρ k else ρs' (h.length + (k - H.length))) = some (kb, b, n) := q
        rw [if_neg c] at q
        exact r5.lt _ _ _ _ q
    · intro k hk
      rw [r5.kept k (fun x => hk (TsT _ k (by decide) x))]
      exact hs.kept k hk
    · intro k o hk
      rcases r5.fzT k o hk with hz | hz
      · rcases hz with ⟨i, o', b, n, q1, q0, q2⟩ | ⟨h0, _⟩ | ⟨h0, _⟩ | ⟨_, ob, hob⟩
        · exact absurd q0 (tag2 _)
        · cases h0
        · cases h0
        · exact hs.fzT k ob hob
      · exact .inr (TsT _ k (by decide) hz)
    · intro k o kb b n hk hr hp
      rcases split k o hk with ⟨i, oi, hi, rfl, q1, rfl⟩ | ⟨q1, q2⟩
      · exact r5.nofz i oi kb b n q1 hr (by rw [ρ'g i hi] at hp; exact hp)
      · rw [ρ'old k (Hlt k o q2)] at hp
        show ρs'.fz kb = none
        cases hz : ρs'.fz kb with
        | none => rfl
        | some ob =>
          rcases r5.fzT kb ob hz with hq | hq
          · rcases hq with ⟨i, o', b', n', _, q0, _⟩ | ⟨h0, _⟩ | ⟨h0, _⟩ | ⟨_, ob', hob⟩
            · exact absurd q0 (tag2 _)
            · cases h0
            · cases h0
            · rw [hs.nofz k o kb b n q2 hr hp] at hob; cases hob
          · exact absurd hq (far k o kb b n q2 hp q1)
    · obtain ⟨Fr, hr⟩ := r5.res
      -- whose part: the call's own, or what it did not see
      refine ⟨fun k x => (∃ i, i < h'.length ∧ g i = k ∧ Fr i x) ∨ ((∀ i, i < h'.length → g i ≠ k) ∧ Fs k x), ?_, ?_, ?_, ?_⟩
      · intro k o A hk hA
        rcases split k o hk with ⟨i, oi, hi, rfl, q1, rfl⟩ | ⟨q1, q2⟩
        · have hA := renS_res hA
          have : (fun x => (∃ i', i' < h'.length ∧ g i' = g i ∧ Fr i' x) ∨ ((∀ i', i' < h'.length → g i' ≠ g i) ∧ Fs (g i) x)) = Fr i := by
            funext x
            refine propext ⟨?_, fun hx => .inl ⟨i, hi, rfl, hx⟩⟩
            rintro (⟨i', h1, h2, h3⟩ | ⟨h1, _⟩)
            · rw [hinj i' i h2] at h3; exact h3
            · exact absurd rfl (h1 i hi)
          rw [this]
          exact A.ext (ρ := ρs') (.refl _) (hr.holds i oi A q1 hA)
        · have : (fun x => (∃ i', i' < h'.length ∧ g i' = k ∧ Fr i' x) ∨ ((∀ i', i' < h'.length → g i' ≠ k) ∧ Fs k x)) = Fs k := by
            funext x
            refine propext ⟨?_, fun hx => .inr ⟨q1, hx⟩⟩
            rintro (⟨i', h1, h2, h3⟩ | ⟨_, h1⟩)
            · exact absurd h2 (q1 i' h1)
            · exact h1
          rw [this]
          refine A.ext (ρ := ρ) r3.r (A.loc (w := w) r5.size (fun x hx => ?_) (hR.holds k o A q2 hA))
          exact r5.kept x (farR k o A x q2 hA q1 hx)
      · intro k o A x hk hA hx
        rcases split k o hk with ⟨i, oi, hi, rfl, q1, rfl⟩ | ⟨q1, q2⟩
        · have hA := renS_res hA
          rcases hx with ⟨i', h1, h2, h3⟩ | ⟨h1, _⟩
          · rw [hinj i' i h2] at h3
            obtain ⟨a1, a2⟩ := hr.mine i oi A x q1 hA h3
            exact ⟨TsT _ x (by decide) a1, a2⟩
          · exact absurd rfl (h1 i hi)
        · rcases hx with ⟨i', h1, h2, h3⟩ | ⟨_, h1⟩
          · exact absurd h2 (q1 i' h1)
          · obtain ⟨a1, a2, a3⟩ := hR.mine k o A x q2 hA h1
            refine ⟨a1, ?_, by have := r5.size; omega⟩
            show ρs'.fz x = none
            cases hz : ρs'.fz x with
            | none => rfl
            | some ob =>
              rcases r5.fzT x ob hz with hq | hq
              · rcases hq with ⟨i, o', b', n', _, q0, _⟩ | ⟨h0, _⟩ | ⟨h0, _⟩ | ⟨_, ob', hob⟩
                · exact absurd q0 (tag2 _)
                · cases h0
                · cases h0
                · rw [a2] at hob; cases hob
              · exact absurd hq (farR k o A x q2 hA q1 h1)
      · intro k1 k2 o1 o2 A B x hk1 hA hk2 hB hx1 hx2
        rcases split k1 o1 hk1 with ⟨i, oi, hi, rfl, q1, rfl⟩ | ⟨q1, q2⟩ <;> rcases split k2 o2 hk2 with ⟨j, oj, hj, rfl, p1, rfl⟩ | ⟨p1, p2⟩
        · have hA := renS_res hA
          have hB := renS_res hB
          rcases hx1 with ⟨i', a1, a2, a3⟩ | ⟨a1, _⟩
          · rcases hx2 with ⟨j', c1, c2, c3⟩ | ⟨c1, _⟩
            · rw [hinj i' i a2] at a3
              rw [hinj j' j c2] at c3
              rw [hr.apart i j oi oj A B x q1 hA p1 hB a3 c3]
            · exact absurd rfl (c1 j hj)
          · exact absurd rfl (a1 i hi)
        · have hA := renS_res hA
          rcases hx1 with ⟨i', a1, a2, a3⟩ | ⟨a1, _⟩
          · rcases hx2 with ⟨j', c1, c2, c3⟩ | ⟨_, c1⟩
            · exact absurd c2 (p1 j' c1)
            · rw [hinj i' i a2] at a3
              exact absurd (hr.mine i oi A x q1 hA a3).1 (farR k2 o2 B x p2 hB p1 c1)
          · exact absurd rfl (a1 i hi)
        · have hB := renS_res hB
          rcases hx2 with ⟨j', a1, a2, a3⟩ | ⟨a1, _⟩
          · rcases hx1 with ⟨i', c1, c2, c3⟩ | ⟨_, c1⟩
            · exact absurd c2 (q1 i' c1)
            · rw [hinj j' j a2] at a3
              exact absurd (hr.mine j oj B x p1 hB a3).1 (farR k1 o1 A x q2 hA q1 c1)
          · exact absurd rfl (a1 j hj)
        · rcases hx1 with ⟨i', a1, a2, a3⟩ | ⟨_, a1⟩
          · exact absurd a2 (q1 i' a1)
          · rcases hx2 with ⟨j', c1, c2, c3⟩ | ⟨_, c1⟩
            · exact absurd c2 (p1 j' c1)
            · exact hR.apart k1 k2 o1 o2 A B x q2 hA p2 hB a1 c1
      · intro k1 k2 o1 o2 A x b n hk1 hA hk2 hp hx
        rcases split k1 o1 hk1 with ⟨i, oi, hi, rfl, q1, rfl⟩ | ⟨q1, q2⟩ <;> rcases split k2 o2 hk2 with ⟨j, oj, hj, rfl, p1, rfl⟩ | ⟨p1, p2⟩
        · have hA := renS_res hA
          rcases hx with ⟨i', a1, a2, a3⟩ | ⟨a1, _⟩
          · rw [hinj i' i a2] at a3
            rw [ρ'g j hj] at hp
            exact hr.off i j oi oj A x b n q1 hA p1 hp a3
          · exact absurd rfl (a1 i hi)
        · have hA := renS_res hA
          rcases hx with ⟨i', a1, a2, a3⟩ | ⟨a1, _⟩
          · rw [hinj i' i a2] at a3
            rw [ρ'old k2 (Hlt k2 o2 p2)] at hp
            exact far k2 o2 x b n p2 hp p1 (hr.mine i oi A x q1 hA a3).1
          · exact absurd rfl (a1 i hi)
        · rcases hx with ⟨i', a1, a2, a3⟩ | ⟨_, a1⟩
          · exact absurd a2 (q1 i' a1)
          · rw [ρ'g j hj] at hp
            rcases r5.obj j oj p1 with ⟨kb', b2, n2, ob, z1, z2, z3, z4⟩ | ⟨z1, _⟩
            · rw [hp] at z1; cases z1
              have hTx := (hR.mine k1 o1 A x q2 hA a1).1
              refine farR k1 o1 A x q2 hA q1 a1 ?_
              cases hro : oj.ro with
              | false => rw [hro] at z4; exact z4
              | true => rw [hro] at z4; exact absurd hTx (hs.apart _ (TsT _ _ (by decide) z4))
            · rw [hp] at z1; cases z1
        · rcases hx with ⟨i', a1, a2, a3⟩ | ⟨_, a1⟩
          · exact absurd a2 (q1 i' a1)
          · rw [ρ'old k2 (Hlt k2 o2 p2)] at hp
            exact hR.off k1 k2 o1 o2 A x b n q2 hA p2 hp a1
  · intro i hi
    have hHi : H.length ≤ i := Nat.le_trans hgl.1 hi
    show (if i < H.length then ρ i else ρs' (h.length + (i - H.length))) = none
    rw [if_neg (by omega)]
    refine r6 _ ?_
    rcases Nat.lt_or_ge (h.length + (i - H.length)) h'.length with c | c
    · have := hgl.2 _ c
      rw [Nat.zero_add, gge _ (by omega)] at this
      omega
    · exact c
end Go.Proofs.Ytilmfhpoiejmfaa.Lh
