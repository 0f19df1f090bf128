/- Texts of this session, merged. -/
import Derived.Test.YtilmfhpoiejmfaaLh8
import Derived.CallsIn
/- Calls on the heap of the mind; a call within a greater heap. Over any program. -/
namespace Go.Proofs.Ytilmfhpoiejmfaa.Lh
set_option linter.unusedSimpArgs false
set_option linter.unusedVariables false
set_option linter.unusedSectionVars false
open Go.RowKit
variable [Fz]
inductive LEnd where
  | ret (v : LVal)
  | panic (v : LVal)
def EndPV (ρ : Pl) : LEnd → Ending → Prop
  | .ret v, .returned x => PV ρ v x
  | .panic v, .panicked c => ∃ x, c = [{ v := x, recovered := false }] ∧ PV ρ v x
  | _, _ => False
/-- A call on the heap of the mind. -/
def hasBody (P : Program) (f : FuncId) : Bool :=
  match P.funcs[f]? with
  | some fn => fn.body.isSome && !(fn.name == "runtime.NumGoroutine")
  | none => false
/-- A run on the heap of the mind, of whatever kind: of arguments' values, in a world, to a post. -/
def LRun (G : List Value → World → (Ending → World → Prop) → Prop) (args : LVals) (h : LHeap) (R : LEnd → LHeap → Prop) : Prop :=
  ∀ T w0 ρ w l, Sim T w0 ρ h w → (∀ i, h.length ≤ i → ρ i = none) → PVs ρ args l →
    G l w fun e w' => ∃ r h' ρ', R r h' ∧ EndPV ρ' r e ∧ Ext ρ ρ' ∧ (∀ i, i < h.length → ρ' i = ρ i) ∧ Sim T w0 ρ' h' w' ∧ (∀ i, h'.length ≤ i → ρ' i = none) ∧ h.length ≤ h'.length
structure LCalls (P : Program) (f : FuncId) (args : LVals) (h : LHeap) (R : LEnd → LHeap → Prop) : Prop where
  has : hasBody P f = true
  run : ∀ T w0 ρ w l, Sim T w0 ρ h w → (∀ i, h.length ≤ i → ρ i = none) → PVs ρ args l →
    Calls P f l.toArray w fun e w' => ∃ r h' ρ', R r h' ∧ EndPV ρ' r e ∧ Ext ρ ρ' ∧ (∀ i, i < h.length → ρ' i = ρ i) ∧ Sim T w0 ρ' h' w' ∧ (∀ i, h'.length ≤ i → ρ' i = none) ∧ h.length ≤ h'.length
theorem LCalls.mono {P : Program} {f : FuncId} {args : LVals} {h : LHeap} {R R' : LEnd → LHeap → Prop} (c : LCalls P f args h R) (hr : ∀ e h', R e h' → R' e h') : LCalls P f args h R' :=
  ⟨c.has, fun T w0 ρ w l h1 h2 h3 => (c.run T w0 ρ w l h1 h2 h3).mono fun e w' ⟨r, h', ρ', h4, h5⟩ => ⟨r, h', ρ', hr r h' h4, h5⟩⟩
theorem hset_length (h : LHeap) (n : Nat) (o : Option LObj) : h.length ≤ (hset h n o).length ∧ n < (hset h n o).length := by
  induction n generalizing h with
  | zero => cases h <;> simp [hset]
  | succ n ih =>
    cases h with
    | nil => have := ih []; simp [hset]; exact this.2
    | cons x r => have := ih r; simp [hset]; omega
mutual
def ren (g : Nat → Nat) : LVal → LVal
  | .undef => .undef
  | .any => .any
  | .bool b => .bool b
  | .int k n => .int k n
  | .str s => .str s
  | .nilp => .nilp
  | .ptr a => .ptr ⟨g a.blk, a.path, a.off⟩
  | .slice a st w len lo hi => .slice ⟨g a.blk, a.path, a.off⟩ st w len lo hi
  | .nilf => .nilf
  | .func f c => .func f (rens g c)
  | .nilI => .nilI
  | .iface t v => .iface t (ren g v)
  | .agg s => .agg (renS g s)
  | .tup vs => .tup (rens g vs)
  | .rsl n w f => .rsl n w f
  | .rptr s => .rptr s
  | .tok k => .tok k
  | .gl k => .gl k
  | .yld l tm ts => .yld l tm (rens g ts)
def rens (g : Nat → Nat) : LVals → LVals
  | .nil => .nil
  | .cons v r => .cons (ren g v) (rens g r)
def renS (g : Nat → Nat) : Segs → Segs
  | .nil => .nil
  | .one v r => .one (ren g v) (renS g r)
  | .rows n w f r => .rows n w (fun i => renS g (f i)) (renS g r)
  | .res A => .res A
end
/-- Places, by other numbers. -/
structure RenE (g : Nat → Nat) (ρ ρ' : Pl) : Prop where
  at_ : ∀ b x, ρ b = some x → ρ' (g b) = some x
  r : ExtR ρ ρ'
structure UnrE (g : Nat → Nat) (ρ ρ' : Pl) : Prop where
  at_ : ∀ b x, ρ' (g b) = some x → ρ b = some x
  r : ExtR ρ' ρ
mutual
theorem PV.ren {ρ ρ' : Pl} {g : Nat → Nat} (e : RenE g ρ ρ') : ∀ (v : LVal) (x : Value), PV ρ v x → PV ρ' (ren g v) x
  | .undef, _, h => h
  | .any, _, h => h
  | .bool _, _, h => h
  | .int _ _, _, h => h
  | .str _, _, h => h
  | .nilp, _, h => h
  | .ptr _, _, h => by
    obtain ⟨g', b, n, h1, h2⟩ := h
    exact ⟨g', b, n, e.at_ _ _ h1, h2⟩
  | .slice _ _ _ _ _ _, _, h => by
    obtain ⟨p, cap, h1, h2 | ⟨g', b, n, h2, h3⟩⟩ := h
    · exact ⟨p, cap, h1, .inl h2⟩
    · exact ⟨p, cap, h1, .inr ⟨g', b, n, e.at_ _ _ h2, h3⟩⟩
  | .nilf, _, h => h
  | .func _ c, _, h => by
    obtain ⟨l, h1, h2⟩ := h
    exact ⟨l, PVs.ren e c l h1, h2⟩
  | .nilI, _, h => h
  | .iface _ x, _, h => by
    obtain ⟨y, h1, h2⟩ := h
    exact ⟨y, PV.ren e x y h1, h2⟩
  | .agg s, _, h => by
    obtain ⟨l, h1, h2⟩ := h
    exact ⟨l, PS.ren e s l h1, h2⟩
  | .tup vs, _, h => by
    obtain ⟨l, h1, h2⟩ := h
    exact ⟨l, PVs.ren e vs l h1, h2⟩
  | .rsl _ _ f, _, h => by
    obtain ⟨p, cap, h1, h2, h3⟩ := h
    exact ⟨p, cap, h1, h2, h3.imp id fun ⟨g, off, l, h4, h5, h6, h7⟩ => ⟨g, off, l, h4, h5.ext e.r, h6, fun i hi => PS.ext (Ext.clo e.r) (f i) _ (h7 i hi)⟩⟩
  | .rptr s, _, h => by
    obtain ⟨g, off, l, h4, h5, h6⟩ := h
    exact ⟨g, off, l, h4, h5.ext e.r, PS.ext (Ext.clo e.r) s l h6⟩
  | .tok _, _, h => by
    obtain ⟨g, h1, h2⟩ := h
    exact ⟨g, e.r.2 _ _ h1, h2⟩
  | .gl _, _, h => h
  | .yld _ _ ts, _, h => ⟨h.1, PVs.ren e ts _ h.2⟩
theorem PVs.ren {ρ ρ' : Pl} {g : Nat → Nat} (e : RenE g ρ ρ') : ∀ (v : LVals) (l : List Value), PVs ρ v l → PVs ρ' (rens g v) l
  | .nil, _, h => h
  | .cons v r, _, h => by
    obtain ⟨x, l', h1, h2, h3⟩ := h
    exact ⟨x, l', h1, PV.ren e v x h2, PVs.ren e r l' h3⟩
theorem PS.ren {ρ ρ' : Pl} {g : Nat → Nat} (e : RenE g ρ ρ') : ∀ (s : Segs) (l : List Value), PS ρ s l → PS ρ' (renS g s) l
  | .nil, _, h => h
  | .one v r, _, h => by
    obtain ⟨x, l', h1, h2, h3, h4⟩ := h
    exact ⟨x, l', h1, PV.ren e v x h2, h3, PS.ren e r l' h4⟩
  | .rows n w f r, _, h => by
    obtain ⟨ls, l', h1, h2, h3, h4⟩ := h
    exact ⟨ls, l', h1, h2, fun i hi => (h3 i hi).elim fun y hy => ⟨y, hy.1, hy.2.1, PS.ren e (f i) y hy.2.2⟩, PS.ren e r l' h4⟩
  | .res _, _, h => h
end
mutual
theorem PV.unren {ρ ρ' : Pl} {g : Nat → Nat} (e : UnrE g ρ ρ') : ∀ (v : LVal) (x : Value), PV ρ' (ren g v) x → PV ρ v x
  | .undef, _, h => h
  | .any, _, h => h
  | .bool _, _, h => h
  | .int _ _, _, h => h
  | .str _, _, h => h
  | .nilp, _, h => h
  | .ptr _, _, h => by
    obtain ⟨g', b, n, h1, h2⟩ := h
    exact ⟨g', b, n, e.at_ _ _ h1, h2⟩
  | .slice _ _ _ _ _ _, _, h => by
    obtain ⟨p, cap, h1, h2 | ⟨g', b, n, h2, h3⟩⟩ := h
    · exact ⟨p, cap, h1, .inl h2⟩
    · exact ⟨p, cap, h1, .inr ⟨g', b, n, e.at_ _ _ h2, h3⟩⟩
  | .nilf, _, h => h
  | .func _ c, _, h => by
    obtain ⟨l, h1, h2⟩ := h
    exact ⟨l, PVs.unren e c l h1, h2⟩
  | .nilI, _, h => h
  | .iface _ x, _, h => by
    obtain ⟨y, h1, h2⟩ := h
    exact ⟨y, PV.unren e x y h1, h2⟩
  | .agg s, _, h => by
    obtain ⟨l, h1, h2⟩ := h
    exact ⟨l, PS.unren e s l h1, h2⟩
  | .tup vs, _, h => by
    obtain ⟨l, h1, h2⟩ := h
    exact ⟨l, PVs.unren e vs l h1, h2⟩
  | .rsl _ _ f, _, h => by
    obtain ⟨p, cap, h1, h2, h3⟩ := h
    exact ⟨p, cap, h1, h2, h3.imp id fun ⟨g, off, l, h4, h5, h6, h7⟩ => ⟨g, off, l, h4, h5.ext e.r, h6, fun i hi => PS.ext (Ext.clo e.r) (f i) _ (h7 i hi)⟩⟩
  | .rptr s, _, h => by
    obtain ⟨g, off, l, h4, h5, h6⟩ := h
    exact ⟨g, off, l, h4, h5.ext e.r, PS.ext (Ext.clo e.r) s l h6⟩
  | .tok _, _, h => by
    obtain ⟨g, h1, h2⟩ := h
    exact ⟨g, e.r.2 _ _ h1, h2⟩
  | .gl _, _, h => h
  | .yld _ _ ts, _, h => ⟨h.1, PVs.unren e ts _ h.2⟩
theorem PVs.unren {ρ ρ' : Pl} {g : Nat → Nat} (e : UnrE g ρ ρ') : ∀ (v : LVals) (l : List Value), PVs ρ' (rens g v) l → PVs ρ v l
  | .nil, _, h => h
  | .cons v r, _, h => by
    obtain ⟨x, l', h1, h2, h3⟩ := h
    exact ⟨x, l', h1, PV.unren e v x h2, PVs.unren e r l' h3⟩
theorem PS.unren {ρ ρ' : Pl} {g : Nat → Nat} (e : UnrE g ρ ρ') : ∀ (s : Segs) (l : List Value), PS ρ' (renS g s) l → PS ρ s l
  | .nil, _, h => h
  | .one v r, _, h => by
    obtain ⟨x, l', h1, h2, h3, h4⟩ := h
    exact ⟨x, l', h1, PV.unren e v x h2, h3, PS.unren e r l' h4⟩
  | .rows n w f r, _, h => by
    obtain ⟨ls, l', h1, h2, h3, h4⟩ := h
    exact ⟨ls, l', h1, h2, fun i hi => (h3 i hi).elim fun y hy => ⟨y, hy.1, hy.2.1, PS.unren e (f i) y hy.2.2⟩, PS.unren e r l' h4⟩
  | .res _, _, h => h
end
theorem renS_res {g : Nat → Nat} {s : Segs} {A : Asn} (h : renS g s = .res A) : s = .res A := by
  cases s with
  | res B => exact h
  | nil => cases h
  | one v r => cases h
  | rows n w f r => cases h
def LObj.ren (g : Nat → Nat) (o : LObj) : LObj := ⟨renS g o.segs, o.ty, o.more, o.ro⟩
theorem Emp.ren {ρ ρ' : Pl} {g : Nat → Nat} (e : RenE g ρ ρ') {o : LObj} (h : Emp ρ o) : Emp ρ' (o.ren g) := h.imp (PS.ren e _ _) (fun ⟨h1, A, hA⟩ => ⟨h1, A, by show renS g o.segs = _; rw [hA]; rfl⟩)
theorem Emp.unren {ρ ρ' : Pl} {g : Nat → Nat} (e : UnrE g ρ ρ') {o : LObj} (h : Emp ρ' (o.ren g)) : Emp ρ o := h.imp (PS.unren e _ _) (fun ⟨h1, A, hA⟩ => ⟨h1, A, renS_res hA⟩)
theorem PO.ren {ρ ρ' : Pl} {g : Nat → Nat} (e : RenE g ρ ρ') {b n : Nat} {o : LObj} {ob : Obj} (h : PO ρ b n o ob) : PO ρ' b n (o.ren g) ob := by
  obtain ⟨pre, l, ex, fr, h1, h2, h3⟩ := h
  exact ⟨pre, l, ex, fr, h1, PS.ren e _ _ h2, h3⟩
theorem PO.unren {ρ ρ' : Pl} {g : Nat → Nat} (e : UnrE g ρ ρ') {b n : Nat} {o : LObj} {ob : Obj} (h : PO ρ' b n (o.ren g) ob) : PO ρ b n o ob := by
  obtain ⟨pre, l, ex, fr, h1, h2, h3⟩ := h
  exact ⟨pre, l, ex, fr, h1, PS.unren e _ _ h2, h3⟩
/-- Where a small heap's blocks lie in the greater one: those told, then new ones. -/
def embF : List Nat → Nat → Nat → Nat
  | [], n, i => n + i
  | e :: _, _, 0 => e
  | _ :: r, n, i + 1 => embF r n i
theorem embF_lt : ∀ (emb : List Nat) (n i : Nat), i < emb.length → ∃ e, emb[i]? = some e ∧ embF emb n i = e
  | [], n, i, h => by simp at h
  | e :: r, n, 0, h => ⟨e, rfl, rfl⟩
  | e :: r, n, i + 1, h => by
    obtain ⟨x, h1, h2⟩ := embF_lt r n i (by simpa using h)
    exact ⟨x, by simpa using h1, h2⟩
theorem embF_ge : ∀ (emb : List Nat) (n i : Nat), emb.length ≤ i → embF emb n i = n + (i - emb.length)
  | [], n, i, h => by simp [embF]
  | e :: r, n, 0, h => by simp at h
  | e :: r, n, i + 1, h => by
    rw [embF, embF_ge r n i (by simpa using h)]
    simp
/-- The small heap's blocks are those of the greater one. -/
def Emb (g : Nat → Nat) (H : LHeap) : List Nat → LHeap → Prop
  | [], [] => True
  | e :: er, o :: r => (match o with
    | none => True
    | some o => hget H e = some (o.ren g)) ∧ Emb g H er r
  | _, _ => False
theorem Emb.spec {g : Nat → Nat} {H : LHeap} : ∀ (emb : List Nat) (h : LHeap), Emb g H emb h → emb.length = h.length ∧ ∀ i o, hget h i = some o → ∃ e, emb[i]? = some e ∧ hget H e = some (o.ren g)
  | [], [], _ => ⟨rfl, fun i o h => by simp [hget] at h⟩
  | [], _ :: _, h => h.elim
  | _ :: _, [], h => h.elim
  | e :: er, o :: r, h => by
    obtain ⟨h1, h2⟩ := Emb.spec er r h.2
    refine ⟨by simp [h1], fun i ob hi => ?_⟩
    cases i with
    | zero =>
      simp only [hget] at hi
      subst hi
      exact ⟨e, rfl, h.1⟩
    | succ i =>
      obtain ⟨x, h3, h4⟩ := h2 i ob hi
      exact ⟨x, by simpa using h3, h4⟩
/-- What a call leaves, put back. -/
def graft (g : Nat → Nat) : LHeap → Nat → LHeap → LHeap
  | H, _, [] => H
  | H, i, o :: r => graft g (hset H (g i) (o.map (LObj.ren g))) (i + 1) r
theorem graft_get {g : Nat → Nat} : ∀ (h : LHeap) (H : LHeap) (k : Nat), (∀ i j, i < k + h.length → j < k + h.length → g i = g j → i = j) → ∀ n,
    hget (graft g H k h) n = (match (List.range h.length).find? (fun i => g (k + i) == n) with
      | some i => (hget h i).map (LObj.ren g)
      | none => hget H n)
  | [], H, k, hinj, n => by simp [graft]
  | o :: r, H, k, hinj, n => by
    rw [graft, graft_get r _ (k + 1) (fun i j hi hj => hinj i j (by simp; omega) (by simp; omega)) n]
    rw [List.length_cons, List.range_succ_eq_map, List.find?_cons, List.find?_map]
    by_cases c : g k = n
    · have : (List.range r.length).find? (fun i => g (k + 1 + i) == n) = none := by
        rw [List.find?_eq_none]
        intro i hi hx
        have := eq_of_beq hx
        have := hinj (k + 1 + i) k (by simp at hi ⊢; omega) (by simp) (by rw [this, c])
        omega
      rw [this]
      simp only [Nat.add_zero, c, beq_self_eq_true]
      rw [hget_hset, if_pos rfl]
      rfl
    · have e : (g (k + 0) == n) = false := by simpa using c
      rw [e]
      simp only
      have e2 : ((fun i => g (k + i) == n) ∘ Nat.succ) = (fun i => g (k + 1 + i) == n) := by
        funext i
        simp only [Function.comp, Nat.succ_eq_add_one]
        rw [show k + (i + 1) = k + 1 + i by omega]
      rw [e2]
      cases hf : (List.range r.length).find? (fun i => g (k + 1 + i) == n) with
      | none =>
        simp only [Option.map_none]
        rw [hget_hset, if_neg (fun e => c e.symm)]
      | some i => simp only [Option.map_some]; rfl
theorem graft_length {g : Nat → Nat} : ∀ (h : LHeap) (H : LHeap) (k : Nat), H.length ≤ (graft g H k h).length ∧ ∀ i, i < h.length → g (k + i) < (graft g H k h).length
  | [], H, k => ⟨Nat.le_refl _, fun i hi => by simp at hi⟩
  | o :: r, H, k => by
    obtain ⟨h1, h2⟩ := graft_length (g := g) r (hset H (g k) (o.map (LObj.ren g))) (k + 1)
    obtain ⟨h3, h4⟩ := hset_length H (g k) (o.map (LObj.ren g))
    refine ⟨Nat.le_trans h3 h1, fun i hi => ?_⟩
    cases i with
    | zero => exact Nat.lt_of_lt_of_le h4 h1
    | succ i =>
      have := h2 i (by simpa using hi)
      rw [show k + (i + 1) = k + 1 + i by omega]
      exact this
def renE (g : Nat → Nat) : LEnd → LEnd
  | .ret v => .ret (ren g v)
  | .panic v => .panic (ren g v)
/-- No number twice, each below a bound. -/
def apart (n : Nat) : List Nat → Bool
  | [] => true
  | e :: r => Nat.blt e n && r.all (fun x => !(Nat.beq e x)) && apart n r
theorem apart_spec {n : Nat} : ∀ (l : List Nat), apart n l = true → (∀ (i e : Nat), l[i]? = some e → e < n) ∧ ∀ (i j e : Nat), l[i]? = some e → l[j]? = some e → i = j
  | [], _ => ⟨fun i e h => by simp at h, fun i j e h => by simp at h⟩
  | x :: r, h => by
    simp only [apart, Bool.and_eq_true] at h
    obtain ⟨⟨h1, h2⟩, h3⟩ := h
    obtain ⟨h4, h5⟩ := apart_spec r h3
    have h1 : x < n := by
      have := Nat.le_of_ble_eq_true h1
      omega
    have hx : ∀ (i : Nat), r[i]? = some x → False := by
      intro i hi
      have := List.all_eq_true.1 h2 x (List.mem_of_getElem? hi)
      simp at this
    refine ⟨fun i e hi => ?_, fun i j e hi hj => ?_⟩
    · cases i with
      | zero => simp at hi; subst hi; exact h1
      | succ i => exact h4 i e (by simpa using hi)
    · cases i with
      | zero =>
        cases j with
        | zero => rfl
        | succ j => simp at hi; subst hi; exact (hx j (by simpa using hj)).elim
      | succ i =>
        cases j with
        | zero => simp at hj; subst hj; exact (hx i (by simpa using hi)).elim
        | succ j => rw [h5 i j e (by simpa using hi) (by simpa using hj)]
theorem embF_inj {emb : List Nat} {n : Nat} (h : apart n emb = true) (i j : Nat) (e : embF emb n i = embF emb n j) : i = j := by
  obtain ⟨h1, h2⟩ := apart_spec emb h
  rcases Nat.lt_or_ge i emb.length with hi | hi <;> rcases Nat.lt_or_ge j emb.length with hj | hj
  · obtain ⟨x, a1, a2⟩ := embF_lt emb n i hi
    obtain ⟨y, b1, b2⟩ := embF_lt emb n j hj
    rw [a2, b2] at e
    subst e
    exact h2 i j x a1 b1
  · obtain ⟨x, a1, a2⟩ := embF_lt emb n i hi
    have := h1 i x a1
    rw [a2, embF_ge emb n j hj] at e
    omega
  · obtain ⟨x, a1, a2⟩ := embF_lt emb n j hj
    have := h1 j x a1
    rw [a2, embF_ge emb n i hi] at e
    omega
  · rw [embF_ge emb n i hi, embF_ge emb n j hj] at e
    omega
/-- THE FRAME: a run's contract over its own small heap serves in a greater one. -/
theorem LRun.frame {G : List Value → World → (Ending → World → Prop) → Prop} (hG : ∀ l w (R R' : Ending → World → Prop), (∀ e w', R e w' → R' e w') → G l w R → G l w R') {args : LVals} {h : LHeap} {R : LEnd → LHeap → Prop} (c : LRun G args h R) (emb : List Nat) {H : LHeap} (hap : apart H.length emb = true) (he : Emb (embF emb H.length) H emb h) :
    LRun G (rens (embF emb H.length) args) H fun e H' => ∃ r h', R r h' ∧ e = renE (embF emb H.length) r ∧ H' = graft (embF emb H.length) H 0 h' := by
  obtain ⟨hlen, hemb⟩ := Emb.spec emb h he
  have hinj := embF_inj hap
  obtain ⟨hap1, hap2⟩ := apart_spec emb hap
  generalize hg : embF emb H.length = g at *
  have glt : ∀ i, i < h.length → ∃ e, emb[i]? = some e ∧ g i = e ∧ e < H.length := by
    intro i hi
    obtain ⟨e, h1, h2⟩ := embF_lt emb H.length i (by omega)
    exact ⟨e, h1, by rw [← hg]; exact h2, hap1 i e h1⟩
  have gge : ∀ i, h.length ≤ i → g i = H.length + (i - h.length) := by
    intro i hi
    rw [← hg, embF_ge emb H.length i (by omega), hlen]
  intro T w0 ρ w l hs hf hv
  -- the small heap's places
  let ρs : Pl := ⟨fun i => if i < h.length then ρ (g i) else none, ρ.fz, ρ.tk⟩
  obtain ⟨Fs, hR⟩ := hs.res
  have e1 : UnrE g ρs ρ := by
    refine ⟨fun b x hb => ?_, .refl _⟩
    show (if b < h.length then ρ (g b) else none) = some x
    by_cases cb : b < h.length
    · rw [if_pos cb]; exact hb
    · rw [hf (g b) (by rw [gge b (by omega)]; omega)] at hb
      cases hb
  have e1' : ∀ b x, ρs b = some x → b < h.length ∧ ρ (g b) = some x := by
    intro b x hb
    have hb : (if b < h.length then ρ (g b) else none) = some x := hb
    by_cases cb : b < h.length
    · rw [if_pos cb] at hb; exact ⟨cb, hb⟩
    · rw [if_neg cb] at hb; cases hb
  have hlive : ∀ i o, hget h i = some o → i < h.length := by
    intro i o hi
    rcases Nat.lt_or_ge i h.length with c | c
    · exact c
    · rw [hget_out h i c] at hi; cases hi
  let Ts : Nat → Nat → Prop := fun r k => (∃ i o b n, hget h i = some o ∧ tag o.ro = r ∧ ρs i = some (k, b, n)) ∨ (r = 0 ∧ w.heap.size ≤ k) ∨ (r = 0 ∧ ∃ i o A, hget h i = some o ∧ o.segs = .res A ∧ Fs (g i) k) ∨ (r = 2 ∧ ∃ ob, ρ.fz k = some ob)
  have tag2 : ∀ b, tag b ≠ 2 := fun b => by cases b <;> decide
  have at1 : ∀ i o, hget h i = some o → hget H (g i) = some (o.ren g) := by
    intro i o hi
    obtain ⟨e, h1, h2⟩ := hemb i o hi
    obtain ⟨e', h3, h4, h5⟩ := glt i (hlive i o hi)
    rw [h1] at h3
    cases h3
    rw [h4]
    exact h2
  have resg : ∀ o : LObj, ∀ A, o.segs = .res A → (o.ren g).segs = .res A := fun o A hA => by show renS g o.segs = _; rw [hA]; rfl
  have TsT : ∀ r k, r ≠ 2 → Ts r k → T r k := by
    rintro r k h2n (⟨i, o, b, n, q1, q0, q2⟩ | ⟨rfl, q⟩ | ⟨rfl, i, o, A, q1, q2, q3⟩ | ⟨rfl, _⟩)
    · obtain ⟨a1, a2⟩ := e1' _ _ q2
      obtain ⟨x, q3, q4⟩ := hemb i o q1
      obtain ⟨x', q5, q6, _⟩ := glt i a1
      rw [q3] at q5; cases q5
      rw [← q6] at q4
      rcases hs.obj _ _ q4 with ⟨k', b', n', ob, p1, p2, p3, p4⟩ | ⟨p1, _⟩
      · rw [a2] at p1; cases p1; rw [← q0]; exact p4
      · rw [a2] at p1; cases p1
    · exact hs.new k (by have := hs.size; omega)
    · exact (hR.mine _ _ A k (at1 i o q1) (resg o A q2) q3).1
    · exact absurd rfl h2n
  have TsF : ∀ k, Ts 0 k → ρ.fz k = none := by
    rintro k (⟨i, o, b, n, q1, q0, q2⟩ | ⟨_, q⟩ | ⟨_, i, o, A, q1, q2, q3⟩ | ⟨h0, _⟩)
    · refine hs.nofz (g i) (o.ren g) k b n (at1 i o q1) ?_ (e1' _ _ q2).2
      show o.ro = false
      cases hr : o.ro with
      | false => rfl
      | true => rw [hr] at q0; cases q0
    · cases hq : ρ.fz k with
      | none => rfl
      | some ob => have := hs.flt hq; omega
    · exact (hR.mine _ _ A k (at1 i o q1) (resg o A q2) q3).2.1
    · cases h0
  have hs' : Sim Ts w ρs h w := by
    refine ⟨?_, ?_, ?_, rfl, rfl, rfl, Nat.le_refl _, fun _ _ => rfl, fun k hk => .inr (.inl ⟨rfl, hk⟩), fun k x y => hs.apart k (TsT _ _ (by decide) x) (TsT _ _ (by decide) y), hs.fz, fun k o hk => .inl (.inr (.inr (.inr ⟨rfl, o, hk⟩))), fun i o k b n hi hr hp => hs.nofz (g i) (o.ren g) k b n (at1 i o hi) hr (e1' _ _ hp).2, fun g' s hg' => PV.ext (Ext.clo (.refl _)) _ _ (hs.glob g' s hg'), hs.tks, fun i => Fs (g i), ?_, ?_, ?_, ?_⟩
    · intro i o hi
      obtain ⟨e, h1, h2⟩ := hemb i o hi
      obtain ⟨e', h3, h4, h5⟩ := glt i (hlive i o hi)
      rw [h1] at h3
      cases h3
      rw [← h4] at h2
      rcases hs.obj _ _ h2 with ⟨k, b, n, ob, r1, r2, r3, r4⟩ | ⟨r1, r2⟩
      · exact .inl ⟨k, b, n, ob, e1.at_ _ _ r1, r2, r3.unren e1, .inl ⟨i, o, b, n, hi, rfl, e1.at_ _ _ r1⟩⟩
      · refine .inr ⟨?_, Emp.unren e1 r2⟩
        show (if i < h.length then ρ (g i) else none) = none
        rw [if_pos (hlive i o hi), r1]
    · intro i j oi oj k b n b' m hi hj h1 h2 hTk
      obtain ⟨a1, a2⟩ := e1' _ _ h1
      obtain ⟨a3, a4⟩ := e1' _ _ h2
      obtain ⟨x, q1, q2⟩ := hemb i oi hi
      obtain ⟨y, q3, q4⟩ := hemb j oj hj
      obtain ⟨x', q5, q6, _⟩ := glt i a1
      obtain ⟨y', q7, q8, _⟩ := glt j a3
      rw [q1] at q5; cases q5
      rw [q3] at q7; cases q7
      rw [← q6] at q2
      rw [← q8] at q4
      exact hinj i j (hs.inj _ _ _ _ k b n b' m q2 q4 a2 a4 (TsT _ _ (by decide) hTk))
    · intro i k b n h1
      exact hs.lt _ _ _ _ (e1' _ _ h1).2
    · intro i o A hi hA
      exact A.ext (ρ := ρ) (.refl _) (hR.holds (g i) _ A (at1 i o hi) (resg o A hA))
    · intro i o A k hi hA hk
      exact ⟨.inr (.inr (.inl ⟨rfl, i, o, A, hi, hA, hk⟩)), (hR.mine (g i) _ A k (at1 i o hi) (resg o A hA) hk).2⟩
    · intro i j oi oj A B k hi hA hj hB h1 h2
      exact hinj i j (hR.apart (g i) (g j) _ _ A B k (at1 i oi hi) (resg oi A hA) (at1 j oj hj) (resg oj B hB) h1 h2)
    · intro i j oi oj A k b n hi hA hj h1
      exact hR.off (g i) (g j) _ _ A k b n (at1 i oi hi) (resg oi A hA) (at1 j oj hj) (e1' _ _ h1).2
  refine hG _ _ _ _ ?_ (c Ts w ρs w l hs' (fun i hi => by show (if i < h.length then ρ (g i) else none) = none; rw [if_neg (by omega)]) (PVs.unren e1 _ _ hv))
  rintro e w' ⟨r, h', ρs', r1, r2, r3, r4, r5, r6, r7⟩
  -- the places behind the call
  let ρ' : Pl := ⟨fun k => if k < H.length then ρ k else ρs' (h.length + (k - H.length)), ρs'.fz, ρs'.tk⟩
  have e2 : RenE g ρs' ρ' := by
    refine ⟨fun b x hb => ?_, .refl _⟩
    show (if g b < H.length then ρ (g b) else ρs' (h.length + (g b - H.length))) = some x
    by_cases cb : b < h.length
    · obtain ⟨y, q1, q2, q3⟩ := glt b cb
      rw [if_pos (by omega)]
      rw [r4 b cb] at hb
      exact (e1' _ _ hb).2
    · rw [if_neg (by rw [gge b (by omega)]; omega), gge b (by omega)]
      rw [show h.length + (H.length + (b - h.length) - H.length) = b by omega]
      exact hb
  have e3 : Ext ρ ρ' := by
    refine ⟨fun b x hb => ?_, r3.r⟩
    show (if b < H.length then ρ b else ρs' (h.length + (b - H.length))) = some x
    rcases Nat.lt_or_ge b H.length with cb | cb
    · rw [if_pos cb]; exact hb
    · rw [hf b cb] at hb; cases hb
  have hgl := graft_length (g := g) h' H 0
  have hgg := graft_get (g := g) h' H 0 (fun i j _ _ q => hinj i j q)
  have hold : ∀ n, (∀ i, i < h'.length → g i ≠ n) → hget (graft g H 0 h') n = hget H n := by
    intro n hn
    rw [hgg n]
    have : (List.range h'.length).find? (fun i => g (0 + i) == n) = none := by
      rw [List.find?_eq_none]
      intro i hi hx
      have := eq_of_beq hx
      rw [Nat.zero_add] at this
      exact hn i (by simpa using hi) this
    rw [this]
  have hnew : ∀ i, i < h'.length → hget (graft g H 0 h') (g i) = (hget h' i).map (LObj.ren g) := by
    intro i hi
    rw [hgg (g i)]
    cases hfnd : (List.range h'.length).find? (fun j => g (0 + j) == g i) with
    | none =>
      rw [List.find?_eq_none] at hfnd
      exact absurd (by simp) (hfnd i (by simpa using hi))
    | some j =>
      have hx := List.find?_some hfnd
      have hx := eq_of_beq hx
      rw [Nat.zero_add] at hx
      rw [hinj j i hx]
  refine ⟨renE g r, _, ρ', ⟨r, h', r1, rfl, rfl⟩, ?_, e3, ?_, ?_, ?_, hgl.1⟩
  · cases r <;> cases e <;> try exact r2.elim
    · exact PV.ren e2 _ _ r2
    · obtain ⟨x, q1, q2⟩ := r2
      exact ⟨x, q1, PV.ren e2 _ _ q2⟩
  · intro i hi
    show (if i < H.length then ρ i else ρs' (h.length + (i - H.length))) = ρ i
    rw [if_pos hi]
  · -- a block that the call does not see
    have far : ∀ k ok kb b n, hget H k = some ok → ρ k = some (kb, b, n) → (∀ i, i < h'.length → g i ≠ k) → ¬ Ts 0 kb := by
      rintro k ok kb b n q1 q2 q3 hTf
      have hTf' := TsT _ _ (by decide) hTf
      rcases hTf with ⟨i, o, b', n', p1, _, p2⟩ | ⟨_, p⟩ | ⟨_, i, o, A, p1, p2, p3⟩ | ⟨h0, _⟩
      · obtain ⟨a1, a2⟩ := e1' _ _ p2
        obtain ⟨x, p3, p4⟩ := hemb i o p1
        obtain ⟨x', p5, p6, _⟩ := glt i a1
        rw [p3] at p5; cases p5
        rw [← p6] at p4
        exact q3 i (by omega) (hs.inj _ _ _ _ kb b' n' b n p4 q1 a2 q2 hTf')
      · have := hs.lt _ _ _ _ q2; omega
      · exact hR.off (g i) k _ ok A kb b n (at1 i o p1) (resg o A p2) q1 q2 p3
      · cases h0
    have farR : ∀ k ok A kb, hget H k = some ok → ok.segs = .res A → (∀ i, i < h'.length → g i ≠ k) → Fs k kb → ¬ Ts 0 kb := by
      rintro k ok A kb q1 q2 q3 q4 (⟨i, o, b', n', p1, _, p2⟩ | ⟨_, p⟩ | ⟨_, i, o, B, p1, p2, p3⟩ | ⟨h0, _⟩)
      · exact hR.off k (g i) ok _ A kb b' n' q1 q2 (at1 i o p1) (e1' _ _ p2).2 q4
      · have := (hR.mine k ok A kb q1 q2 q4).2.2; omega
      · exact q3 i (Nat.lt_of_lt_of_le (hlive i o p1) r7) (hR.apart (g i) k _ ok B A kb (at1 i o p1) (resg o B p2) q1 q2 p3 q4)
      · cases h0
    have ρ'old : ∀ k, k < H.length → ρ' k = ρ k := fun k hk => by
      show (if k < H.length then ρ k else ρs' (h.length + (k - H.length))) = ρ k
      rw [if_pos hk]
    have ρ'g : ∀ i, i < h'.length → ρ' (g i) = ρs' i := by
      intro i hi
      by_cases c : i < h.length
      · obtain ⟨y, q1, q2, q3⟩ := glt i c
        rw [ρ'old (g i) (by omega), r4 i c]
        show ρ (g i) = if i < h.length then ρ (g i) else none
        rw [if_pos c]
      · show (if g i < H.length then ρ (g i) else ρs' (h.length + (g i - H.length))) = ρs' i
        rw [if_neg (by rw [gge i (by omega)]; omega), gge i (by omega)]
        congr 1; omega
    have Hlt : ∀ k o, hget H k = some o → k < H.length := by
      intro k o hk
      rcases Nat.lt_or_ge k H.length with c | c
      · exact c
      · rw [hget_out H k c] at hk; cases hk
    have split : ∀ k o, hget (graft g H 0 h') k = some o → (∃ i oi, i < h'.length ∧ g i = k ∧ hget h' i = some oi ∧ o = oi.ren g) ∨ ((∀ i, i < h'.length → g i ≠ k) ∧ hget H k = some o) := by
      intro k o hk
      by_cases c : ∃ i, i < h'.length ∧ g i = k
      · obtain ⟨i, hi, rfl⟩ := c
        rw [hnew i hi] at hk
        cases hq : hget h' i with
        | none => rw [hq] at hk; cases hk
        | some oi =>
          rw [hq] at hk
          have hk : some (oi.ren g) = some o := hk
          cases hk
          exact .inl ⟨i, oi, hi, rfl, hq, rfl⟩
      · have c' : ∀ i, i < h'.length → g i ≠ k := fun i hi e => c ⟨i, hi, e⟩
        rw [hold k c'] at hk
        exact .inr ⟨c', hk⟩
    refine ⟨?_, ?_, ?_, r5.os.trans hs.os, r5.tape.trans hs.tape, r5.output.trans hs.output, Nat.le_trans hs.size r5.size, ?_, hs.new, hs.apart, r5.fz, ?_, ?_, fun g' s hg' => PV.ext (Ext.clo r3.r) _ _ (hs.glob g' s hg'), r5.tks, ?_⟩
    · intro k o hk
      rcases split k o hk with ⟨i, oi, hi, rfl, q1, rfl⟩ | ⟨q1, q2⟩
      · rcases r5.obj i oi q1 with ⟨kb, b, n, ob, p1, p2, p3, p4⟩ | ⟨p1, p2⟩
        · exact .inl ⟨kb, b, n, ob, e2.at_ _ _ p1, p2, p3.ren e2, TsT _ kb (tag2 _) p4⟩
        · exact .inr ⟨by rw [ρ'g i hi]; exact p1, Emp.ren e2 p2⟩
      · rcases hs.obj k o q2 with ⟨kb, b, n, ob, p1, p2, p3, p4⟩ | ⟨p1, p2⟩
        · exact .inl ⟨kb, b, n, ob, e3.at_ _ _ p1, by rw [r5.kept kb (far k o kb b n q2 p1 q1)]; exact p2, p3.ext e3, p4⟩
        · exact .inr ⟨by rw [ρ'old k (Hlt k o q2)]; exact p1, p2.ext e3⟩
    · intro k1 k2 o1 o2 kb b n b' m q1 q2 p1 p2 hTb
      have side : ∀ i oi k2 o2 b n b' m, i < h'.length → hget h' i = some oi → ρ' (g i) = some (kb, b, n) → hget H k2 = some o2 → (∀ i, i < h'.length → g i ≠ k2) → ρ' k2 = some (kb, b', m) → False := by
        intro i oi k2 o2 b n b' m hi hoi p1 ho2 hfar p2
        rw [ρ'g i hi] at p1
        rw [ρ'old k2 (Hlt k2 o2 ho2)] at p2
        rcases r5.obj i oi hoi with ⟨kb', b2, n2, ob, z1, z2, z3, z4⟩ | ⟨z1, _⟩
        · rw [p1] at z1; cases z1
          refine far k2 o2 kb b' m ho2 p2 hfar ?_
          cases hro : oi.ro with
          | false => rw [hro] at z4; exact z4
          | true => rw [hro] at z4; exact absurd hTb (hs.apart _ (TsT _ _ (by decide) z4))
        · rw [p1] at z1; cases z1
      rcases split k1 o1 q1 with ⟨i, oi, hi, rfl, a1, rfl⟩ | ⟨a1, a2⟩ <;> rcases split k2 o2 q2 with ⟨j, oj, hj, rfl, c1, rfl⟩ | ⟨c1, c2⟩
      · rw [ρ'g i hi] at p1
        rw [ρ'g j hj] at p2
        rcases r5.obj i oi a1 with ⟨kb', b2, n2, ob, z1, z2, z3, z4⟩ | ⟨z1, _⟩
        · rw [p1] at z1; cases z1
          cases hro : oi.ro with
          | true => rw [hro] at z4; exact absurd hTb (hs.apart _ (TsT _ _ (by decide) z4))
          | false => rw [hro] at z4; rw [r5.inj i j oi oj kb b n b' m a1 c1 p1 p2 z4]
        · rw [p1] at z1; cases z1
      · exact (side i oi k2 o2 b n b' m hi a1 p1 c2 c1 p2).elim
      · exact (side j oj k1 o1 b' m b n hj c1 p2 a2 a1 p1).elim
      · rw [ρ'old k1 (Hlt k1 o1 a2)] at p1
        rw [ρ'old k2 (Hlt k2 o2 c2)] at p2
        exact hs.inj k1 k2 o1 o2 kb b n b' m a2 c2 p1 p2 hTb
    · intro k kb b n q
      by_cases c : k < H.length
      · rw [ρ'old k c] at q
        have := hs.lt _ _ _ _ q
        have := r5.size
        omega
      · have q : (if k < H.length then ρ k else ρs' (h.length + (k - H.length))) = some (kb, b, n) := q
        rw [if_neg c] at q
        exact r5.lt _ _ _ _ q
    · intro k hk
      rw [r5.kept k (fun x => hk (TsT _ k (by decide) x))]
      exact hs.kept k hk
    · intro k o hk
      rcases r5.fzT k o hk with hz | hz
      · rcases hz with ⟨i, o', b, n, q1, q0, q2⟩ | ⟨h0, _⟩ | ⟨h0, _⟩ | ⟨_, ob, hob⟩
        · exact absurd q0 (tag2 _)
        · cases h0
        · cases h0
        · exact hs.fzT k ob hob
      · exact .inr (TsT _ k (by decide) hz)
    · intro k o kb b n hk hr hp
      rcases split k o hk with ⟨i, oi, hi, rfl, q1, rfl⟩ | ⟨q1, q2⟩
      · exact r5.nofz i oi kb b n q1 hr (by rw [ρ'g i hi] at hp; exact hp)
      · rw [ρ'old k (Hlt k o q2)] at hp
        show ρs'.fz kb = none
        cases hz : ρs'.fz kb with
        | none => rfl
        | some ob =>
          rcases r5.fzT kb ob hz with hq | hq
          · rcases hq with ⟨i, o', b', n', _, q0, _⟩ | ⟨h0, _⟩ | ⟨h0, _⟩ | ⟨_, ob', hob⟩
            · exact absurd q0 (tag2 _)
            · cases h0
            · cases h0
            · rw [hs.nofz k o kb b n q2 hr hp] at hob; cases hob
          · exact absurd hq (far k o kb b n q2 hp q1)
    · obtain ⟨Fr, hr⟩ := r5.res
      -- whose part: the call's own, or what it did not see
      refine ⟨fun k x => (∃ i, i < h'.length ∧ g i = k ∧ Fr i x) ∨ ((∀ i, i < h'.length → g i ≠ k) ∧ Fs k x), ?_, ?_, ?_, ?_⟩
      · intro k o A hk hA
        rcases split k o hk with ⟨i, oi, hi, rfl, q1, rfl⟩ | ⟨q1, q2⟩
        · have hA := renS_res hA
          have : (fun x => (∃ i', i' < h'.length ∧ g i' = g i ∧ Fr i' x) ∨ ((∀ i', i' < h'.length → g i' ≠ g i) ∧ Fs (g i) x)) = Fr i := by
            funext x
            refine propext ⟨?_, fun hx => .inl ⟨i, hi, rfl, hx⟩⟩
            rintro (⟨i', h1, h2, h3⟩ | ⟨h1, _⟩)
            · rw [hinj i' i h2] at h3; exact h3
            · exact absurd rfl (h1 i hi)
          rw [this]
          exact A.ext (ρ := ρs') (.refl _) (hr.holds i oi A q1 hA)
        · have : (fun x => (∃ i', i' < h'.length ∧ g i' = k ∧ Fr i' x) ∨ ((∀ i', i' < h'.length → g i' ≠ k) ∧ Fs k x)) = Fs k := by
            funext x
            refine propext ⟨?_, fun hx => .inr ⟨q1, hx⟩⟩
            rintro (⟨i', h1, h2, h3⟩ | ⟨_, h1⟩)
            · exact absurd h2 (q1 i' h1)
            · exact h1
          rw [this]
          refine A.ext (ρ := ρ) r3.r (A.loc (w := w) r5.size (fun x hx => ?_) (hR.holds k o A q2 hA))
          exact r5.kept x (farR k o A x q2 hA q1 hx)
      · intro k o A x hk hA hx
        rcases split k o hk with ⟨i, oi, hi, rfl, q1, rfl⟩ | ⟨q1, q2⟩
        · have hA := renS_res hA
          rcases hx with ⟨i', h1, h2, h3⟩ | ⟨h1, _⟩
          · rw [hinj i' i h2] at h3
            obtain ⟨a1, a2⟩ := hr.mine i oi A x q1 hA h3
            exact ⟨TsT _ x (by decide) a1, a2⟩
          · exact absurd rfl (h1 i hi)
        · rcases hx with ⟨i', h1, h2, h3⟩ | ⟨_, h1⟩
          · exact absurd h2 (q1 i' h1)
          · obtain ⟨a1, a2, a3⟩ := hR.mine k o A x q2 hA h1
            refine ⟨a1, ?_, by have := r5.size; omega⟩
            show ρs'.fz x = none
            cases hz : ρs'.fz x with
            | none => rfl
            | some ob =>
              rcases r5.fzT x ob hz with hq | hq
              · rcases hq with ⟨i, o', b', n', _, q0, _⟩ | ⟨h0, _⟩ | ⟨h0, _⟩ | ⟨_, ob', hob⟩
                · exact absurd q0 (tag2 _)
                · cases h0
                · cases h0
                · rw [a2] at hob; cases hob
              · exact absurd hq (farR k o A x q2 hA q1 h1)
      · intro k1 k2 o1 o2 A B x hk1 hA hk2 hB hx1 hx2
        rcases split k1 o1 hk1 with ⟨i, oi, hi, rfl, q1, rfl⟩ | ⟨q1, q2⟩ <;> rcases split k2 o2 hk2 with ⟨j, oj, hj, rfl, p1, rfl⟩ | ⟨p1, p2⟩
        · have hA := renS_res hA
          have hB := renS_res hB
          rcases hx1 with ⟨i', a1, a2, a3⟩ | ⟨a1, _⟩
          · rcases hx2 with ⟨j', c1, c2, c3⟩ | ⟨c1, _⟩
            · rw [hinj i' i a2] at a3
              rw [hinj j' j c2] at c3
              rw [hr.apart i j oi oj A B x q1 hA p1 hB a3 c3]
            · exact absurd rfl (c1 j hj)
          · exact absurd rfl (a1 i hi)
        · have hA := renS_res hA
          rcases hx1 with ⟨i', a1, a2, a3⟩ | ⟨a1, _⟩
          · rcases hx2 with ⟨j', c1, c2, c3⟩ | ⟨_, c1⟩
            · exact absurd c2 (p1 j' c1)
            · rw [hinj i' i a2] at a3
              exact absurd (hr.mine i oi A x q1 hA a3).1 (farR k2 o2 B x p2 hB p1 c1)
          · exact absurd rfl (a1 i hi)
        · have hB := renS_res hB
          rcases hx2 with ⟨j', a1, a2, a3⟩ | ⟨a1, _⟩
          · rcases hx1 with ⟨i', c1, c2, c3⟩ | ⟨_, c1⟩
            · exact absurd c2 (q1 i' c1)
            · rw [hinj j' j a2] at a3
              exact absurd (hr.mine j oj B x p1 hB a3).1 (farR k1 o1 A x q2 hA q1 c1)
          · exact absurd rfl (a1 j hj)
        · rcases hx1 with ⟨i', a1, a2, a3⟩ | ⟨_, a1⟩
          · exact absurd a2 (q1 i' a1)
          · rcases hx2 with ⟨j', c1, c2, c3⟩ | ⟨_, c1⟩
            · exact absurd c2 (p1 j' c1)
            · exact hR.apart k1 k2 o1 o2 A B x q2 hA p2 hB a1 c1
      · intro k1 k2 o1 o2 A x b n hk1 hA hk2 hp hx
        rcases split k1 o1 hk1 with ⟨i, oi, hi, rfl, q1, rfl⟩ | ⟨q1, q2⟩ <;> rcases split k2 o2 hk2 with ⟨j, oj, hj, rfl, p1, rfl⟩ | ⟨p1, p2⟩
        · have hA := renS_res hA
          rcases hx with ⟨i', a1, a2, a3⟩ | ⟨a1, _⟩
          · rw [hinj i' i a2] at a3
            rw [ρ'g j hj] at hp
            exact hr.off i j oi oj A x b n q1 hA p1 hp a3
          · exact absurd rfl (a1 i hi)
        · have hA := renS_res hA
          rcases hx with ⟨i', a1, a2, a3⟩ | ⟨a1, _⟩
          · rw [hinj i' i a2] at a3
            rw [ρ'old k2 (Hlt k2 o2 p2)] at hp
            exact far k2 o2 x b n p2 hp p1 (hr.mine i oi A x q1 hA a3).1
          · exact absurd rfl (a1 i hi)
        · rcases hx with ⟨i', a1, a2, a3⟩ | ⟨_, a1⟩
          · exact absurd a2 (q1 i' a1)
          · rw [ρ'g j hj] at hp
            rcases r5.obj j oj p1 with ⟨kb', b2, n2, ob, z1, z2, z3, z4⟩ | ⟨z1, _⟩
            · rw [hp] at z1; cases z1
              have hTx := (hR.mine k1 o1 A x q2 hA a1).1
              refine farR k1 o1 A x q2 hA q1 a1 ?_
              cases hro : oj.ro with
              | false => rw [hro] at z4; exact z4
              | true => rw [hro] at z4; exact absurd hTx (hs.apart _ (TsT _ _ (by decide) z4))
            · rw [hp] at z1; cases z1
        · rcases hx with ⟨i', a1, a2, a3⟩ | ⟨_, a1⟩
          · exact absurd a2 (q1 i' a1)
          · rw [ρ'old k2 (Hlt k2 o2 p2)] at hp
            exact hR.off k1 k2 o1 o2 A x b n q2 hA p2 hp a1
  · intro i hi
    have hHi : H.length ≤ i := Nat.le_trans hgl.1 hi
    show (if i < H.length then ρ i else ρs' (h.length + (i - H.length))) = none
    rw [if_neg (by omega)]
    refine r6 _ ?_
    rcases Nat.lt_or_ge (h.length + (i - H.length)) h'.length with c | c
    · have := hgl.2 _ c
      rw [Nat.zero_add, gge _ (by omega)] at this
      omega
    · exact c
theorem LCalls.frame {P : Program} {f : FuncId} {args : LVals} {h : LHeap} {R : LEnd → LHeap → Prop} (c : LCalls P f args h R) (emb : List Nat) {H : LHeap} (hap : apart H.length emb = true) (he : Emb (embF emb H.length) H emb h) :
    LCalls P f (rens (embF emb H.length) args) H fun e H' => ∃ r h', R r h' ∧ e = renE (embF emb H.length) r ∧ H' = graft (embF emb H.length) H 0 h' :=
  ⟨c.has, LRun.frame (G := fun l w R => Calls P f l.toArray w R) (fun _ _ _ _ hr x => x.mono hr) c.run emb hap he⟩
/-- A fence that lets all in: of plain frames (none), of a round's frames of a loop. -/
def FW (r : Option Nat) : Fence := { Fence.wide with round := r }
/-- A call of yield: n values, then what the loop's record holds. -/
def yieldG (P : Program) (l n : Nat) (tm : List Value) (L : List Value) (w : World) (R : Ending → World → Prop) : Prop :=
  L.drop n = tm → ∃ f tmps assign body, (Instr.yield l (L.take n).toArray).run P w = .ok (.round l f tmps assign body) w ∧ RoundIn (FW none) 0 P l f tmps assign body w R
theorem yieldG_mono {P : Program} {l n : Nat} {tm : List Value} (L : List Value) (w : World) (R R' : Ending → World → Prop) (hr : ∀ e w', R e w' → R' e w') (h : yieldG P l n tm L w R) : yieldG P l n tm L w R' :=
  fun e => (h e).imp fun f ⟨t, a, b, h1, h2⟩ => ⟨t, a, b, h1, h2.mono hr⟩
structure LRound (P : Program) (l n : Nat) (tm : List Value) (args : LVals) (h : LHeap) (R : LEnd → LHeap → Prop) : Prop where
  run : LRun (yieldG P l n tm) args h R
theorem LRound.mono {P : Program} {l n : Nat} {tm : List Value} {args : LVals} {h : LHeap} {R R' : LEnd → LHeap → Prop} (c : LRound P l n tm args h R) (hr : ∀ e h', R e h' → R' e h') : LRound P l n tm args h R' :=
  ⟨fun T w0 ρ w L h1 h2 h3 => yieldG_mono _ _ _ _ (fun e w' ⟨r, h', ρ', h4, h5⟩ => ⟨r, h', ρ', hr r h' h4, h5⟩) (c.run T w0 ρ w L h1 h2 h3)⟩
theorem LRound.frame {P : Program} {l n : Nat} {tm : List Value} {args : LVals} {h : LHeap} {R : LEnd → LHeap → Prop} (c : LRound P l n tm args h R) (emb : List Nat) {H : LHeap} (hap : apart H.length emb = true) (he : Emb (embF emb H.length) H emb h) :
    LRound P l n tm (rens (embF emb H.length) args) H fun e H' => ∃ r h', R r h' ∧ e = renE (embF emb H.length) r ∧ H' = graft (embF emb H.length) H 0 h' :=
  ⟨LRun.frame yieldG_mono c.run emb hap he⟩
end Go.Proofs.Ytilmfhpoiejmfaa.Lh

/- A region that draws its order, on the heap of the mind: in the text's order, with what each operation reads and turns told; operations that are apart may change places. Over any program. -/
namespace Go.Proofs.Ytilmfhpoiejmfaa.Lh
set_option linter.unusedSimpArgs false
set_option linter.unusedVariables false
set_option linter.unusedSectionVars false
open Go.RowKit
variable [Fz]
inductive LAct where
  | op (o : LOp)
  | call (f : FuncId) (xs : List LOpd)
  | callv (x : LOpd) (xs : List LOpd)
  | panic (x : LOpd)
structure LOper where
  dst : Option Nat
  guard : Option (Nat × Bool)
  act : LAct
def opdK (t : List LVal) : LOpd → (LVal → Prop) → Prop
  | .tmp i, K => getK t i K
  | .const v, K => K v
def argsK (t : List LVal) : List LOpd → (LVals → Prop) → Prop
  | [], K => K .nil
  | x :: r, K => opdK t x fun v => argsK t r fun vs => K (.cons v vs)
def appVs : LVals → LVals → LVals
  | .nil, c => c
  | .cons v r, c => .cons v (appVs r c)
def appVsK : LVals → LVals → (LVals → Prop) → Prop
  | .nil, c, K => K c
  | .cons v r, c, K => appVsK r c fun x => K (.cons v x)
theorem appVsK_eq : ∀ (a c : LVals) (K : LVals → Prop), appVsK a c K = K (appVs a c)
  | .nil, c, K => rfl
  | .cons v r, c, K => by simp only [appVsK, appVs, appVsK_eq r c]
theorem opdK_congr' {t : List LVal} {x : LOpd} {K K' : LVal → Prop} (hk : ∀ v, K v → K' v) (h : opdK t x K) : opdK t x K' := by
  cases x with
  | tmp i => simp only [opdK, getK_eq] at h ⊢; exact hk _ h
  | const v => exact hk _ h
theorem argsK_congr' {t : List LVal} : ∀ {xs : List LOpd} {K K' : LVals → Prop} (_ : ∀ v, K v → K' v) (_ : argsK t xs K), argsK t xs K'
  | [], K, K', hk, h => hk _ h
  | x :: r, K, K', hk, h => opdK_congr' (fun v hv => argsK_congr' (fun vs => hk _) hv) h
noncomputable def iteP (b : Bool) (x y : Prop) : Prop := Bool.rec (motive := fun _ => Prop) y x b
theorem iteP_intro {b : Bool} {x y : Prop} (hx : b = true → x) (hy : b = false → y) : iteP b x y := by
  cases b
  · exact hy rfl
  · exact hx rfl
theorem iteP_elim {b : Bool} {x y : Prop} (h : iteP b x y) : (b = true ∧ x) ∨ (b = false ∧ y) := by
  cases b
  · exact .inr ⟨rfl, h⟩
  · exact .inl ⟨rfl, h⟩
def setDst (t : List LVal) (d : Option Nat) (v : LVal) (K : List LVal → Prop) : Prop :=
  match d with
  | none => K t
  | some d => setK t d v K
/-- What a reader comes to, and what it has read. -/
def Rd.Run : Rd → List LVal → LHeap → LVal → List (Nat × Option LObj) → Option LObj → List Nat → List Nat → Prop
  | .ret v u nw, _, _, v', u', nw', rt, rh => v' = v ∧ u' = u ∧ nw' = nw ∧ rt = [] ∧ rh = []
  | .tmp i k, t, h, v, u, nw, rt, rh => ∃ rt', rt = i :: rt' ∧ (k (lget t i)).Run t h v u nw rt' rh
  | .obj b k, t, h, v, u, nw, rt, rh => ∃ rh' o, rh = b :: rh' ∧ hget h b = some o ∧ (k o).Run t h v u nw rt rh'
  | .need p k, t, h, v, u, nw, rt, rh => p ∧ k.Run t h v u nw rt rh
  | .ite b x y, t, h, v, u, nw, rt, rh => match b with
    | true => x.Run t h v u nw rt rh
    | false => y.Run t h v u nw rt rh
  | .allB _ _, _, _, _, _, _, _, _ => False
  | .fail, _, _, _, _, _, _, _ => False
abbrev LK := LVal → List (Nat × Option LObj) → Option LObj → List Nat → List Nat → Prop
def Rd.wpL : Rd → List LVal → LHeap → LK → Prop
  | .ret v u nw, _, _, K => K v u nw [] []
  | .tmp i k, t, h, K => getK t i fun x => (k x).wpL t h fun v u nw rt rh => K v u nw (i :: rt) rh
  | .obj b k, t, h, K => hgetK h b (fun o => (k o).wpL t h fun v u nw rt rh => K v u nw rt (b :: rh)) False
  | .need p k, t, h, K => p ∧ k.wpL t h K
  | .ite b x y, t, h, K => match b with
    | true => x.wpL t h K
    | false => y.wpL t h K
  | .allB _ _, _, _, _ => False
  | .fail, _, _, _ => False
theorem wpL_run : ∀ (r : Rd) {t : List LVal} {h : LHeap} {K : LK}, r.wpL t h K → ∃ v u nw rt rh, r.Run t h v u nw rt rh ∧ K v u nw rt rh
  | .ret v u nw, t, h, K, hw => ⟨v, u, nw, [], [], ⟨rfl, rfl, rfl, rfl, rfl⟩, hw⟩
  | .tmp i k, t, h, K, hw => by
    simp only [Rd.wpL, getK_eq] at hw
    obtain ⟨v, u, nw, rt, rh, h1, h2⟩ := wpL_run _ hw
    exact ⟨v, u, nw, i :: rt, rh, ⟨rt, rfl, h1⟩, h2⟩
  | .obj b k, t, h, K, hw => by
    simp only [Rd.wpL, hgetK_eq] at hw
    cases hg : hget h b with
    | none => rw [hg] at hw; exact hw.elim
    | some o =>
      rw [hg] at hw
      obtain ⟨v, u, nw, rt, rh, h1, h2⟩ := wpL_run _ hw
      exact ⟨v, u, nw, rt, b :: rh, ⟨rh, o, rfl, hg, h1⟩, h2⟩
  | .need p k, t, h, K, hw => by
    obtain ⟨v, u, nw, rt, rh, h1, h2⟩ := wpL_run k hw.2
    exact ⟨v, u, nw, rt, rh, ⟨hw.1, h1⟩, h2⟩
  | .ite b x y, t, h, K, hw => by
    cases b
    · exact wpL_run y hw
    · exact wpL_run x hw
  | .allB _ _, _, _, _, hw => hw.elim
  | .fail, _, _, _, hw => hw.elim
theorem run_wp : ∀ (r : Rd) {t : List LVal} {h : LHeap} {v : LVal} {u : List (Nat × Option LObj)} {nw : Option LObj} {rt rh : List Nat}, r.Run t h v u nw rt rh → r.wp t h (fun v' u' nw' => v' = v ∧ u' = u ∧ nw' = nw)
  | .ret v u nw, t, h, v', u', nw', rt, rh, hr => ⟨hr.1.symm, hr.2.1.symm, hr.2.2.1.symm⟩
  | .tmp i k, t, h, v, u, nw, rt, rh, hr => by
    obtain ⟨rt', _, h1⟩ := hr
    simp only [Rd.wp, getK_eq]
    exact run_wp _ h1
  | .obj b k, t, h, v, u, nw, rt, rh, hr => by
    obtain ⟨rh', o, _, hg, h1⟩ := hr
    simp only [Rd.wp, hgetK_eq, hg]
    exact run_wp _ h1
  | .need p k, t, h, v, u, nw, rt, rh, hr => ⟨hr.1, run_wp k hr.2⟩
  | .ite b x y, t, h, v, u, nw, rt, rh, hr => by
    cases b
    · exact run_wp y hr
    · exact run_wp x hr
  | .allB _ _, _, _, _, _, _, _, _, hr => hr.elim
  | .fail, _, _, _, _, _, _, _, hr => hr.elim
theorem run_local : ∀ (r : Rd) {t t' : List LVal} {h h' : LHeap} {v : LVal} {u : List (Nat × Option LObj)} {nw : Option LObj} {rt rh : List Nat}, r.Run t h v u nw rt rh → (∀ i ∈ rt, lget t' i = lget t i) → (∀ b ∈ rh, hget h' b = hget h b) → r.Run t' h' v u nw rt rh
  | .ret v u nw, _, _, _, _, _, _, _, _, _, hr, _, _ => hr
  | .tmp i k, t, t', h, h', v, u, nw, rt, rh, hr, h1, h2 => by
    obtain ⟨rt', rfl, h3⟩ := hr
    refine ⟨rt', rfl, ?_⟩
    rw [h1 i (by simp)]
    exact run_local _ h3 (fun j hj => h1 j (by simp [hj])) h2
  | .obj b k, t, t', h, h', v, u, nw, rt, rh, hr, h1, h2 => by
    obtain ⟨rh', o, rfl, hg, h3⟩ := hr
    exact ⟨rh', o, rfl, by rw [h2 b (by simp)]; exact hg, run_local _ h3 h1 (fun j hj => h2 j (by simp [hj]))⟩
  | .need p k, _, _, _, _, _, _, _, _, _, hr, h1, h2 => ⟨hr.1, run_local k hr.2 h1 h2⟩
  | .ite b x y, _, _, _, _, _, _, _, _, _, hr, h1, h2 => by
    cases b
    · exact run_local y hr h1 h2
    · exact run_local x hr h1 h2
  | .allB _ _, _, _, _, _, _, _, _, _, _, hr, _, _ => hr.elim
  | .fail, _, _, _, _, _, _, _, _, _, hr, _, _ => hr.elim
/-- Operands read. -/
def ArgsRun (t : List LVal) : List LOpd → LVals → List Nat → Prop
  | [], vs, rt => vs = .nil ∧ rt = []
  | .tmp i :: r, vs, rt => ∃ vs' rt', vs = .cons (lget t i) vs' ∧ rt = i :: rt' ∧ ArgsRun t r vs' rt'
  | .const v :: r, vs, rt => ∃ vs', vs = .cons v vs' ∧ ArgsRun t r vs' rt
def argsLK (t : List LVal) : List LOpd → (LVals → List Nat → Prop) → Prop
  | [], K => K .nil []
  | .tmp i :: r, K => getK t i fun v => argsLK t r fun vs rt => K (.cons v vs) (i :: rt)
  | .const v :: r, K => argsLK t r fun vs rt => K (.cons v vs) rt
theorem argsLK_run {t : List LVal} : ∀ (xs : List LOpd) {K : LVals → List Nat → Prop}, argsLK t xs K → ∃ vs rt, ArgsRun t xs vs rt ∧ K vs rt
  | [], K, hw => ⟨.nil, [], ⟨rfl, rfl⟩, hw⟩
  | .tmp i :: r, K, hw => by
    simp only [argsLK, getK_eq] at hw
    obtain ⟨vs, rt, h1, h2⟩ := argsLK_run r hw
    exact ⟨_, _, ⟨vs, rt, rfl, rfl, h1⟩, h2⟩
  | .const v :: r, K, hw => by
    obtain ⟨vs, rt, h1, h2⟩ := argsLK_run r hw
    exact ⟨_, _, ⟨vs, rfl, h1⟩, h2⟩
theorem args_local {t t' : List LVal} : ∀ (xs : List LOpd) {vs : LVals} {rt : List Nat}, ArgsRun t xs vs rt → (∀ i ∈ rt, lget t' i = lget t i) → ArgsRun t' xs vs rt
  | [], vs, rt, hr, _ => hr
  | .tmp i :: r, vs, rt, hr, h1 => by
    obtain ⟨vs', rt', rfl, rfl, h2⟩ := hr
    exact ⟨vs', rt', by rw [h1 i (by simp)], rfl, args_local r h2 (fun j hj => h1 j (by simp [hj]))⟩
  | .const v :: r, vs, rt, hr, h1 => by
    obtain ⟨vs', rfl, h2⟩ := hr
    exact ⟨vs', rfl, args_local r h2 h1⟩
theorem args_K {t : List LVal} : ∀ (xs : List LOpd) {vs : LVals} {rt : List Nat}, ArgsRun t xs vs rt → argsK t xs (fun us => us = vs)
  | [], vs, rt, hr => hr.1.symm
  | .tmp i :: r, vs, rt, hr => by
    obtain ⟨vs', rt', rfl, rfl, h2⟩ := hr
    simp only [argsK, opdK, getK_eq]
    have := args_K r h2
    exact argsK_congr' (fun us e => by rw [e]) this
  | .const v :: r, vs, rt, hr => by
    obtain ⟨vs', rfl, h2⟩ := hr
    simp only [argsK, opdK]
    exact argsK_congr' (fun us e => by rw [e]) (args_K r h2)
/-- A call that leaves its blocks as they were. -/
structure CallPure (P : Program) (f : FuncId) (vs : LVals) (H : LHeap) (v : LVal) (rh : List Nat) : Prop where
  ex : ∃ args0 h0 v0, LCalls P f args0 h0 (fun e h' => e = .ret v0 ∧ h' = h0) ∧ (∀ n, rens (embF rh n) args0 = vs) ∧ (∀ n, ren (embF rh n) v0 = v) ∧ apart 1000000 rh = true ∧ (∀ n, Emb (embF rh n) H rh h0) ∧ h0.all (·.isSome) = true
theorem emb_local {g : Nat → Nat} {H H' : LHeap} : ∀ (rh : List Nat) (h0 : LHeap), Emb g H rh h0 → (∀ b ∈ rh, hget H' b = hget H b) → Emb g H' rh h0
  | [], [], h, _ => h
  | [], _ :: _, h, _ => h.elim
  | _ :: _, [], h, _ => h.elim
  | e :: er, o :: r, h, h1 => by
    refine ⟨?_, emb_local er r h.2 (fun b hb => h1 b (by simp [hb]))⟩
    have h2 := h.1
    cases o with
    | none => trivial
    | some o => rw [h1 e (by simp)]; exact h2
theorem CallPure.loc {P : Program} {f : FuncId} {vs : LVals} {H H' : LHeap} {v : LVal} {rh : List Nat} (c : CallPure P f vs H v rh) (h1 : ∀ b ∈ rh, hget H' b = hget H b) : CallPure P f vs H' v rh := by
  obtain ⟨⟨a, h0, v0, e1, e2, e3, e4, e5, e6⟩⟩ := c
  exact ⟨⟨a, h0, v0, e1, e2, e3, e4, fun n => emb_local rh h0 (e5 n) h1, e6⟩⟩
/-- A call that turns its blocks, told ahead. -/
structure CallEff (P : Program) (f : FuncId) (vs : LVals) (H : LHeap) (v : LVal) (u : List (Nat × Option LObj)) (rh : List Nat) : Prop where
  ex : ∃ args0 h0 v0 h1, LCalls P f args0 h0 (fun e h' => e = .ret v0 ∧ h' = h1) ∧ (∀ n, rens (embF rh n) args0 = vs) ∧ (∀ n, ren (embF rh n) v0 = v) ∧ apart 1000000 rh = true ∧ (∀ n, Emb (embF rh n) H rh h0) ∧ h0.all (·.isSome) = true ∧ h1.length = h0.length ∧ ∀ n, u = rh.zip (h1.map (Option.map (LObj.ren (embF rh n))))
theorem CallEff.loc {P : Program} {f : FuncId} {vs : LVals} {H H' : LHeap} {v : LVal} {u : List (Nat × Option LObj)} {rh : List Nat} (c : CallEff P f vs H v u rh) (h1 : ∀ b ∈ rh, hget H' b = hget H b) : CallEff P f vs H' v u rh := by
  obtain ⟨⟨a, h0, v0, h2, e1, e2, e3, e4, e5, e6⟩⟩ := c
  exact ⟨⟨a, h0, v0, h2, e1, e2, e3, e4, fun n => emb_local rh h0 (e5 n) h1, e6⟩⟩
def LAct.Run (P : Program) (n : Nat) (t : List LVal) (h : LHeap) (v : LVal) (u : List (Nat × Option LObj)) (nw : Option LObj) (rt rh : List Nat) : LAct → Prop
  | .op o => (opRd n o).Run t h v u nw rt rh
  | .call f xs => ∃ vs, ArgsRun t xs vs rt ∧ ((CallPure P f vs h v rh ∧ u = []) ∨ CallEff P f vs h v u rh) ∧ nw = none
  | .callv x xs => match x with
    | .tmp i => ∃ f c vs rt', lget t i = .func f c ∧ rt = i :: rt' ∧ ArgsRun t xs vs rt' ∧ CallPure P f (appVs vs c) h v rh ∧ u = [] ∧ nw = none
    | .const _ => False
  | _ => False
def LAct.wpL (P : Program) (n : Nat) (t : List LVal) (h : LHeap) (K : LK) : LAct → Prop
  | .op o => (opRd n o).wpL t h K
  | .call f xs => argsLK t xs fun vs rt => (∃ v rh, CallPure P f vs h v rh ∧ K v [] none rt rh) ∨ ∃ v u rh, CallEff P f vs h v u rh ∧ K v u none rt rh
  | .callv x xs => match x with
    | .tmp i => getK t i fun y => match y with
      | .func f c => argsLK t xs fun vs rt => appVsK vs c fun us => ∃ v rh, CallPure P f us h v rh ∧ K v [] none (i :: rt) rh
      | _ => False
    | .const _ => False
  | _ => False
def Skip (d : Nat) (v : LVal) (u : List (Nat × Option LObj)) (nw : Option LObj) (rt rh : List Nat) : Prop := v = .undef ∧ u = [] ∧ nw = none ∧ rt = [d] ∧ rh = []
def LOper.Run (P : Program) (n : Nat) (o : LOper) (t : List LVal) (h : LHeap) (v : LVal) (u : List (Nat × Option LObj)) (nw : Option LObj) (rt rh : List Nat) : Prop :=
  match o.guard with
  | none => o.act.Run P n t h v u nw rt rh
  | some (d, want) => (∃ b, lget t d = .bool b ∧ ((b = want ∧ ∃ rt', rt = d :: rt' ∧ o.act.Run P n t h v u nw rt' rh) ∨ (b ≠ want ∧ Skip d v u nw rt rh))) ∨ (lget t d = .undef ∧ Skip d v u nw rt rh)
def LOper.wpL (P : Program) (n : Nat) (o : LOper) (t : List LVal) (h : LHeap) (K : LK) : Prop :=
  match o.guard with
  | none => o.act.wpL P n t h K
  | some (d, want) => getK t d fun x => match x with
    | .bool b => match want with
      | true => iteP b (o.act.wpL P n t h fun v u nw rt rh => K v u nw (d :: rt) rh) (K .undef [] none [d] [])
      | false => iteP b (K .undef [] none [d] []) (o.act.wpL P n t h fun v u nw rt rh => K v u nw (d :: rt) rh)
    | .undef => K .undef [] none [d] []
    | _ => False
theorem actL_run {P : Program} {n : Nat} {t : List LVal} {h : LHeap} {K : LK} {act : LAct} (hw : act.wpL P n t h K) : ∃ v u nw rt rh, act.Run P n t h v u nw rt rh ∧ K v u nw rt rh := by
  cases act with
  | op o => exact wpL_run _ hw
  | call f xs =>
    obtain ⟨vs, rt, h1, ⟨v, rh, h2, h3⟩ | ⟨v, u, rh, h2, h3⟩⟩ := argsLK_run xs hw
    · exact ⟨v, [], none, rt, rh, ⟨vs, h1, .inl ⟨h2, rfl⟩, rfl⟩, h3⟩
    · exact ⟨v, u, none, rt, rh, ⟨vs, h1, .inr h2, rfl⟩, h3⟩
  | callv x xs =>
    cases x with
    | const _ => exact hw.elim
    | tmp i =>
      simp only [LAct.wpL, getK_eq] at hw
      cases hl : lget t i <;> rw [hl] at hw <;> try exact hw.elim
      rename_i f c
      obtain ⟨vs, rt, h1, h4⟩ := argsLK_run xs hw
      rw [appVsK_eq] at h4
      obtain ⟨v, rh, h2, h3⟩ := h4
      exact ⟨v, [], none, i :: rt, rh, ⟨f, c, vs, rt, hl, rfl, h1, h2, rfl, rfl⟩, h3⟩
  | panic x => exact hw.elim
theorem operL_run {P : Program} {n : Nat} {t : List LVal} {h : LHeap} {K : LK} {o : LOper} (hw : o.wpL P n t h K) : ∃ v u nw rt rh, o.Run P n t h v u nw rt rh ∧ K v u nw rt rh := by
  unfold LOper.wpL at hw
  unfold LOper.Run
  split at hw
  · exact actL_run hw
  · rename_i d want hg
    rw [getK_eq] at hw
    have hskip : ∀ {b : Bool}, lget t d = .bool b → b ≠ want → K .undef [] none [d] [] → ∃ v u nw rt rh, ((∃ b, lget t d = .bool b ∧ ((b = want ∧ ∃ rt', rt = d :: rt' ∧ o.act.Run P n t h v u nw rt' rh) ∨ (b ≠ want ∧ Skip d v u nw rt rh))) ∨ (lget t d = .undef ∧ Skip d v u nw rt rh)) ∧ K v u nw rt rh := by
      intro b h1 h2 h3
      exact ⟨.undef, [], none, [d], [], .inl ⟨b, h1, .inr ⟨h2, rfl, rfl, rfl, rfl, rfl⟩⟩, h3⟩
    have hrun : ∀ {b : Bool}, lget t d = .bool b → b = want → (o.act.wpL P n t h fun v u nw rt rh => K v u nw (d :: rt) rh) → ∃ v u nw rt rh, ((∃ b, lget t d = .bool b ∧ ((b = want ∧ ∃ rt', rt = d :: rt' ∧ o.act.Run P n t h v u nw rt' rh) ∨ (b ≠ want ∧ Skip d v u nw rt rh))) ∨ (lget t d = .undef ∧ Skip d v u nw rt rh)) ∧ K v u nw rt rh := by
      intro b h1 h2 h3
      obtain ⟨v, u, nw, rt, rh, h4, h5⟩ := actL_run h3
      exact ⟨v, u, nw, d :: rt, rh, .inl ⟨b, h1, .inl ⟨h2, rt, rfl, h4⟩⟩, h5⟩
    cases hl : lget t d <;> rw [hl] at hw hskip hrun <;> try exact hw.elim
    · exact ⟨.undef, [], none, [d], [], .inr ⟨rfl, rfl, rfl, rfl, rfl, rfl⟩, hw⟩
    · rename_i b
      cases want
      · rcases iteP_elim hw with ⟨hb, h1⟩ | ⟨hb, h1⟩
        · exact hskip rfl (by rw [hb]; decide) h1
        · exact hrun rfl hb h1
      · rcases iteP_elim hw with ⟨hb, h1⟩ | ⟨hb, h1⟩
        · exact hrun rfl hb h1
        · exact hskip rfl (by rw [hb]; decide) h1
theorem act_local {P : Program} {n : Nat} {t t' : List LVal} {h h' : LHeap} {act : LAct} {v : LVal} {u : List (Nat × Option LObj)} {nw : Option LObj} {rt rh : List Nat} (hr : act.Run P n t h v u nw rt rh) (h1 : ∀ i ∈ rt, lget t' i = lget t i) (h2 : ∀ b ∈ rh, hget h' b = hget h b) : act.Run P n t' h' v u nw rt rh := by
  cases act with
  | op o => exact run_local _ hr h1 h2
  | call f xs =>
    obtain ⟨vs, e1, e2, e3⟩ := hr
    exact ⟨vs, args_local xs e1 h1, e2.imp (fun c => ⟨c.1.loc h2, c.2⟩) (fun c => c.loc h2), e3⟩
  | callv x xs =>
    cases x with
    | const _ => exact hr.elim
    | tmp i =>
      obtain ⟨f, c, vs, rt', e0, rfl, e1, e2, e3⟩ := hr
      exact ⟨f, c, vs, rt', by rw [h1 i (by simp)]; exact e0, rfl, args_local xs e1 (fun j hj => h1 j (by simp [hj])), e2.loc h2, e3⟩
  | panic x => exact hr.elim
theorem oper_local {P : Program} {n : Nat} {t t' : List LVal} {h h' : LHeap} {o : LOper} {v : LVal} {u : List (Nat × Option LObj)} {nw : Option LObj} {rt rh : List Nat} (hr : o.Run P n t h v u nw rt rh) (h1 : ∀ i ∈ rt, lget t' i = lget t i) (h2 : ∀ b ∈ rh, hget h' b = hget h b) : o.Run P n t' h' v u nw rt rh := by
  unfold LOper.Run at hr ⊢
  split
  · rename_i hg
    simp only [hg] at hr
    exact act_local hr h1 h2
  · rename_i d want hg
    simp only [hg] at hr
    rcases hr with ⟨b, e1, ⟨e2, rt', rfl, e3⟩ | ⟨e2, e3⟩⟩ | ⟨e1, e3⟩
    · exact .inl ⟨b, by rw [h1 d (by simp)]; exact e1, .inl ⟨e2, rt', rfl, act_local e3 (fun i hi => h1 i (by simp [hi])) h2⟩⟩
    · have := e3.2.2.2.1
      subst this
      exact .inl ⟨b, by rw [h1 d (by simp)]; exact e1, .inr ⟨e2, e3⟩⟩
    · have := e3.2.2.2.1
      subst this
      exact .inr ⟨by rw [h1 d (by simp)]; exact e1, e3⟩
/-- What an operation has read and turned. -/
structure DLog where
  i : Nat
  dst : Option Nat
  rt : List Nat
  rh : List Nat
  wh : List Nat
def memB (x : Nat) : List Nat → Bool
  | [] => false
  | y :: r => Nat.beq x y || memB x r
theorem memB_iff {x : Nat} {l : List Nat} : memB x l = true ↔ x ∈ l := by
  induction l with
  | nil => simp [memB]
  | cons y r ih => simp [memB, ih]
def disj : List Nat → List Nat → Bool
  | [], _ => true
  | x :: r, l => !(memB x l) && disj r l
theorem disj_iff {a b : List Nat} : disj a b = true ↔ ∀ x ∈ a, x ∉ b := by
  induction a with
  | nil => simp [disj]
  | cons x r ih =>
    simp only [disj, Bool.and_eq_true, Bool.not_eq_true', ih, List.mem_cons, forall_eq_or_imp]
    rw [← Bool.not_eq_true, memB_iff]
def dstL (d : Option Nat) : List Nat :=
  match d with
  | none => []
  | some d => [d]
def okPair (a b : DLog) : Bool := disj (dstL a.dst) b.rt && disj (dstL b.dst) a.rt && disj (dstL a.dst) (dstL b.dst) && disj a.wh b.rh && disj b.wh a.rh && disj a.wh b.wh
def chkLogs (un : List Nat) (l : DLog) : List DLog → Bool
  | [] => true
  | a :: r => (!(memB a.i un) || okPair a l) && chkLogs un l r
def fsts : List (Nat × Option LObj) → List Nat
  | [] => []
  | (i, _) :: r => i :: fsts r
def whOf (u : List (Nat × Option LObj)) (nw : Option LObj) (n : Nat) : List Nat :=
  match nw with
  | none => fsts u
  | some _ => n :: fsts u
def subB : List Nat → List Nat → Bool
  | [], _ => true
  | x :: r, l => memB x l && subB r l
theorem subB_spec {a b : List Nat} (h : subB a b = true) : ∀ x ∈ a, x ∈ b := by
  induction a with
  | nil => intro x hx; cases hx
  | cons y r ih =>
    simp only [subB, Bool.and_eq_true, memB_iff] at h
    intro x hx
    rcases List.mem_cons.1 hx with rfl | hx
    · exact h.1
    · exact ih h.2 x hx
noncomputable def dropsK (P : Program) (base : Nat) (l : List (Nat × List Nat × LOper)) : List LVal → LHeap → List DLog → (List LVal → LHeap → Prop) → Prop :=
  List.rec (motive := fun _ => List LVal → LHeap → List DLog → (List LVal → LHeap → Prop) → Prop) (fun t h _ K => K t h) (fun x _ ih t h logs K => natK (base + x.1) fun n => x.2.2.wpL P n t h fun v u nw rt rh =>
    match chkLogs x.2.1 ⟨x.1, x.2.2.dst, rt, rh, whOf u nw n⟩ logs && subB (fsts u) rh with
    | true => applyK h u n nw fun h' => setDst t x.2.2.dst v fun t' => ih t' h' (⟨x.1, x.2.2.dst, rt, rh, whOf u nw n⟩ :: logs) K
    | false => False) l
theorem dropsK_cons {P : Program} {base i : Nat} {un : List Nat} {o : LOper} {r : List (Nat × List Nat × LOper)} {t : List LVal} {h : LHeap} {logs : List DLog} {K : List LVal → LHeap → Prop} : dropsK P base ((i, un, o) :: r) t h logs K = natK (base + i) fun n => o.wpL P n t h fun v u nw rt rh =>
    match chkLogs un ⟨i, o.dst, rt, rh, whOf u nw n⟩ logs && subB (fsts u) rh with
    | true => applyK h u n nw fun h' => setDst t o.dst v fun t' => dropsK P base r t' h' (⟨i, o.dst, rt, rh, whOf u nw n⟩ :: logs) K
    | false => False := rfl
/-- An operation as it was done. -/
structure TRec where
  i : Nat
  un : List Nat
  o : LOper
  v : LVal
  u : List (Nat × Option LObj)
  nw : Option LObj
  rt : List Nat
  rh : List Nat
def TRec.log (base : Nat) (r : TRec) : DLog := ⟨r.i, r.o.dst, r.rt, r.rh, whOf r.u r.nw (base + r.i)⟩
def tset (t : List LVal) (d : Option Nat) (v : LVal) : List LVal :=
  match d with
  | none => t
  | some d => lset t d v
theorem setDst_eq (t : List LVal) (d : Option Nat) (v : LVal) (K : List LVal → Prop) : setDst t d v K = K (tset t d v) := by
  cases d <;> simp [setDst, tset, setK_eq]
def Valid (P : Program) (base : Nat) : List TRec → List LVal → LHeap → List LVal → LHeap → Prop
  | [], t, h, t', h' => t' = t ∧ h' = h
  | r :: τ, t, h, t', h' => r.o.Run P (base + r.i) t h r.v r.u r.nw r.rt r.rh ∧ Valid P base τ (tset t r.o.dst r.v) (applyU h r.u (base + r.i) r.nw) t' h'
theorem drops_trace {P : Program} {base : Nat} : ∀ (ops : List (Nat × List Nat × LOper)) {t : List LVal} {h : LHeap} {logs : List DLog} {K : List LVal → LHeap → Prop}, dropsK P base ops t h logs K →
    ∃ (τ : List TRec) (t' : List LVal) (h' : LHeap), τ.map (fun r => (r.i, r.un, r.o)) = ops ∧ Valid P base τ t h t' h' ∧ K t' h' ∧ τ.Pairwise (fun a b => a.i ∈ b.un → okPair (a.log base) (b.log base) = true) ∧ (∀ b ∈ τ, ∀ l ∈ logs, l.i ∈ b.un → okPair l (b.log base) = true) ∧ (∀ b ∈ τ, ∀ x ∈ fsts b.u, x ∈ b.rh)
  | [], t, h, logs, K, hw => ⟨[], t, h, rfl, ⟨rfl, rfl⟩, hw, List.Pairwise.nil, (fun b hb => by cases hb), (fun b hb => by cases hb)⟩
  | (i, un, o) :: r, t, h, logs, K, hw => by
    simp only [dropsK_cons, natK_eq] at hw
    obtain ⟨v, u, nw, rt, rh, h1, h2⟩ := operL_run hw
    split at h2
    · rename_i hc
      simp only [Bool.and_eq_true] at hc
      rw [applyK_eq, setDst_eq] at h2
      obtain ⟨τ, t', h', e1, e2, e3, e4, e5, e6⟩ := drops_trace r h2
      let R : TRec := ⟨i, un, o, v, u, nw, rt, rh⟩
      have hchk : ∀ (logs : List DLog), chkLogs un (R.log base) logs = true → ∀ l ∈ logs, l.i ∈ un → okPair l (R.log base) = true := by
        intro logs
        induction logs with
        | nil => intro _ l hl; cases hl
        | cons a q ih =>
          intro hq l hl hm
          simp only [chkLogs, Bool.and_eq_true, Bool.or_eq_true, Bool.not_eq_true'] at hq
          rcases List.mem_cons.1 hl with rfl | hl
          · rcases hq.1 with c | c
            · rw [← Bool.not_eq_true, memB_iff] at c; exact absurd hm c
            · exact c
          · exact ih hq.2 l hl hm
      refine ⟨R :: τ, t', h', by simp [R, e1], ⟨h1, e2⟩, e3, ?_, ?_, ?_⟩
      · refine List.Pairwise.cons (fun b hb hm => ?_) e4
        exact e5 b hb (R.log base) (by exact List.mem_cons_self) hm
      · intro b hb l hl hm
        rcases List.mem_cons.1 hb with rfl | hb
        · exact hchk logs hc.1 l hl hm
        · exact e5 b hb l (List.mem_cons_of_mem _ hl) hm
      · intro b hb x hx
        rcases List.mem_cons.1 hb with rfl | hb
        · exact subB_spec hc.2 x hx
        · exact e6 b hb x hx
    · exact h2.elim
end Go.Proofs.Ytilmfhpoiejmfaa.Lh

/- Code on the heap of the mind. Over any program. -/
namespace Go.Proofs.Ytilmfhpoiejmfaa.Lh
set_option linter.unusedSimpArgs false
set_option linter.unusedVariables false
set_option linter.unusedSectionVars false
open Go.RowKit
variable [Fz]
inductive LCode where
  | skip
  | region (ops : List LOper)
  | draws (ops : List (Nat × List Nat × LOper))
  | seq (a b : LCode)
  | cond (c : LOpd) (x y : LCode)
  | block (id : Nat) (b : LCode)
  | loop (b : LCode)
  | exit (id : Nat)
  | ret
inductive LExit where
  | normal
  | exit (id : Nat)
  | ret
  | panic (v : LVal)
def callK (P : Program) (f : FuncId) (vs : LVals) (h : LHeap) (K X : LVal → LHeap → Prop) : Prop :=
  LCalls P f vs h fun e h' => match e with
    | .ret v => K v h'
    | .panic v => X v h'
def roundK (P : Program) (l n : Nat) (tm : List Value) (us : LVals) (h : LHeap) (K X : LVal → LHeap → Prop) : Prop :=
  LRound P l n tm us h fun e h' => match e with
    | .ret v => K v h'
    | .panic v => X v h'
def lvsLen : LVals → Nat
  | .nil => 0
  | .cons _ r => lvsLen r + 1
def LAct.wp (P : Program) (t : List LVal) (h : LHeap) (K X : LVal → LHeap → Prop) : LAct → Prop
  | .op o => lenK h 0 fun n => (opRd n o).wp t h fun v u nw => applyK h u n nw fun h' => K v h'
  | .call f xs => argsK t xs fun vs => callK P f vs h K X
  | .callv x xs => opdK t x fun v => match v with
    | .func f c => argsK t xs fun vs => appVsK vs c fun us => callK P f us h K X
    | .yld l tm ts => argsK t xs fun vs => appVsK vs ts fun us => roundK P l (lvsLen vs) tm us h K X
    | _ => False
  | .panic x => opdK t x fun v => match v with
    | .iface t x => X (.iface t x) h
    | _ => False
def guardK (g : Option (Nat × Bool)) (t : List LVal) (run skip : Prop) : Prop :=
  match g with
  | none => run
  | some (d, want) => getK t d fun v => match v with
    | .bool b => match want with
      | true => iteP b run skip
      | false => iteP b skip run
    | .undef => skip
    | _ => False
def LOper.wp (P : Program) (Q : LExit → List LVal → LHeap → Prop) (o : LOper) (t : List LVal) (h : LHeap) (K : List LVal → LHeap → Prop) : Prop :=
  guardK o.guard t (o.act.wp P t h (fun v h' => setDst t o.dst v fun t' => K t' h') (fun v h' => Q (.panic v) t h')) (setDst t o.dst .undef fun t' => K t' h)
noncomputable def ropsK (P : Program) (Q : LExit → List LVal → LHeap → Prop) (l : List LOper) : List LVal → LHeap → Prop :=
  List.rec (motive := fun _ => List LVal → LHeap → Prop) (fun t h => Q .normal t h) (fun o _ ih t h => o.wp P Q t h ih) l
theorem ropsK_cons {P : Program} {Q : LExit → List LVal → LHeap → Prop} {o : LOper} {r : List LOper} {t : List LVal} {h : LHeap} : ropsK P Q (o :: r) t h = o.wp P Q t h (ropsK P Q r) := rfl
/-- Places below a bound alone. -/
def cutP (ρ : Pl) (k : Nat) : Pl := ⟨fun i => if i < k then ρ i else none, ρ.fz, ρ.tk⟩
theorem cutP_at (ρ : Pl) (k i : Nat) : cutP ρ k i = if i < k then ρ i else none := rfl
/-- Blocks that stand still from now on: the block, how many rows, how wide, what each holds. -/
abbrev Fzl := List (Nat × Nat × Nat × (Nat → Segs))
def fzGet : Fzl → Nat → Option (Nat × Nat × (Nat → Segs))
  | [], _ => none
  | (b, x) :: r, i => match Nat.beq b i with
    | true => some x
    | false => fzGet r i
def offs : Nat → Nat → Nat
  | 0, i => i
  | n + 1, i => n + 1 + i
theorem offs_eq (n i : Nat) : offs n i = n + i := by
  cases n with
  | zero => exact (Nat.zero_add i).symm
  | succ n => rfl
def isNilL : List (Nat × Nat × Nat) → Bool
  | [] => true
  | _ => false
mutual
/-- What stands for the one stands for the other, and names no block from k on. -/
def shV (k : Nat) (F : Fzl) : LVal → LVal → Prop
  | .undef, .undef => True
  | .undef, .any => True
  | .any, .any => True
  | .bool b, .bool c => b = c
  | .bool _, .any => True
  | .int j n, .int j' m => j = j' ∧ n = m
  | .int _ _, .any => True
  | .str s, .str s' => s = s'
  | .str _, .any => True
  | .nilp, .nilp => True
  | .nilp, .any => True
  | .ptr a, .ptr b => a = b ∧ a.blk < k
  | .ptr _, .any => True
  | .slice a st w len lo hi, .slice a' st' w' len' lo' hi' => (a = a' ∧ st = st' ∧ w = w' ∧ len = len' ∧ len' ≤ lo' ∧ lo' ≤ lo ∧ (hi' = none ∨ hi' = hi) ∧ a.blk < k) ∨ (len = 0 ∧ lo = 0 ∧ hi = some 0 ∧ len' = 0 ∧ lo' = 0)
  | .slice _ _ _ _ _ _, .any => True
  | .slice a st w len _ _, .rsl n' w' f' => (len = 0 ∧ n' = 0) ∨ (match fzGet F a.blk with
    | some x => isNilL a.path = true ∧ a.off = 0 ∧ w = w' ∧ x.2.1 = w ∧ len = n' ∧ st + len ≤ x.1 ∧ ∀ i, i < len → x.2.2 (offs st i) = f' i
    | none => False)
  | .nilf, .nilf => True
  | .nilf, .any => True
  | .func f c, .func f' c' => f = f' ∧ shVs k F c c'
  | .func _ _, .any => True
  | .nilI, .nilI => True
  | .nilI, .any => True
  | .iface t v, .iface t' v' => t = t' ∧ shV k F v v'
  | .iface _ _, .any => True
  | .agg s, .agg s' => shS k F s s'
  | .agg _, .any => True
  | .tup vs, .tup vs' => shVs k F vs vs'
  | .tup _, .any => True
  | .rsl n w f, .rsl n' w' f' => n = n' ∧ w = w' ∧ ∀ i, i < n → shS k F (f i) (f' i)
  | .rsl _ _ _, .any => True
  | .rptr s, .rptr s' => shS k F s s'
  | .rptr _, .any => True
  | .tok k, .tok k' => k = k'
  | .tok _, .any => True
  | .gl k, .gl k' => k = k'
  | .gl _, .any => True
  | .yld l tm ts, .yld l' tm' ts' => l = l' ∧ tm = tm' ∧ shVs k F ts ts'
  | .yld _ _ _, .any => True
  | _, _ => False
def shVs (k : Nat) (F : Fzl) : LVals → LVals → Prop
  | .nil, .nil => True
  | .cons v r, .cons v' r' => shV k F v v' ∧ shVs k F r r'
  | _, _ => False
def shS (k : Nat) (F : Fzl) : Segs → Segs → Prop
  | .nil, .nil => True
  | .one v r, .one v' r' => shV k F v v' ∧ shS k F r r'
  | .rows n w f r, .rows n' w' f' r' => n = n' ∧ w = w' ∧ (∀ i, i < n → shS k F (f i) (f' i)) ∧ shS k F r r'
  | .res A, .res B => A = B
  | _, _ => False
end
/-- The same of temporaries; the one's blocks bear other numbers. -/
def shT (F : Fzl) (g : Nat → Nat) : List LVal → List LVal → Prop
  | [], [] => True
  | v :: r, v' :: r' => shV 1000000 F v (ren g v') ∧ shT F g r r'
  | _, _ => False
def emptyS : Segs → Prop
  | .nil => True
  | .one _ _ => False
  | .rows n _ _ r => n = 0 ∧ emptyS r
  | .res _ => False
/-- Rows, the last ones forgotten. -/
def shTop (F : Fzl) : Segs → Segs → Prop
  | .rows n w f .nil, .rows n' w' f' .nil => n' ≤ n ∧ w = w' ∧ ∀ i, i < n' → shS 1000000 F (f i) (f' i)
  | _, _ => False
/-- The same of blocks: each one's old number stands in the list. -/
def shH (F : Fzl) (g : Nat → Nat) (h : LHeap) : List Nat → LHeap → Prop
  | [], [] => True
  | e :: er, o' :: r' => (match o' with
    | none => True
    | some o' => match hget h e with
      | some o => o.ty = o'.ty ∧ (o.more = true → o'.more = true) ∧ o.ro = o'.ro ∧ (shS 1000000 F o.segs (renS g o'.segs) ∨ (o'.more = true ∧ shTop F o.segs (renS g o'.segs)))
      | none => h.length ≤ e ∧ emptyS o'.segs) ∧ shH F g h er r'
  | _, _ => False
/-- The first ones keep their numbers. -/
def idl : Nat → Nat → List Nat → Bool
  | 0, _, _ => true
  | _ + 1, _, [] => false
  | L + 1, i, e :: r => Nat.beq e i && idl L (i + 1) r
theorem idl_spec : ∀ (L k : Nat) (l : List Nat), idl L k l = true → ∀ i, i < L → l[i]? = some (k + i)
  | 0, _, _, _, i, hi => by omega
  | L + 1, k, [], h, i, hi => by simp [idl] at h
  | L + 1, k, e :: r, h, i, hi => by
    simp only [idl, Bool.and_eq_true] at h
    have h1 := Nat.eq_of_beq_eq_true h.1
    cases i with
    | zero => simp [h1]
    | succ i =>
      have := idl_spec L (k + 1) r h.2 i (by omega)
      simp only [List.getElem?_cons_succ, this]
      congr 1; omega
theorem cutP0 (ρ : Pl) (k : Nat) : cutP ρ.clo k = ρ.clo := by
  unfold cutP Pl.clo
  congr 1
  funext i
  exact ite_self _
theorem cut0 (ρ : Pl) : Ext (cutP ρ 0) ρ.clo := ⟨fun b x h => (by rw [cutP_at, if_neg (Nat.not_lt_zero b)] at h; cases h), .refl _⟩
theorem clo_clo (ρ : Pl) : ρ.clo.clo = ρ.clo := rfl
theorem clo_cut (ρ : Pl) (k : Nat) : (cutP ρ k).clo = ρ.clo := rfl
/-- The blocks that stand still do. -/
def FzOK (ρ : Pl) (F : Fzl) : Prop := ∀ b x, fzGet F b = some x → ∀ g bs c, ρ b = some (g, bs, c) → ∃ l, Frz ρ g bs l ∧ l.length = x.1 * x.2.1 ∧ ∀ i, i < x.1 → PS ρ.clo (x.2.2 i) ((l.drop (i * x.2.1)).take x.2.1)
theorem FzOK.nil (ρ : Pl) : FzOK ρ [] := fun b x h => by cases h
theorem FzOK.clo {ρ : Pl} {F : Fzl} : FzOK ρ.clo F := fun b x _ g bs c h => by cases h
mutual
theorem shV_spec {k : Nat} {F : Fzl} {ρ : Pl} (hF : FzOK ρ F) : ∀ (v v' : LVal) (x : Value), shV k F v v' → PV ρ v x → PV (cutP ρ k) v' x
  | .undef, v', x, hs, hv => by cases v' <;> first | exact hs.elim | exact hv | exact trivial
  | .any, v', x, hs, hv => by cases v' <;> first | exact hs.elim | exact trivial
  | .bool _, v', x, hs, hv => by
    cases v' <;> try exact hs.elim
    · exact trivial
    · have hs : _ = _ := hs
      subst hs; exact hv
  | .int _ _, v', x, hs, hv => by
    cases v' <;> try exact hs.elim
    · exact trivial
    · obtain ⟨rfl, rfl⟩ := hs
      exact hv
  | .str _, v', x, hs, hv => by
    cases v' <;> try exact hs.elim
    · exact trivial
    · have hs : _ = _ := hs
      subst hs; exact hv
  | .nilp, v', x, hs, hv => by cases v' <;> first | exact hs.elim | exact hv | exact trivial
  | .ptr a, v', x, hs, hv => by
    cases v' <;> try exact hs.elim
    · exact trivial
    · obtain ⟨rfl, h1⟩ := hs
      obtain ⟨g, b, n, h2, h3⟩ := hv
      exact ⟨g, b, n, by rw [cutP_at, if_pos h1]; exact h2, h3⟩
  | .slice a st w len lo hi, v', x, hs, hv => by
    cases v' <;> try exact hs.elim
    · exact trivial
    · obtain ⟨p, cap, h1, h2⟩ := hv
      rcases hs with ⟨rfl, rfl, rfl, rfl, e1, e2, e3, e4⟩ | ⟨rfl, rfl, rfl, rfl, rfl⟩
      · refine ⟨p, cap, h1, ?_⟩
        rcases h2 with ⟨c1, c2, c3⟩ | ⟨g, b, n, c1, c2, c3, c4, c5, c6⟩
        · exact .inl ⟨c1, by omega, c3⟩
        · refine .inr ⟨g, b, n, by rw [cutP_at, if_pos e4]; exact c1, c2, e1, by omega, fun z hz => ?_, c6⟩
          rcases e3 with rfl | rfl
          · cases hz
          · exact c5 z hz
      · refine ⟨p, cap, h1, .inl ⟨rfl, rfl, ?_⟩⟩
        rcases h2 with ⟨_, _, c3⟩ | ⟨g, b, n, c1, c2, c3, c4, c5, c6⟩
        · exact c3
        · have := c5 0 rfl; omega
    · obtain ⟨p, cap, h1, h2⟩ := hv
      rcases hs with ⟨rfl, rfl⟩ | hs
      · exact ⟨p, cap, h1, Nat.zero_le _, .inl rfl⟩
      · split at hs
        · rename_i y hy
          obtain ⟨e1, e2, rfl, e4, rfl, e6, e7⟩ := hs
          rcases h2 with ⟨c1, c2, c3⟩ | ⟨g, b, n, c1, c2, c3, c4, c5, c6⟩
          · exact ⟨p, cap, h1, by omega, .inl c1⟩
          · obtain ⟨l, d1, d2, d3⟩ := hF _ _ hy _ _ _ c1
            have ecell : a.cell = 0 := by
              unfold LAddr.cell
              rw [e2]
              cases hp : a.path with
              | nil => rfl
              | cons z r => rw [hp] at e1; cases e1
            rw [e4] at d2 d3
            have hmul : (st + len) * w ≤ y.1 * w := Nat.mul_le_mul_right _ e6
            rw [Nat.add_mul] at hmul
            refine ⟨p, cap, h1, by omega, .inr ⟨g, _, _, by rw [c2, ecell, Nat.zero_add], d1.sub (st * w) (len * w) (by omega), ?_, fun i hi => ?_⟩⟩
            · rw [List.length_take, List.length_drop]; omega
            · rw [← e7 i hi, offs_eq]
              have hi2 : i * w + w ≤ len * w := mul_lt w hi
              have e9 : (st + i) * w = st * w + i * w := Nat.add_mul _ _ _
              have hx := d3 (st + i) (by omega)
              rw [clo_cut, List.drop_take, List.drop_drop, List.take_take, Nat.min_eq_left (by omega), ← e9]
              exact hx
        · exact hs.elim
  | .nilf, v', x, hs, hv => by cases v' <;> first | exact hs.elim | exact hv | exact trivial
  | .func f c, v', x, hs, hv => by
    cases v' <;> try exact hs.elim
    · exact trivial
    · obtain ⟨rfl, h1⟩ := hs
      obtain ⟨l, h2, h3⟩ := hv
      exact ⟨l, shVs_spec hF c _ l h1 h2, h3⟩
  | .nilI, v', x, hs, hv => by cases v' <;> first | exact hs.elim | exact hv | exact trivial
  | .iface t v, v', x, hs, hv => by
    cases v' <;> try exact hs.elim
    · exact trivial
    · obtain ⟨rfl, h1⟩ := hs
      obtain ⟨y, h2, h3⟩ := hv
      exact ⟨y, shV_spec hF v _ y h1 h2, h3⟩
  | .agg s, v', x, hs, hv => by
    cases v' <;> try exact hs.elim
    · exact trivial
    · obtain ⟨l, h2, h3⟩ := hv
      exact ⟨l, shS_spec hF s _ l hs h2, h3⟩
  | .tup vs, v', x, hs, hv => by
    cases v' <;> try exact hs.elim
    · exact trivial
    · obtain ⟨l, h2, h3⟩ := hv
      exact ⟨l, shVs_spec hF vs _ l hs h2, h3⟩
  | .rsl n w f, v', x, hs, hv => by
    cases v' <;> try exact hs.elim
    · exact trivial
    · obtain ⟨rfl, rfl, h1⟩ := hs
      obtain ⟨p, cap, h2, h3, h4⟩ := hv
      refine ⟨p, cap, h2, h3, h4.imp id fun ⟨g, off, l, h5, h6, h7, h8⟩ => ⟨g, off, l, h5, h6, h7, fun i hi => ?_⟩⟩
      have := shS_spec (ρ := ρ.clo) .clo (f i) _ _ (h1 i hi) (h8 i hi)
      rw [cutP0] at this
      exact this
  | .rptr s, v', x, hs, hv => by
    cases v' <;> try exact hs.elim
    · exact trivial
    · obtain ⟨g, off, l, h5, h6, h7⟩ := hv
      refine ⟨g, off, l, h5, h6, ?_⟩
      have := shS_spec (ρ := ρ.clo) .clo s _ _ hs h7
      rw [cutP0] at this
      exact this
  | .tok _, v', x, hs, hv => by
    cases v' <;> try exact hs.elim
    · exact trivial
    · have hs : _ = _ := hs
      subst hs; exact hv
  | .gl _, v', x, hs, hv => by
    cases v' <;> try exact hs.elim
    · exact trivial
    · have hs : _ = _ := hs
      subst hs; exact hv
  | .yld _ _ ts, v', x, hs, hv => by
    cases v' <;> try exact hs.elim
    · exact trivial
    · obtain ⟨rfl, rfl, h3⟩ := hs
      exact ⟨hv.1, shVs_spec hF _ _ _ h3 hv.2⟩
theorem shVs_spec {k : Nat} {F : Fzl} {ρ : Pl} (hF : FzOK ρ F) : ∀ (v v' : LVals) (l : List Value), shVs k F v v' → PVs ρ v l → PVs (cutP ρ k) v' l
  | .nil, v', l, hs, hv => by cases v' <;> first | exact hs.elim | exact hv
  | .cons v r, v', l, hs, hv => by
    cases v' <;> try exact hs.elim
    obtain ⟨x, l', h1, h2, h3⟩ := hv
    exact ⟨x, l', h1, shV_spec hF v _ x hs.1 h2, shVs_spec hF r _ l' hs.2 h3⟩
theorem shS_spec {k : Nat} {F : Fzl} {ρ : Pl} (hF : FzOK ρ F) : ∀ (v v' : Segs) (l : List Value), shS k F v v' → PS ρ v l → PS (cutP ρ k) v' l
  | .nil, v', l, hs, hv => by cases v' <;> first | exact hs.elim | exact hv
  | .one v r, v', l, hs, hv => by
    cases v' <;> try exact hs.elim
    obtain ⟨x, l', h1, h2, h3, h4⟩ := hv
    exact ⟨x, l', h1, shV_spec hF v _ x hs.1 h2, h3, shS_spec hF r _ l' hs.2 h4⟩
  | .rows n w f r, v', l, hs, hv => by
    cases v' <;> try exact hs.elim
    obtain ⟨rfl, rfl, h5, h6⟩ := hs
    obtain ⟨ls, l', h1, h2, h3, h4⟩ := hv
    exact ⟨ls, l', h1, h2, fun i hi => (h3 i hi).elim fun y hy => ⟨y, hy.1, hy.2.1, shS_spec hF (f i) _ y (h5 i hi) hy.2.2⟩, shS_spec hF r _ l' h6 h4⟩
  | .res _, v', l, hs, hv => False.elim hv
end
theorem emptyS_spec {ρ : Pl} : ∀ (s : Segs), emptyS s → PS ρ s []
  | .nil, _ => rfl
  | .one _ _, h => h.elim
  | .rows n w f r, h => by
    obtain ⟨rfl, h2⟩ := h
    exact ⟨[], [], rfl, rfl, fun i hi => by omega, emptyS_spec r h2⟩
theorem shT_spec {F : Fzl} {g : Nat → Nat} {ρ ρ' : Pl} (hF : FzOK ρ F) (e : UnrE g ρ' (cutP ρ 1000000)) : ∀ (t t' : List LVal), shT F g t t' → t.length = t'.length ∧ ∀ i x, PV ρ (lget t i) x → PV ρ' (lget t' i) x
  | [], [], _ => ⟨rfl, fun i x h => h⟩
  | [], _ :: _, h => h.elim
  | _ :: _, [], h => h.elim
  | v :: r, v' :: r', h => by
    obtain ⟨h1, h2⟩ := shT_spec hF e r r' h.2
    refine ⟨by simp [h1], fun i x hx => ?_⟩
    cases i with
    | zero => exact PV.unren e v' x (shV_spec hF v _ x h.1 hx)
    | succ i => exact h2 i x hx
theorem shH_spec {F : Fzl} {g : Nat → Nat} {h : LHeap} : ∀ (gl : List Nat) (h' : LHeap), shH F g h gl h' → gl.length = h'.length ∧ ∀ i o', hget h' i = some o' → ∃ e, gl[i]? = some e ∧ ((∃ o, hget h e = some o ∧ o.ty = o'.ty ∧ (o.more = true → o'.more = true) ∧ o.ro = o'.ro ∧ (shS 1000000 F o.segs (renS g o'.segs) ∨ (o'.more = true ∧ shTop F o.segs (renS g o'.segs)))) ∨ (h.length ≤ e ∧ emptyS o'.segs))
  | [], [], _ => ⟨rfl, fun i o h => by simp [hget] at h⟩
  | [], _ :: _, h => h.elim
  | _ :: _, [], h => h.elim
  | e :: er, x :: r, hs => by
    obtain ⟨h1, h2⟩ := shH_spec er r hs.2
    refine ⟨by simp [h1], fun i ob hi => ?_⟩
    cases i with
    | zero =>
      simp only [hget] at hi
      subst hi
      have h3 := hs.1
      refine ⟨e, rfl, ?_⟩
      simp only at h3
      cases hg : hget h e with
      | none => rw [hg] at h3; exact .inr h3
      | some o => rw [hg] at h3; exact .inl ⟨o, rfl, h3⟩
    | succ i =>
      obtain ⟨x, h3, h4⟩ := h2 i ob hi
      exact ⟨x, by simpa using h3, h4⟩
theorem shTop_spec {F : Fzl} {ρ : Pl} (hF : FzOK ρ F) : ∀ (s s' : Segs) (l : List Value), shTop F s s' → PS ρ s l → ∃ l1 l2, l = l1 ++ l2 ∧ PS (cutP ρ 1000000) s' l1 := by
  intro s s' l hs hl
  cases s with
  | nil => exact hs.elim
  | res A => exact hs.elim
  | one v r => exact hs.elim
  | rows n w f r =>
    cases r <;> try exact hs.elim
    cases s' <;> try exact hs.elim
    rename_i n' w' f' r'
    cases r' <;> try exact hs.elim
    obtain ⟨h1, rfl, h2⟩ := hs
    obtain ⟨d1, d2, rfl, hd, _⟩ := rows_chunks hl
    have h3 := chunks_sub (st := 0) (m := n') hd (by omega)
    simp only [Nat.zero_mul, List.drop_zero, Nat.zero_add] at h3
    refine ⟨d1.take (n' * w), d1.drop (n' * w) ++ d2, by rw [← List.append_assoc, List.take_append_drop], ?_⟩
    exact shS_spec hF (.rows n' w f .nil) (.rows n' w f' .nil) _ ⟨rfl, rfl, h2, trivial⟩ (chunks_rows h3)
/-- The places, by the new numbers. -/
def newP (ρ : Pl) (gl : List Nat) : Pl := ⟨fun i => if i < gl.length then ρ (embF gl 1000000 i) else none, ρ.fz, ρ.tk⟩
theorem newP_at (ρ : Pl) (gl : List Nat) (i : Nat) : newP ρ gl i = if i < gl.length then ρ (embF gl 1000000 i) else none := rfl
theorem newP_cut {ρ : Pl} {gl : List Nat} : UnrE (embF gl 1000000) (newP ρ gl) (cutP ρ 1000000) := by
  refine ⟨fun b x h => ?_, .refl _⟩
  rw [cutP_at] at h
  rw [newP_at]
  split at h
  · rename_i hlt
    have hb : b < gl.length := by
      rcases Nat.lt_or_ge b gl.length with c | c
      · exact c
      · rw [embF_ge gl _ b c] at hlt; omega
    rw [if_pos hb]
    exact h
  · cases h
theorem shS_res {k : Nat} {F : Fzl} {g : Nat → Nat} {s s' : Segs} {A : Asn} (h : shS k F s (renS g s')) (hA : s = .res A) : s' = .res A := by
  subst hA
  cases s' with
  | res B => have h : A = B := h; rw [h]
  | nil => exact h.elim
  | one v r => exact h.elim
  | rows n w f r => exact h.elim
theorem shS_res' {k : Nat} {F : Fzl} {g : Nat → Nat} {s : Segs} {A : Asn} (h : shS k F s (renS g (.res A))) : s = .res A := by
  cases s with
  | res B => have h : B = A := h; rw [h]
  | nil => exact h.elim
  | one v r => exact h.elim
  | rows n w f r => exact h.elim
theorem shTop_res {F : Fzl} {g : Nat → Nat} {s : Segs} {A : Asn} (h : shTop F s (renS g (.res A))) : False := by
  cases s with
  | res B => exact h
  | nil => exact h
  | one v r => exact h
  | rows n w f r => cases r <;> exact h
theorem hset_len (h : LHeap) (n : Nat) (o : Option LObj) (hn : n < h.length) : (hset h n o).length = h.length := by
  induction h generalizing n with
  | nil => simp at hn
  | cons x r ih =>
    cases n with
    | zero => rfl
    | succ n => simp only [hset, List.length_cons, ih n (by simpa using hn)]
theorem Sim.sh {T : Nat → Nat → Prop} {w0 : World} {ρ : Pl} {h h' : LHeap} {w : World} {F : Fzl} {gl : List Nat} (s : Sim T w0 ρ h w) (hF : FzOK ρ F) (hf : ∀ i, h.length ≤ i → ρ i = none) (hap : Lh.apart 1000000 gl = true) (hs : shH F (embF gl 1000000) h gl h') : Sim T w0 (newP ρ gl) h' w := by
  obtain ⟨hlen, hsp⟩ := shH_spec gl h' hs
  have cut : ∀ i x, newP ρ gl i = some x → ρ (embF gl 1000000 i) = some x := by
    intro i x hx
    rw [newP_at] at hx
    split at hx
    · exact hx
    · cases hx
  have at_ : ∀ i e, gl[i]? = some e → newP ρ gl i = ρ e := by
    intro i e he
    have hi : i < gl.length := (List.getElem?_eq_some_iff.1 he).1
    obtain ⟨e', h1, h2⟩ := embF_lt gl 1000000 i hi
    rw [he] at h1
    cases h1
    rw [newP_at]
    rw [if_pos hi, h2]
  have live : ∀ i o', hget h' i = some o' → ∀ x, newP ρ gl i = some x → ∃ e o, gl[i]? = some e ∧ hget h e = some o ∧ ρ e = some x ∧ o.ro = o'.ro := by
    intro i o' hi x hx
    obtain ⟨e, he, ⟨o, h1, _, _, h5, _⟩ | ⟨h1, _⟩⟩ := hsp i o' hi
    · exact ⟨e, o, he, h1, by rw [← at_ i e he]; exact hx, h5⟩
    · rw [at_ i e he, hf e h1] at hx; cases hx
  have rsc : ∀ i o' A, hget h' i = some o' → o'.segs = .res A → ∃ e o, gl[i]? = some e ∧ hget h e = some o ∧ o.segs = .res A := by
    intro i o' A hi hA
    obtain ⟨e, he, ⟨o, h1, _, _, _, h4⟩ | ⟨_, h2⟩⟩ := hsp i o' hi
    · refine ⟨e, o, he, h1, ?_⟩
      rcases h4 with h4 | ⟨_, h4⟩
      · rw [hA] at h4; exact shS_res' h4
      · rw [hA] at h4; exact (shTop_res h4).elim
    · rw [hA] at h2; exact h2.elim
  refine ⟨?_, ?_, fun i g b n hp => s.lt _ g b n (cut i _ hp), s.os, s.tape, s.output, s.size, s.kept, s.new, s.apart, s.fz, s.fzT, ?_, s.glob, s.tks, ?_⟩
  · intro i o' hi
    obtain ⟨e, he, ⟨o, h1, h2, h3, h5, h4⟩ | ⟨h1, h2⟩⟩ := hsp i o' hi
    · rcases s.obj e o h1 with ⟨g, b, n, ob, p1, p2, p3, p4⟩ | ⟨p1, p2⟩
      · obtain ⟨pre, l, ex, fr, q1, q2, q3, q4⟩ := p3
        rcases h4 with h4 | ⟨hmore, h4⟩
        · refine .inl ⟨g, b, n, ob, by rw [at_ i e he]; exact p1, p2, ⟨pre, l, ex, fr, by rw [q1, h2], PS.unren newP_cut _ _ (shS_spec hF _ _ _ h4 q2), fun hm => q3 ?_, by rw [← h5]; exact q4⟩, by rw [← h5]; exact p4⟩
          cases hom : o.more with
          | false => rfl
          | true => rw [h3 hom] at hm; cases hm
        · obtain ⟨l1, l2, rfl, h6⟩ := shTop_spec hF _ _ _ h4 q2
          exact .inl ⟨g, b, n, ob, by rw [at_ i e he]; exact p1, p2, ⟨pre, l1, l2 ++ ex, fr, by rw [q1, h2]; simp, PS.unren newP_cut _ _ h6, fun hm => (by rw [hmore] at hm; cases hm), q4.1, by rw [q4.2.1]; simp, by rw [← h5]; simpa using q4.2.2⟩, by rw [← h5]; exact p4⟩
      · rcases h4 with h4 | ⟨hmore, h4⟩
        · refine .inr ⟨by rw [at_ i e he]; exact p1, ?_⟩
          rcases p2 with p2 | ⟨hr, A, hA⟩
          · exact .inl (PS.unren newP_cut _ _ (shS_spec hF _ _ _ h4 p2))
          · exact .inr ⟨h5 ▸ hr, A, shS_res h4 hA⟩
        · rcases p2 with p2 | ⟨_, A, hA⟩
          · obtain ⟨l1, l2, h7, h6⟩ := shTop_spec hF _ _ _ h4 p2
            have : l1 = [] := (List.append_eq_nil_iff.1 h7.symm).1
            subst this
            exact .inr ⟨by rw [at_ i e he]; exact p1, .inl (PS.unren newP_cut _ _ h6)⟩
          · rw [hA] at h4; exact h4.elim
    · exact .inr ⟨by rw [at_ i e he]; exact hf e h1, .inl (emptyS_spec _ h2)⟩
  · intro i j oi oj g b n b' m hi hj p1 p2 hTg
    obtain ⟨a1, o1, c1, e1, f1, _⟩ := live i oi hi _ p1
    obtain ⟨a2, o2, c2, e2, f2, _⟩ := live j oj hj _ p2
    have := s.inj a1 a2 o1 o2 g b n b' m e1 e2 f1 f2 hTg
    subst this
    exact (apart_spec gl hap).2 i j a1 c1 c2
  · intro i o' g b n hi hr hp
    obtain ⟨e, o, c1, e1, f1, f2⟩ := live i o' hi _ hp
    exact s.nofz e o g b n e1 (f2.trans hr) f1
  · obtain ⟨Fs, r⟩ := s.res
    have hgl : ∀ (i e x : Nat), gl[i]? = some e → ((∃ e', gl[i]? = some e' ∧ Fs e' x) ↔ Fs e x) := fun i e x he => ⟨fun z => z.elim fun e' q => (by have h1 := q.1; rw [he] at h1; cases h1; exact q.2), fun h => ⟨e, he, h⟩⟩
    refine ⟨fun i x => ∃ e, gl[i]? = some e ∧ Fs e x, ?_, ?_, ?_, ?_⟩
    · intro i o' A hi hA
      obtain ⟨e, o, c1, c2, c3⟩ := rsc i o' A hi hA
      have : (fun x => ∃ e, gl[i]? = some e ∧ Fs e x) = Fs e := funext fun x => propext (hgl i e x c1)
      rw [this]
      exact A.ext (ρ := ρ) (.refl _) (r.holds e o A c2 c3)
    · rintro i o' A k hi hA ⟨e', h1, h2⟩
      obtain ⟨e, o, c1, c2, c3⟩ := rsc i o' A hi hA
      rw [c1] at h1; rw [← Option.some.inj h1] at h2
      exact r.mine e o A k c2 c3 h2
    · rintro i j oi oj A B k hi hA hj hB ⟨e', h1, h2⟩ ⟨d', h3, h4⟩
      obtain ⟨e, o, c1, c2, c3⟩ := rsc i oi A hi hA
      obtain ⟨d, p, d1, d2, d3⟩ := rsc j oj B hj hB
      rw [c1] at h1; rw [← Option.some.inj h1] at h2
      rw [d1] at h3; rw [← Option.some.inj h3] at h4
      have := r.apart e d o p A B k c2 c3 d2 d3 h2 h4
      subst this
      exact (apart_spec gl hap).2 i j e c1 d1
    · rintro i j oi oj A g b n hi hA hj hp ⟨e', h1, h2⟩
      obtain ⟨e, o, c1, c2, c3⟩ := rsc i oi A hi hA
      rw [c1] at h1; rw [← Option.some.inj h1] at h2
      obtain ⟨d, p, d1, d2, d3, _⟩ := live j oj hj _ hp
      exact r.off e d o p A g b n c2 c3 d2 d3 h2
/-- One block after the other stands still. -/
def frzOK (h : LHeap) : Fzl → Fzl → Prop
  | _, [] => True
  | done, (b, x) :: r => (match hget h b with
    | some o => o.ro = false ∧ (match o.segs with
      | .rows m w0 f0 _ => x.1 ≤ m ∧ x.2.1 = w0 ∧ ∀ i, i < x.1 → shS 0 done (f0 i) (x.2.2 i)
      | _ => False)
    | none => False) ∧ fzGet done b = none ∧ frzOK h ((b, x) :: done) r
def frzAll : Fzl → Fzl → Fzl
  | done, [] => done
  | done, x :: r => frzAll (x :: done) r
def killF : LHeap → Fzl → LHeap
  | h, [] => h
  | h, (b, _) :: r => killF (hset h b none) r
theorem FzOK.ext {ρ ρ' : Pl} {F : Fzl} (e : ExtR ρ ρ') (ha : ρ'.at_ = ρ.at_) (h : FzOK ρ F) : FzOK ρ' F := by
  intro b x hb g bs c hp
  rw [ha] at hp
  obtain ⟨l, h1, h2, h3⟩ := h b x hb g bs c hp
  exact ⟨l, h1.ext e, h2, fun i hi => PS.ext (Ext.clo e) _ _ (h3 i hi)⟩
theorem Sim.frz {T : Nat → Nat → Prop} {w0 : World} {h0 : LHeap} {w : World} : ∀ (F done : Fzl) (h : LHeap) (ρ : Pl), frzOK h0 done F → (∀ b, fzGet done b = none → hget h b = hget h0 b) → FzOK ρ done → Sim T w0 ρ h w → h.length = h0.length →
    ∃ ρ', Sim T w0 ρ' (killF h F) w ∧ Ext ρ ρ' ∧ ρ'.at_ = ρ.at_ ∧ FzOK ρ' (frzAll done F) ∧ (killF h F).length = h0.length
  | [], done, h, ρ, _, _, hF, hs, hl => ⟨ρ, hs, Ext.refl ρ, rfl, hF, hl⟩
  | (b, n, w1, f) :: r, done, h, ρ, hok, hh, hF, hs, hl => by
    obtain ⟨h1, h2, h3⟩ := hok
    cases hg : hget h0 b with
    | none => rw [hg] at h1; exact h1.elim
    | some o =>
      rw [hg] at h1
      obtain ⟨hro, h1⟩ := h1
      have hgb : hget h b = some o := (hh b h2).trans hg
      have hbl : b < h.length := by
        rcases Nat.lt_or_ge b h.length with c | c
        · exact c
        · rw [hget_out h b c] at hgb; cases hgb
      have hlen : (hset h b none).length = h0.length := by rw [hset_len _ _ _ hbl]; exact hl
      have hh' : ∀ b', fzGet ((b, n, w1, f) :: done) b' = none → hget (hset h b none) b' = hget h0 b' := by
        intro b' hb'
        unfold fzGet at hb'
        split at hb'
        · cases hb'
        · rename_i hne
          rw [hget_hset, if_neg (by intro c; subst c; simp at hne)]
          exact hh b' hb'
      rcases hs.obj b o hgb with ⟨g, bs, c, ob, p1, p2, p3, p4⟩ | ⟨p1, _⟩
      · obtain ⟨s1, s2, _⟩ := hs.still hro hgb p1 p2
        have hF' : FzOK (ρ.still g ob) ((b, n, w1, f) :: done) := by
          intro b' x hb' g' bs' c' hp'
          unfold fzGet at hb'
          split at hb'
          · rename_i he
            have he := Nat.eq_of_beq_eq_true he
            subst he
            cases hb'
            have hp' : ρ b = some (g', bs', c') := hp'
            rw [p1] at hp'
            cases hp'
            obtain ⟨pre, l, ex, fr, rfl, q2, q3, q4, q5⟩ := p3
            cases hsg : o.segs with
            | nil => rw [hsg] at h1; exact h1.elim
            | one v r => rw [hsg] at h1; exact h1.elim
            | res A => rw [hsg] at h1; exact h1.elim
            | rows m w0' f0 rr =>
              rw [hsg] at h1 q2
              obtain ⟨h4, h5, h6⟩ := h1
              have h5 : w1 = w0' := h5
              have h4 : n ≤ m := h4
              subst h5
              obtain ⟨d1, d2, rfl, hd, _⟩ := rows_chunks q2
              have hmul : n * w1 ≤ m * w1 := Nat.mul_le_mul_right _ h4
              have hd1 := hd.1
              refine ⟨d1.take (n * w1), ⟨(pre ++ (d1 ++ d2) ++ ex).toArray, o.ty, fr, ?_, ?_, d1.drop (n * w1) ++ d2 ++ ex, ?_⟩, ?_, fun i hi => ?_⟩
              · show (if g = g then some _ else ρ.fz g) = some _
                rw [if_pos rfl]
              · simp only [List.size_toArray, List.length_append]; omega
              · rw [show (pre ++ (d1 ++ d2) ++ ex).toArray.toList = pre ++ (d1 ++ d2 ++ ex) by simp, ← q4, List.drop_left, ← List.append_assoc, ← List.append_assoc, List.take_append_drop]
              · show (d1.take (n * w1)).length = n * w1
                rw [List.length_take]; omega
              · have hi : i < n := hi
                have hi2 : i * w1 + w1 ≤ n * w1 := mul_lt w1 hi
                have h7 := hd.2 i (by omega)
                have h8 := shS_spec (hF.ext s2.r rfl) (f0 i) (f i) _ (h6 i hi) (PS.ext s2 _ _ h7)
                have h9 := PS.ext (cut0 _) _ _ h8
                show PS _ (f i) (((d1.take (n * w1)).drop (i * w1)).take w1)
                rw [List.drop_take, List.take_take, Nat.min_eq_left (by omega)]
                exact h9
          · exact hF.ext s2.r rfl b' x hb' g' bs' c' hp'
        obtain ⟨ρ', r1, r2, r3, r4, r5⟩ := Sim.frz r ((b, n, w1, f) :: done) (hset h b none) (ρ.still g ob) h3 hh' hF' s1 hlen
        exact ⟨ρ', r1, s2.trans r2, r3, r4, r5⟩
      · have hF' : FzOK ρ ((b, n, w1, f) :: done) := by
          intro b' x hb' g' bs' c' hp'
          unfold fzGet at hb'
          split at hb'
          · rename_i he
            have he := Nat.eq_of_beq_eq_true he
            subst he
            rw [p1] at hp'; cases hp'
          · exact hF b' x hb' g' bs' c' hp'
        obtain ⟨ρ', r1, r2, r3, r4, r5⟩ := Sim.frz r ((b, n, w1, f) :: done) (hset h b none) ρ h3 hh' hF' (hs.kill b) hlen
        exact ⟨ρ', r1, r2, r3, r4, r5⟩
/-- A state told anew: some blocks stand still from now on. -/
theorem Sim.tell {T : Nat → Nat → Prop} {w0 : World} {ρ : Pl} {h h' : LHeap} {w : World} {F : Fzl} {gl : List Nat} (s : Sim T w0 ρ h w) (hf : ∀ i, h.length ≤ i → ρ i = none) (hok : frzOK h [] F) (hap : Lh.apart 1000000 gl = true) (hs : shH (frzAll [] F) (embF gl 1000000) (killF h F) gl h') :
    ∃ ρ', Sim T w0 (newP ρ' gl) h' w ∧ Ext ρ ρ' ∧ ρ'.at_ = ρ.at_ ∧ FzOK ρ' (frzAll [] F) := by
  obtain ⟨ρ', r1, r2, r3, r4, r5⟩ := Sim.frz F [] h ρ hok (fun _ _ => rfl) (FzOK.nil ρ) s rfl
  exact ⟨ρ', r1.sh r4 (fun i hi => by show ρ'.at_ i = none; rw [r3]; exact hf i (by omega)) hap hs, r2, r3, r4⟩
theorem newP_id {ρ : Pl} {gl : List Nat} {L : Nat} (h : idl L 0 gl = true) (i : Nat) (hi : i < L) : newP ρ gl i = ρ i := by
  have h1 := idl_spec L 0 gl h i hi
  rw [Nat.zero_add] at h1
  obtain ⟨e', h2, h3⟩ := embF_lt gl 1000000 i (List.getElem?_eq_some_iff.1 h1).1
  rw [h1] at h2
  cases h2
  rw [newP_at, if_pos (List.getElem?_eq_some_iff.1 h1).1, h3]
theorem idl_len {gl : List Nat} {L : Nat} (h : idl L 0 gl = true) : L ≤ gl.length := by
  rcases Nat.lt_or_ge gl.length L with c | c
  · have := idl_spec L 0 gl h gl.length c
    simp at this
  · exact c
/-- What stands for one state stands for the other. The first L blocks keep their numbers; the others' old ones stand in a list. -/
def Shift (L : Nat) (t : List LVal) (h : LHeap) (t' : List LVal) (h' : LHeap) : Prop := ∃ F, frzOK h [] F ∧ ∃ gl, apart 1000000 gl = true ∧ idl L 0 gl = true ∧ shT (frzAll [] F) (embF gl 1000000) t t' ∧ shH (frzAll [] F) (embF gl 1000000) (killF h F) gl h'
def iter (W : (LExit → List LVal → LHeap → Prop) → List LVal → LHeap → Prop) (Q : LExit → List LVal → LHeap → Prop) (L : Nat) : Nat → List LVal → LHeap → Prop
  | 0, _, _ => False
  | k + 1, t, h => ∃ t' h', ((t' = t ∧ h' = h) ∨ Shift L t h t' h') ∧ W (fun e t h => match e with
    | .normal => iter W Q L k t h
    | e => Q e t h) t' h'
structure Loop (L : Nat) (W : (LExit → List LVal → LHeap → Prop) → List LVal → LHeap → Prop) (Q : LExit → List LVal → LHeap → Prop) (t : List LVal) (h : LHeap) : Prop where
  ex : ∃ k, iter W Q L k t h
/-- A loop of a code, its body told. -/
structure LoopB (P : Program) (L : Nat) (b : LCode) (W : (LExit → List LVal → LHeap → Prop) → List LVal → LHeap → Prop) (Q : LExit → List LVal → LHeap → Prop) (t : List LVal) (h : LHeap) : Prop where
  ex : Loop L W Q t h
noncomputable def lwp (P : Program) (L : Nat) (c : LCode) : (LExit → List LVal → LHeap → Prop) → List LVal → LHeap → Prop :=
  LCode.rec (motive := fun _ => (LExit → List LVal → LHeap → Prop) → List LVal → LHeap → Prop)
    (fun Q t h => Q .normal t h)
    (fun ops Q t h => ropsK P Q ops t h)
    (fun ops Q t h => lenK h 0 fun base => dropsK P base ops t h [] fun t h => Q .normal t h)
    (fun _ _ wa wb Q t h => wa (fun e t h => match e with
      | .normal => wb Q t h
      | e => Q e t h) t h)
    (fun c _ _ wx wy Q t h => opdK t c fun v => match v with
      | .bool b => iteP b (wx Q t h) (wy Q t h)
      | _ => False)
    (fun id _ wb Q t h => wb (fun e t h => match e with
      | .exit i => match Nat.beq i id with
        | true => Q .normal t h
        | false => Q (.exit i) t h
      | e => Q e t h) t h)
    (fun b wb Q t h => LoopB P L b wb Q t h)
    (fun id Q t h => Q (.exit id) t h)
    (fun Q t h => Q .ret t h) c
theorem lwp_draws {P : Program} {L : Nat} {ops : List (Nat × List Nat × LOper)} {Q : LExit → List LVal → LHeap → Prop} {t : List LVal} {h : LHeap} : lwp P L (.draws ops) Q t h = lenK h 0 fun base => dropsK P base ops t h [] fun t h => Q .normal t h := rfl
theorem lwp_region {P : Program} {L : Nat} {ops : List LOper} {Q : LExit → List LVal → LHeap → Prop} {t : List LVal} {h : LHeap} : lwp P L (.region ops) Q t h = ropsK P Q ops t h := rfl
end Go.Proofs.Ytilmfhpoiejmfaa.Lh
